/- What the laws of this claim rest on: the abstract executor, its soundness, and what the functions compute on pure data. No condition. -/
import Derived.Test.YtjnpfbohnpjckaaU1
import Derived.Laws.StructEq
import Derived.Deep.Upon
import Derived.Laws.IdiomStrings
set_option linter.unusedVariables false
set_option linter.unusedSimpArgs false
namespace Go.Abs
open Go.RowKit
def plainV : A → Value
  | .int k n => .int k n
  | .bool b => .bool b
  | .str s => .string ⟨s.toArray⟩
  | _ => undef
theorem plain_of_has {E : Env} {c : CK} {x : A} {v : Value} (h : c.has x = true) (hr : Rep E x v) : v = plainV x := by
  cases c <;> cases x <;> simp_all [CK.has, Rep, plainV]
theorem plainL_of_has {E : Env} : ∀ {ks : List CK} {xs : List A} {vs : List Value}, hasL ks xs = true → RepL E xs vs → vs = xs.map plainV
  | [], [], vs, _, h => by simpa [RepL] using h
  | c :: ks, x :: xs, vs, h, hr => by
    simp only [hasL, Bool.and_eq_true] at h
    simp only [RepL] at hr
    obtain ⟨v, vs', rfl, hx, hl⟩ := hr
    rw [plain_of_has h.1 hx, plainL_of_has h.2 hl]
    rfl
  | [], _ :: _, _, h, _ => by simp [hasL] at h
  | _ :: _, [], _, h, _ => by simp [hasL] at h
theorem hasL_append : ∀ {ks ls : List CK} {xs : List A}, hasL (ks ++ ls) xs = true → hasL ks (xs.take ks.length) = true ∧ hasL ls (xs.drop ks.length) = true
  | [], ls, xs, h => by simpa [hasL] using h
  | c :: ks, ls, [], h => by simp [hasL] at h
  | c :: ks, ls, x :: xs, h => by
    simp only [List.cons_append, hasL, Bool.and_eq_true] at h
    have := hasL_append h.2
    simp only [List.length_cons, List.take_succ_cons, List.drop_succ_cons, hasL, Bool.and_eq_true]
    exact ⟨⟨h.1, this.1⟩, this.2⟩
theorem hasL_length : ∀ {ks : List CK} {xs : List A}, hasL ks xs = true → ks.length = xs.length
  | [], [], _ => rfl
  | c :: ks, x :: xs, h => by
    simp only [hasL, Bool.and_eq_true] at h
    simp [hasL_length h.2]
  | [], _ :: _, h => by simp [hasL] at h
  | _ :: _, [], h => by simp [hasL] at h
theorem eqL_total : ∀ {ks : List CK} {xs ys : List A}, hasL ks xs = true → hasL ks ys = true → ∃ b, eqL xs ys = some b
  | [], [], [], _, _ => ⟨true, rfl⟩
  | c :: ks, x :: xs, y :: ys, h, h' => by
    simp only [hasL, Bool.and_eq_true] at h h'
    obtain ⟨b, hb⟩ := eqL_total h.2 h'.2
    have h1 := h.1
    have h2 := h'.1
    cases c <;> cases x <;> simp [CK.has] at h1 <;> cases y <;> simp [CK.has] at h2
    · subst h1; subst h2; exact ⟨_, by simp only [eqL, eqA, hb, if_true, Option.bind_some, Option.map_some]; rfl⟩
    · exact ⟨_, by simp only [eqL, eqA, hb, Option.bind_some, Option.map_some]; rfl⟩
    · exact ⟨_, by simp only [eqL, eqA, hb, Option.bind_some, Option.map_some]; rfl⟩
  | [], _ :: _, _, h, _ => by simp [hasL] at h
  | [], [], _ :: _, _, h => by simp [hasL] at h
  | _ :: _, [], _, h, _ => by simp [hasL] at h
  | _ :: _, _ :: _, [], _, h => by simp [hasL] at h
theorem eqL_split : ∀ {n : Nat} {xs ys : List A} {b c : Bool}, eqL (xs.take n) (ys.take n) = some b → eqL (xs.drop n) (ys.drop n) = some c → eqL xs ys = some (b && c)
  | 0, xs, ys, b, c, h, h' => by
    simp [eqL] at h
    subst h
    simpa using h'
  | n + 1, [], [], b, c, h, h' => by simp [eqL] at h h'; subst h; subst h'; rfl
  | n + 1, x :: xs, [], b, c, h, h' => by simp [eqL] at h
  | n + 1, [], y :: ys, b, c, h, h' => by simp [eqL] at h
  | n + 1, x :: xs, y :: ys, b, c, h, h' => by
    simp only [List.take_succ_cons, List.drop_succ_cons, eqL] at h h' ⊢
    cases hx : eqA x y with
    | none => simp [hx] at h
    | some r =>
      simp only [hx, Option.bind_some] at h ⊢
      cases he : eqL (xs.take n) (ys.take n) with
      | none => simp [he] at h
      | some s =>
        simp [he] at h
        rw [eqL_split he h']
        simp [← h, Bool.and_assoc]
theorem str_beq (x y : List UInt8) : ((⟨x.toArray⟩ : ByteArray).toList == (⟨y.toArray⟩ : ByteArray).toList) = (x == y) := by
  rw [ByteArray.toList_eq, ByteArray.toList_eq]
section
variable {P : Program} {w : World}
def EqAt (P : Program) (w : World) (t : TypeId) (ks : List CK) (D : Nat) : Prop :=
  ∀ xs ys : List A, hasL ks xs = true → hasL ks ys = true → ∀ b, eqL xs ys = some b →
    (tyAgg P t = some true → (Op.equalIn D t (.agg (xs.map plainV).toArray) (.agg (ys.map plainV).toArray)).run P w = .ok b w) ∧
    (tyAgg P t = some false → ∀ x y, xs = [x] → ys = [y] → (Op.equalIn D t (plainV x) (plainV y)).run P w = .ok b w) ∧ (tyAgg P t ≠ none) ∧ (tyAgg P t = some false → ks.length = 1)
theorem eqFields_go (D : Nat) (rec : TypeId → Option (List CK)) (hrec : ∀ t ks, rec t = some ks → EqAt P w t ks D) (X Y : List A) :
    ∀ (fs : List Field) (off : Nat) (ks : List CK), ckGo rec (tySize P) fs off = some ks → hasL ks (X.drop off) = true → hasL ks (Y.drop off) = true →
      ∀ b, eqL (X.drop off) (Y.drop off) = some b → (Op.eqFields D (X.map plainV).toArray (Y.map plainV).toArray fs).run P w = .ok b w
  | [], off, ks, hg, hx, hy, b, hb => by
    simp [ckGo] at hg
    subst hg
    cases hX : X.drop off with
    | cons _ _ => simp [hX, hasL] at hx
    | nil =>
      cases hY : Y.drop off with
      | cons _ _ => simp [hY, hasL] at hy
      | nil =>
        rw [hX, hY] at hb
        simp [eqL] at hb
        subst hb
        simp [Op.eqFields]
  | f :: fs, off, ks, hg, hx, hy, b, hb => by
    simp only [ckGo] at hg
    split at hg
    · simp at hg
    · rename_i hf
      have hf1 : ¬ f.name = "_" := fun e => hf (.inl e)
      have hf2 : f.offset = off := Decidable.byContradiction fun e => hf (.inr e)
      split at hg
      · rename_i k1 n hk1 hn
        split at hg
        · rename_i hkn
          cases hgo : ckGo rec (tySize P) fs (off + n) with
          | none => simp [hgo] at hg
          | some k2 =>
            simp [hgo] at hg
            subst hg
            obtain ⟨hx1, hx2⟩ := hasL_append hx
            obtain ⟨hy1, hy2⟩ := hasL_append hy
            rw [hkn] at hx1 hx2 hy1 hy2
            obtain ⟨b1, hb1⟩ := eqL_total hx1 hy1
            rw [List.drop_drop] at hx2 hy2
            obtain ⟨b2, hb2⟩ := eqL_total hx2 hy2
            have hbb := eqL_split hb1 (by rw [List.drop_drop, List.drop_drop]; exact hb2)
            rw [hb] at hbb
            simp at hbb
            have hE := hrec _ _ hk1 _ _ hx1 hy1 b1 hb1
            have hrest := eqFields_go D rec hrec X Y fs (off + n) k2 hgo hx2 hy2 b2 hb2
            have hXn : n = 1 → off < X.length := by
              intro h1
              have := hasL_length hx1
              rw [hkn, h1, List.length_take, List.length_drop] at this
              omega
            have hYn : n = 1 → off < Y.length := by
              intro h1
              have := hasL_length hy1
              rw [hkn, h1, List.length_take, List.length_drop] at this
              omega
            have parts : ∀ Z : List A, tyAgg P f.type = some true → (part f.type (Z.map plainV).toArray off).run P w = .ok (.agg (((Z.drop off).take n).map plainV).toArray) w := by
              intro Z hag
              simp only [part, Sem.run_bind, run_isAgg_true hag, Result.andThen_ok, if_true, run_sizeOf hn, Sem.run_pure]
              congr 2
              apply Array.ext'
              simp [List.extract_eq_take_drop, List.map_take, List.map_drop]
            have step : ∀ x y : Value, (part f.type (X.map plainV).toArray off).run P w = .ok x w → (part f.type (Y.map plainV).toArray off).run P w = .ok y w → (Op.equalIn D f.type x y).run P w = .ok b1 w →
                (Op.eqFields D (X.map plainV).toArray (Y.map plainV).toArray (f :: fs)).run P w = .ok b w := by
              intro x y h1 h2 h3
              simp only [Op.eqFields, ne_eq, hf1, not_false_eq_true, if_true, hf2, Sem.run_bind, h1, h2, h3, Result.andThen_ok, Sem.run_ite, Sem.run_pure, hrest, hbb]
              cases b1 <;> simp
            cases hag : tyAgg P f.type with
            | none => exact absurd hag hE.2.2.1
            | some g =>
              cases g with
              | true => exact step _ _ (parts X hag) (parts Y hag) (hE.1 hag)
              | false =>
                have h1 := hE.2.2.2 hag
                rw [hkn] at h1
                have hXn' := hXn h1
                have hYn' := hYn h1
                rw [h1] at hE
                have hX : (X.drop off).take 1 = [X[off]] := by rw [List.drop_eq_getElem_cons hXn']; rfl
                have hY : (Y.drop off).take 1 = [Y[off]] := by rw [List.drop_eq_getElem_cons hYn']; rfl
                have hp : ∀ (Z : List A) (h : off < Z.length), (part f.type (Z.map plainV).toArray off).run P w = .ok (plainV Z[off]) w := by
                  intro Z h
                  simp [part, run_isAgg_false hag, h]
                exact step _ _ (hp X hXn') (hp Y hYn') (hE.2.1 hag _ _ hX hY)
        · simp at hg
      · simp at hg
theorem ckOf_sound : ∀ (d : Nat) (t : TypeId) (ks : List CK), ckOf P d t = some ks → ∀ D, d ≤ D → EqAt P w t ks D
  | 0, _, _, h, _, _ => by simp [ckOf] at h
  | d + 1, t, ks, h, D, hD => by
    obtain ⟨D', rfl⟩ : ∃ D', D = D' + 1 := ⟨D - 1, by omega⟩
    intro xs ys hx hy b hb
    simp only [ckOf] at h
    split at h
    · rename_i hu
      simp at h
      subst h
      have hag : tyAgg P t = some false := by simp [tyAgg, hu]
      refine ⟨fun h => by simp [hag] at h, fun _ x y hxs hys => ?_, by simp [hag], fun _ => rfl⟩
      subst hxs; subst hys
      cases x <;> simp [hasL, CK.has] at hx
      cases y <;> simp [hasL, CK.has] at hy
      simp [eqL, eqA] at hb
      rw [plainV, plainV, run_equalIn_bool' w D' t _ _ hu, hb]
    · rename_i k hu
      simp at h
      subst h
      have hag : tyAgg P t = some false := by simp [tyAgg, hu]
      refine ⟨fun h => by simp [hag] at h, fun _ x y hxs hys => ?_, by simp [hag], fun _ => rfl⟩
      subst hxs; subst hys
      cases x <;> simp [hasL, CK.has] at hx
      cases y <;> simp [hasL, CK.has] at hy
      subst hx; subst hy
      simp [eqL, eqA] at hb
      rw [plainV, plainV, run_equalIn_int w D' t _ _ _ _ hu, hb]
    · rename_i hu
      simp at h
      subst h
      have hag : tyAgg P t = some false := by simp [tyAgg, hu]
      refine ⟨fun h => by simp [hag] at h, fun _ x y hxs hys => ?_, by simp [hag], fun _ => rfl⟩
      subst hxs; subst hys
      cases x <;> simp [hasL, CK.has] at hx
      cases y <;> simp [hasL, CK.has] at hy
      simp [eqL, eqA] at hb
      rw [plainV, plainV, run_equalIn_string w D' t _ _ hu, str_beq, hb]
    · rename_i fs hu
      split at h
      · simp at h
      · rename_i hst
        have hag : tyAgg P t = some true := by simp [tyAgg, hu]
        refine ⟨fun _ => ?_, fun h => by simp [hag] at h, by simp [hag], fun h => by simp [hag] at h⟩
        have hf : P.fieldsOf t = fs := by simp [Program.fieldsOf, hu]
        rw [run_equalIn_agg w D' t _ _ (by rw [hf]; exact hu) (by simpa using hst), hf]
        exact eqFields_go D' (ckOf P d) (fun t ks h => ckOf_sound d t ks h D' (by omega)) xs ys fs.toList 0 ks h (by simpa using hx) (by simpa using hy) b (by simpa using hb)
    · simp at h
theorem run_eqGuard_one {op : BinOp} {t : TypeId} {x y : Operand} {a b : Value} (h1 : a ≠ .nilIface) (h2 : ∀ xs, a ≠ .agg xs) : (eqGuard op t x y a b).run P w = .ok () w := by
  cases op <;> simp only [eqGuard] <;> first
    | rfl
    | (cases a <;> first | rfl | (exact absurd rfl h1) | (exact absurd rfl (h2 _)))
end
section
variable {P : Program} {N0 : Nat → Prop} {w0 : Base} {nt : Nat} {σ : St} {φ : List Own} {a : Act} {w : World}
theorem good_unOp (h : Conc N0 w0 nt σ φ a w) {d : Option Tmp} {op : UnOp} {x : Operand} {s : Nat} {t : TypeId} {p : String} {af : Array Edge} {g : Option (Nat × Bool)} {r : A}
    (hr : unA op (σ.ev x) = some r) : Good P ⟨d, .unOp op s x, t, p, af, g⟩ a w N0 φ r := by
  have hx := h.ev x
  cases hc : σ.ev x <;> simp only [hc, unA] at hr <;> try (simp at hr; done)
  · cases op <;> simp at hr
    subst hr
    rw [hc] at hx
    refine good_same rfl (v := .int _ _) (by rw [rep_int hx]; rfl) ?_
    simp [Rep]
  · cases op <;> simp at hr
    subst hr
    rw [hc] at hx
    refine good_same rfl (v := .bool _) (by rw [rep_bool hx]; rfl) ?_
    simp only [Rep]
theorem run_binI {op : BinOp} {k : IntKind} {m n : Int} {t : TypeId} {r : A} (ho : op ≠ .shl) (ho' : op ≠ .shr) (hr : binI op k m n = some r) : (binOp op t (.int k m) (.int k n)).run P w = .ok (plainV r) w ∧ ∀ E : Env, Rep E r (plainV r) := by
  cases op <;> simp only [binI] at hr
  case shl => exact absurd rfl ho
  case shr => exact absurd rfl ho'
  case quo =>
    split at hr
    · simp at hr
    · rename_i h0
      obtain rfl := Option.some.inj hr
      exact ⟨by simp [binOp, Op.intDiv, h0, plainV], fun E => by simp [Rep, plainV]⟩
  case rem =>
    split at hr
    · simp at hr
    · rename_i h0
      obtain rfl := Option.some.inj hr
      exact ⟨by simp [binOp, Op.intDiv, h0, plainV], fun E => by simp [Rep, plainV]⟩
  all_goals first
    | (simp at hr; done)
    | (obtain rfl := Option.some.inj hr; exact ⟨by simp [binOp, Op.intArith, Op.intCmp, Op.intBits, plainV], fun E => by simp [Rep, plainV]⟩)
    | (obtain rfl := Option.some.inj hr; exact ⟨by simp only [binOp, Op.intBits, plainV]; simp only [ne_eq, not_true_eq_false, if_false, Sem.run_pure], fun E => by simp [Rep, plainV]⟩)
theorem toList_mk (s : List UInt8) : (⟨s.toArray⟩ : ByteArray).toList = s := by rw [ByteArray.toList_eq]
theorem append_mk (s t : List UInt8) : (⟨s.toArray⟩ : ByteArray) ++ ⟨t.toArray⟩ = ⟨(s ++ t).toArray⟩ := by
  apply ByteArray.ext
  simp
theorem run_binS {op : BinOp} {x y : List UInt8} {t : TypeId} {r : A} (hr : binS op x y = some r) : (binOp op t (.string ⟨x.toArray⟩) (.string ⟨y.toArray⟩)).run P w = .ok (plainV r) w ∧ ∀ E : Env, Rep E r (plainV r) := by
  cases op <;> simp only [binS] at hr
  case add =>
    split at hr
    · rename_i hle
      obtain rfl := Option.some.inj hr
      have : ¬ (IntKind.i64.max < ((x.length : Int) + y.length)) := by simp [IntKind.max, IntKind.signed, IntKind.bits]; omega
      exact ⟨by simp only [binOp, Op.stringOp, size_mk, Int.natCast_add, gt_iff_lt, this, if_false, append_mk, plainV, Sem.run_pure], fun E => by simp [Rep, plainV]⟩
    · simp at hr
  all_goals first
    | (simp at hr; done)
    | (obtain rfl := Option.some.inj hr; exact ⟨by simp only [binOp, Op.stringOp, toList_mk, plainV, Sem.run_pure, bne], fun E => by simp [Rep, plainV]⟩)
theorem run_ptr_nn (d : Nat) {t e : TypeId} (hu : P.underlying t = some (.pointer e)) : (Op.equalIn (d + 1) t (.pointer none) (.pointer none)).run P w = .ok true w := by
  simp [Op.equalIn, run_underlying hu]
theorem run_ptr_ns (d : Nat) {t e : TypeId} (hu : P.underlying t = some (.pointer e)) (q : Addr) : (Op.equalIn (d + 1) t (.pointer none) (.pointer (some q))).run P w = .ok false w := by
  simp [Op.equalIn, run_underlying hu]
theorem run_ptr_sn (d : Nat) {t e : TypeId} (hu : P.underlying t = some (.pointer e)) (q : Addr) : (Op.equalIn (d + 1) t (.pointer (some q)) (.pointer none)).run P w = .ok false w := by
  simp [Op.equalIn, run_underlying hu]
theorem run_ptr_eql {t : TypeId} {x y : Option Addr} {b : Bool} (h : (Op.equalIn (9999 + 1) t (.pointer x) (.pointer y)).run P w = .ok b w) : (binOp .eql t (.pointer x) (.pointer y)).run P w = .ok (.bool b) w := by
  have h' : (Op.equal t (.pointer x) (.pointer y)).run P w = .ok b w := h
  have e : binOp .eql t (.pointer x) (.pointer y) = (do pure (.bool (← Op.equal t (.pointer x) (.pointer y)))) := by cases x <;> cases y <;> rfl
  rw [e, Sem.run_bind, h']
  rfl
theorem run_ptr_neq {t : TypeId} {x y : Option Addr} {b : Bool} (h : (Op.equalIn (9999 + 1) t (.pointer x) (.pointer y)).run P w = .ok b w) : (binOp .neq t (.pointer x) (.pointer y)).run P w = .ok (.bool (!b)) w := by
  have h' : (Op.equal t (.pointer x) (.pointer y)).run P w = .ok b w := h
  have e : binOp .neq t (.pointer x) (.pointer y) = (do pure (.bool (!(← Op.equal t (.pointer x) (.pointer y))))) := by cases x <;> cases y <;> rfl
  rw [e, Sem.run_bind, h']
  rfl
theorem ptr_of {E : Env} {x : A} {v : Value} (h : Rep E x v) (hp : x.isPtr = true) : ∃ q, v = .pointer (some q) := by
  cases x <;> simp only [A.isPtr] at hp <;> try (simp at hp; done)
  all_goals simp only [Rep] at h
  · obtain ⟨_, b, off, hv, _⟩ := h; exact ⟨_, hv⟩
  · obtain ⟨b, k, _, hv⟩ := h; exact ⟨_, hv⟩
  · obtain ⟨b, k, _, hv⟩ := h; exact ⟨_, hv⟩
theorem good_binOp (h : Conc N0 w0 nt σ φ a w) {d : Option Tmp} {op : BinOp} {x y : Operand} {s u : Nat} {t : TypeId} {p : String} {af : Array Edge} {g : Option (Nat × Bool)} {r : A}
    (hr : binA (eqTy P s) (tyBool P s) (tyPtr P s) (tyElem P s).isSome op (σ.ev x) (σ.ev y) = some r) : Good P ⟨d, .binOp op s x y u, t, p, af, g⟩ a w N0 φ r := by
  have hx := h.ev x
  have hy := h.ev y
  have fin : ∀ v : Value, (eqGuard op s x y (a.eval x) (a.eval y)).run P w = .ok () w → (binOp op s (a.eval x) (a.eval y)).run P w = .ok v w → Rep (envOf N0 φ w) r v → Good P ⟨d, .binOp op s x y u, t, p, af, g⟩ a w N0 φ r := by
    intro v h1 h2 h3
    exact good_same (s := (do eqGuard op s x y (a.eval x) (a.eval y); binOp op s (a.eval x) (a.eval y))) rfl (by simp [h1, h2]) h3
  have nilc : ∀ (q : Option Addr) (n cap : Nat) (c : Bool), a.eval x = .slice q n cap → a.eval y = .slice none 0 0 → q.isNone = c → nilEq (tyElem P s).isSome op c = some r → Good P ⟨d, .binOp op s x y u, t, p, af, g⟩ a w N0 φ r := by
    intro q n cap c h1 h2 h3 h4
    rw [h1, h2] at fin
    have hg : (eqGuard op s x y (.slice q n cap) (.slice none 0 0)).run P w = .ok () w := run_eqGuard_one (by simp) (by simp)
    unfold nilEq at h4
    split at h4
    · rename_i hs
      obtain ⟨e, he⟩ := Option.isSome_iff_exists.1 hs
      have hu := tyElem_eq he
      have hq : ∀ d : Nat, (Op.equalIn (d + 1) s (.slice q n cap) (.slice none 0 0)).run P w = .ok c w := fun d => by
        subst h3
        cases q <;> simp [Op.equalIn, run_underlying hu]
      split at h4
      · obtain rfl := Option.some.inj h4
        exact fin (.bool c) hg (by simp only [binOp]; simp [Op.equal, Op.maxDepth, hq 9999]) (by simp only [Rep])
      · obtain rfl := Option.some.inj h4
        exact fin (.bool !c) hg (by simp only [binOp]; simp [Op.equal, Op.maxDepth, hq 9999]) (by simp only [Rep])
      · simp at h4
    · simp at h4
  unfold binA at hr
  split at hr
  · rename_i k m k' n hcx hcy
    rw [hcx] at hx; rw [hcy] at hy
    rw [rep_int hx, rep_int hy] at fin
    have hg : (eqGuard op s x y (.int k m) (.int k' n)).run P w = .ok () w := run_eqGuard_one (by simp) (by simp)
    split at hr
    · split at hr
      · simp at hr
      · rename_i h0
        simp at hr; subst hr
        exact fin _ hg (by simp [binOp, Op.shift, h0]; rfl) (by simp only [Rep])
    · split at hr
      · simp at hr
      · rename_i h0
        simp at hr; subst hr
        exact fin _ hg (by simp [binOp, Op.shift, h0]; rfl) (by simp only [Rep])
    · rename_i ho1 ho2
      split at hr
      · rename_i hk
        subst hk
        have hh := run_binI (P := P) (w := w) (t := s) ho1 ho2 hr
        exact fin _ hg hh.1 (hh.2 _)
      · simp at hr
  · rename_i m n hcx hcy
    rw [hcx] at hx; rw [hcy] at hy
    rw [rep_bool hx, rep_bool hy] at fin
    have hg : (eqGuard op s x y (.bool m) (.bool n)).run P w = .ok () w := run_eqGuard_one (by simp) (by simp)
    split at hr
    · rename_i hb
      have hu : P.underlying s = some .bool := by
        unfold tyBool at hb
        split at hb
        · assumption
        · simp at hb
      have he : (Op.equalIn 10000 s (.bool m) (.bool n)).run P w = .ok (m == n) w := run_equalIn_bool' w 9999 s m n hu
      split at hr <;> simp at hr <;> subst hr
      · exact fin (.bool (m == n)) hg (by simp [binOp, Op.equal, Op.maxDepth, he]) (by simp only [Rep])
      · exact fin (.bool (m != n)) hg (by simp [binOp, Op.equal, Op.maxDepth, he, bne]) (by simp only [Rep])
    · simp at hr
  · rename_i m n hcx hcy
    rw [hcx] at hx; rw [hcy] at hy
    rw [rep_str hx, rep_str hy] at fin
    have hh := run_binS (P := P) (w := w) (t := s) hr
    exact fin _ (run_eqGuard_one (by simp) (by simp)) hh.1 (hh.2 _)
  · rename_i xs ys hcx hcy
    rw [hcx] at hx; rw [hcy] at hy
    simp only [Rep] at hx hy
    obtain ⟨vs, hvx, hLx, _⟩ := hx
    obtain ⟨us, hvy, hLy, _⟩ := hy
    split at hr
    · rename_i l hks
      split at hr
      · rename_i hh
        unfold eqTy at hks
        split at hks
        · simp at hks
        · rename_i hgu
          obtain ⟨b, hb⟩ := eqL_total hh.1 hh.2
          have hs := ckOf_sound (P := P) (w := w) 10 s l hks 10000 (by omega) xs ys hh.1 hh.2 b hb
          have e1 := plainL_of_has hh.1 hLx
          have e2 := plainL_of_has hh.2 hLy
          subst e1; subst e2
          rw [hvx, hvy] at fin
          have hg : (eqGuard op s x y (.agg (xs.map plainV).toArray) (.agg (ys.map plainV).toArray)).run P w = .ok () w := run_eqGuard_agg w op s x y _ _ (by have := fun h => hgu (.inl h); simpa using this)
          cases hag : tyAgg P s with
          | none => exact absurd hag hs.2.2.1
          | some bb =>
            cases bb with
            | true =>
              have he := hs.1 hag
              split at hr
              · rw [hb] at hr
                obtain rfl := Option.some.inj hr
                exact fin (.bool b) hg (by rw [run_eql_struct, he]; rfl) (by simp only [Rep])
              · rw [hb] at hr
                obtain rfl := Option.some.inj hr
                exact fin (.bool !b) hg (by rw [run_neq_struct, he]; rfl) (by simp only [Rep])
              · simp at hr
            | false => exact absurd (fun h => hgu (.inr h)) (by simp [hag])
      · simp at hr
    · simp at hr
  · rename_i y' hcx
    rw [hcx] at hx
    simp only [Rep] at hx
    rw [hx] at fin
    have hg : ∀ z, (eqGuard op s x y (.pointer none) z).run P w = .ok () w := fun z => run_eqGuard_one (by simp) (by simp)
    split at hr
    · rename_i hp
      obtain ⟨e, hu⟩ := tyPtr_eq hp
      have hnn := run_ptr_nn (w := w) 9999 hu
      split at hr
      · split at hr
        · rename_i hcy
          obtain rfl := Option.some.inj hr
          rw [hcy] at hy
          simp only [Rep] at hy
          rw [hy] at fin
          exact fin (.bool true) (hg _) (run_ptr_eql hnn) (by simp only [Rep])
        · split at hr
          · rename_i hip
            obtain rfl := Option.some.inj hr
            obtain ⟨q, hq⟩ := ptr_of hy hip
            rw [hq] at fin
            exact fin (.bool false) (hg _) (run_ptr_eql (run_ptr_ns 9999 hu q)) (by simp only [Rep])
          · simp at hr
      · split at hr
        · rename_i hcy
          obtain rfl := Option.some.inj hr
          rw [hcy] at hy
          simp only [Rep] at hy
          rw [hy] at fin
          exact fin (.bool false) (hg _) (run_ptr_neq hnn) (by simp only [Rep])
        · split at hr
          · rename_i hip
            obtain rfl := Option.some.inj hr
            obtain ⟨q, hq⟩ := ptr_of hy hip
            rw [hq] at fin
            exact fin (.bool true) (hg _) (run_ptr_neq (run_ptr_ns 9999 hu q)) (by simp only [Rep])
          · simp at hr
      · simp at hr
    · simp at hr
  · rename_i x' hcy hne
    rw [hcy] at hy
    simp only [Rep] at hy
    rw [hy] at fin
    split at hr
    · rename_i hp
      simp only [Bool.and_eq_true] at hp
      obtain ⟨e, hu⟩ := tyPtr_eq hp.1
      obtain ⟨q, hq⟩ := ptr_of hx hp.2
      rw [hq] at fin
      have hg : (eqGuard op s x y (.pointer (some q)) (.pointer none)).run P w = .ok () w := run_eqGuard_one (by simp) (by simp)
      split at hr
      · obtain rfl := Option.some.inj hr
        exact fin (.bool false) hg (run_ptr_eql (run_ptr_sn 9999 hu q)) (by simp only [Rep])
      · obtain rfl := Option.some.inj hr
        exact fin (.bool true) hg (run_ptr_neq (run_ptr_sn 9999 hu q)) (by simp only [Rep])
      · simp at hr
    · simp at hr
  · rename_i c hcx hcy
    rw [hcx] at hx; rw [hcy] at hy
    simp only [Rep] at hx hy
    obtain ⟨q, cap, hv, hq⟩ := hx
    exact nilc q 0 cap c hv hy hq hr
  · rename_i e es hcx hcy
    rw [hcx] at hx; rw [hcy] at hy
    simp only [Rep] at hx hy
    obtain ⟨_, q, cap, hv, _, hm⟩ := hx
    obtain ⟨b, off, hq, _⟩ := hm (by simp)
    exact nilc q _ cap false hv hy (by rw [hq]; rfl) hr
  · simp at hr
end
end Go.Abs
namespace Go.Abs
open Go.RowKit
theorem Rep.pure_mono {E E' : Env} (hw : E'.w = E.w) (hN : ∀ b, ¬ E.N b → ¬ E'.N b) {x : A} {v : Value} (hx : x.pure = true) (h : Rep E x v) : Rep E' x v := by
  refine Rep.mono (K := fun _ => False) ⟨by rw [hw]; exact Nat.le_refl _, fun b _ hn => ⟨hN b hn, by rw [hw]⟩, fun _ _ hk => hk.elim, fun _ _ _ _ _ _ hk => hk.elim⟩ x v h fun n hn => ?_
  rw [A.mem_of_pure n x hx] at hn
  cases hn
theorem RepE.pure_mono {E E' : Env} (hw : E'.w = E.w) (hN : ∀ b, ¬ E.N b → ¬ E'.N b) {k b off : Nat} {es : List A} (hp : A.pure.pureL es = true) (h : RepE E k b off es) : RepE E' k b off es :=
  RepE_iff.2 fun i e he => by
    obtain ⟨hl, hm⟩ := RepE_iff.1 h i e he
    refine ⟨hl, RepM_iff.2 fun j y hy => ?_⟩
    obtain ⟨v, hv, h1, hr⟩ := RepM_iff.1 hm j y hy
    exact ⟨v, by rw [hw]; exact hv, h1, Rep.pure_mono hw hN (pureL_getElem (pure_cells (pureL_getElem hp he)) hy) hr⟩
theorem RepM.pure_mono {E E' : Env} (hw : E'.w = E.w) (hN : ∀ b, ¬ E.N b → ¬ E'.N b) {b off : Nat} {cs : List A} (hp : A.pure.pureL cs = true) (h : RepM E b off cs) : RepM E' b off cs :=
  RepM_iff.2 fun j y hy => by
    obtain ⟨v, hv, h1, hr⟩ := RepM_iff.1 h j y hy
    exact ⟨v, by rw [hw]; exact hv, h1, Rep.pure_mono hw hN (pureL_getElem hp hy) hr⟩
theorem RepL.pure_mono {E E' : Env} (hw : E'.w = E.w) (hN : ∀ b, ¬ E.N b → ¬ E'.N b) {cs : List A} {vs : List Value} (hp : A.pure.pureL cs = true) (h : RepL E cs vs) : RepL E' cs vs := by
  obtain ⟨h1, h2⟩ := RepL_iff.1 h
  exact RepL_iff.2 ⟨h1, fun i x v hx hv => Rep.pure_mono hw hN (pureL_getElem hp hx) (h2 i x v hx hv)⟩
theorem stride_of {E : Env} {k b off : Nat} {es : List A} (h : RepE E k b off es) (hne : es ≠ []) : strideOf es = k := by
  cases es with
  | nil => exact absurd rfl hne
  | cons e es => exact (RepE_cons.1 h).1.1
structure Sees (N0 : Nat → Prop) (φ : List Own) (w : World) (x : A) (N' : Nat → Prop) : Prop where
  le : ∀ b, N' b → (envOf N0 φ w).N b
  own : x.pure = true ∨ ∀ (n b k : Nat), φ[n]? = some (Own.loc b k) → ¬ N' b
section
variable {P : Program} {N0 : Nat → Prop} {w0 : Base} {nt : Nat} {σ : St} {φ : List Own} {a : Act} {w : World}
theorem viewRow_sound (h : Conc N0 w0 nt σ φ a w) {n off k len : Nat} {c : Bool} {y : A} {v : Value} (hv : viewRow σ.H n off k len = some y) (hr : Rep (envOf N0 φ w) (.row n off k len c) v)
    {N' : Nat → Prop} (hle : ∀ b, N' b → (envOf N0 φ w).N b) (hown : ∀ (n b k : Nat), φ[n]? = some (Own.loc b k) → ¬ N' b) : Rep ⟨N', [], w⟩ y v ∧ y.pure = true := by
  unfold viewRow at hv
  split at hv
  · rename_i k' es ho
    split at hv
    · rename_i hc
      obtain ⟨rfl, hlen⟩ := hc
      obtain rfl := Option.some.inj hv
      refine ⟨?_, by simp [A.pure]⟩
      have hl : ((es.drop off).take len).length = len := by simp; omega
      simp only [Rep] at hr ⊢
      rcases hr with ⟨o, hφ, hf, rfl, _, q, hv⟩ | ⟨b, cap, c', e', fr, hφ, hv, hlc, _, hb, _⟩
      · refine ⟨by simp [A.pure.pureL], q, 0, by simpa using hv, by simp, fun hne => absurd (by simp) hne⟩
      · have hob := h.objs n _ _ ho hφ
        simp only [ObjRel] at hob
        obtain ⟨_, hp, _, hE⟩ := hob
        have hE' := RepE_take (n := len) (RepE_drop (n := off) hE)
        have hp' := pureL_take (n := len) (pureL_drop (n := off) hp)
        refine ⟨hp', _, cap, by rw [hl]; exact hv, by rw [hl]; exact hlc, fun hne => ⟨b, off * k', rfl, (h.own n b k' hφ).2, hown n b k' hφ, ?_⟩⟩
        have := RepE.pure_mono (E := envOf N0 φ w) (E' := ⟨N', [], w⟩) rfl (fun b hn hb => hn (hle b hb)) hp' hE'
        rw [stride_of this hne]
        simpa using this
    · simp at hv
  · simp at hv
theorem view0_sound (h : Conc N0 w0 nt σ φ a w) {x y : A} {v : Value} (hv : view0 σ.H x = some y) (hr : Rep (envOf N0 φ w) x v)
    {N' : Nat → Prop} (hs : Sees N0 φ w x N') : Rep ⟨N', [], w⟩ y v ∧ y.pure = true := by
  have hN : ∀ b, ¬ (envOf N0 φ w).N b → ¬ N' b := fun b hn hb => hn (hs.le b hb)
  cases x <;> simp only [view0] at hv <;> try (simp at hv; done)
  case row n off k len c =>
    refine viewRow_sound h hv hr hs.le ?_
    rcases hs.own with hp | ho
    · simp [A.pure] at hp
    · exact ho
  case nils =>
    obtain rfl := Option.some.inj hv
    simp only [Rep] at hr
    exact ⟨by simp only [Rep]; exact ⟨rfl, none, 0, by simpa using hr, Nat.le_refl _, fun hne => absurd rfl hne⟩, by simp [A.pure]⟩
  case emp c =>
    obtain rfl := Option.some.inj hv
    simp only [Rep] at hr
    obtain ⟨q, cap, hq, _⟩ := hr
    exact ⟨by simp only [Rep]; exact ⟨rfl, q, cap, by simpa using hq, Nat.zero_le _, fun hne => absurd rfl hne⟩, by simp [A.pure]⟩
  case clip es =>
    obtain rfl := Option.some.inj hv
    have hr' := Rep.pure_mono (E := envOf N0 φ w) (E' := ⟨N', [], w⟩) rfl hN (by simp [A.pure]) hr
    simp only [Rep] at hr'
    obtain ⟨hp, q, hq, hm⟩ := hr'
    exact ⟨by simp only [Rep]; exact ⟨hp, q, _, hq, Nat.le_refl _, hm⟩, by simp [A.pure]⟩
  all_goals
    obtain rfl := Option.some.inj hv
    exact ⟨Rep.pure_mono (E := envOf N0 φ w) (E' := ⟨N', [], w⟩) rfl hN (by simp [A.pure]) hr, by simp [A.pure]⟩
theorem view0L_get {H : List Obj} : ∀ {xs ys : List A}, view0L H xs = some ys → xs.length = ys.length ∧ ∀ (i : Nat) (x y : A), xs[i]? = some x → ys[i]? = some y → view0 H x = some y
  | [], ys, h => by simp [view0L] at h; subst h; exact ⟨rfl, fun i x y hx => by simp at hx⟩
  | x :: xs, ys, h => by
    simp only [view0L] at h
    cases hx : view0 H x with
    | none => simp [hx] at h
    | some y =>
      simp only [hx, Option.bind_some] at h
      cases hl : view0L H xs with
      | none => simp [hl] at h
      | some ys' =>
        simp [hl] at h
        subst h
        obtain ⟨h1, h2⟩ := view0L_get hl
        refine ⟨by simp [h1], fun i x' y' hx' hy' => ?_⟩
        cases i with
        | zero => simp at hx' hy'; subst hx'; subst hy'; exact hx
        | succ i => exact h2 i x' y' (by simpa using hx') (by simpa using hy')
theorem view1L_get {H : List Obj} : ∀ {xs ys : List A}, view1L H xs = some ys → xs.length = ys.length ∧ ∀ (i : Nat) (x y : A), xs[i]? = some x → ys[i]? = some y → view1 H x = some y
  | [], ys, h => by simp [view1L] at h; subst h; exact ⟨rfl, fun i x y hx => by simp at hx⟩
  | x :: xs, ys, h => by
    simp only [view1L] at h
    cases hx : view1 H x with
    | none => simp [hx] at h
    | some y =>
      simp only [hx, Option.bind_some] at h
      cases hl : view1L H xs with
      | none => simp [hl] at h
      | some ys' =>
        simp [hl] at h
        subst h
        obtain ⟨h1, h2⟩ := view1L_get hl
        refine ⟨by simp [h1], fun i x' y' hx' hy' => ?_⟩
        cases i with
        | zero => simp at hx' hy'; subst hx'; subst hy'; exact hx
        | succ i => exact h2 i x' y' (by simpa using hx') (by simpa using hy')
theorem viewL_get {H : List Obj} : ∀ {xs ys : List A}, viewL H xs = some ys → xs.length = ys.length ∧ ∀ (i : Nat) (x y : A), xs[i]? = some x → ys[i]? = some y → view H x = some y
  | [], ys, h => by simp [viewL] at h; subst h; exact ⟨rfl, fun i x y hx => by simp at hx⟩
  | x :: xs, ys, h => by
    simp only [viewL] at h
    cases hx : view H x with
    | none => simp [hx] at h
    | some y =>
      simp only [hx, Option.bind_some] at h
      cases hl : viewL H xs with
      | none => simp [hl] at h
      | some ys' =>
        simp [hl] at h
        subst h
        obtain ⟨h1, h2⟩ := viewL_get hl
        refine ⟨by simp [h1], fun i x' y' hx' hy' => ?_⟩
        cases i with
        | zero => simp at hx' hy'; subst hx'; subst hy'; exact hx
        | succ i => exact h2 i x' y' (by simpa using hx') (by simpa using hy')
theorem sees_part {N' : Nat → Prop} {x : A} {cs : List A} (hs : Sees N0 φ w x N') (hx : x.pure = true → A.pure.pureL cs = true) {i : Nat} {c : A} (hc : cs[i]? = some c) : Sees N0 φ w c N' :=
  ⟨hs.le, hs.own.imp (fun hp => pureL_getElem (hx hp) hc) id⟩
theorem view1_sound (h : Conc N0 w0 nt σ φ a w) {x y : A} {v : Value} (hv : view1 σ.H x = some y) (hr : Rep (envOf N0 φ w) x v)
    {N' : Nat → Prop} (hs : Sees N0 φ w x N') : Rep ⟨N', [], w⟩ y v ∧ y.pure = true := by
  have hN : ∀ b, ¬ (envOf N0 φ w).N b → ¬ N' b := fun b hn hb => hn (hs.le b hb)
  cases x
  case ref n off =>
    have hown : ∀ (n b k : Nat), φ[n]? = some (Own.loc b k) → ¬ N' b := by
      rcases hs.own with hp | ho
      · simp [A.pure] at hp
      · exact ho
    simp only [view1] at hv
    split at hv
    · rename_i cs ho
      cases hl : view0L σ.H (cs.drop off) with
      | none => simp [hl] at hv
      | some ys =>
        simp [hl] at hv
        subst hv
        simp only [Rep] at hr
        obtain ⟨b, k, hφ, hv⟩ := hr
        have hob := h.objs n _ _ ho hφ
        simp only [ObjRel] at hob
        have hm := RepM_drop (n := off) hob.2
        rw [Nat.zero_add] at hm
        obtain ⟨h1, h2⟩ := view0L_get hl
        have key : ∀ (i : Nat) (c : A), ys[i]? = some c → (∃ u, w.cell? ⟨b, off + i, none⟩ = some u ∧ u.oneCell' = true ∧ Rep ⟨N', [], w⟩ c u) ∧ c.pure = true := by
          intro i c hc
          have hi : i < (cs.drop off).length := by rw [h1]; exact (List.getElem?_eq_some_iff.1 hc).1
          obtain ⟨u, hu, hone, hrep⟩ := RepM_iff.1 hm i _ (List.getElem?_eq_getElem hi)
          have := view0_sound h (h2 i _ c (List.getElem?_eq_getElem hi) hc) hrep (N' := N') ⟨hs.le, .inr hown⟩
          exact ⟨⟨u, hu, hone, this.1⟩, this.2⟩
        refine ⟨?_, by simp [A.pure]⟩
        simp only [Rep]
        exact ⟨pureL_of fun i c hc => (key i c hc).2, b, off, hv, (h.own n b k hφ).2, hown n b k hφ, RepM_iff.2 fun i c hc => (key i c hc).1⟩
    · simp at hv
  case eref n i off =>
    have hown : ∀ (n b k : Nat), φ[n]? = some (Own.loc b k) → ¬ N' b := by
      rcases hs.own with hp | ho
      · simp [A.pure] at hp
      · exact ho
    simp only [view1] at hv
    split at hv
    · rename_i k' es ho
      cases hi : es[i]? with
      | none => simp [hi] at hv
      | some e =>
        simp [hi] at hv
        subst hv
        simp only [Rep] at hr
        obtain ⟨b, k, hφ, hv⟩ := hr
        have hob := h.objs n _ _ ho hφ
        simp only [ObjRel] at hob
        obtain ⟨rfl, hp, _, hE⟩ := hob
        obtain ⟨_, hm⟩ := RepE_iff.1 hE i e hi
        have hm' := RepM_drop (n := off) hm
        rw [Nat.zero_add] at hm'
        have hpe := pureL_drop (n := off) (pure_cells (pureL_getElem hp hi))
        refine ⟨?_, by simp [A.pure]⟩
        simp only [Rep]
        exact ⟨hpe, b, i * k' + off, hv, (h.own n b k' hφ).2, hown n b k' hφ, RepM.pure_mono (E := envOf N0 φ w) (E' := ⟨N', [], w⟩) rfl hN hpe hm'⟩
    · simp at hv
  case agg cs =>
    simp only [view1] at hv
    cases hl : view0L σ.H cs with
    | none => simp [hl] at hv
    | some ys =>
      simp [hl] at hv
      subst hv
      simp only [Rep] at hr ⊢
      obtain ⟨vs, hv, hL, hone⟩ := hr
      obtain ⟨h1, h2⟩ := view0L_get hl
      obtain ⟨g1, g2⟩ := RepL_iff.1 hL
      have key : ∀ (i : Nat) (c : A) (u : Value), ys[i]? = some c → vs[i]? = some u → Rep ⟨N', [], w⟩ c u ∧ c.pure = true := by
        intro i c u hc hu
        have hi : i < cs.length := by rw [h1]; exact (List.getElem?_eq_some_iff.1 hc).1
        exact view0_sound h (h2 i _ c (List.getElem?_eq_getElem hi) hc) (g2 i _ u (List.getElem?_eq_getElem hi) hu) (sees_part hs (fun hp => by simpa only [A.pure] using hp) (List.getElem?_eq_getElem hi))
      refine ⟨⟨vs, hv, RepL_iff.2 ⟨by rw [← h1, g1], fun i c u hc hu => (key i c u hc hu).1⟩, hone⟩, ?_⟩
      simp only [A.pure]
      refine pureL_of fun i c hc => ?_
      have hi : i < vs.length := by rw [← g1, h1]; exact (List.getElem?_eq_some_iff.1 hc).1
      exact (key i c _ hc (List.getElem?_eq_getElem hi)).2
  all_goals
    simp only [view1] at hv
    exact view0_sound h hv hr hs
theorem view_sound (h : Conc N0 w0 nt σ φ a w) {x y : A} {v : Value} (hv : view σ.H x = some y) (hr : Rep (envOf N0 φ w) x v)
    {N' : Nat → Prop} (hs : Sees N0 φ w x N') : Rep ⟨N', [], w⟩ y v ∧ y.pure = true := by
  cases x
  case fn f cs =>
    simp only [view] at hv
    cases hl : view1L σ.H cs with
    | none => simp [hl] at hv
    | some ys =>
      simp [hl] at hv
      subst hv
      simp only [Rep] at hr ⊢
      obtain ⟨vs, hv, hL⟩ := hr
      obtain ⟨h1, h2⟩ := view1L_get hl
      obtain ⟨g1, g2⟩ := RepL_iff.1 hL
      have key : ∀ (i : Nat) (c : A) (u : Value), ys[i]? = some c → vs[i]? = some u → Rep ⟨N', [], w⟩ c u ∧ c.pure = true := by
        intro i c u hc hu
        have hi : i < cs.length := by rw [h1]; exact (List.getElem?_eq_some_iff.1 hc).1
        exact view1_sound h (h2 i _ c (List.getElem?_eq_getElem hi) hc) (g2 i _ u (List.getElem?_eq_getElem hi) hu) (sees_part hs (fun hp => by simpa only [A.pure] using hp) (List.getElem?_eq_getElem hi))
      refine ⟨⟨vs, hv, RepL_iff.2 ⟨by rw [← h1, g1], fun i c u hc hu => (key i c u hc hu).1⟩⟩, ?_⟩
      simp only [A.pure]
      refine pureL_of fun i c hc => ?_
      have hi : i < vs.length := by rw [← g1, h1]; exact (List.getElem?_eq_some_iff.1 hc).1
      exact (key i c _ hc (List.getElem?_eq_getElem hi)).2
  all_goals
    simp only [view] at hv
    exact view1_sound h hv hr hs
theorem viewL_sound (h : Conc N0 w0 nt σ φ a w) {xs ys : List A} {vs : List Value} (hv : viewL σ.H xs = some ys) (hr : RepL (envOf N0 φ w) xs vs)
    {N' : Nat → Prop} (hle : ∀ b, N' b → (envOf N0 φ w).N b) (hown : A.pure.pureL xs = true ∨ ∀ (n b k : Nat), φ[n]? = some (Own.loc b k) → ¬ N' b) : RepL ⟨N', [], w⟩ ys vs ∧ A.pure.pureL ys = true := by
  obtain ⟨h1, h2⟩ := viewL_get hv
  obtain ⟨g1, g2⟩ := RepL_iff.1 hr
  have key : ∀ (i : Nat) (c : A) (u : Value), ys[i]? = some c → vs[i]? = some u → Rep ⟨N', [], w⟩ c u ∧ c.pure = true := by
    intro i c u hc hu
    have hi : i < xs.length := by rw [h1]; exact (List.getElem?_eq_some_iff.1 hc).1
    exact view_sound h (h2 i _ c (List.getElem?_eq_getElem hi) hc) (g2 i _ u (List.getElem?_eq_getElem hi) hu) ⟨hle, hown.imp (fun hp => pureL_getElem hp (List.getElem?_eq_getElem hi)) id⟩
  refine ⟨RepL_iff.2 ⟨by rw [← h1, g1], fun i c u hc hu => (key i c u hc hu).1⟩, pureL_of fun i c hc => ?_⟩
  have hi : i < vs.length := by rw [← g1, h1]; exact (List.getElem?_eq_some_iff.1 hc).1
  exact (key i c _ hc (List.getElem?_eq_getElem hi)).2
theorem own_not_n0 (h : Conc N0 w0 nt σ φ a w) : ∀ (n b k : Nat), φ[n]? = some (Own.loc b k) → ¬ N0 b :=
  fun n b k hb hn => (h.own n b k hb).1.elim (fun h1 => Nat.lt_irrefl _ (Nat.lt_of_lt_of_le (h.n0 b hn).1 h1)) (h.n0 b hn).2
end
end Go.Abs
namespace Go.Abs
open Go.RowKit
section
variable {P : Program} {N0 : Nat → Prop} {w0 : Base} {nt : Nat} {σ : St} {φ : List Own} {a : Act} {w : World}
theorem agg_isSome {t : TypeId} (h : (tyAgg P t).isSome = true) : ∃ d, P.underlying t = some d := by
  cases hu : P.underlying t with
  | some d => exact ⟨d, rfl⟩
  | none => simp [tyAgg, hu] at h
theorem bytes_vals {E : Env} {b : Nat} : ∀ {es : List A} {s : List UInt8} {off : Nat}, bytesOfA es = some s → RepE E 1 b off es → ∃ ns : List Int, E.w.rangeAt b off (ns.map (Value.int .u8)) ∧ ns.length = es.length ∧ ns.map (fun n => UInt8.ofNat n.toNat) = s
  | [], s, off, h, _ => by simp [bytesOfA] at h; subst h; exact ⟨[], fun j v hv => by simp at hv, rfl, rfl⟩
  | x :: xs, s, off, h, hE => by
    simp only [bytesOfA] at h
    cases hx : byteOfA x with
    | none => simp [hx] at h
    | some c =>
      simp only [hx, Option.bind_some] at h
      cases hl : bytesOfA xs with
      | none => simp [hl] at h
      | some s' =>
        simp [hl] at h
        subst h
        obtain ⟨⟨h1, hm⟩, hE'⟩ := RepE_cons.1 hE
        obtain ⟨ns, hr, hlen, hns⟩ := bytes_vals hl hE'
        unfold byteOfA at hx
        split at hx
        · rename_i n
          simp at hx
          subst hx
          simp only [A.cells] at hm
          obtain ⟨v, hv, _, hrep⟩ := RepM_one.1 hm
          rw [rep_int hrep] at hv
          refine ⟨n :: ns, fun j u hu => ?_, by simp [hlen], by simp [hns]⟩
          cases j with
          | zero => simp at hu; subst hu; simpa using hv
          | succ j =>
            have := hr j u (by simpa using hu)
            rwa [show off + 1 + j = off + (j + 1) by omega] at this
        · simp at hx
theorem foldl_bytes : ∀ (ns : List Int) (l : List UInt8), ns.foldl (fun (r : ByteArray) n => r.push (UInt8.ofNat n.toNat)) ⟨l.toArray⟩ = ⟨(l ++ ns.map fun n => UInt8.ofNat n.toNat).toArray⟩
  | [], l => by simp
  | n :: ns, l => by
    have e : (⟨l.toArray⟩ : ByteArray).push (UInt8.ofNat n.toNat) = ⟨(l ++ [UInt8.ofNat n.toNat]).toArray⟩ := by
      apply ByteArray.ext
      simp [ByteArray.push]
    rw [List.foldl_cons, e, foldl_bytes ns]
    simp
theorem good_convert (h : Conc N0 w0 nt σ φ a w) {d : Option Tmp} {src dst : Nat} {x : Operand} {t : TypeId} {p : String} {af : Array Edge} {g : Option (Nat × Bool)} {r : A}
    (hr : convA P src dst σ.H (σ.ev x) = some r) : Good P ⟨d, .convert src dst x, t, p, af, g⟩ a w N0 φ r := by
  have hx := h.ev x
  have b2s : ∀ v, σ.ev x = v → convB (isB2S P src dst) (view σ.H v) = some r → (∃ q l c, a.eval x = .slice q l c) → Good P ⟨d, .convert src dst x, t, p, af, g⟩ a w N0 φ r := by
    intro v hv hr hsl
    subst hv
    unfold convB at hr
    split at hr
    · rename_i hb
      split at hr
      · rename_i es hes
        cases hby : bytesOfA es with
        | none => simp [hby] at hr
        | some s =>
          simp [hby] at hr
          subst hr
          have hvw := (view_sound h hes hx (N' := N0) ⟨fun b hb => .inl hb, .inr (own_not_n0 h)⟩).1
          simp only [Rep] at hvw
          obtain ⟨_, q, cap, hval, _, hm⟩ := hvw
          unfold isB2S at hb
          simp only [Bool.and_eq_true] at hb
          obtain ⟨hb1, hb2⟩ := hb
          cases he : tyElem P src with
          | none => simp [he] at hb1
          | some e =>
            simp [he] at hb1
            have hu := tyElem_eq he
            have hue := tyInt_eq hb1
            have hud := tyStr_eq hb2
            have hconv : (convert src dst (a.eval x)).run P w = (Conv.bytesToString (a.eval x)).run P w := by
              rw [hval]
              simp [convert, run_underlying hu, run_underlying hue, run_underlying hud]
            refine good_same rfl (v := .string ⟨s.toArray⟩) ?_ (by simp only [Rep])
            rw [hconv, hval]
            by_cases hne : es = []
            · subst hne
              simp [bytesOfA] at hby
              subst hby
              cases q with
              | none => simp [Conv.bytesToString]; rfl
              | some q =>
                have := run_bytesToString (P := P) w q 0 cap [] (by simpa using run_loadCells_list (P := P) w q [] (by simp))
                simp only [List.foldl_nil] at this
                exact this
            · obtain ⟨b, off, rfl, hb, hnb, hE⟩ := hm hne
              have hst : strideOf es = 1 := by
                cases es with
                | nil => exact absurd rfl hne
                | cons e es =>
                  simp only [bytesOfA] at hby
                  cases e <;> simp_all [byteOfA, strideOf, A.cells]
              rw [hst] at hE
              obtain ⟨ns, hr, hlen, hns⟩ := bytes_vals hby hE
              have hl : (loadCells ⟨b, off, none⟩ es.length).run P w = .ok (ns.map (Value.int .u8)).toArray w := by
                have := run_loadCells_list (P := P) w ⟨b, off, none⟩ (ns.map (Value.int .u8)) (fun j v hv => by rw [Addr.add_mid]; exact hr j v hv)
                rwa [List.length_map, hlen] at this
              rw [run_bytesToString w _ _ _ ns hl]
              have := foldl_bytes ns []
              rw [show (ByteArray.empty : ByteArray) = ⟨([] : List UInt8).toArray⟩ from rfl, this, List.nil_append, hns]
      · simp at hr
    · simp at hr
  cases hc : σ.ev x <;> simp only [hc, convA] at hr
  case int k n =>
    split at hr
    · rename_i k' hk
      split at hr
      · rename_i hag
        obtain rfl := Option.some.inj hr
        rw [hc] at hx
        obtain ⟨ds, hds⟩ := agg_isSome hag
        refine good_same rfl (v := .int k' (k'.wrap n)) ?_ (by simp only [Rep])
        rw [rep_int hx]
        simp [convert, run_underlying hds, run_underlying (tyInt_eq hk), Conv.intToInt]
      · simp at hr
    · simp at hr
  case str s =>
    split at hr
    · rename_i hb
      simp only [Bool.and_eq_true] at hb
      obtain rfl := Option.some.inj hr
      rw [hc] at hx
      refine good_same rfl (v := a.eval x) ?_ hx
      rw [rep_str hx]
      simp [convert, run_underlying (tyStr_eq hb.1), run_underlying (tyStr_eq hb.2)]
    · simp at hr
  case slc es =>
    rw [hc] at hx
    simp only [Rep] at hx
    obtain ⟨_, q, cap, hv, _⟩ := hx
    exact b2s _ hc hr ⟨_, _, _, hv⟩
  case clip es =>
    rw [hc] at hx
    simp only [Rep] at hx
    obtain ⟨_, q, hv, _⟩ := hx
    exact b2s _ hc hr ⟨_, _, _, hv⟩
  case nils =>
    rw [hc] at hx
    simp only [Rep] at hx
    exact b2s _ hc hr ⟨_, _, _, hx⟩
  case row n off k len c =>
    rw [hc] at hx
    simp only [Rep] at hx
    rcases hx with ⟨_, _, _, _, _, q, hv⟩ | ⟨b, cap, _, _, _, _, hv, _⟩
    · exact b2s _ hc hr ⟨_, _, _, hv⟩
    · exact b2s _ hc hr ⟨_, _, _, hv⟩
  all_goals simp at hr
theorem good_field (h : Conc N0 w0 nt σ φ a w) {d : Option Tmp} {s f : Nat} {x : Operand} {t : TypeId} {p : String} {af : Array Edge} {g : Option (Nat × Bool)} {r : A}
    (hr : fieldA P (fieldInfo P s f) (σ.ev x) = some r) : Good P ⟨d, .field s x f, t, p, af, g⟩ a w N0 φ r := by
  unfold fieldA at hr
  split at hr
  · rename_i o ft cs hf hc
    have hx := h.ev x
    rw [hc] at hx
    simp only [Rep] at hx
    obtain ⟨vs, hv, hL, hone⟩ := hx
    obtain ⟨fs, fx, n, hu, hfx, rfl, rfl, hn, hn0⟩ := fieldInfo_eq hf
    have hfield : (Instr.field s (a.eval x) f).run P w = (part fx.type vs.toArray fx.offset).run P w := by
      rw [hv]
      simp [Instr.field, run_underlying hu, hfx, asAgg]
    unfold loadC at hr
    split at hr
    · rename_i hag
      rw [hn] at hr
      simp only at hr
      split at hr
      · rename_i hle
        obtain rfl := Option.some.inj hr
        refine good_same rfl (v := .agg ((vs.drop fx.offset).take n).toArray) ?_ ?_
        · rw [hfield]
          simp only [part, Sem.run_bind, run_isAgg_true hag, Result.andThen_ok, if_true, run_sizeOf hn, Sem.run_pure]
          congr 2
          apply Array.ext'
          simp [List.extract_eq_take_drop]
        · simp only [Rep]
          exact ⟨_, rfl, RepL_take (RepL_drop hL), fun u hu => hone u (List.mem_of_mem_drop (List.mem_of_mem_take hu))⟩
      · simp at hr
    · rename_i hag
      cases hd : cs.drop fx.offset with
      | nil => simp [hd] at hr
      | cons y ys =>
        simp [hd] at hr
        subst hr
        obtain ⟨g1, g2⟩ := RepL_iff.1 hL
        have hlt : fx.offset < cs.length := by
          rcases Nat.lt_or_ge fx.offset cs.length with h | h
          · exact h
          · rw [List.drop_eq_nil_of_le h] at hd; cases hd
        have hy : cs[fx.offset]? = some y := by
          have e := (List.drop_eq_getElem_cons hlt).symm.trans hd
          injection e with e1 e2
          rw [List.getElem?_eq_getElem hlt, e1]
        have hlt' : fx.offset < vs.length := by omega
        refine good_same rfl (v := vs[fx.offset]) ?_ (g2 _ _ _ hy (List.getElem?_eq_getElem hlt'))
        rw [hfield]
        simp [part, run_isAgg_false hag, hlt']
    · simp at hr
  · simp at hr
theorem good_index (h : Conc N0 w0 nt σ φ a w) {d : Option Tmp} {s : Nat} {x y : Operand} {t : TypeId} {p : String} {af : Array Edge} {g : Option (Nat × Bool)} {r : A}
    (hr : indexA P s (σ.ev x) (σ.ev y) = some r) : Good P ⟨d, .index s x y, t, p, af, g⟩ a w N0 φ r := by
  have hx := h.ev x
  have hy := h.ev y
  unfold indexA at hr
  split at hr
  · rename_i k i str hcy hcx
    rw [hcx] at hx; rw [hcy] at hy
    split at hr
    · rename_i hc
      cases hi : str[i.toNat]? with
      | none => simp [hi] at hr
      | some c =>
        simp [hi] at hr
        subst hr
        have hlt : i.toNat < str.length := (List.getElem?_eq_some_iff.1 hi).1
        have hcc : str[i.toNat] = c := by rw [List.getElem?_eq_getElem hlt] at hi; simpa using hi
        refine good_same rfl (v := .int .u8 c.toNat) ?_ (by simp only [encU8, Rep])
        rw [rep_str hx, rep_int hy, run_index_string w s _ k i (tyStr_eq hc.1), dif_pos ⟨hc.2, by rw [size_mk]; omega⟩]
        congr 2
        rw [← hcc]
        rfl
    · simp at hr
  · rename_i k i cs hcy hcx
    rw [hcx] at hx; rw [hcy] at hy
    simp only [Rep] at hx
    obtain ⟨vs, hv, hL, hone⟩ := hx
    split at hr
    · rename_i n e hn
      split at hr
      · rename_i kk hk
        split at hr
        · rename_i hc
          have hidx : (Instr.index s (a.eval x) (a.eval y)).run P w = (part e vs.toArray (i.toNat * kk)).run P w := by
            rw [hv, rep_int hy]
            simp [Instr.index, asIntOf, run_underlying (tyArr_eq hn), hc, run_sizeOf hk]
          generalize hoff : i.toNat * kk = o at hr hidx
          unfold loadC at hr
          split at hr
          · rename_i hag
            rw [hk] at hr
            simp only at hr
            split at hr
            · rename_i hle
              obtain rfl := Option.some.inj hr
              refine good_same rfl (v := .agg ((vs.drop o).take kk).toArray) ?_ ?_
              · rw [hidx]
                simp only [part, Sem.run_bind, run_isAgg_true hag, Result.andThen_ok, if_true, run_sizeOf hk, Sem.run_pure]
                congr 2
                apply Array.ext'
                simp [List.extract_eq_take_drop]
              · simp only [Rep]
                exact ⟨_, rfl, RepL_take (RepL_drop hL), fun u hu => hone u (List.mem_of_mem_drop (List.mem_of_mem_take hu))⟩
            · simp at hr
          · rename_i hag
            cases hd : cs.drop o with
            | nil => simp [hd] at hr
            | cons z zs =>
              simp [hd] at hr
              subst hr
              obtain ⟨g1, g2⟩ := RepL_iff.1 hL
              have hlt : o < cs.length := by
                rcases Nat.lt_or_ge o cs.length with h | h
                · exact h
                · rw [List.drop_eq_nil_of_le h] at hd; cases hd
              have hz : cs[o]? = some z := by
                have e := (List.drop_eq_getElem_cons hlt).symm.trans hd
                injection e with e1 e2
                rw [List.getElem?_eq_getElem hlt, e1]
              have hlt' : o < vs.length := by omega
              refine good_same rfl (v := vs[o]) ?_ (g2 _ _ _ hz (List.getElem?_eq_getElem hlt'))
              rw [hidx]
              simp [part, run_isAgg_false hag, hlt']
          · simp at hr
        · simp at hr
      · simp at hr
    · simp at hr
  · simp at hr
theorem good_indexAddr (h : Conc N0 w0 nt σ φ a w) {d : Option Tmp} {s : Nat} {x y : Operand} {t : TypeId} {p : String} {af : Array Edge} {g : Option (Nat × Bool)} {r : A}
    (hr : indexAddrA P s (σ.ev x) (σ.ev y) = some r) : Good P ⟨d, .indexAddr s x y, t, p, af, g⟩ a w N0 φ r := by
  have hx := h.ev x
  have hy := h.ev y
  unfold indexAddrA at hr
  split at hr
  · rename_i kd i hcy
    rw [hcy] at hy
    split at hr
    · rename_i e he
      split at hr
      · rename_i k hk
        have run : ∀ b off len cap, a.eval x = .slice (some ⟨b, off, none⟩) len cap → 0 ≤ i → i < len → (Instr.indexAt s (a.eval x) (a.eval y)).run P w = .ok (.pointer (some ⟨b, off + i.toNat * k, none⟩)) w := by
          intro b off len cap hv h0 h1
          rw [hv, rep_int hy]
          simp [Instr.indexAt, asIntOf, run_underlying (tyElem_eq he), h0, h1, run_sizeOf hk, Addr.add_mid]
        have data : ∀ (es : List A) (cap : Nat) (q : Option Addr), a.eval x = .slice q es.length cap → A.pure.pureL es = true →
            (es ≠ [] → ∃ b off, q = some ⟨b, off, none⟩ ∧ b < (envOf N0 φ w).w.heap.size ∧ ¬ (envOf N0 φ w).N b ∧ RepE (envOf N0 φ w) (strideOf es) b off es) → getE k i es = some r → Good P ⟨d, .indexAddr s x y, t, p, af, g⟩ a w N0 φ r := by
          intro es cap q hv hp hm hr
          unfold getE getI at hr
          split at hr
          · rename_i h0
            cases hi : es[i.toNat]? with
            | none => simp [hi] at hr
            | some z =>
              simp only [hi, Option.bind_some] at hr
              split at hr
              · rename_i hkz
                obtain rfl := Option.some.inj hr
                have hlt := (List.getElem?_eq_some_iff.1 hi).1
                obtain ⟨b, off, rfl, hb, hnb, hE⟩ := hm (by rintro rfl; simp at hlt)
                obtain ⟨hl, hmm⟩ := RepE_iff.1 hE _ _ hi
                rw [← hkz] at hl
                rw [← hl] at hmm
                refine good_same rfl (run b off _ cap hv h0 (by omega)) ?_
                simp only [Rep]
                exact ⟨pure_cells (pureL_getElem hp hi), b, _, rfl, hb, hnb, hmm⟩
              · simp at hr
          · simp at hr
        cases hc : σ.ev x <;> simp only [hc, indexAddrE] at hr <;> try (simp at hr; done)
        · rw [hc] at hx
          simp only [Rep] at hx
          obtain ⟨hp, q, cap, hv, _, hm⟩ := hx
          exact data _ cap q hv hp hm hr
        · rw [hc] at hx
          simp only [Rep] at hx
          obtain ⟨hp, q, hv, hm⟩ := hx
          exact data _ _ q hv hp hm hr
        · rename_i n off k' len c
          rw [hc] at hx
          split at hr
          · rename_i hcond
            obtain ⟨rfl, h0, h1⟩ := hcond
            obtain rfl := Option.some.inj hr
            simp only [Rep] at hx
            rcases hx with ⟨_, _, _, rfl, _⟩ | ⟨b, cap, _, _, _, hφ, hv, _⟩
            · omega
            · refine good_same rfl (run b _ _ cap hv h0 h1) ?_
              simp only [Rep]
              exact ⟨b, k, hφ, by rw [Nat.add_mul, Nat.add_zero]⟩
          · simp at hr
      · simp at hr
    · split at hr
      · rename_i n e hn
        split at hr
        · rename_i k hk
          have run : ∀ b off, a.eval x = .pointer (some ⟨b, off, none⟩) → 0 ≤ i → i < n → (Instr.indexAt s (a.eval x) (a.eval y)).run P w = .ok (.pointer (some ⟨b, off + i.toNat * k, none⟩)) w := by
            intro b off hv h0 h1
            rw [hv, rep_int hy]
            simp [Instr.indexAt, asIntOf, run_underlying (tyArr_eq hn), Instr.sureAddr, h0, h1, run_sizeOf hk, Addr.add_mid]
          cases hc : σ.ev x <;> simp only [hc, indexAddrR] at hr <;> try (simp at hr; done)
          · rename_i cs
            rw [hc] at hx
            simp only [Rep] at hx
            obtain ⟨hp, b, off, hv, hb, hnb, hm⟩ := hx
            split at hr
            · rename_i hcond
              obtain rfl := Option.some.inj hr
              refine good_same rfl (run b off hv hcond.1 hcond.2) ?_
              simp only [Rep]
              exact ⟨pureL_drop hp, b, _, rfl, hb, hnb, RepM_drop hm⟩
            · simp at hr
          · rename_i m off
            rw [hc] at hx
            simp only [Rep] at hx
            obtain ⟨b, kk, hφ, hv⟩ := hx
            split at hr
            · rename_i hcond
              obtain rfl := Option.some.inj hr
              refine good_same rfl (run b off hv hcond.1 hcond.2) ?_
              simp only [Rep]
              exact ⟨b, kk, hφ, rfl⟩
            · simp at hr
        · simp at hr
      · simp at hr
  · simp at hr
end
end Go.Abs
namespace Go.Abs
open Go.RowKit
section
variable {P : Program} {N0 : Nat → Prop} {w0 : Base} {nt : Nat} {σ : St} {φ : List Own} {a : Act} {w : World}
theorem bd_val (h : Conc N0 w0 nt σ φ a w) {o : Option Operand} (ho : (σ.bd o).ok = true) : (o = none ∧ σ.bd o = .none) ∨ ∃ k n, o.map a.eval = some (.int k n) ∧ σ.bd o = .some n := by
  cases o with
  | none => exact .inl ⟨rfl, rfl⟩
  | some x =>
    right
    simp only [St.bd] at ho ⊢
    cases hx : σ.ev x <;> simp only [hx, bdOf, Bd.ok] at ho <;> try (simp at ho; done)
    rename_i k n
    have := h.ev x
    rw [hx] at this
    exact ⟨k, n, by simp [rep_int this], rfl⟩
theorem run_sliceBound {k : IntKind} {n : Int} {y : Nat} {c : BoundsCode} (h0 : 0 ≤ n) (h1 : n ≤ y) : (Instr.sliceBound (.int k n) y c).run P w = .ok n.toNat w := by
  simp [Instr.sliceBound, asIntOf, h0, h1]
theorem run_bounds2 (h : Conc N0 w0 nt σ φ a w) {lo hi : Option Operand} (hlo : (σ.bd lo).ok = true) (hhi : (σ.bd hi).ok = true) {isS : Bool} {len cap : Nat} (hlc : len ≤ cap)
    (h0 : 0 ≤ (σ.bd lo).get 0) (h1 : (σ.bd lo).get 0 ≤ (σ.bd hi).get len) (h2 : (σ.bd hi).get len ≤ len) :
    (Instr.sliceBounds isS len cap (lo.map a.eval) (hi.map a.eval) none).run P w = .ok (((σ.bd lo).get 0).toNat, ((σ.bd hi).get len).toNat, cap) w := by
  rcases bd_val h hlo with ⟨rfl, e1⟩ | ⟨k, n, e1, e2⟩ <;> rcases bd_val h hhi with ⟨rfl, e3⟩ | ⟨k', n', e3, e4⟩
  · simp [Instr.sliceBounds, e1, Bd.get]
  · rw [e4] at h1 h2 ⊢
    rw [e1] at h1 ⊢
    simp only [Bd.get] at h1 h2 ⊢
    have := run_sliceBound (P := P) (w := w) (k := k') (n := n') (y := cap) (c := if isS then .sliceAcap else .sliceAlen) (by omega) (by omega)
    simp [Instr.sliceBounds, e3, this]
  · rw [e2] at h0 h1 ⊢
    simp only [Bd.get] at h0 h1 ⊢
    rw [e3] at h1 ⊢
    simp only at h1 ⊢
    have := run_sliceBound (P := P) (w := w) (k := k) (n := n) (y := len) (c := .sliceB) h0 (by omega)
    simp [Instr.sliceBounds, e1, this]
  · rw [e2] at h0 h1 ⊢
    rw [e4] at h1 h2 ⊢
    simp only [Bd.get] at h0 h1 h2 ⊢
    have t1 := run_sliceBound (P := P) (w := w) (k := k') (n := n') (y := cap) (c := if isS then .sliceAcap else .sliceAlen) (by omega) (by omega)
    have t2 := run_sliceBound (P := P) (w := w) (k := k) (n := n) (y := n'.toNat) (c := .sliceB) h0 (by omega)
    simp [Instr.sliceBounds, e1, e3, t1, t2]
theorem run_bounds3 (h : Conc N0 w0 nt σ φ a w) {lo hi mx : Option Operand} (hlo : (σ.bd lo).ok = true) {m : Int} (hhi : σ.bd hi = .some m) (hmx : σ.bd mx = .some m) {isS : Bool} {len cap : Nat} (hlc : len ≤ cap)
    (h0 : 0 ≤ (σ.bd lo).get 0) (h1 : (σ.bd lo).get 0 ≤ m) (h2 : m ≤ len) :
    (Instr.sliceBounds isS len cap (lo.map a.eval) (hi.map a.eval) (mx.map a.eval)).run P w = .ok (((σ.bd lo).get 0).toNat, m.toNat, m.toNat) w := by
  rcases bd_val h (o := hi) (by rw [hhi]; rfl) with ⟨rfl, e3⟩ | ⟨k', n', e3, e4⟩
  · rw [e3] at hhi; cases hhi
  rcases bd_val h (o := mx) (by rw [hmx]; rfl) with ⟨rfl, e5⟩ | ⟨k'', n'', e5, e6⟩
  · rw [e5] at hmx; cases hmx
  have hn' : n' = m := by rw [e4] at hhi; injection hhi
  have hn'' : n'' = m := by rw [e6] at hmx; injection hmx
  rw [hn'] at e3
  rw [hn''] at e5
  have t1 := fun c => run_sliceBound (P := P) (w := w) (k := k'') (n := m) (y := cap) (c := c) (by omega) (by omega)
  have t2 := fun c => run_sliceBound (P := P) (w := w) (k := k') (n := m) (y := m.toNat) (c := c) (by omega) (by omega)
  rcases bd_val h hlo with ⟨rfl, e1⟩ | ⟨k, n, e1, e2⟩
  · simp [Instr.sliceBounds, e1, e3, e5, Bd.get, t1, t2]
  · rw [e2] at h0 h1 ⊢
    simp only [Bd.get] at h0 h1 ⊢
    have t3 := fun c => run_sliceBound (P := P) (w := w) (k := k) (n := n) (y := m.toNat) (c := c) h0 (by omega)
    simp [Instr.sliceBounds, e1, e3, e5, t1, t2, t3]
theorem extract_mk (s : List UInt8) (l h : Nat) : (⟨s.toArray⟩ : ByteArray).extract l h = ⟨((s.take h).drop l).toArray⟩ := by
  apply ByteArray.ext
  simp [ByteArray.data_extract, List.extract_eq_take_drop, List.drop_take]
theorem run_sliceAt {t : TypeId} (ht : (tyArr P t).isNone = true) {d : TypeDesc} (hu : P.underlying t = some d) {x : Value} {lo hi mx : Option Value} : (Instr.sliceAt t x lo hi mx).run P w = (Instr.slice t x lo hi mx).run P w := by
  unfold Instr.sliceAt
  rw [Sem.run_bind, run_underlying hu, Result.andThen_ok]
  cases d <;> first | rfl | (simp [tyArr, hu] at ht)
theorem good_slice (h : Conc N0 w0 nt σ φ a w) {d : Option Tmp} {s : Nat} {x : Operand} {lo hi mx : Option Operand} {t : TypeId} {p : String} {af : Array Edge} {g : Option (Nat × Bool)} {r : A}
    (ht : (tyArr P s).isNone = true) (hlo : (σ.bd lo).ok = true) (hhi : (σ.bd hi).ok = true)
    (hr : sliceA (tyStr P s) (elSize P s) (σ.ev x) (σ.bd lo) (σ.bd hi) (σ.bd mx) = some r) : Good P ⟨d, .slice s x lo hi mx, t, p, af, g⟩ a w N0 φ r := by
  have hx := h.ev x
  have nomx : σ.bd mx = .none → mx = none := by
    cases mx with
    | none => intro _; rfl
    | some m => intro hm; simp only [St.bd] at hm; cases he : σ.ev m <;> simp [he, bdOf] at hm
  have fin : ∀ {d' : TypeDesc} {v : Value}, P.underlying s = some d' → (Instr.slice s (a.eval x) (lo.map a.eval) (hi.map a.eval) (mx.map a.eval)).run P w = .ok v w → Rep (envOf N0 φ w) r v → Good P ⟨d, .slice s x lo hi mx, t, p, af, g⟩ a w N0 φ r := by
    intro d' v hu hv hrep
    exact good_same rfl (by rw [run_sliceAt ht hu]; exact hv) hrep
  have elems : ∀ (k : Nat) (es : List A) (q : Option Addr) (cap : Nat), elSize P s = some k → a.eval x = .slice q es.length cap → es.length ≤ cap → A.pure.pureL es = true →
      (es ≠ [] → ∃ b off, q = some ⟨b, off, none⟩ ∧ b < (envOf N0 φ w).w.heap.size ∧ ¬ (envOf N0 φ w).N b ∧ RepE (envOf N0 φ w) (strideOf es) b off es) →
      sliceE k es (σ.bd lo) (σ.bd hi) (σ.bd mx) = some r → Good P ⟨d, .slice s x lo hi mx, t, p, af, g⟩ a w N0 φ r := by
    intro k es q cap hk hv hlc hp hm hr
    unfold elSize at hk
    cases he : tyElem P s with
    | none => simp [he] at hk
    | some e =>
      simp only [he] at hk
      have hu := tyElem_eq he
      have core : ∀ l hh : Nat, l ≤ hh → hh ≤ es.length → strOK k es = true → ∀ c' : Nat, hh ≤ c' → c' ≤ cap →
          A.pure.pureL ((es.take hh).drop l) = true ∧ ((es.take hh).drop l).length = hh - l ∧
          ((es.take hh).drop l ≠ [] → ∃ b off, (if c' = l then q else q.map (·.add (l * k))) = some ⟨b, off, none⟩ ∧ b < (envOf N0 φ w).w.heap.size ∧ ¬ (envOf N0 φ w).N b ∧ RepE (envOf N0 φ w) (strideOf ((es.take hh).drop l)) b off ((es.take hh).drop l)) := by
        intro l hh hl hhl hst c' hc' hcc
        refine ⟨pureL_drop (pureL_take hp), by simp; omega, fun hne => ?_⟩
        have hes : es ≠ [] := by rintro rfl; simp at hne
        have hlt : l < hh := by
          rcases Nat.lt_or_ge l hh with hlt | hge
          · exact hlt
          · exfalso; apply hne; apply List.drop_eq_nil_of_le; simp; omega
        obtain ⟨b, off, rfl, hb, hnb, hE⟩ := hm hes
        have hk' : strideOf es = k := by
          unfold strOK at hst
          cases es with
          | nil => exact absurd rfl hes
          | cons z zs => simpa using hst
        rw [hk'] at hE
        have hE' := RepE_drop (n := l) (RepE_take (n := hh) hE)
        refine ⟨b, off + l * k, ?_, hb, hnb, by rw [stride_of hE' hne]; exact hE'⟩
        rw [if_neg (by omega)]
        simp [Addr.add_mid]
      unfold sliceE at hr
      split at hr
      · rename_i hmx
        split at hr
        · rename_i hc
          obtain ⟨hst, h0, h1, h2⟩ := hc
          obtain rfl := Option.some.inj hr
          have hb := run_bounds2 (P := P) h hlo hhi (isS := true) hlc h0 h1 h2
          have hmx' := nomx hmx
          subst hmx'
          obtain ⟨c1, c2, c3⟩ := core ((σ.bd lo).get 0).toNat ((σ.bd hi).get es.length).toNat (by omega) (by omega) hst cap (by omega) (Nat.le_refl _)
          refine fin hu (v := .slice (if cap = ((σ.bd lo).get 0).toNat then q else q.map (·.add (((σ.bd lo).get 0).toNat * k))) (((σ.bd hi).get es.length).toNat - ((σ.bd lo).get 0).toNat) (cap - ((σ.bd lo).get 0).toNat)) ?_ ?_
          · rw [hv]
            simp only [Option.map_none]
            simp only [Instr.slice, Sem.run_bind, run_underlying hu, Result.andThen_ok, hb, run_sizeOf hk, Sem.run_pure]
          · simp only [Rep]
            exact ⟨c1, _, _, by rw [c2], by rw [c2]; omega, c3⟩
        · simp at hr
      · rename_i m hmx
        split at hr
        · rename_i hc
          obtain ⟨hst, h0, h1, h2, h3, h4⟩ := hc
          have hhi' : σ.bd hi = .some m := by
            cases hb : σ.bd hi with
            | some n => rw [hb] at h3; simp only [Bd.get] at h3; rw [h3]
            | none => simp [hb, Bd.ok3] at h4
            | bad => simp [hb, Bd.ok3] at h4
          have hg : (σ.bd hi).get es.length = m := by rw [hhi']; rfl
          rw [hg] at h1 h2 hr
          obtain rfl := Option.some.inj hr
          have hb := run_bounds3 (P := P) h hlo hhi' hmx (isS := true) hlc h0 h1 h2
          obtain ⟨c1, c2, c3⟩ := core ((σ.bd lo).get 0).toNat m.toNat (by omega) (by omega) hst m.toNat (by omega) (by omega)
          refine fin hu (v := .slice (if m.toNat = ((σ.bd lo).get 0).toNat then q else q.map (·.add (((σ.bd lo).get 0).toNat * k))) (m.toNat - ((σ.bd lo).get 0).toNat) (m.toNat - ((σ.bd lo).get 0).toNat)) ?_ ?_
          · rw [hv]
            simp only [Instr.slice, Sem.run_bind, run_underlying hu, Result.andThen_ok, hb, run_sizeOf hk, Sem.run_pure]
          · simp only [Rep]
            exact ⟨c1, _, by rw [c2], c3⟩
        · simp at hr
      · simp at hr
  cases hc : σ.ev x <;> simp only [hc, sliceA] at hr <;> try (simp at hr; done)
  · rename_i str
    rw [hc] at hx
    split at hr
    · rename_i hst
      unfold sliceS at hr
      split at hr
      · rename_i hmx
        split at hr
        · rename_i hcond
          obtain ⟨h0, h1, h2⟩ := hcond
          obtain rfl := Option.some.inj hr
          have hmx' := nomx hmx
          subst hmx'
          have hb := run_bounds2 (P := P) h hlo hhi (isS := false) (len := str.length) (cap := str.length) (Nat.le_refl _) h0 h1 h2
          refine fin (tyStr_eq hst) (v := .string (ByteArray.extract ⟨str.toArray⟩ ((σ.bd lo).get 0).toNat ((σ.bd hi).get str.length).toNat)) ?_ ?_
          · rw [rep_str hx]
            simp only [Option.map_none, Instr.slice, Sem.run_bind, run_underlying (tyStr_eq hst), Result.andThen_ok, size_mk, hb, Sem.run_pure, Option.isSome_none, Bool.false_eq_true, if_false]
          · simp only [Rep, extract_mk]
        · simp at hr
      · simp at hr
    · simp at hr
  · rename_i es
    rw [hc] at hx
    simp only [Rep] at hx
    obtain ⟨hp, q, cap, hv, hlc, hm⟩ := hx
    split at hr
    · rename_i k hk
      exact elems k es q cap hk hv hlc hp hm hr
    · simp at hr
  · rename_i es
    rw [hc] at hx
    simp only [Rep] at hx
    obtain ⟨hp, q, hv, hm⟩ := hx
    split at hr
    · rename_i k hk
      exact elems k es q _ hk hv (Nat.le_refl _) hp hm hr
    · simp at hr
  · rename_i n off k' len c
    rw [hc] at hx
    split at hr
    · rename_i k hk
      split at hr
      · rename_i hkk
        subst hkk
        unfold elSize at hk
        cases he : tyElem P s with
        | none => simp [he] at hk
        | some e =>
          simp only [he] at hk
          have hu := tyElem_eq he
          simp only [Rep] at hx
          have val : ∃ (q : Option Addr) (cap : Nat), a.eval x = .slice q len cap ∧ len ≤ cap ∧
              ∀ l hh c' : Nat, l ≤ hh → hh ≤ len → hh ≤ c' → c' ≤ cap → ∀ cl : Bool, (cl = true → c' = hh) →
                Rep (envOf N0 φ w) (.row n (off + l) k (hh - l) cl) (.slice (if c' = l then q else q.map (·.add (l * k))) (hh - l) (c' - l)) := by
            rcases hx with ⟨o, hφ, hf, rfl, hoff, q, hv⟩ | ⟨b, cap, cc, ee, fr, hφ, hv, hlc, _, hblk, hsz⟩
            · refine ⟨q, 0, hv, Nat.le_refl _, fun l hh c' hl hhl hc' hcc cl hcl => ?_⟩
              have e1 : l = 0 := by omega
              have e2 : hh = 0 := by omega
              have e3 : c' = 0 := by omega
              subst e1; subst e2; subst e3
              simp only [Rep]
              exact .inl ⟨o, hφ, hf, by simp, by simpa using hoff, q, by simp⟩
            · refine ⟨_, cap, hv, hlc, fun l hh c' hl hhl hc' hcc cl hcl => ?_⟩
              simp only [Rep]
              by_cases hcl0 : c' = l
              · left
                have : hh = l := by omega
                refine ⟨_, hφ, by simp, by omega, by simp, some ⟨b, off * k, none⟩, ?_⟩
                rw [if_pos hcl0, show hh - l = 0 by omega, show c' - l = 0 by omega]
              · right
                refine ⟨b, c' - l, cc, ee, fr, hφ, ?_, by omega, fun hq => by have := hcl hq; omega, hblk, ?_⟩
                · rw [if_neg hcl0]
                  simp [Addr.add_mid, Nat.add_mul]
                · have : l * k + k * (c' - l) ≤ k * cap := by
                    rw [Nat.mul_comm l k, ← Nat.mul_add]
                    exact Nat.mul_le_mul_left k (by omega)
                  rw [Nat.add_mul]
                  omega
          obtain ⟨q, cap, hv, hlc, hval⟩ := val
          unfold sliceR at hr
          split at hr
          · rename_i hmx
            split at hr
            · rename_i hcond
              obtain ⟨h0, h1, h2⟩ := hcond
              obtain rfl := Option.some.inj hr
              have hmx' := nomx hmx
              subst hmx'
              have hb := run_bounds2 (P := P) h hlo hhi (isS := true) hlc h0 h1 h2
              have := hval ((σ.bd lo).get 0).toNat ((σ.bd hi).get len).toNat cap (by omega) (by omega) (by omega) (Nat.le_refl _) false (by simp)
              refine fin hu ?_ (by rw [show ((σ.bd hi).get len - (σ.bd lo).get 0).toNat = ((σ.bd hi).get len).toNat - ((σ.bd lo).get 0).toNat by omega]; exact this)
              rw [hv]
              simp only [Option.map_none]
              simp only [Instr.slice, Sem.run_bind, run_underlying hu, Result.andThen_ok, hb, run_sizeOf hk, Sem.run_pure]
            · simp at hr
          · rename_i m hmx
            split at hr
            · rename_i hcond
              obtain ⟨h0, h1, h2, h3, h4⟩ := hcond
              have hhi' : σ.bd hi = .some m := by
                cases hb : σ.bd hi with
                | some n => rw [hb] at h3; simp only [Bd.get] at h3; rw [h3]
                | none => simp [hb, Bd.ok3] at h4
                | bad => simp [hb, Bd.ok3] at h4
              have hg : (σ.bd hi).get len = m := by rw [hhi']; rfl
              rw [hg] at h1 h2 hr
              obtain rfl := Option.some.inj hr
              have hb := run_bounds3 (P := P) h hlo hhi' hmx (isS := true) hlc h0 h1 h2
              have := hval ((σ.bd lo).get 0).toNat m.toNat m.toNat (by omega) (by omega) (by omega) (by omega) true (fun _ => rfl)
              refine fin hu ?_ (by rw [show (m - (σ.bd lo).get 0).toNat = m.toNat - ((σ.bd lo).get 0).toNat by omega]; exact this)
              rw [hv]
              simp only [Instr.slice, Sem.run_bind, run_underlying hu, Result.andThen_ok, hb, run_sizeOf hk, Sem.run_pure]
            · simp at hr
          · simp at hr
      · simp at hr
    · simp at hr
/-! ### Literals -/
theorem foldl_set : ∀ (vs : List Value) (off j : Nat) (cs : List Value), off + j + vs.length ≤ cs.length →
    (vs.zipIdx j).foldl (fun (cs : Array Value) (p : Value × Nat) => cs.setIfInBounds (off + p.2) p.1) cs.toArray = (cs.take (off + j) ++ vs ++ cs.drop (off + j + vs.length)).toArray
  | [], off, j, cs, _ => by simp
  | v :: vs, off, j, cs, h => by
    simp only [List.zipIdx_cons, List.foldl_cons]
    have e : cs.toArray.setIfInBounds (off + j) v = (cs.set (off + j) v).toArray := by simp
    rw [e, foldl_set vs off (j + 1) (cs.set (off + j) v) (by simp at h ⊢; omega)]
    congr 1
    have hlt : off + j < cs.length := by simp at h; omega
    rw [show off + (j + 1) = off + j + 1 by omega]
    rw [List.take_succ_eq_append_getElem (by simpa using hlt)]
    simp only [List.getElem_set_self, List.length_cons, List.append_assoc, List.cons_append, List.nil_append]
    rw [List.take_set_of_le (Nat.le_refl _), List.drop_set_of_lt (by omega)]
    rw [show off + j + 1 + vs.length = off + j + (vs.length + 1) by omega]
theorem fill_one {place : Nat → Option (Nat × Nat)} {i off size : Nat} {v : Value} {cs : List Value} {rest : List (Nat × Value)} (hp : place i = some (off, size)) (hs : v.cells.size = size) (hl : off + size ≤ cs.length) :
    Instr.fill place cs.toArray ((i, v) :: rest) = Instr.fill place (cs.take off ++ v.cells.toList ++ cs.drop (off + size)).toArray rest := by
  simp only [Instr.fill, hp]
  rw [if_neg (by simp [hs]; omega)]
  congr 1
  have e := foldl_set v.cells.toList off 0 cs (by simp [hs]; omega)
  simp only [Nat.add_zero] at e
  rw [show v.cells.toList.length = size by simpa using hs] at e
  rw [← e, ← Array.foldl_toList]
  simp
theorem fillC_sound {E : Env} {size : Option Nat} {off : Nat} {x : A} {v : Value} {zs zs' : List A} {vs : List Value} (hx : Rep E x v) (hz : RepL E zs vs) (h1 : ∀ u ∈ vs, u.oneCell' = true) (h : fillC size off x zs = some zs') :
    ∃ n, size = some n ∧ v.cells.size = n ∧ off + n ≤ vs.length ∧ RepL E zs' (vs.take off ++ v.cells.toList ++ vs.drop (off + n)) ∧ ∀ u ∈ vs.take off ++ v.cells.toList ++ vs.drop (off + n), u.oneCell' = true := by
  unfold fillC at h
  split at h
  · rename_i n
    split at h
    · rename_i hc
      obtain ⟨c1, c2, c3⟩ := hc
      obtain rfl := Option.some.inj h
      obtain ⟨r1, r2, r3⟩ := Rep_cells hx c3
      have hlen := (RepL_iff.1 hz).1
      refine ⟨n, rfl, by rw [r3, c1], by omega, RepL_append (RepL_append (RepL_take hz) r1) (RepL_drop hz), fun u hu => ?_⟩
      simp only [List.mem_append] at hu
      rcases hu with (hu | hu) | hu
      · exact h1 u (List.mem_of_mem_take hu)
      · exact r2 u hu
      · exact h1 u (List.mem_of_mem_drop hu)
    · simp at h
  · simp at h
theorem fillS_sound (h : Conc N0 w0 nt σ φ a w) {t : TypeId} {fs : Array Field} {place : Nat → Option (Nat × Nat)} (hu : P.underlying t = some (.struct fs))
    (hplace : ∀ i f n, fs[i]? = some f → tySize P f.type = some n → place i = some (f.offset, n)) :
    ∀ (ps : List (Nat × Operand)) (zs zs' : List A) (vs : List Value), RepL (envOf N0 φ w) zs vs → (∀ u ∈ vs, u.oneCell' = true) → fillS P t σ ps zs = some zs' →
      ∃ vs', Instr.fill place vs.toArray (ps.map fun p => (p.1, a.eval p.2)) = some vs'.toArray ∧ RepL (envOf N0 φ w) zs' vs' ∧ ∀ u ∈ vs', u.oneCell' = true
  | [], zs, zs', vs, hz, h1, hf => by
    simp [fillS] at hf
    subst hf
    exact ⟨vs, rfl, hz, h1⟩
  | (i, x) :: ps, zs, zs', vs, hz, h1, hf => by
    simp only [fillS] at hf
    split at hf
    · rename_i o ft hfi
      cases hc : fillC (tySize P ft) o (σ.ev x) zs with
      | none => simp [hc] at hf
      | some zs1 =>
        simp only [hc, Option.bind_some] at hf
        obtain ⟨n, hn, hv, hl, hz', h1'⟩ := fillC_sound (h.ev x) hz h1 hc
        obtain ⟨fs', fx, n', hu', hfx, rfl, rfl, hn', _⟩ := fieldInfo_eq hfi
        rw [hu] at hu'
        obtain rfl : fs = fs' := by injection hu' with e; injection e
        obtain ⟨vs', hr, hz'', h1''⟩ := fillS_sound h hu hplace ps zs1 zs' _ hz' h1' hf
        refine ⟨vs', ?_, hz'', h1''⟩
        rw [List.map_cons, fill_one (hplace i fx n hfx hn) hv hl]
        exact hr
    · simp at hf
theorem fillA_sound (h : Conc N0 w0 nt σ φ a w) {e n : Nat} (hn : tySize P e = some n) :
    ∀ (ps : List (Nat × Operand)) (zs zs' : List A) (vs : List Value), RepL (envOf N0 φ w) zs vs → (∀ u ∈ vs, u.oneCell' = true) → fillA P e σ ps zs = some zs' →
      ∃ vs', Instr.fill (fun i => some (i * n, n)) vs.toArray (ps.map fun p => (p.1, a.eval p.2)) = some vs'.toArray ∧ RepL (envOf N0 φ w) zs' vs' ∧ ∀ u ∈ vs', u.oneCell' = true
  | [], zs, zs', vs, hz, h1, hf => by
    simp [fillA] at hf
    subst hf
    exact ⟨vs, rfl, hz, h1⟩
  | (i, x) :: ps, zs, zs', vs, hz, h1, hf => by
    simp only [fillA, hn] at hf
    cases hc : fillC (some n) (i * n) (σ.ev x) zs with
    | none => simp [hc] at hf
    | some zs1 =>
      simp only [hc, Option.bind_some] at hf
      obtain ⟨n', hn', hv, hl, hz', h1'⟩ := fillC_sound (h.ev x) hz h1 hc
      obtain rfl := Option.some.inj hn'
      obtain ⟨vs', hr, hz'', h1''⟩ := fillA_sound h hn ps zs1 zs' _ hz' h1' hf
      refine ⟨vs', ?_, hz'', h1''⟩
      rw [List.map_cons, fill_one rfl hv hl]
      exact hr
theorem zeroA_eq {t : TypeId} {z : A} (h : zeroA P t = some z) : ∃ v, (zeroValue t).run P w = .ok v w ∧ (∀ E : Env, Rep E z v) := by
  unfold zeroA at h
  cases hi : P.info? t with
  | none => simp [hi] at h
  | some i =>
    simp only [hi, Option.bind_some] at h
    cases hz : i.zero with
    | none => simp [hz] at h
    | some v =>
      simp [hz] at h
      subst h
      exact ⟨v, by simp [zeroValue, typeInfo, hi, hz], fun E => Rep_toA E v⟩
theorem run_placesL : ∀ {fs : List Field}, (fs.all fun f => (tySize P f.type).isSome) = true →
    ∃ ys : List (Nat × Nat), (fs.mapM (fun f => (do pure (f.offset, ← sizeOf f.type) : Sem (Nat × Nat)))).run P w = .ok ys w ∧ ∀ (i : Nat) (f : Field) (n : Nat), fs[i]? = some f → tySize P f.type = some n → ys[i]? = some (f.offset, n)
  | [], _ => ⟨[], by simp, fun i f n hf => by simp at hf⟩
  | f :: fs, h => by
    simp only [List.all_cons, Bool.and_eq_true] at h
    obtain ⟨n, hn⟩ := Option.isSome_iff_exists.1 h.1
    obtain ⟨ys, hys, hpl⟩ := run_placesL h.2
    refine ⟨(f.offset, n) :: ys, ?_, fun i f' n' hf' hn' => ?_⟩
    · simp only [List.mapM_cons, Sem.run_bind, run_sizeOf hn, Result.andThen_ok, Sem.run_pure, hys]
    · cases i with
      | zero => simp at hf'; subst hf'; rw [hn] at hn'; simp at hn'; subst hn'; rfl
      | succ i => exact hpl i f' n' (by simpa using hf') hn'
theorem run_places {fs : Array Field} (h : (fs.toList.all fun f => (tySize P f.type).isSome) = true) :
    ∃ ys : Array (Nat × Nat), (fs.mapM (fun f => (do pure (f.offset, ← sizeOf f.type) : Sem (Nat × Nat)))).run P w = .ok ys w ∧ ∀ (i : Nat) (f : Field) (n : Nat), fs[i]? = some f → tySize P f.type = some n → ys[i]? = some (f.offset, n) := by
  obtain ⟨ys, hys, hpl⟩ := run_placesL (w := w) h
  refine ⟨ys.toArray, ?_, fun i f n hf hn => by simpa using hpl i f n (by simpa using hf) hn⟩
  rw [Array.mapM_eq_mapM_toList, Sem.run_map, hys]
  rfl
theorem good_build (h : Conc N0 w0 nt σ φ a w) {d : Option Tmp} {s : Nat} {ps : Array (Nat × Operand)} {t : TypeId} {p : String} {af : Array Edge} {g : Option (Nat × Bool)} {r : A}
    (hr : buildA P s σ ps.toList = some r) : Good P ⟨d, .build s ps, t, p, af, g⟩ a w N0 φ r := by
  unfold buildA at hr
  split at hr
  · rename_i zs hz
    obtain ⟨z, hzr, hzrep⟩ := zeroA_eq (w := w) hz
    have hzv := hzrep (envOf N0 φ w)
    simp only [Rep] at hzv
    obtain ⟨vs, rfl, hL, hone⟩ := hzv
    split at hr
    · rename_i n e hn
      split at hr
      · rename_i hsz
        obtain ⟨k, hk⟩ := Option.isSome_iff_exists.1 hsz
        cases hf : fillA P e σ ps.toList zs with
        | none => simp [hf] at hr
        | some zs' =>
          simp [hf] at hr
          subst hr
          have hu := tyArr_eq hn
          obtain ⟨vs', hfill, hL', hone'⟩ := fillA_sound h hk ps.toList zs zs' vs hL hone hf
          refine good_same rfl (v := .agg vs'.toArray) ?_ (by simp only [Rep]; exact ⟨vs', rfl, hL', hone'⟩)
          simp only [Instr.build, Sem.run_bind, hzr, Result.andThen_ok, run_underlying hu, run_sizeOf hk, Value.cells]
          rw [show (ps.map fun x => (x.1, a.eval x.2)).toList = ps.toList.map fun p => (p.1, a.eval p.2) by simp, hfill]
          rfl
      · simp at hr
    · rename_i hn
      split at hr
      · rename_i hall
        cases hf : fillS P s σ ps.toList zs with
        | none => simp [hf] at hr
        | some zs' =>
          simp [hf] at hr
          subst hr
          unfold allSized at hall
          split at hall
          · rename_i fs hu
            obtain ⟨ys, hys, hplace⟩ := run_places (w := w) hall
            obtain ⟨vs', hfill, hL', hone'⟩ := fillS_sound h hu hplace ps.toList zs zs' vs hL hone hf
            refine good_same rfl (v := .agg vs'.toArray) ?_ (by simp only [Rep]; exact ⟨vs', rfl, hL', hone'⟩)
            simp only [Instr.build, Sem.run_bind, hzr, Result.andThen_ok, run_underlying hu, Value.cells, hys]
            rw [show (ps.map fun x => (x.1, a.eval x.2)).toList = ps.toList.map fun p => (p.1, a.eval p.2) by simp, hfill]
            rfl
          · simp at hall
      · simp at hr
  · simp at hr
end
end Go.Abs
namespace Go.Abs
open Go.RowKit
theorem rep_norm0 {E : Env} {x : A} {v : Value} (h : Rep E x v) : Rep E (norm0 x) v := by
  cases x <;> simp only [norm0] <;> try exact h
  · simp only [Rep] at h ⊢
    obtain ⟨hp, a, hv, hm⟩ := h
    exact ⟨hp, a, _, hv, Nat.le_refl _, hm⟩
  · simp only [Rep] at h ⊢
    exact ⟨rfl, none, 0, by simpa using h, Nat.le_refl _, fun hne => absurd rfl hne⟩
  · simp only [Rep] at h ⊢
    obtain ⟨a, cap, hv, _⟩ := h
    exact ⟨rfl, a, cap, by simpa using hv, Nat.zero_le _, fun hne => absurd rfl hne⟩
theorem repL_norm0 {E : Env} {cs : List A} {vs : List Value} (h : RepL E cs vs) : RepL E (cs.map norm0) vs := by
  obtain ⟨h1, h2⟩ := RepL_iff.1 h
  refine RepL_iff.2 ⟨by simpa using h1, fun i x v hx hv => ?_⟩
  rw [List.getElem?_map] at hx
  cases hc : cs[i]? with
  | none => simp [hc] at hx
  | some c => simp [hc] at hx; subst hx; exact rep_norm0 (h2 i c v hc hv)
theorem norm_cells (x : A) : x.norm.cells = x.cells.map norm0 := by
  cases x <;> simp [A.norm, norm0, A.cells]
theorem pure_norm0 {x : A} (h : x.pure = true) : (norm0 x).pure = true := by
  cases x <;> simp_all [norm0, A.pure]
theorem pureL_map_norm0 {cs : List A} (h : A.pure.pureL cs = true) : A.pure.pureL (cs.map norm0) = true :=
  pureL_of fun i e he => by
    rw [List.getElem?_map] at he
    cases hc : cs[i]? with
    | none => simp [hc] at he
    | some c => simp [hc] at he; subst he; exact pure_norm0 (pureL_getElem h hc)
theorem pure_norm {x : A} (h : x.pure = true) : x.norm.pure = true := by
  cases x
  case agg cs =>
    simp only [A.norm, A.pure] at h ⊢
    exact pureL_map_norm0 h
  all_goals
    simp only [A.norm]
    exact pure_norm0 h
def RowRel (E : Env) (k : Nat) : List A → List Value → Prop
  | [], vs => vs = []
  | e :: es, vs => e.cells.length = k ∧ k ≤ vs.length ∧ RepL E e.cells (vs.take k) ∧ RowRel E k es (vs.drop k)
theorem RowRel.length {E : Env} {k : Nat} : ∀ {es : List A} {vs : List Value}, RowRel E k es vs → vs.length = es.length * k
  | [], vs, h => by simp only [RowRel] at h; subst h; simp
  | e :: es, vs, h => by
    simp only [RowRel] at h
    have := RowRel.length h.2.2.2
    simp only [List.length_drop] at this
    have := h.2.1
    simp only [List.length_cons, Nat.add_mul, Nat.one_mul]
    omega
theorem RowRel.append {E : Env} {k : Nat} : ∀ {es fs : List A} {vs us : List Value}, RowRel E k es vs → RowRel E k fs us → RowRel E k (es ++ fs) (vs ++ us)
  | [], fs, vs, us, h, h' => by simp only [RowRel] at h; subst h; simpa using h'
  | e :: es, fs, vs, us, h, h' => by
    simp only [RowRel] at h
    obtain ⟨h1, h2, h3, h4⟩ := h
    simp only [List.cons_append, RowRel]
    refine ⟨h1, by simp; omega, ?_, ?_⟩
    · rw [List.take_append_of_le_length h2]; exact h3
    · rw [List.drop_append_of_le_length h2]; exact RowRel.append h4 h'
theorem RowRel.take {E : Env} {k : Nat} : ∀ {n : Nat} {es : List A} {vs : List Value}, RowRel E k es vs → RowRel E k (es.take n) (vs.take (n * k))
  | 0, es, vs, _ => by simp [RowRel]
  | n + 1, [], vs, h => by simp only [RowRel] at h; subst h; simp [RowRel]
  | n + 1, e :: es, vs, h => by
    simp only [RowRel] at h
    obtain ⟨h1, h2, h3, h4⟩ := h
    simp only [List.take_succ_cons, RowRel]
    have hk : k ≤ (n + 1) * k := by rw [Nat.add_mul, Nat.one_mul]; omega
    refine ⟨h1, by simp; omega, ?_, ?_⟩
    · rw [List.take_take, Nat.min_eq_left hk]; exact h3
    · rw [List.drop_take, show (n + 1) * k - k = n * k by rw [Nat.add_mul, Nat.one_mul]; omega]; exact RowRel.take h4
theorem RowRel.set {E : Env} {k : Nat} {x : A} {xv : List Value} (hx : x.cells.length = k) (hL : RepL E x.cells xv) : ∀ {i : Nat} {es : List A} {vs : List Value}, i < es.length → RowRel E k es vs →
    RowRel E k (es.set i x) (vs.take (i * k) ++ xv ++ vs.drop (i * k + k))
  | 0, e :: es, vs, _, h => by
    simp only [RowRel] at h
    obtain ⟨h1, h2, h3, h4⟩ := h
    have hxl : xv.length = k := by rw [← (RepL_iff.1 hL).1, hx]
    simp only [List.set_cons_zero, RowRel, Nat.zero_mul, List.take_zero, List.nil_append, Nat.zero_add]
    refine ⟨hx, by simp; omega, ?_, ?_⟩
    · rw [List.take_append_of_le_length (by omega), List.take_of_length_le (by omega)]; exact hL
    · rw [List.drop_append_of_le_length (by omega), List.drop_of_length_le (by omega), List.nil_append]; exact h4
  | i + 1, e :: es, vs, hi, h => by
    simp only [RowRel] at h
    obtain ⟨h1, h2, h3, h4⟩ := h
    have ih := RowRel.set hx hL (i := i) (by simpa using hi) h4
    have hk : (i + 1) * k = k + i * k := by rw [Nat.add_mul, Nat.one_mul]; omega
    have hlen := RowRel.length h4
    have hle : i * k + k ≤ (vs.drop k).length := by
      rw [hlen]
      have : i + 1 ≤ es.length := by have : i < es.length := by simpa using hi
                                     omega
      calc i * k + k = (i + 1) * k := by rw [Nat.add_mul, Nat.one_mul]
        _ ≤ es.length * k := Nat.mul_le_mul_right k this
    simp only [List.length_drop] at hle
    simp only [List.set_cons_succ, RowRel]
    refine ⟨h1, by simp; omega, ?_, ?_⟩
    · rw [List.append_assoc, List.take_append_of_le_length (by simp; omega), List.take_take, Nat.min_eq_left (by omega)]; exact h3
    · rw [List.append_assoc, List.drop_append_of_le_length (by simp; omega), List.drop_take, hk, show k + i * k - k = i * k by omega]
      rw [List.drop_drop] at ih
      rw [show k + i * k + k = k + (i * k + k) by omega, ← List.append_assoc]
      exact ih
theorem RowRel.replicate {E : Env} {k : Nat} {x : A} {xv : List Value} (hx : x.cells.length = k) (hL : RepL E x.cells xv) : ∀ n : Nat, RowRel E k (List.replicate n x) (List.replicate n xv).flatten
  | 0 => by simp [RowRel]
  | n + 1 => by
    have hxl : xv.length = k := by rw [← (RepL_iff.1 hL).1, hx]
    simp only [List.replicate_succ, List.flatten_cons, RowRel]
    refine ⟨hx, by simp; omega, ?_, ?_⟩
    · rw [List.take_append_of_le_length (by omega), List.take_of_length_le (by omega)]; exact hL
    · rw [List.drop_append_of_le_length (by omega), List.drop_of_length_le (by omega), List.nil_append]; exact RowRel.replicate hx hL n
theorem RowRel.mem {E : Env} {k b : Nat} : ∀ {es : List A} {vs : List Value} {off : Nat}, RowRel E k es vs → E.w.rangeAt b off vs → (∀ u ∈ vs, u.oneCell' = true) → RepE E k b off es
  | [], vs, off, _, _, _ => by simp [RepE]
  | e :: es, vs, off, h, hr, hone => by
    simp only [RowRel] at h
    obtain ⟨h1, h2, h3, h4⟩ := h
    refine RepE_cons.2 ⟨⟨h1, RepM_of_vals (vs := vs.take k) ?_ h3 fun u hu => hone u (List.mem_of_mem_take hu)⟩, RowRel.mem h4 ?_ fun u hu => hone u (List.mem_of_mem_drop hu)⟩
    · intro j v hv
      rw [List.getElem?_take] at hv
      split at hv
      · exact hr j v hv
      · simp at hv
    · intro j v hv
      rw [List.getElem?_drop] at hv
      have := hr (k + j) v hv
      rwa [show off + (k + j) = off + k + j by omega] at this
theorem RowRel.of_mem {E : Env} {k b : Nat} : ∀ {es : List A} {off : Nat}, RepE E k b off es → ∃ vs, RowRel E k es vs ∧ E.w.rangeAt b off vs ∧ ∀ u ∈ vs, u.oneCell' = true
  | [], off, _ => ⟨[], by simp [RowRel], fun j v h => by simp at h, by simp⟩
  | e :: es, off, h => by
    obtain ⟨⟨h1, hm⟩, hE⟩ := RepE_cons.1 h
    obtain ⟨us, hu1, hu2, hu3⟩ := RepM_vals hm
    obtain ⟨vs, hv1, hv2, hv3⟩ := RowRel.of_mem hE
    have hl : us.length = k := by rw [← (RepL_iff.1 hu2).1, h1]
    refine ⟨us ++ vs, ?_, ?_, ?_⟩
    · simp only [RowRel]
      refine ⟨h1, by simp; omega, ?_, ?_⟩
      · rw [List.take_append_of_le_length (by omega), List.take_of_length_le (by omega)]; exact hu2
      · rw [List.drop_append_of_le_length (by omega), List.drop_of_length_le (by omega), List.nil_append]; exact hv1
    · intro j v hv
      rw [List.getElem?_append] at hv
      split at hv
      · exact hu1 j v hv
      · rename_i hj
        have := hv2 (j - us.length) v hv
        rwa [show off + k + (j - us.length) = off + j by omega] at this
    · intro u hu
      rcases List.mem_append.1 hu with hu | hu
      · exact hu3 u hu
      · exact hv3 u hu
theorem RowRel.mono {E E' : Env} (hr : ∀ x v, x.pure = true → Rep E x v → Rep E' x v) {k : Nat} : ∀ {es : List A} {vs : List Value}, A.pure.pureL es = true → RowRel E k es vs → RowRel E' k es vs
  | [], vs, _, h => by simpa only [RowRel] using h
  | e :: es, vs, hp, h => by
    simp only [A.pure.pureL, Bool.and_eq_true] at hp
    simp only [RowRel] at h ⊢
    obtain ⟨h1, h2, h3, h4⟩ := h
    obtain ⟨g1, g2⟩ := RepL_iff.1 h3
    exact ⟨h1, h2, RepL_iff.2 ⟨g1, fun i x v hx hv => hr x v (pureL_getElem (pure_cells hp.1) hx) (g2 i x v hx hv)⟩, RowRel.mono hr hp.2 h4⟩
theorem zeros_eq {z : Array Value} : ∀ n : Nat, (List.range (n * z.size)).map (fun i => z[i % z.size]!) = (List.replicate n z.toList).flatten
  | 0 => by simp
  | n + 1 => by
    rw [Nat.add_mul, Nat.one_mul, Nat.add_comm, List.range_add, List.map_append, List.map_map, List.replicate_succ, List.flatten_cons, ← zeros_eq n]
    congr 1
    · apply List.ext_getElem?
      intro i
      rw [List.getElem?_map]
      by_cases hi : i < z.size
      · simp [hi, Nat.mod_eq_of_lt hi]
      · simp [hi]
    · apply List.map_congr_left
      intro i _
      simp
section
variable {P : Program} {N0 : Nat → Prop} {w0 : Base} {nt : Nat} {σ : St} {φ : List Own} {a : Act} {w : World}
theorem set_get {n : Nat} {p : Own} (hn : n < φ.length) (m : Nat) : (φ.set n p)[m]? = if n = m then some p else φ[m]? := by
  rw [List.getElem?_set]
  split
  · rename_i e; subst e; simp
  · rfl
theorem Conc.ext_new (h : Conc N0 w0 nt σ φ a w) {n b k : Nat} {w' : World} (hfree : φ[n]? = some .free) (g : Grew w w') (hb : w.heap.size ≤ b) :
    Ext (fun _ => True) (envOf N0 φ w) (envOf N0 (φ.set n (.loc b k)) w') := by
  have hset := set_get (φ := φ) (n := n) (p := Own.loc b k) (List.getElem?_eq_some_iff.1 hfree).1
  exact {
    size := g.size
    blk := fun c hc hnc => ⟨by
      rintro (h0 | ⟨m, k', hm⟩)
      · exact hnc (.inl h0)
      · rw [hset] at hm
        split at hm
        · simp at hm
          have : c < w.heap.size := hc
          omega
        · exact hnc (.inr ⟨m, k', hm⟩), g.block c hc⟩
    refs := fun m p _ hm hp => by
      show (φ.set n (Own.loc b k))[m]? = some p
      rw [hset]
      split
      · rename_i e; subst e
        have : φ[n]? = some p := hm
        rw [hfree] at this
        simp at this
        exact absurd this.symm hp
      · exact hm
    own := fun m c k' cc e fr _ hm hc => ⟨cc, fr, by
      show w'.heap[c]? = _
      rw [g.block c (h.own m c k' hm).2]; exact hc, rfl⟩ }
theorem Conc.newObj (h : Conc N0 w0 nt σ φ a w) {n b k : Nat} {o : Obj} {w' : World} (hfree : φ[n]? = some .free) (g : Grew w w') (hb : w.heap.size ≤ b) (hb' : b < w'.heap.size)
    (ho : ObjRel (envOf N0 (φ.set n (.loc b k)) w') o (.loc b k)) : Conc N0 w0 nt (σ.setH n o) (φ.set n (.loc b k)) a w' := by
  have hset := set_get (φ := φ) (n := n) (p := Own.loc b k) (List.getElem?_eq_some_iff.1 hfree).1
  have hext := h.ext_new (k := k) hfree g hb
  exact {
    slots := fun d => Rep.mono hext _ _ (h.slots d) (fun _ _ => trivial)
    size := h.size
    defers := h.defers
    len := by simp [St.setH, setO_eq, h.len]
    objs := fun m o' p hm hp => by
      rw [hset] at hp
      simp only [St.setH] at hm
      rw [setO_eq, nthO_eq, List.getElem?_set] at hm
      split at hp
      · rename_i e
        subst e
        simp at hp
        subst hp
        rw [if_pos rfl] at hm
        split at hm
        · simp at hm; subst hm; exact ho
        · simp at hm
      · rename_i e
        rw [if_neg e] at hm
        exact ObjRel.mono hext (h.objs m o' p (by rw [nthO_eq]; exact hm) hp) (fun c k' hc cc ee fr hh => by
          subst hc
          show w'.heap[c]? = _
          rw [g.block c (h.own m c k' hp).2]; exact hh) (fun _ _ _ _ => trivial)
    own := fun m c k' hm => by
      rw [hset] at hm
      split at hm
      · simp at hm
        obtain ⟨rfl, rfl⟩ := hm
        exact ⟨.inl (Nat.le_trans h.below.size hb), hb'⟩
      · exact ⟨(h.own m c k' hm).1, Nat.lt_of_lt_of_le (h.own m c k' hm).2 g.size⟩
    inj := fun m m' c k' k'' hm hm' => by
      rw [hset] at hm hm'
      split at hm <;> split at hm'
      · rename_i e1 e2; rw [← e1, ← e2]
      · simp at hm
        have := (h.own m' c k'' hm').2
        omega
      · simp at hm'
        have := (h.own m c k' hm).2
        omega
      · exact h.inj m m' c k' k'' hm hm'
    n0 := h.n0
    fixd := fun m q hf hm hq => by
      have := h.fixd m q hf hm hq
      rw [hset]
      split
      · rename_i e; subst e; rw [hfree] at this; exact absurd (Option.some.inj this).symm hq
      · exact this
    below := g.below h.below }
theorem setCells_heap {b : Nat} : ∀ (vs : List Value) (off : Nat) (w : World), (w.setCells b off vs).heap.size = w.heap.size ∧ (∀ c, c ≠ b → (w.setCells b off vs).heap[c]? = w.heap[c]?) ∧
    (w.setCells b off vs).os = w.os ∧ (w.setCells b off vs).tape = w.tape ∧ (w.setCells b off vs).output = w.output ∧ (w.setCells b off vs).drawn = w.drawn ∧
    (∀ cc e fr, w.heap[b]? = some (.cells cc e fr) → ∃ cc', (w.setCells b off vs).heap[b]? = some (.cells cc' e fr) ∧ cc'.size = cc.size)
  | [], off, w => ⟨rfl, fun _ _ => rfl, rfl, rfl, rfl, rfl, fun cc e fr h => ⟨cc, h, rfl⟩⟩
  | v :: vs, off, w => by
    obtain ⟨h1, h2, h3, h4, h5, h5', h6⟩ := setCells_heap (b := b) vs (off + 1) (w.setCell ⟨b, off, none⟩ v)
    simp only [World.setCells]
    refine ⟨by rw [h1]; simp, fun c hc => by rw [h2 c hc]; exact Below.heap_setCell _ _ _ _ hc, by rw [h3]; rfl, by rw [h4]; rfl, by rw [h5]; rfl, by rw [h5']; rfl, fun cc e fr hcc => ?_⟩
    obtain ⟨cc', hc', hs'⟩ := h6 (cc.setIfInBounds off v) e fr (by
      simp only [World.setCell, Array.getElem?_modify, if_true, hcc, Option.map_some]
      simp)
    exact ⟨cc', hc', by rw [hs']; simp⟩
theorem Conc.ext_write (_h : Conc N0 w0 nt σ φ a w) {n b k : Nat} (off : Nat) (vs : List Value) (hn : φ[n]? = some (.loc b k)) : Ext (fun _ => True) (envOf N0 φ w) (envOf N0 φ (w.setCells b off vs)) := by
  obtain ⟨h1, h2, h3, h4, h5, h5', h6⟩ := setCells_heap (b := b) vs off w
  exact {
    size := by show w.heap.size ≤ (w.setCells b off vs).heap.size; rw [h1]; exact Nat.le_refl _
    blk := fun c hc hnc => ⟨hnc, h2 c (fun e => hnc (.inr ⟨n, k, by rw [e]; exact hn⟩))⟩
    refs := fun m p _ hm _ => hm
    own := fun m c k' cc e fr _ hm hc => by
      by_cases hcb : c = b
      · subst hcb
        obtain ⟨cc', hc', hs'⟩ := h6 cc e fr hc
        exact ⟨cc', fr, hc', hs'⟩
      · exact ⟨cc, fr, by show (w.setCells b off vs).heap[c]? = _; rw [h2 c hcb]; exact hc, rfl⟩ }
theorem Conc.write (h : Conc N0 w0 nt σ φ a w) {n b k : Nat} {o : Obj} {off : Nat} {vs : List Value} (hn : φ[n]? = some (.loc b k))
    (ho : ObjRel (envOf N0 φ (w.setCells b off vs)) o (.loc b k)) : Conc N0 w0 nt (σ.setH n o) φ a (w.setCells b off vs) := by
  obtain ⟨h1, h2, h3, h4, h5, h5', h6⟩ := setCells_heap (b := b) vs off w
  have hext := h.ext_write off vs hn
  exact {
    slots := fun d => Rep.mono hext _ _ (h.slots d) (fun _ _ => trivial)
    size := h.size
    defers := h.defers
    len := by simp [St.setH, setO_eq, h.len]
    objs := fun m o' p hm hp => by
      simp only [St.setH] at hm
      rw [setO_eq, nthO_eq, List.getElem?_set] at hm
      split at hm
      · rename_i e
        subst e
        split at hm
        · simp at hm; subst hm
          rw [hn] at hp
          simp at hp
          subst hp
          exact ho
        · simp at hm
      · rename_i e
        refine ObjRel.mono hext (h.objs m o' p (by rw [nthO_eq]; exact hm) hp) (fun c k' hc cc ee fr hh => ?_) (fun _ _ _ _ => trivial)
        subst hc
        have hcb : c ≠ b := fun e' => e (h.inj n m b k k' hn (by rw [← e']; exact hp))
        show (w.setCells b off vs).heap[c]? = _
        rw [h2 c hcb]; exact hh
    own := fun m c k' hm => ⟨(h.own m c k' hm).1, by rw [h1]; exact (h.own m c k' hm).2⟩
    inj := h.inj
    n0 := h.n0
    fixd := h.fixd
    below := {
      os := h3.trans h.below.os
      tape := h4.trans h.below.tape
      output := h5.trans h.below.output
      drawn := fun hd => by rw [h5']; exact h.below.drawn hd
      size := by rw [h1]; exact h.below.size
      block := fun c hc hM => by
        rw [h2 c (fun e => by
          subst e
          rcases (h.own n c k hn).1 with h' | h'
          · omega
          · exact hM h')]
        exact h.below.block c hc hM
      shape := fun c cc e fr hcc => by
        obtain ⟨c', fr', g1, g2⟩ := h.below.shape c cc e fr hcc
        by_cases hcb : c = b
        · subst hcb
          obtain ⟨cc', hc', hs'⟩ := h6 c' e fr' g1
          exact ⟨cc', fr', hc', hs'.trans g2⟩
        · exact ⟨c', fr', by rw [h2 c hcb]; exact g1, g2⟩ } }
end
end Go.Abs
namespace Go.Abs
open Go.RowKit
section
variable {P : Program} {N0 : Nat → Prop} {w0 : Base} {nt : Nat} {σ : St} {φ : List Own} {a : Act} {w : World}
theorem heap_alloc_new (w : World) (o : Go.Obj) : (w.alloc o).heap[w.heap.size]? = some o := by
  show (w.heap.push o)[w.heap.size]? = some o
  simp
theorem rangeAt_alloc {w : World} {vs : List Value} {e : TypeId} {fr : Nat × Nat} {c : Array Value} (h : ∀ (j : Nat) (v : Value), vs[j]? = some v → c[j]? = some v) : (w.alloc (.cells c e fr)).rangeAt w.heap.size 0 vs := fun j v hv => by
  have := h j v hv
  simp only [World.cell?, heap_alloc_new, Nat.zero_add]
  simpa using this
theorem strideOf_of {k : Nat} {E : Env} : ∀ {es : List A} {vs : List Value}, RowRel E k es vs → es ≠ [] → strideOf es = k
  | [], _, _, h => absurd rfl h
  | e :: es, vs, h, _ => by simp only [RowRel] at h; exact h.1
theorem fillE_sound (h : Conc N0 w0 nt σ φ a w) {k : Nat} : ∀ (ps : List (Nat × Operand)) (es es' : List A) (vs : List Value), RowRel (envOf N0 φ w) k es vs → (∀ u ∈ vs, u.oneCell' = true) → A.pure.pureL es = true → fillE k σ ps es = some es' →
      ∃ vs', Instr.fill (fun i => some (i * k, k)) vs.toArray (ps.map fun p => (p.1, a.eval p.2)) = some vs'.toArray ∧ RowRel (envOf N0 φ w) k es' vs' ∧ (∀ u ∈ vs', u.oneCell' = true) ∧ A.pure.pureL es' = true
  | [], es, es', vs, hr, h1, hp, hf => by
    simp [fillE] at hf
    subst hf
    exact ⟨vs, rfl, hr, h1, hp⟩
  | (i, x) :: ps, es, es', vs, hr, h1, hp, hf => by
    simp only [fillE] at hf
    split at hf
    · rename_i hc
      obtain ⟨c1, c2, c3, c4⟩ := hc
      have hx := h.ev x
      obtain ⟨r1, r2, r3⟩ := Rep_cells hx c3
      have hv : (a.eval x).cells.size = k := by rw [r3, c1]
      have hn : (σ.ev x).norm.cells.length = k := by rw [norm_cells, List.length_map, c1]
      have hL : RepL (envOf N0 φ w) (σ.ev x).norm.cells (a.eval x).cells.toList := by rw [norm_cells]; exact repL_norm0 r1
      have hlen := hr.length
      have hle : i * k + k ≤ vs.length := by
        rw [hlen]
        calc i * k + k = (i + 1) * k := by rw [Nat.add_mul, Nat.one_mul]
          _ ≤ es.length * k := Nat.mul_le_mul_right k c2
      have hset := RowRel.set hn hL c2 hr
      rw [setNth_eq] at hf
      obtain ⟨vs', hfill, hr', h1', hp'⟩ := fillE_sound h ps _ es' _ hset (fun u hu => by
        simp only [List.mem_append] at hu
        rcases hu with (hu | hu) | hu
        · exact h1 u (List.mem_of_mem_take hu)
        · exact r2 u hu
        · exact h1 u (List.mem_of_mem_drop hu)) (pureL_of fun j e he => by
          rw [List.getElem?_set] at he
          split at he
          · first
              | (simp at he; subst he; exact pure_norm c4)
              | (split at he
                 · simp at he; subst he; exact pure_norm c4
                 · simp at he)
          · exact pureL_getElem hp he) hf
      refine ⟨vs', ?_, hr', h1', hp'⟩
      rw [List.map_cons, fill_one rfl hv hle]
      exact hfill
    · simp at hf
theorem good_buildSlice (h : Conc N0 w0 nt σ φ a w) {d : Option Tmp} {s len : Nat} {ps : Array (Nat × Operand)} {t : TypeId} {p : String} {af : Array Edge} {g : Option (Nat × Bool)} {r : A}
    (hr : buildSliceA P s len σ ps.toList = some r) : Good P ⟨d, .buildSlice s len ps, t, p, af, g⟩ a w N0 φ r := by
  unfold buildSliceA at hr
  split at hr
  · rename_i e he
    split at hr
    · rename_i k z hk hz
      split at hr
      · rename_i hc
        obtain ⟨hsz, hk0, hpz, hvz, hcz⟩ := hc
        cases hf : fillE k σ ps.toList (List.replicate len z.norm) with
        | none => simp [hf] at hr
        | some es =>
          simp [hf] at hr
          subst hr
          obtain ⟨zv, hzr, hzrep⟩ := zeroA_eq (w := w) hz
          obtain ⟨r1, r2, r3⟩ := Rep_cells (hzrep (envOf N0 φ w)) hvz
          have hzk : zv.cells.size = k := by rw [r3, hcz]
          have hr0 : RowRel (envOf N0 φ w) k (List.replicate len z.norm) (List.replicate len zv.cells.toList).flatten :=
            RowRel.replicate (by rw [norm_cells, List.length_map, hcz]) (by rw [norm_cells]; exact repL_norm0 r1) len
          obtain ⟨vs, hfill, hrow, hone, hpure⟩ := fillE_sound h ps.toList _ es _ hr0 (fun u hu => by
            obtain ⟨l, hl, hul⟩ := List.mem_flatten.1 hu
            rw [List.eq_of_mem_replicate hl] at hul
            exact r2 u hul) (pureL_of fun i x hx => by
              have := List.eq_of_mem_replicate (List.mem_of_getElem? hx)
              subst this
              exact pure_norm hpz) hf
          have hlen : es.length = len := by
            have : ∀ (ps : List (Nat × Operand)) (es es' : List A), fillE k σ ps es = some es' → es'.length = es.length := by
              intro ps
              induction ps with
              | nil => intro es es' h; simp [fillE] at h; rw [h]
              | cons q qs ih =>
                intro es es' h
                obtain ⟨i, x⟩ := q
                simp only [fillE] at h
                split at h
                · have := ih _ _ h; rw [this, setNth_eq, List.length_set]
                · simp at h
            have := this _ _ _ hf
            simpa using this
          let w' := w.alloc (.cells vs.toArray e)
          have hg : Grew w w' := Grew.alloc w _
          refine ⟨.slice (some ⟨w.heap.size, 0, none⟩) len len, w', ?_, hg, ?_⟩
          · have hnt : ¬ (len * k > 2 ^ 24) := by omega
            refine run_v (P := P) ?_
            simp only [Instr.buildSlice, Sem.run_bind, run_underlying (tyElem_eq he), Result.andThen_ok, run_sizeOf hk, if_neg hnt]
            have hmap : (Array.map (fun x => (x.fst, a.eval x.snd)) ps).toList = ps.toList.map fun p => (p.1, a.eval p.2) := by simp
            rw [hmap]
            have last : ∀ cells : Array Value, cells = (List.replicate len zv.cells.toList).flatten.toArray →
                (match Instr.fill (fun i => some (i * k, k)) cells (ps.toList.map fun p => (p.1, a.eval p.2)) with
                  | some cells => (do
                    let __do_lift ← newRow e cells
                    pure (Value.slice (some __do_lift) len len))
                  | _ => stuck "buildSlice: a part of the wrong size" : Sem Value).run P w = .ok (.slice (some ⟨w.heap.size, 0, none⟩) len len) w' := by
              rintro cells rfl
              rw [hfill]
              simp only [newRow, Sem.run_bind, run_newObj, Sem.run_pure, Result.andThen_ok]
              rfl
            split
            · rename_i h0
              simp only [Sem.run_bind, Sem.run_pure, Result.andThen_ok]
              refine last _ ?_
              rw [h0]
              rcases Nat.mul_eq_zero.1 h0 with h0 | h0
              · subst h0; simp
              · exact absurd h0 hk0
            · simp only [Sem.run_bind, hzr, Sem.run_pure, Result.andThen_ok]
              refine last _ ?_
              apply Array.ext'
              simp only [Array.toList_map, Array.toList_range]
              have := zeros_eq (z := zv.cells) len
              rw [hzk] at this
              rw [hzk]
              exact this
          · simp only [Rep]
            refine ⟨hpure, some ⟨w.heap.size, 0, none⟩, by rw [hlen], fun hne => ⟨w.heap.size, 0, rfl, by simp [w', envOf], ?_, ?_⟩⟩
            · rintro (h0 | ⟨n, kk, hn⟩)
              · have := (h.n0 _ h0).1
                have := h.below.size
                omega
              · have := (h.own n _ kk hn).2
                omega
            · have hrow' : RowRel (envOf N0 φ w') k es vs := RowRel.mono (fun x v hx hr => h.rep_grew hg hr) hpure hrow
              rw [strideOf_of hrow' hne]
              exact RowRel.mem hrow' (rangeAt_alloc (fun j v hv => by simpa using hv)) hone
      · simp at hr
    · simp at hr
  · simp at hr
theorem evalR_sound (h : Conc N0 w0 nt σ φ a w) {d : Option Tmp} {op : Op} {t : TypeId} {p : String} {af : Array Edge} {g : Option (Nat × Bool)} {r : A}
    (hr : evalR P σ op = some r) : Good P ⟨d, op, t, p, af, g⟩ a w N0 φ r := by
  unfold evalR at hr
  split at hr
  · obtain rfl := Option.some.inj hr; exact good_move h
  · obtain rfl := Option.some.inj hr; exact good_assign h
  · exact good_pick h hr
  · exact good_build h hr
  · exact good_buildSlice h hr
  · exact good_load h hr
  · exact good_nilCheck h hr
  · exact good_binOp h hr
  · exact good_unOp h hr
  · exact good_convert h hr
  · exact good_makeFunc h hr
  · split at hr
    · rename_i hc
      exact good_slice h hc.1 hc.2.1 hc.2.2 hr
    · simp at hr
  · exact good_fieldAddr h hr
  · exact good_field h hr
  · exact good_indexAddr h hr
  · exact good_index h hr
  · exact good_extract h hr
  · exact good_len h hr
  · exact good_min h hr
  · exact good_max h hr
  · simp at hr
def GoodW (P : Program) (o : Oper) (a : Act) (w : World) (N0 : Nat → Prop) (w0 : Base) (nt : Nat) (φ : List Own) (n : Nat) (σ' : St) : Prop :=
  ∃ v w' φ', ((Go.execOp a.eval o).run P w = .ok (.value v) w' ∨ ((Go.execOp a.eval o).run P w = .ok .skip w' ∧ v = undef)) ∧ Conc N0 w0 nt σ' φ' (a.put o.dst v) w' ∧ ∀ m, m ≠ n → φ[m]? = some .free → φ'[m]? = some .free
theorem goodW_of_good (h : Conc N0 w0 nt σ φ a w) {o : Oper} (hd : ∀ t, o.dst = some t → t < nt) {x : A} (hg : Good P o a w N0 φ x) {n : Nat} : GoodW P o a w N0 w0 nt φ n (σ.put o.dst x) := by
  obtain ⟨v, w', hr, hgr, hrep⟩ := hg
  exact ⟨v, w', φ, .inl hr, (h.grew hgr).put hd hrep, fun _ _ h => h⟩
theorem unfrozen_plain {k : Nat} (c : Array Value) : Unfrozen k c (0, 0) := ⟨fun j _ h => by simp at h, fun _ h => by simp at h⟩
theorem goodW_box (h : Conc N0 w0 nt σ φ a w) {o : Oper} (hd : ∀ t, o.dst = some t → t < nt) {n : Nat} (hfree : φ[n]? = some .free) {x : A} {v : Value} {e : TypeId} {σ' : St} (hx : Rep (envOf N0 φ w) x v)
    (hrun : (Go.execOp a.eval o).run P w = .ok (.value (.pointer (some ⟨w.heap.size, 0, none⟩))) (w.alloc (.cells v.cells e)))
    (hr : boxA σ n o.dst x = some σ') : GoodW P o a w N0 w0 nt φ n σ' := by
  unfold boxA at hr
  split at hr
  · rename_i hv
    obtain rfl := Option.some.inj hr
    obtain ⟨r1, r2, r3⟩ := Rep_cells hx hv
    have hn : n < φ.length := (List.getElem?_eq_some_iff.1 hfree).1
    have hnew := h.newObj (k := 0) (o := .box x.cells) (w' := w.alloc (.cells v.cells e)) hfree (Grew.alloc w _) (Nat.le_refl w.heap.size) (by simp) (by
      simp only [ObjRel]
      refine ⟨⟨v.cells, e, (0, 0), heap_alloc_new w _, unfrozen_plain _⟩, RepM_of_vals (vs := v.cells.toList) (rangeAt_alloc fun j u hu => by simpa using hu) ?_ r2⟩
      obtain ⟨g1, g2⟩ := RepL_iff.1 r1
      refine RepL_iff.2 ⟨g1, fun i y u hy hu => ?_⟩
      have hext := h.ext_new (k := 0) hfree (Grew.alloc w (.cells v.cells e)) (Nat.le_refl _)
      exact Rep.mono hext y u (g2 i y u hy hu) (fun _ _ => trivial))
    refine ⟨_, _, _, .inl hrun, hnew.put hd ?_, fun m hm hf => by rw [List.getElem?_set_ne (Ne.symm hm)]; exact hf⟩
    simp only [Rep]
    exact ⟨w.heap.size, 0, by show (φ.set n _)[n]? = _; simp [hn], rfl⟩
  · simp at hr
end
end Go.Abs
namespace Go.Abs
open Go.RowKit
section
variable {P : Program} {N0 : Nat → Prop} {w0 : Base} {nt : Nat} {σ : St} {φ : List Own} {a : Act} {w : World}
theorem goodW_boxOp (h : Conc N0 w0 nt σ φ a w) {d : Option Tmp} {e : TypeId} {x : Operand} {t : TypeId} {p : String} {af : Array Edge} {g : Option (Nat × Bool)} (hd : ∀ t, d = some t → t < nt) {n : Nat} (hfree : φ[n]? = some .free) {σ' : St}
    (hr : boxA σ n d (σ.ev x) = some σ') : GoodW P ⟨d, .box e x, t, p, af, g⟩ a w N0 w0 nt φ n σ' :=
  goodW_box (o := ⟨d, .box e x, t, p, af, g⟩) h hd hfree (h.ev x) (run_v (by simp [Instr.box, newVar, newRow]; rfl)) hr
theorem goodW_alloc (h : Conc N0 w0 nt σ φ a w) {d : Option Tmp} {e : TypeId} {t : TypeId} {p : String} {af : Array Edge} {g : Option (Nat × Bool)} (hd : ∀ t, d = some t → t < nt) {n : Nat} (hfree : φ[n]? = some .free) {σ' : St}
    (hr : allocA σ n d (zeroA P e) = some σ') : GoodW P ⟨d, .alloc e, t, p, af, g⟩ a w N0 w0 nt φ n σ' := by
  cases hz : zeroA P e with
  | none => simp [hz, allocA] at hr
  | some z =>
    rw [hz] at hr
    simp only [allocA] at hr
    obtain ⟨zv, hzr, hzrep⟩ := zeroA_eq (w := w) hz
    refine goodW_box (o := ⟨d, .alloc e, t, p, af, g⟩) (e := e) h hd hfree (hzrep _) (run_v ?_) hr
    simp only [Instr.alloc, Sem.run_bind, hzr, Result.andThen_ok, newVar, newRow, run_newObj, Sem.run_pure]
    rfl
theorem run_storeAt {t : TypeId} {v : Value} {b off : Nat} (hsz : tySize P t = some v.cells.size) (ht : w.there b off v.cells.size) (h1 : ∀ u ∈ v.cells.toList, u.oneCell' = true) :
    (Instr.storeAt t (.pointer (some ⟨b, off, none⟩)) v).run P w = .ok () (w.setCells b off v.cells.toList) := by
  have := run_storeCells_cells (P := P) b off v.cells.toList 0 w (fun j hj => by simpa using (ht j (by simpa using hj)).1) (fun j hj => by simpa using (ht j (by simpa using hj)).2) h1
  simp only [Nat.add_zero] at this
  simp [Instr.storeAt, Instr.sureAddr, storeVar, run_sizeOf hsz, this]
theorem there_of {k b off n : Nat} {c : Array Value} {e : TypeId} {fr : Nat × Nat} (hb : w.heap[b]? = some (.cells c e fr)) (hf : Unfrozen k c fr) (hl : off + n ≤ c.size) : w.there b off n := fun j hj => by
  have hlt : off + j < c.size := by omega
  refine ⟨by simp [World.cell?, hb, hlt], ?_⟩
  simp only [World.frozen?, hb]
  have := hf.1 (off + j) hlt
  simpa using this
theorem setCells_cell {b off : Nat} {vs : List Value} (ht : w.there b off vs.length) (o : Nat) : (w.setCells b off vs).cell? ⟨b, o, none⟩ = if off ≤ o ∧ o < off + vs.length then vs[o - off]? else w.cell? ⟨b, o, none⟩ := by
  split
  · rename_i hc
    have := World.cell?_setCells_in b vs off w (fun j hj => (ht j hj).1) (o - off) (by omega)
    rw [show off + (o - off) = o by omega] at this
    rw [this, List.getElem?_eq_getElem (by omega)]
  · rename_i hc
    exact World.cell?_setCells_out b vs off w ⟨b, o, none⟩ (fun _ _ => by
      show o < off ∨ off + vs.length ≤ o
      omega)
theorem repM_splice {E E' : Env} (hext : ∀ x v, Rep E x v → Rep E' x v) {b off : Nat} {vs : List Value} {cs ys : List A} {base : Nat} (hw : E'.w = E.w.setCells b (base + off) vs) (ht : E.w.there b (base + off) vs.length) (hm : RepM E b base cs) (hL : RepL E ys vs) (hone : ∀ u ∈ vs, u.oneCell' = true)
    (hle : off + ys.length ≤ cs.length) : RepM E' b base (spliceA cs off ys) := by
  obtain ⟨g1, g2⟩ := RepL_iff.1 hL
  refine RepM_iff.2 fun i x hx => ?_
  rw [hw, setCells_cell ht]
  unfold spliceA at hx
  by_cases h1 : i < off
  · rw [List.append_assoc, List.getElem?_append_left (by simp; omega), List.getElem?_take, if_pos h1] at hx
    rw [if_neg (by omega)]
    obtain ⟨v, hv, h2, hr⟩ := RepM_iff.1 hm i x hx
    exact ⟨v, hv, h2, hext x v hr⟩
  · by_cases h2 : i < off + ys.length
    · rw [List.append_assoc, List.getElem?_append_right (by simp; omega), List.getElem?_append_left (by simp; omega)] at hx
      have hlen : (cs.take off).length = off := by simp; omega
      rw [hlen] at hx
      rw [if_pos (by omega)]
      have hlt : i - off < vs.length := by omega
      refine ⟨vs[i - off], ?_, hone _ (List.getElem_mem _), hext _ _ (g2 (i - off) x _ hx (List.getElem?_eq_getElem hlt))⟩
      rw [show base + i - (base + off) = i - off by omega, List.getElem?_eq_getElem hlt]
    · rw [List.getElem?_append_right (by simp; omega), List.getElem?_drop] at hx
      have hlen : (cs.take off ++ ys).length = off + ys.length := by simp; omega
      rw [hlen, show off + ys.length + (i - (off + ys.length)) = i by omega] at hx
      rw [if_neg (by omega)]
      obtain ⟨v, hv, h3, hr⟩ := RepM_iff.1 hm i x hx
      exact ⟨v, hv, h3, hext x v hr⟩
theorem repM_size' {E : Env} {b base : Nat} {c : Array Value} {e : TypeId} {fr : Nat × Nat} {cs : List A} (hb : E.w.heap[b]? = some (.cells c e fr)) (hm : RepM E b base cs) : base + cs.length ≤ c.size ∨ cs = [] := by
  cases hcs : cs with
  | nil => exact .inr rfl
  | cons y ys =>
    left
    have hlt : cs.length - 1 < cs.length := by rw [hcs]; simp
    obtain ⟨v, hv, _⟩ := RepM_iff.1 hm (cs.length - 1) _ (List.getElem?_eq_getElem hlt)
    simp only [World.cell?, hb] at hv
    have : base + (cs.length - 1) < c.size := by
      rcases Nat.lt_or_ge (base + (cs.length - 1)) c.size with h | h
      · exact h
      · simp [Array.getElem?_eq_none h] at hv
    rw [← hcs]
    omega
theorem goodW_store (h : Conc N0 w0 nt σ φ a w) {d : Option Tmp} {s : TypeId} {x y : Operand} {t : TypeId} {p : String} {af : Array Edge} {g : Option (Nat × Bool)} (hd : ∀ t, d = some t → t < nt) {n : Nat} {σ' : St}
    (hr : storeA σ d (tySize P s) (σ.ev x) (σ.ev y) = some σ') : GoodW P ⟨d, .store s x y, t, p, af, g⟩ a w N0 w0 nt φ n σ' := by
  have hx := h.ev x
  have hy := h.ev y
  cases hc : σ.ev x <;> simp only [hc, storeA] at hr <;> try (simp at hr; done)
  · rename_i n off
    rw [hc] at hx
    simp only [Rep] at hx
    obtain ⟨b, k, hφ, hv⟩ := hx
    split at hr
    · rename_i cs ho
      split at hr
      · rename_i hcond
        obtain ⟨c1, c2, c3⟩ := hcond
        obtain rfl := Option.some.inj hr
        obtain ⟨r1, r2, r3⟩ := Rep_cells hy c3
        have hob := h.objs n _ _ ho hφ
        simp only [ObjRel] at hob
        obtain ⟨⟨c, e, fr, hb, hf⟩, hm⟩ := hob
        have hsz : cs.length ≤ c.size := by
          rcases repM_size' hb hm with h | h
          · omega
          · subst h; simp
        have ht : w.there b off (a.eval y).cells.size := there_of hb hf (by omega)
        have ht' : w.there b (0 + off) (a.eval y).cells.toList.length := by simpa using ht
        obtain ⟨cc', hcc', hss'⟩ := (setCells_heap (b := b) (a.eval y).cells.toList off w).2.2.2.2.2.2 c e fr hb
        have hext := h.ext_write off (a.eval y).cells.toList hφ
        have hw := h.write (o := .box (spliceA cs off (σ.ev y).cells)) (off := off) (vs := (a.eval y).cells.toList) hφ (by
          simp only [ObjRel]
          exact ⟨⟨cc', e, fr, hcc', fun j hj => hf.1 j (by omega), fun hk hh => hf.2 hk (by omega)⟩, repM_splice (fun x v hr => Rep.mono hext x v hr (fun _ _ => trivial)) (by simp [envOf]) ht' hm r1 r2 c2⟩)
        refine ⟨undef, _, φ, .inr ⟨?_, rfl⟩, hw.put hd (rep_undef _), fun _ _ h => h⟩
        refine run_u (s := Instr.storeAt s (a.eval x) (a.eval y)) ?_
        rw [hv]
        exact run_storeAt (by rw [r3]; exact c1) ht r2
      · simp at hr
    · simp at hr
  · rename_i n i off
    rw [hc] at hx
    simp only [Rep] at hx
    obtain ⟨b, k, hφ, hv⟩ := hx
    split at hr
    · rename_i k' es ho
      cases hi : es[i]? with
      | none => simp [hi] at hr
      | some e =>
        simp only [hi, Option.bind_some] at hr
        split at hr
        · rename_i hcond
          obtain ⟨c1, c2, c0, c3, c4⟩ := hcond
          obtain rfl := Option.some.inj hr
          obtain ⟨r1, r2, r3⟩ := Rep_cells hy c3
          have hob := h.objs n _ _ ho hφ
          simp only [ObjRel] at hob
          obtain ⟨rfl, hp, ⟨c, ee, fr, hb, hf⟩, hE⟩ := hob
          obtain ⟨hlen, hm⟩ := RepE_iff.1 hE i e hi
          rw [Nat.zero_add] at hm
          have hsz : i * k' + e.cells.length ≤ c.size := by
            rcases repM_size' hb hm with h | h
            · exact h
            · exfalso
              have h' : (σ.ev y).cells.length ≤ e.cells.length := by omega
              rw [h] at h'
              exact c0 (by simpa using h')
          have hb' : w.heap[b]? = some (.cells c ee fr) := hb
          have ht : w.there b (i * k' + off) (a.eval y).cells.size := there_of hb' hf (by omega)
          have ht' : w.there b (i * k' + off) (a.eval y).cells.toList.length := by simpa using ht
          obtain ⟨cc', hcc', hss'⟩ := (setCells_heap (b := b) (a.eval y).cells.toList (i * k' + off) w).2.2.2.2.2.2 c ee fr hb
          have hext := h.ext_write (i * k' + off) (a.eval y).cells.toList hφ
          have r1' : RepL (envOf N0 φ w) (σ.ev y).norm.cells (a.eval y).cells.toList := by rw [norm_cells]; exact repL_norm0 r1
          have hnl : (σ.ev y).norm.cells.length = (σ.ev y).cells.length := by rw [norm_cells, List.length_map]
          have hpe := pureL_getElem hp hi
          have hse : (storeE e off (σ.ev y)).cells = spliceA e.cells off (σ.ev y).norm.cells ∧ (storeE e off (σ.ev y)).pure = true := by
            cases e
            case agg cs =>
              simp only [storeE, A.cells, true_and, A.pure]
              refine pureL_of fun j z hz => ?_
              unfold spliceA at hz
              have hmem := List.mem_of_getElem? hz
              simp only [List.mem_append] at hmem
              have hpcs : A.pure.pureL cs = true := by simpa only [A.pure] using hpe
              have hpy := pure_cells (pure_norm c4)
              rcases hmem with (hm' | hm') | hm'
              · obtain ⟨q, hq⟩ := List.getElem?_of_mem (List.mem_of_mem_take hm'); exact pureL_getElem hpcs hq
              · obtain ⟨q, hq⟩ := List.getElem?_of_mem hm'; exact pureL_getElem hpy hq
              · obtain ⟨q, hq⟩ := List.getElem?_of_mem (List.mem_of_mem_drop hm'); exact pureL_getElem hpcs hq
            all_goals
              refine ⟨?_, pure_norm c4⟩
              have c2' : off + (σ.ev y).cells.length ≤ 1 := c2
              have e0 : off = 0 := by omega
              have e1 : (σ.ev y).norm.cells.length = 1 := by omega
              subst e0
              show (σ.ev y).norm.cells = List.take 0 _ ++ (σ.ev y).norm.cells ++ List.drop (0 + (σ.ev y).norm.cells.length) [_]
              rw [List.drop_of_length_le (by simp; omega)]
              simp
          have hw := h.write (o := .row k' (setNth es i (storeE e off (σ.ev y)))) (off := i * k' + off) (vs := (a.eval y).cells.toList) hφ (by
            simp only [ObjRel]
            refine ⟨trivial, ?_, ⟨cc', ee, fr, hcc', fun j hj => hf.1 j (by omega), fun hk hh => hf.2 hk (by omega)⟩, ?_⟩
            · rw [setNth_eq]
              refine pureL_of fun j z hz => ?_
              rw [List.getElem?_set] at hz
              split at hz
              · first
                  | (simp at hz; subst hz; exact hse.2)
                  | (split at hz
                     · simp at hz; subst hz; exact hse.2
                     · simp at hz)
              · exact pureL_getElem hp hz
            · rw [setNth_eq]
              refine RepE_iff.2 fun j z hz => ?_
              rw [List.getElem?_set] at hz
              by_cases hji : i = j
              · subst hji
                have hz' : z = storeE e off (σ.ev y) := by
                  have hlt := (List.getElem?_eq_some_iff.1 hi).1
                  simp [hlt] at hz
                  exact hz.symm
                subst hz'
                rw [hse.1, Nat.zero_add]
                refine ⟨by unfold spliceA; simp; omega, ?_⟩
                exact repM_splice (fun x v hr => Rep.mono hext x v hr (fun _ _ => trivial)) rfl ht' hm r1' r2 (by omega)
              · rw [if_neg hji] at hz
                obtain ⟨hl, hmm⟩ := RepE_iff.1 hE j z hz
                refine ⟨hl, RepM_iff.2 fun q u hu => ?_⟩
                obtain ⟨v, hv', h1, hrr⟩ := RepM_iff.1 hmm q u hu
                refine ⟨v, ?_, h1, Rep.mono hext u v hrr (fun _ _ => trivial)⟩
                show (w.setCells b (i * k' + off) (a.eval y).cells.toList).cell? _ = _
                have hq : q < k' := by rw [← hl]; exact (List.getElem?_eq_some_iff.1 hu).1
                have hlen' : (a.eval y).cells.toList.length = (σ.ev y).cells.length := by simpa using r3
                rw [setCells_cell ht', if_neg]
                · exact hv'
                · rintro ⟨q1, q2⟩
                  rw [hlen'] at q2
                  rcases Nat.lt_or_gt_of_ne hji with hlt | hgt
                  · have : (i + 1) * k' ≤ j * k' := Nat.mul_le_mul_right k' hlt
                    rw [Nat.add_mul, Nat.one_mul] at this
                    omega
                  · have : (j + 1) * k' ≤ i * k' := Nat.mul_le_mul_right k' hgt
                    rw [Nat.add_mul, Nat.one_mul] at this
                    omega)
          refine ⟨undef, _, φ, .inr ⟨?_, rfl⟩, hw.put hd (rep_undef _), fun _ _ h => h⟩
          refine run_u (s := Instr.storeAt s (a.eval x) (a.eval y)) ?_
          rw [hv]
          exact run_storeAt (by rw [r3]; exact c1) ht r2
        · simp at hr
    · simp at hr
end
end Go.Abs
namespace Go.Abs
open Go.RowKit
section
variable {P : Program} {N0 : Nat → Prop} {w0 : Base} {nt : Nat} {σ : St} {φ : List Own} {a : Act} {w : World}
theorem look_map (n : Nat) : ∀ (s : List (Nat × A)) (d : Nat), look (s.map fun p => (p.1, scrubA n p.2)) d = scrubA n (look s d)
  | [], d => by simp [look, scrubA, A.mem]
  | (i, v) :: s, d => by
    simp only [List.map_cons, look]
    split
    · rfl
    · exact look_map n s d
theorem scrubA_mem (n : Nat) (x : A) : (scrubA n x).mem n = false := by
  unfold scrubA
  split
  · rfl
  · rename_i h; simpa using h
theorem rep_scrub {E : Env} {n : Nat} {x : A} {v : Value} (h : Rep E x v) : Rep E (scrubA n x) v := by
  unfold scrubA
  split
  · simp only [Rep]
  · exact h
theorem memL_scrub (n : Nat) : ∀ cs : List A, A.mem.memL n (cs.map (scrubA n)) = false
  | [] => rfl
  | c :: cs => by simp [A.mem.memL, scrubA_mem, memL_scrub n cs]
theorem nthO_map (f : Obj → Obj) (H : List Obj) (n : Nat) : nthO (H.map f) n = (nthO H n).map f := by
  simp [nthO_eq, List.getElem?_map]
def Clear (σ : St) (n : Nat) : Prop := (∀ d, (look σ.s d).mem n = false) ∧ ∀ (m : Nat) (cs : List A), nthO σ.H m = some (.box cs) → A.mem.memL n cs = false
theorem Conc.scrub (h : Conc N0 w0 nt σ φ a w) (n : Nat) : Conc N0 w0 nt (σ.scrub n) φ a w := by
  exact { h with
    slots := fun d => by
      show Rep _ (look (σ.s.map fun p => (p.1, scrubA n p.2)) d) _
      rw [look_map]
      exact rep_scrub (h.slots d)
    len := by simp [St.scrub, h.len]
    objs := fun m o p ho hp => by
      simp only [St.scrub] at ho
      rw [nthO_map] at ho
      cases hm : nthO σ.H m with
      | none => simp [hm] at ho
      | some o' =>
        simp [hm] at ho
        subst ho
        have hob := h.objs m o' p hm hp
        cases o' with
        | row k es => exact hob
        | box cs =>
          cases p with
          | loc b k =>
            simp only [scrubO, ObjRel] at hob ⊢
            refine ⟨hob.1, RepM_iff.2 fun i x hx => ?_⟩
            rw [List.getElem?_map] at hx
            cases hc : cs[i]? with
            | none => simp [hc] at hx
            | some c =>
              simp [hc] at hx
              subst hx
              obtain ⟨v, hv, h1, hr⟩ := RepM_iff.1 hob.2 i c hc
              exact ⟨v, hv, h1, rep_scrub hr⟩
          | nil => simp [ObjRel] at hob
          | free => simp [ObjRel] at hob
    size := h.size
    defers := h.defers }
theorem clear_scrub (σ : St) (n : Nat) : Clear (σ.scrub n) n := by
  refine ⟨fun d => ?_, fun m cs hm => ?_⟩
  · show (look (σ.s.map fun p => (p.1, scrubA n p.2)) d).mem n = false
    rw [look_map]; exact scrubA_mem n _
  · simp only [St.scrub] at hm
    rw [nthO_map] at hm
    cases ho : nthO σ.H m with
    | none => simp [ho] at hm
    | some o =>
      simp [ho] at hm
      cases o with
      | row k es => simp [scrubO] at hm
      | box ds => simp [scrubO] at hm; subst hm; exact memL_scrub n ds
theorem Conc.rehome (h : Conc N0 w0 nt σ φ a w) {n : Nat} (hfx : w0.fix n = false) (hcl : Clear σ n) (hn : n < φ.length) {p : Own} {o : Obj} {w' : World} (g : Grew w w')
    (hp : ∀ b k, p = Own.loc b k → w.heap.size ≤ b ∧ b < w'.heap.size)
    (ho : ∀ hext : Ext (fun m => m ≠ n) (envOf N0 φ w) (envOf N0 (φ.set n p) w'), ObjRel (envOf N0 (φ.set n p) w') o p) : Conc N0 w0 nt (σ.setH n o) (φ.set n p) a w' ∧ Ext (fun m => m ≠ n) (envOf N0 φ w) (envOf N0 (φ.set n p) w') := by
  have hset := set_get (φ := φ) (n := n) (p := p) hn
  have hext : Ext (fun m => m ≠ n) (envOf N0 φ w) (envOf N0 (φ.set n p) w') := {
    size := g.size
    blk := fun c hc hnc => ⟨by
      rintro (h0 | ⟨m, k', hm⟩)
      · exact hnc (.inl h0)
      · rw [hset] at hm
        split at hm
        · simp at hm
          have := (hp c k' hm).1
          have : c < w.heap.size := hc
          omega
        · exact hnc (.inr ⟨m, k', hm⟩), g.block c hc⟩
    refs := fun m q hmn hm _ => by
      show (φ.set n p)[m]? = some q
      rw [hset, if_neg (fun e => hmn e.symm)]; exact hm
    own := fun m c k' cc e fr _ hm hc => ⟨cc, fr, by
      show w'.heap[c]? = _
      rw [g.block c (h.own m c k' hm).2]; exact hc, rfl⟩ }
  refine ⟨{
    slots := fun d => Rep.mono hext _ _ (h.slots d) (fun m hm e => by
      subst e
      have hm' : A.mem m (look σ.s d) = true := hm
      rw [hcl.1 d] at hm'
      cases hm')
    size := h.size
    defers := h.defers
    len := by simp [St.setH, setO_eq, h.len]
    objs := fun m o' q hm hq => by
      rw [hset] at hq
      simp only [St.setH] at hm
      rw [setO_eq, nthO_eq, List.getElem?_set] at hm
      split at hq
      · rename_i e
        subst e
        simp at hq
        subst hq
        rw [if_pos rfl] at hm
        split at hm
        · simp at hm; subst hm; exact ho hext
        · simp at hm
      · rename_i e
        rw [if_neg e] at hm
        have hm' : nthO σ.H m = some o' := by rw [nthO_eq]; exact hm
        exact ObjRel.mono hext (h.objs m o' q hm' hq) (fun c k' hc cc ee fr hh => by
          subst hc
          show w'.heap[c]? = _
          rw [g.block c (h.own m c k' hq).2]; exact hh) (fun cs hcs m' hm'' e' => by
            subst hcs; subst e'
            rw [hcl.2 m cs hm'] at hm''
            cases hm'')
    own := fun m c k' hm => by
      rw [hset] at hm
      split at hm
      · simp at hm
        have := hp c k' hm
        exact ⟨.inl (Nat.le_trans h.below.size this.1), this.2⟩
      · exact ⟨(h.own m c k' hm).1, Nat.lt_of_lt_of_le (h.own m c k' hm).2 g.size⟩
    inj := fun m m' c k' k'' hm hm' => by
      rw [hset] at hm hm'
      split at hm <;> split at hm'
      · rename_i e1 e2; rw [← e1, ← e2]
      · simp at hm
        have := (hp c k' hm).1
        have := (h.own m' c k'' hm').2
        omega
      · simp at hm'
        have := (hp c k'' hm').1
        have := (h.own m c k' hm).2
        omega
      · exact h.inj m m' c k' k'' hm hm'
    n0 := h.n0
    fixd := fun m q hf hm hq => by
      rw [hset, if_neg (fun e => by subst e; rw [hfx] at hf; cases hf)]
      exact h.fixd m q hf hm hq
    below := g.below h.below }, hext⟩
end
end Go.Abs
namespace Go.Abs
open Go.RowKit
section
variable {P : Program} {N0 : Nat → Prop} {w0 : Base} {nt : Nat} {σ : St} {φ : List Own} {a : Act} {w : World}
theorem src_slice {E : Env} {tx e' : TypeId} (hk : P.underlying tx = some (.slice e')) {es : List A} {k : Nat} {q : Option Addr} {cap : Nat}
    (hr : es ≠ [] → ∃ b off, q = some ⟨b, off, none⟩ ∧ RepE E k b off es) : ∃ news, Src P k tx (.slice q es.length cap) es.length news E.w ∧ RowRel E k es news := by
  cases hes : es with
  | nil =>
    refine ⟨[], ?_, by simp [RowRel]⟩
    cases q with
    | none => exact Src.ofNil E.w hk cap
    | some q => exact Src.ofSlice E.w hk q 0 cap [] (by simp) (by simp) (by simp)
  | cons y ys =>
    rw [← hes]
    obtain ⟨b, off, rfl, hE⟩ := hr (by rw [hes]; simp)
    obtain ⟨vs, h1, h2, h3⟩ := RowRel.of_mem hE
    refine ⟨vs, Src.ofSlice E.w hk ⟨b, off, none⟩ es.length cap vs h1.length (fun j u hu => ?_) h3, h1⟩
    rw [Addr.add_lit]
    exact h2 j u hu
theorem bytes_row (E : Env) : ∀ s : List UInt8, RowRel E 1 (bytesA s) (s.map fun b => Value.int .u8 b.toNat)
  | [] => by simp [bytesA, RowRel]
  | c :: s => by
    simp only [bytesA, List.map_cons, RowRel]
    refine ⟨rfl, by simp, ?_, ?_⟩
    · simp [encU8, A.cells, RepL, Rep]
    · simpa [bytesA] using bytes_row E s
theorem bytes_pure : ∀ s : List UInt8, A.pure.pureL (bytesA s) = true
  | [] => rfl
  | c :: s => by simp only [bytesA, List.map_cons, A.pure.pureL, encU8, A.pure, Bool.true_and]; exact bytes_pure s
theorem src_sound (h : Conc N0 w0 nt σ φ a w) {e tx k : Nat} {x : Operand} {src : List A} (hs : srcE P σ e tx k (σ.ev x) = some src) :
    ∃ news, Src P k tx (a.eval x) src.length news w ∧ RowRel (envOf N0 φ w) k src news ∧ A.pure.pureL src = true := by
  have hx := h.ev x
  have strid : ∀ {es : List A}, strOK k es = true → es ≠ [] → strideOf es = k := fun {es} h1 h2 => by
    unfold strOK at h1
    cases es with
    | nil => exact absurd rfl h2
    | cons y ys => simpa using h1
  have hsl : ∀ {t : TypeId}, (tyElem P t).isSome = true → ∃ e', P.underlying t = some (.slice e') := fun {t} ht => by
    cases hq : tyElem P t with
    | none => simp [hq] at ht
    | some e' => exact ⟨e', tyElem_eq hq⟩
  cases hc : σ.ev x <;> simp only [hc, srcE] at hs <;> try (simp at hs; done)
  case str s =>
    split at hs
    · rename_i hcond
      obtain ⟨_, rfl, ht⟩ := hcond
      obtain rfl := Option.some.inj hs
      rw [hc] at hx
      simp only [Rep] at hx
      rw [hx]
      have := Src.ofString (P := P) w (tyStr_eq ht) ⟨s.toArray⟩
      refine ⟨byteCells ⟨s.toArray⟩, ?_, ?_, bytes_pure s⟩
      · simpa [bytesA, size_mk] using this
      · simpa [byteCells] using bytes_row (envOf N0 φ w) s
    · simp at hs
  case slc es =>
    split at hs
    · rename_i hcond
      obtain rfl := Option.some.inj hs
      obtain ⟨e', he'⟩ := hsl hcond.2
      rw [hc] at hx
      simp only [Rep] at hx
      obtain ⟨hp, q, cap, hv, hlc, hl⟩ := hx
      rw [hv]
      obtain ⟨news, h1, h2⟩ := src_slice (E := envOf N0 φ w) (k := k) (q := q) (cap := cap) he' (es := es) (fun hne => by
        obtain ⟨b, off, h1, _, _, h2⟩ := hl hne
        rw [strid hcond.1 hne] at h2
        exact ⟨b, off, h1, h2⟩)
      exact ⟨news, h1, h2, hp⟩
    · simp at hs
  case clip es =>
    split at hs
    · rename_i hcond
      obtain rfl := Option.some.inj hs
      obtain ⟨e', he'⟩ := hsl hcond.2
      rw [hc] at hx
      simp only [Rep] at hx
      obtain ⟨hp, q, hv, hl⟩ := hx
      rw [hv]
      obtain ⟨news, h1, h2⟩ := src_slice (E := envOf N0 φ w) (k := k) (q := q) (cap := es.length) he' (es := es) (fun hne => by
        obtain ⟨b, off, h1, _, _, h2⟩ := hl hne
        rw [strid hcond.1 hne] at h2
        exact ⟨b, off, h1, h2⟩)
      exact ⟨news, h1, h2, hp⟩
    · simp at hs
  case nils =>
    split at hs
    · rename_i hcond
      obtain rfl := Option.some.inj hs
      obtain ⟨e', he'⟩ := hsl hcond
      rw [hc] at hx
      simp only [Rep] at hx
      rw [hx]
      exact ⟨[], Src.ofNil w he' 0, by simp [RowRel], rfl⟩
    · simp at hs
  case emp c =>
    split at hs
    · rename_i hcond
      obtain rfl := Option.some.inj hs
      obtain ⟨e', he'⟩ := hsl hcond
      rw [hc] at hx
      simp only [Rep] at hx
      obtain ⟨q, cap, hv, _⟩ := hx
      rw [hv]
      obtain ⟨news, h1, h2⟩ := src_slice (E := envOf N0 φ w) (k := k) (q := q) (cap := cap) he' (es := []) (fun hne => absurd rfl hne)
      exact ⟨news, h1, h2, rfl⟩
    · simp at hs
  case row n off k' len cl =>
    split at hs
    · rename_i hcond
      obtain ⟨rfl, ht⟩ := hcond
      obtain ⟨e', he'⟩ := hsl ht
      unfold viewRow at hs
      split at hs
      · rename_i es hvr
        obtain rfl := Option.some.inj hs
        split at hvr
        · rename_i k'' fs ho
          split at hvr
          · rename_i hlen
            obtain ⟨rfl, hlen⟩ := hlen
            simp only [Option.some.injEq, A.slc.injEq] at hvr
            subst hvr
            rw [hc] at hx
            have hl : ((fs.drop off).take len).length = len := by simp; omega
            simp only [Rep] at hx
            rcases hx with ⟨o, hφ, hf, rfl, _, q, hv⟩ | ⟨b, cap, c', e'', fr, hφ, hv, hlc, _, hb, _⟩
            · rw [hv]
              obtain ⟨news, h1, h2⟩ := src_slice (E := envOf N0 φ w) (k := k'') (q := q) (cap := 0) he' (es := []) (fun hne => absurd rfl hne)
              exact ⟨news, by simpa [envOf] using h1, by simpa using h2, by simp [A.pure.pureL]⟩
            · have hob := h.objs n _ _ ho hφ
              simp only [ObjRel] at hob
              obtain ⟨_, hp, _, hE⟩ := hob
              have hE' := RepE_take (n := len) (RepE_drop (n := off) hE)
              have hp' := pureL_take (n := len) (pureL_drop (n := off) hp)
              rw [hv]
              obtain ⟨news, h1, h2⟩ := src_slice (E := envOf N0 φ w) (k := k'') (q := some ⟨b, off * k'', none⟩) (cap := cap) he' (es := (fs.drop off).take len) (fun _ => ⟨b, _, rfl, by simpa using hE'⟩)
              rw [hl] at h1
              exact ⟨news, by rw [hl]; exact h1, h2, hp'⟩
          · simp at hvr
        · simp at hvr
      · simp at hs
    · simp at hs
theorem grown_rel {E' : Env} {B k : Nat} {e : TypeId} {vs : List Value} {zs : Array Value} {es : List A} (hB : E'.w.heap[B]? = some (.cells (vs.toArray ++ zs) e (0, 0)))
    (hr : RowRel E' k es vs) (hone : ∀ u ∈ vs, u.oneCell' = true) (hp : A.pure.pureL es = true) : ObjRel E' (.row k es) (.loc B k) := by
  simp only [ObjRel]
  refine ⟨trivial, hp, ⟨_, e, (0, 0), hB, unfrozen_plain _⟩, RowRel.mem hr (fun j u hu => ?_) hone⟩
  have hlt := (List.getElem?_eq_some_iff.1 hu).1
  simp only [World.cell?, hB, Nat.zero_add]
  have := Array.getElem?_append_left (xs := vs.toArray) (ys := zs) (i := j) (by simpa using hlt)
  simp only [this]
  simpa using hu
structure AppTy (P : Program) (t e : TypeId) (k : Nat) (i : TypeInfo) (z : Value) : Prop where
  ty : P.underlying t = some (.slice e)
  info : P.info? e = some i
  size : i.size = k
  zero : i.zero = some z
  cells : z.cells.size = k
  pos : k ≠ 0
  bytes : i.bytes ≠ 0
theorem app_ty {t e : TypeId} {k : Nat} (he : tyElem P t = some e) (hk : tySize P e = some k) (h0 : k ≠ 0) (hb : tyBytes P e ≠ 0) (hz : zeroOK P e k = true) : ∃ i z, AppTy P t e k i z ∧ i.bytes = tyBytes P e := by
  have hty := tyElem_eq he
  unfold tySize at hk
  cases hi : P.info? e with
  | none => simp [hi] at hk
  | some i =>
    simp [hi] at hk
    unfold zeroOK at hz
    cases hzz : zeroA P e with
    | none => simp [hzz] at hz
    | some zz =>
      rw [hzz] at hz
      simp only [Bool.and_eq_true, beq_iff_eq] at hz
      have hz0 := hzz
      unfold zeroA at hz0
      simp only [hi, Option.bind_some] at hz0
      cases hiz : i.zero with
      | none => simp [hiz] at hz0
      | some z =>
        simp [hiz] at hz0
        have hrep := Rep_toA (envOf (fun _ => False) [] (default : World)) z
        rw [hz0] at hrep
        obtain ⟨_, _, h3⟩ := Rep_cells hrep hz.1
        have hbb : i.bytes = tyBytes P e := by simp [tyBytes, Program.bytesOf, hi]
        exact ⟨i, z, ⟨hty, hi, hk, hiz, by rw [h3]; exact hz.2, h0, by rw [hbb]; exact hb⟩, hbb⟩
theorem run_append2 {d : Option Tmp} {b x : Operand} {t tx ty : TypeId} {p : String} {af : Array Edge} {g : Option (Nat × Bool)} {v : Value} {w' : World}
    (h : (Builtin.append_ #[t, tx] ty #[a.eval b, a.eval x]).run P w = .ok v w') :
    (Go.execOp a.eval ⟨d, .call ⟨.builtin .append, ⟨[b, x]⟩, ⟨[t, tx]⟩⟩, ty, p, af, g⟩).run P w = .ok (.value v) w' := by
  obtain ⟨cs, hcs⟩ := run_builtin (P := P) (a := a) (w := w) (b := .append) (xs := [b, x]) (us := ⟨[t, tx]⟩) (d := d) (t := ty) (p := p) (af := af) (g := g)
  rw [hcs]
  exact run_v (s := Builtin.append_ #[t, tx] ty #[a.eval b, a.eval x]) h
end
end Go.Abs
namespace Go.Abs
open Go.RowKit
section
variable {P : Program} {N0 : Nat → Prop} {w0 : Base} {nt : Nat} {σ : St} {φ : List Own} {a : Act} {w : World}
theorem first0 {k cap : Nat} {q : Option Addr} : (Builtin.firstCells k 0 (.slice q 0 cap)).run P w = .ok (#[] : Array Value) w := by
  cases q with
  | none => exact run_firstCells_none w k 0 0 cap
  | some q =>
    have := run_firstCells_some (P := P) w k 0 q 0 cap [] (by simp) (by simp)
    simpa using this
theorem first_of {k len cap b off : Nat} {vs : List Value} (hl : vs.length = len * k) (hr : w.rangeAt b off vs) : (Builtin.firstCells k len (.slice (some ⟨b, off, none⟩) len cap)).run P w = .ok vs.toArray w :=
  run_firstCells_some w k len ⟨b, off, none⟩ len cap vs hl (fun j v hv => by rw [Addr.add_lit]; exact hr j v hv)
theorem app_grow {t e k tx ty : Nat} {i : TypeInfo} {z : Value} (hT : AppTy P t e k i z) {q : Option Addr} {sLen sCap n : Nat} {olds news : List Value} {x : Value}
    (hold : (Builtin.firstCells k sLen (.slice q sLen sCap)).run P w.drew = .ok olds.toArray w.drew) (hlo : olds.length = sLen * k) (hs : Src P k tx x n news w)
    (hg : sCap < sLen + n) (hby : (sLen + n) * i.bytes ≤ 140737488355328) :
    ∃ w' c zs, (Builtin.append_ #[t, tx] ty #[.slice q sLen sCap, x]).run P w = .ok (.slice (some ⟨w.heap.size, 0, none⟩) (sLen + n) c) w' ∧ Grew w w' ∧ w.heap.size < w'.heap.size ∧ sLen + n ≤ c ∧
      w'.heap[w.heap.size]? = some (.cells ((olds ++ news).toArray ++ zs) e (0, 0)) ∧ k * c ≤ ((olds ++ news).toArray ++ zs).size := by
  obtain ⟨h1, h2, rfl, h4, h5, h6, h7⟩ := hT
  have hb1 : 1 ≤ i.bytes := by omega
  have h63 : sLen + n ≤ 140737488355328 := Nat.le_trans (Nat.le_mul_of_pos_right _ hb1) hby
  have hge := grownCap_ge w (sLen + n) sCap e
  refine ⟨_, grownCap w (sLen + n) sCap e, Builtin.zeroCells z.cells (grownCap w (sLen + n) sCap e - (sLen + n)), run_append_grow_src (P := P) w t tx ty e i z h1 h2 h4 q sLen sCap olds hold x n news hs hg (by omega) (growslice_fits hg hby), ?_, ?_, hge, ?_, ?_⟩
  · exact (Grew.drew w).trans (Grew.alloc _ _)
  · simp
  · exact heap_alloc_new w.drew _
  · have hnl := hs.newsLen
    simp only [Array.size_append, List.size_toArray, List.length_append, hlo, hnl, size_zeroCells, h5]
    rw [← Nat.add_mul, ← Nat.add_mul, Nat.mul_comm]
    exact Nat.mul_le_mul_right _ (by omega)
theorem Conc.ext_nil (_h : Conc N0 w0 nt σ φ a w) {n : Nat} (hfree : φ[n]? = some .free) : Ext (fun _ => True) (envOf N0 φ w) (envOf N0 (φ.set n .nil) w) := by
  have hset := set_get (φ := φ) (n := n) (p := Own.nil) (List.getElem?_eq_some_iff.1 hfree).1
  exact {
    size := Nat.le_refl _
    blk := fun c hc hnc => ⟨by
      rintro (h0 | ⟨m, k', hm⟩)
      · exact hnc (.inl h0)
      · rw [hset] at hm
        split at hm
        · simp at hm
        · exact hnc (.inr ⟨m, k', hm⟩), rfl⟩
    refs := fun m p _ hm hp => by
      show (φ.set n Own.nil)[m]? = some p
      rw [hset]
      split
      · rename_i e; subst e
        have : φ[n]? = some p := hm
        rw [hfree] at this
        simp at this
        exact absurd this.symm hp
      · exact hm
    own := fun m c k' cc e fr _ hm hc => ⟨cc, fr, hc, rfl⟩ }
theorem Conc.newNil (h : Conc N0 w0 nt σ φ a w) {n k : Nat} (hfree : φ[n]? = some .free) : Conc N0 w0 nt (σ.setH n (.row k [])) (φ.set n .nil) a w := by
  have hset := set_get (φ := φ) (n := n) (p := Own.nil) (List.getElem?_eq_some_iff.1 hfree).1
  have hext := h.ext_nil hfree
  exact {
    slots := fun d => Rep.mono hext _ _ (h.slots d) (fun _ _ => trivial)
    size := h.size
    defers := h.defers
    len := by simp [St.setH, setO_eq, h.len]
    objs := fun m o' p hm hp => by
      rw [hset] at hp
      simp only [St.setH] at hm
      rw [setO_eq, nthO_eq, List.getElem?_set] at hm
      split at hp
      · rename_i e
        subst e
        simp at hp
        subst hp
        rw [if_pos rfl] at hm
        split at hm
        · simp at hm; subst hm; simp [ObjRel]
        · simp at hm
      · rename_i e
        rw [if_neg e] at hm
        exact ObjRel.mono hext (h.objs m o' p (by rw [nthO_eq]; exact hm) hp) (fun c k' hc cc ee fr hh => hh) (fun _ _ _ _ => trivial)
    own := fun m c k' hm => by
      rw [hset] at hm
      split at hm
      · simp at hm
      · exact h.own m c k' hm
    inj := fun m m' c k' k'' hm hm' => by
      rw [hset] at hm hm'
      split at hm <;> split at hm'
      · simp at hm
      · simp at hm
      · simp at hm'
      · exact h.inj m m' c k' k'' hm hm'
    n0 := h.n0
    fixd := fun m q hf hm hq => by
      have := h.fixd m q hf hm hq
      rw [hset]
      split
      · rename_i e; subst e; rw [hfree] at this; exact absurd (Option.some.inj this).symm hq
      · exact this
    below := h.below }
theorem Conc.setObj (h : Conc N0 w0 nt σ φ a w) {n : Nat} {o : Obj} (ho : ∀ p, φ[n]? = some p → ObjRel (envOf N0 φ w) o p) : Conc N0 w0 nt (σ.setH n o) φ a w :=
  { h with
    slots := h.slots
    len := by simp [St.setH, setO_eq, h.len]
    objs := fun m o' p hm hp => by
      simp only [St.setH] at hm
      rw [setO_eq, nthO_eq, List.getElem?_set] at hm
      split at hm
      · rename_i e
        subst e
        split at hm
        · simp at hm; subst hm; exact ho p hp
        · simp at hm
      · exact h.objs m o' p (by rw [nthO_eq]; exact hm) hp }
theorem app_new (h : Conc N0 w0 nt σ φ a w) {d : Option Tmp} {b x : Operand} {t tx ty : TypeId} {p : String} {af : Array Edge} {g : Option (Nat × Bool)} (hd : ∀ t, d = some t → t < nt) {n : Nat} (hfree : φ[n]? = some .free)
    {e k : Nat} {i : TypeInfo} {z : Value} (hT : AppTy P t e k i z) {q : Option Addr} {es src : List A} {news : List Value} (hbv : a.eval b = .slice q es.length es.length)
    (hes : es ≠ [] → ∃ B off, q = some ⟨B, off, none⟩ ∧ RepE (envOf N0 φ w) k B off es) (hpe : A.pure.pureL es = true) (hc : es = [] ∨ src ≠ [])
    (hs : Src P k tx (a.eval x) src.length news w) (hn : RowRel (envOf N0 φ w) k src news) (hps : A.pure.pureL src = true) (hby : (es.length + src.length) * i.bytes ≤ 140737488355328) :
    GoodW P ⟨d, .call ⟨.builtin .append, ⟨[b, x]⟩, ⟨[t, tx]⟩⟩, ty, p, af, g⟩ a w N0 w0 nt φ n ((σ.setH n (.row k (es ++ src))).put d (.row n 0 k (es.length + src.length) false)) := by
  have hlt : n < φ.length := (List.getElem?_eq_some_iff.1 hfree).1
  by_cases hsrc : src = []
  · have hes0 : es = [] := by
      rcases hc with h | h
      · exact h
      · exact absurd hsrc h
    subst hes0
    subst hsrc
    have hn0 : news = [] := by simpa only [RowRel] using hn
    subst hn0
    have hrun := run_append_nothing (P := P) w t tx ty e i hT.ty hT.info q 0 0 (Nat.le_refl 0) (a.eval x) (by rw [hT.size]; exact hs)
    refine ⟨.slice q 0 0, w, φ.set n .nil, .inl ?_, ?_⟩
    · have := hbv
      simp only [List.length_nil] at this
      rw [← this] at hrun
      rw [← this]
      exact run_append2 hrun
    · refine ⟨(h.newNil hfree).put hd ?_, fun m hm hf => by rw [List.getElem?_set_ne (Ne.symm hm)]; exact hf⟩
      simp only [Rep]
      exact .inl ⟨.nil, by show (φ.set n _)[n]? = _; simp [hlt], by simp, by simp, fun _ => trivial, q, by simp⟩
  · have hold : ∃ olds, (Builtin.firstCells k es.length (.slice q es.length es.length)).run P w.drew = .ok olds.toArray w.drew ∧ RowRel (envOf N0 φ w) k es olds ∧ ∀ u ∈ olds, u.oneCell' = true := by
      by_cases he : es = []
      · subst he
        exact ⟨[], first0, by simp [RowRel], by simp⟩
      · obtain ⟨B, off, rfl, hE⟩ := hes he
        obtain ⟨vs, h1, h2, h3⟩ := RowRel.of_mem hE
        exact ⟨vs, first_of h1.length (fun j v hv => by have := h2 j v hv; simpa [envOf] using this), h1, h3⟩
    obtain ⟨olds, hf, hro, hoo⟩ := hold
    have hsl : 0 < src.length := by
      cases src with
      | nil => exact absurd rfl hsrc
      | cons => simp
    obtain ⟨w', c, zs, hrun, g, hsz, hle, hB, hcs⟩ := app_grow (ty := ty) hT hf hro.length hs (by omega) hby
    have hnew := h.newObj (k := k) (o := .row k (es ++ src)) hfree g (Nat.le_refl _) hsz (by
      have hext := h.ext_new (k := k) hfree g (Nat.le_refl _)
      refine grown_rel (E' := envOf N0 (φ.set n (.loc w.heap.size k)) w') hB ?_ ?_ ?_
      · refine RowRel.mono (E := envOf N0 φ w) (fun x v hx hr => Rep.mono hext x v hr (fun _ _ => trivial)) ?_ (hro.append hn)
        exact pureL_of fun j y hy => by
          rcases List.mem_append.1 (List.mem_of_getElem? hy) with hm | hm
          · obtain ⟨r, hr⟩ := List.getElem?_of_mem hm; exact pureL_getElem hpe hr
          · obtain ⟨r, hr⟩ := List.getElem?_of_mem hm; exact pureL_getElem hps hr
      · intro u hu
        rcases List.mem_append.1 hu with hu | hu
        · exact hoo u hu
        · exact hs.one u hu
      · exact pureL_of fun j y hy => by
          rcases List.mem_append.1 (List.mem_of_getElem? hy) with hm | hm
          · obtain ⟨r, hr⟩ := List.getElem?_of_mem hm; exact pureL_getElem hpe hr
          · obtain ⟨r, hr⟩ := List.getElem?_of_mem hm; exact pureL_getElem hps hr)
    refine ⟨_, w', _, .inl (run_append2 (by rw [hbv]; exact hrun)), hnew.put hd ?_, fun m hm hf => by rw [List.getElem?_set_ne (Ne.symm hm)]; exact hf⟩
    simp only [Rep]
    exact .inr ⟨w.heap.size, c, _, e, (0, 0), by show (φ.set n _)[n]? = _; simp [hlt], by simp, hle, by simp, hB, by simpa using hcs⟩
theorem app_old {n : Nat} (hfx : w0.fix n = false) (h : Conc N0 w0 nt σ φ a w) {d : Option Tmp} {b x : Operand} {t tx ty : TypeId} {p : String} {af : Array Edge} {g : Option (Nat × Bool)} (hd : ∀ t, d = some t → t < nt) {nm : Nat}
    {e k : Nat} {i : TypeInfo} {z : Value} (hT : AppTy P t e k i z) {len : Nat} {es src : List A} {news : List Value} (hbr : Rep (envOf N0 φ w) (.row n 0 k len false) (a.eval b))
    (ho : nthO σ.H n = some (.row k es)) (hlen : len ≤ es.length)
    (hs : Src P k tx (a.eval x) src.length news w) (hn : RowRel (envOf N0 φ w) k src news) (hps : A.pure.pureL src = true) (hby : (len + src.length) * i.bytes ≤ 140737488355328) :
    GoodW P ⟨d, .call ⟨.builtin .append, ⟨[b, x]⟩, ⟨[t, tx]⟩⟩, ty, p, af, g⟩ a w N0 w0 nt φ nm (((σ.scrub n).setH n (.row k (es.take len ++ src))).put d (.row n 0 k (len + src.length) false)) := by
  have h' := h.scrub n
  have hcl := clear_scrub σ n
  have hnlen : n < φ.length := by
    rw [h.len]
    rw [nthO_eq] at ho
    exact (List.getElem?_eq_some_iff.1 ho).1
  have grow : φ[n]? ≠ some .free → ∀ (q : Option Addr) (sCap : Nat) (olds : List Value), a.eval b = .slice q len sCap → (Builtin.firstCells k len (.slice q len sCap)).run P w.drew = .ok olds.toArray w.drew →
      RowRel (envOf N0 φ w) k (es.take len) olds → (∀ u ∈ olds, u.oneCell' = true) → A.pure.pureL (es.take len) = true → sCap < len + src.length →
      GoodW P ⟨d, .call ⟨.builtin .append, ⟨[b, x]⟩, ⟨[t, tx]⟩⟩, ty, p, af, g⟩ a w N0 w0 nt φ nm (((σ.scrub n).setH n (.row k (es.take len ++ src))).put d (.row n 0 k (len + src.length) false)) := by
    intro hnf q sCap olds hbv hf hro hoo hpe hg
    have hlt' : (es.take len).length = len := by simp; omega
    obtain ⟨w', c, zs, hrun, g, hsz, hle, hB, hcs⟩ := app_grow (ty := ty) hT hf (by rw [hro.length, hlt']) hs hg hby
    have hpp : A.pure.pureL (es.take len ++ src) = true := pureL_of fun j y hy => by
      rcases List.mem_append.1 (List.mem_of_getElem? hy) with hm | hm
      · obtain ⟨r, hr⟩ := List.getElem?_of_mem hm; exact pureL_getElem hpe hr
      · obtain ⟨r, hr⟩ := List.getElem?_of_mem hm; exact pureL_getElem hps hr
    obtain ⟨hnew, _⟩ := h'.rehome hfx hcl hnlen (p := .loc w.heap.size k) (o := .row k (es.take len ++ src)) g (fun B K e' => by
      simp only [Own.loc.injEq] at e'
      obtain ⟨rfl, rfl⟩ := e'
      exact ⟨Nat.le_refl _, hsz⟩) (fun hext => by
      refine grown_rel (E' := envOf N0 (φ.set n (.loc w.heap.size k)) w') hB ?_ ?_ hpp
      · exact RowRel.mono (E := envOf N0 φ w) (fun x v hx hr => Rep.mono hext x v hr (fun m hm => by rw [A.mem_of_pure m x hx] at hm; cases hm)) hpp (hro.append hn)
      · intro u hu
        rcases List.mem_append.1 hu with hu | hu
        · exact hoo u hu
        · exact hs.one u hu)
    refine ⟨_, w', _, .inl (run_append2 (by rw [hbv]; exact hrun)), hnew.put hd ?_, fun m hm hf => by rw [List.getElem?_set_ne (fun e => hnf (by rw [e]; exact hf))]; exact hf⟩
    simp only [Rep]
    exact .inr ⟨w.heap.size, c, _, e, (0, 0), by show (φ.set n _)[n]? = _; simp [hnlen], by simp, hle, by simp, hB, by simpa using hcs⟩
  simp only [Rep] at hbr
  rcases hbr with ⟨o, hφ, hf, rfl, _, q, hv⟩ | ⟨B, cap, c', e', fr, hφ, hv, hlc, _, hb, hfit⟩
  · by_cases hsrc : src = []
    · subst hsrc
      have hn0 : news = [] := by simpa only [RowRel] using hn
      subst hn0
      have hrun := run_append_nothing (P := P) w t tx ty e i hT.ty hT.info q 0 0 (Nat.le_refl 0) (a.eval x) (by rw [hT.size]; exact hs)
      refine ⟨.slice q 0 0, w, φ, .inl (run_append2 (by rw [hv]; exact hrun)), ?_⟩
      refine ⟨(h'.setObj (fun p hp => ?_)).put hd ?_, fun _ _ h => h⟩
      · have hob := h.objs n _ _ ho hp
        cases p with
        | nil => simp [ObjRel]
        | free =>
          have hφ' : φ[n]? = some o := hφ
          rw [hφ'] at hp
          simp at hp
          exact absurd hp hf
        | loc B k'' =>
          simp only [ObjRel] at hob ⊢
          exact ⟨hob.1, by simp [A.pure.pureL], hob.2.2.1, by simp [RepE]⟩
      · simp only [Rep]
        exact .inl ⟨o, hφ, hf, by simp, fun _ => trivial, q, by simp⟩
    · refine grow (fun e => hf (by have hφ' : φ[n]? = some o := hφ; rw [hφ'] at e; simpa using e)) q 0 [] hv first0 (by simp [RowRel]) (by simp) (by simp [A.pure.pureL]) ?_
      cases src with
      | nil => exact absurd rfl hsrc
      | cons => simp
  · have hob := h.objs n _ _ ho hφ
    simp only [ObjRel] at hob
    obtain ⟨_, hp, ⟨cc, ee, ffr, hcc, hfr⟩, hE⟩ := hob
    have hb' : w.heap[B]? = some (.cells c' e' fr) := hb
    have hcc' : w.heap[B]? = some (.cells cc ee ffr) := hcc
    rw [hb'] at hcc'
    simp only [Option.some.injEq, Go.Obj.cells.injEq] at hcc'
    obtain ⟨rfl, rfl, rfl⟩ := hcc'
    have hE' := RepE_take (n := len) hE
    have hp' := pureL_take (n := len) hp
    obtain ⟨olds, h1, h2, h3⟩ := RowRel.of_mem hE'
    have hlt' : (es.take len).length = len := by simp; omega
    have h1l : olds.length = len * k := by rw [h1.length, hlt']
    rw [Nat.zero_mul] at hv hfit
    by_cases hroom : len + src.length ≤ cap
    · have hnl := hs.newsLen
      have hmul : len * k + src.length * k ≤ k * cap := by
        rw [← Nat.add_mul, Nat.mul_comm k cap]
        exact Nat.mul_le_mul_right _ hroom
      have ht : w.there B (0 + len * k) news.length := there_of hb' hfr (by omega)
      have hrun := run_append_room_src (P := P) w t tx ty e i hT.ty hT.info B 0 len cap (a.eval x) src.length news (by rw [hT.size]; exact hs) hroom
        (fun j hj => by rw [hT.size]; exact (ht j hj).1) (fun j hj => by rw [hT.size]; exact (ht j hj).2)
      rw [hT.size] at hrun
      obtain ⟨cc'', hcc'', hss''⟩ := (setCells_heap (b := B) news (0 + len * k) w).2.2.2.2.2.2 c' e' fr hb'
      have hext := h.ext_write (0 + len * k) news hφ
      have hw := h'.write (o := .row k (es.take len ++ src)) (off := 0 + len * k) (vs := news) hφ (by
        simp only [ObjRel]
        have hpp : A.pure.pureL (es.take len ++ src) = true := pureL_of fun j y hy => by
          rcases List.mem_append.1 (List.mem_of_getElem? hy) with hm | hm
          · obtain ⟨r, hr⟩ := List.getElem?_of_mem hm; exact pureL_getElem hp' hr
          · obtain ⟨r, hr⟩ := List.getElem?_of_mem hm; exact pureL_getElem hps hr
        refine ⟨trivial, hpp, ⟨cc'', e', fr, hcc'', fun j hj => hfr.1 j (by omega), fun hk hh => hfr.2 hk (by omega)⟩, ?_⟩
        refine RowRel.mem (vs := olds ++ news) (RowRel.mono (E := envOf N0 φ w) (fun x v hx hr => Rep.mono hext x v hr (fun _ _ => trivial)) hpp (h1.append hn)) ?_ ?_
        · intro j u hu
          show (w.setCells B (0 + len * k) news).cell? ⟨B, 0 + j, none⟩ = some u
          rw [setCells_cell ht]
          rw [List.getElem?_append] at hu
          split at hu
          · rename_i hj
            rw [if_neg (by omega)]
            exact h2 j u hu
          · rename_i hj
            have := (List.getElem?_eq_some_iff.1 hu).1
            rw [if_pos (by omega), show 0 + j - (0 + len * k) = j - olds.length by omega]
            exact hu
        · intro u hu
          rcases List.mem_append.1 hu with hu | hu
          · exact h3 u hu
          · exact hs.one u hu)
      refine ⟨_, _, φ, .inl (run_append2 (by rw [hv]; exact hrun)), hw.put hd ?_, fun _ _ h => h⟩
      simp only [Rep]
      exact .inr ⟨B, cap, cc'', e', fr, hφ, by simp, hroom, by simp, hcc'', by rw [hss'']; simpa using hfit⟩
    · exact grow (fun e => by have hφ' : φ[n]? = some (.loc B k) := hφ; rw [hφ'] at e; simp at e) _ cap olds hv (first_of h1l (fun j v hv => by have := h2 j v hv; simpa [envOf] using this)) h1 h3 hp' (by omega)
theorem goodW_append (h : Conc N0 w0 nt σ φ a w) {d : Option Tmp} {b x : Operand} {t tx ty : TypeId} {p : String} {af : Array Edge} {g : Option (Nat × Bool)} (hd : ∀ t, d = some t → t < nt) {n : Nat} (hfree : φ[n]? = some .free)
    {σ' : St} {fx : Nat → Bool} (hfx : w0.fix = fx) (hr : appendX P fx σ n d t tx (σ.ev b) (σ.ev x) = some σ') : GoodW P ⟨d, .call ⟨.builtin .append, ⟨[b, x]⟩, ⟨[t, tx]⟩⟩, ty, p, af, g⟩ a w N0 w0 nt φ n σ' := by
  unfold appendX at hr
  split at hr
  · rename_i e he
    split at hr
    · rename_i k hk
      split at hr
      · simp at hr
      · rename_i hc
        have hz : zeroOK P e k = true := by
          cases hzz : zeroOK P e k with
          | true => rfl
          | false => exact absurd (.inr (.inr hzz)) hc
        obtain ⟨i, z, hT, hbb⟩ := app_ty he hk (fun e' => hc (.inl e')) (fun e' => hc (.inr (.inl e'))) hz
        cases hsrc : srcE P σ e tx k (σ.ev x) with
        | none => simp [hsrc] at hr
        | some src =>
          simp only [hsrc, Option.bind_some] at hr
          obtain ⟨news, hs, hn, hps⟩ := src_sound h hsrc
          have hb := h.ev b
          rw [← hbb] at hr
          have strid : ∀ {es : List A}, strOK k es = true → es ≠ [] → strideOf es = k := fun {es} h1 h2 => by
            unfold strOK at h1
            cases es with
            | nil => exact absurd rfl h2
            | cons y ys => simpa using h1
          cases hev : σ.ev b <;> rw [hev] at hb <;> simp only [hev, appendA] at hr <;> try (simp at hr; done)
          case nils =>
            split at hr
            · rename_i hby
              obtain rfl := Option.some.inj hr
              simp only [Rep] at hb
              have := app_new h (p := p) (af := af) (g := g) (ty := ty) hd hfree hT (q := none) (es := []) (src := src) hb (fun hne => absurd rfl hne) rfl (.inl rfl) hs hn hps (by simpa using hby)
              simpa using this
            · simp at hr
          case clip es =>
            split at hr
            · rename_i hcond
              obtain ⟨hst, hc2, hby⟩ := hcond
              obtain rfl := Option.some.inj hr
              simp only [Rep] at hb
              obtain ⟨hpe, q, hv, hl⟩ := hb
              exact app_new h (p := p) (af := af) (g := g) (ty := ty) hd hfree hT (q := q) (es := es) (src := src) hv (fun hne => by
                obtain ⟨B, off, e1, _, _, e2⟩ := hl hne
                rw [strid hst hne] at e2
                exact ⟨B, off, e1, e2⟩) hpe hc2 hs hn hps hby
            · simp at hr
          case row m off k' len cl =>
            cases off with
            | succ off => simp at hr
            | zero =>
              simp only at hr
              split at hr
              · rename_i k'' es ho
                split at hr
                · rename_i hcond
                  obtain ⟨rfl, rfl, hlen, hby⟩ := hcond
                  split at hr
                  · rename_i hcl
                    subst hcl
                    split at hr
                    · simp at hr
                    · rename_i hne
                      obtain rfl := Option.some.inj hr
                      have hlt' : (es.take len).length = len := by simp; omega
                      simp only [Rep] at hb
                      rcases hb with ⟨o, hφ, hf, rfl, _, q, hv⟩ | ⟨B, cap, c', e', fr, hφ, hv, hlc, hcl, hb, hfit⟩
                      · have := app_new h (p := p) (af := af) (g := g) (ty := ty) hd hfree hT (q := q) (es := []) (src := src) hv (fun hne => absurd rfl hne) rfl (.inl rfl) hs hn hps (by simpa using hby)
                        simpa using this
                      · have hob := h.objs m _ _ ho hφ
                        simp only [ObjRel] at hob
                        obtain ⟨_, hp, _, hE⟩ := hob
                        have hcap := hcl trivial
                        subst hcap
                        have hE' := RepE_take (n := cap) hE
                        have hp' := pureL_take (n := cap) hp
                        have := app_new h (p := p) (af := af) (g := g) (ty := ty) hd hfree hT (q := some ⟨B, 0, none⟩) (es := es.take cap) (src := src) (by rw [hlt', hv]; simp) (fun _ => ⟨B, 0, rfl, hE'⟩) hp' (.inr hne) hs hn hps (by rw [hlt']; exact hby)
                        rw [hlt'] at this
                        exact this
                  · rename_i hcl
                    have hcl' : cl = false := by simpa using hcl
                    subst hcl'
                    split at hr
                    · simp at hr
                    · rename_i hnf
                      obtain rfl := Option.some.inj hr
                      exact app_old (by rw [hfx]; simpa using hnf) h hd hT hb ho hlen hs hn hps hby
                · simp at hr
              · simp at hr
    · simp at hr
  · simp at hr
end
end Go.Abs
namespace Go.Abs
open Go.RowKit
section
variable {P : Program} {N0 : Nat → Prop} {w0 : Base} {nt : Nat} {σ : St} {φ : List Own} {a : Act} {w : World}
theorem goodW_conv (h : Conc N0 w0 nt σ φ a w) {d : Option Tmp} {src dst : TypeId} {x : Operand} {t : TypeId} {p : String} {af : Array Edge} {g : Option (Nat × Bool)} (hd : ∀ t, d = some t → t < nt) {n : Nat}
    (hfree : isS2B P src dst = true → φ[n]? = some .free) {σ' : St} (hr : convX P σ n d src dst (σ.ev x) = some σ') : GoodW P ⟨d, .convert src dst x, t, p, af, g⟩ a w N0 w0 nt φ n σ' := by
  unfold convX at hr
  split at hr
  · rename_i hb
    have hfree := hfree hb
    have hx := h.ev x
    split at hr
    · rename_i s hs
      obtain rfl := Option.some.inj hr
      rw [hs] at hx
      simp only [Rep] at hx
      unfold isS2B at hb
      simp only [Bool.and_eq_true] at hb
      obtain ⟨hb1, hb2⟩ := hb
      cases he : tyElem P dst with
      | none => simp [he] at hb2
      | some e =>
        simp [he] at hb2
        have hlt : n < φ.length := (List.getElem?_eq_some_iff.1 hfree).1
        have hrun := run_bytes_of_string (P := P) w src dst e ⟨s.toArray⟩ (tyStr_eq hb1) (tyElem_eq he) (tyInt_eq hb2)
        have hge := grownCap_ge w (⟨s.toArray⟩ : ByteArray).size 0 e
        generalize hc : grownCap w (⟨s.toArray⟩ : ByteArray).size 0 e = c at hrun hge
        rw [size_mk] at hge
        have hsz : (bytesRow ⟨s.toArray⟩ c).size = c := by
          simp [bytesRow, size_mk]
          omega
        rw [hsz] at hrun
        have g : Grew w (w.drew.alloc (.cells (bytesRow ⟨s.toArray⟩ c) e (c, c + 1))) := (Grew.drew w).trans (Grew.alloc _ _)
        have hB : (w.drew.alloc (.cells (bytesRow ⟨s.toArray⟩ c) e (c, c + 1))).heap[w.heap.size]? = some (.cells (bytesRow ⟨s.toArray⟩ c) e (c, c + 1)) := heap_alloc_new w.drew _
        have hnew := h.newObj (k := 1) (o := .row 1 (bytesA s)) hfree g (Nat.le_refl _) (by simp) (by
          simp only [ObjRel]
          refine ⟨trivial, bytes_pure s, ⟨_, e, _, hB, fun j hj hh => by rw [hsz] at hj; omega, fun hk => absurd rfl hk⟩, RowRel.mem (bytes_row _ s) (fun j u hu => ?_) ?_⟩
          · show (w.drew.alloc (.cells (bytesRow ⟨s.toArray⟩ c) e (c, c + 1))).cell? ⟨w.heap.size, 0 + j, none⟩ = some u
            have hjl : j < s.length := by
              have := (List.getElem?_eq_some_iff.1 hu).1
              simpa using this
            have hat := bytesRow_at ⟨s.toArray⟩ c j (by simpa using hjl)
            have : u = .int .u8 (s[j].toNat : Int) := by
              rw [List.getElem?_map, List.getElem?_eq_getElem hjl] at hu
              simpa using hu.symm
            subst this
            simp only [World.cell?, hB, Nat.zero_add]
            simpa using hat
          · intro u hu
            obtain ⟨_, _, rfl⟩ := List.mem_map.1 hu
            rfl)
        refine ⟨.slice (some ⟨w.heap.size, 0, none⟩) s.length c, _, _, .inl (run_v (s := convert src dst (a.eval x)) ?_), hnew.put hd ?_, fun m hm hf => by rw [List.getElem?_set_ne (Ne.symm hm)]; exact hf⟩
        · rw [hx]; exact hrun
        · simp only [Rep]
          exact .inr ⟨w.heap.size, c, _, e, _, by show (φ.set n _)[n]? = _; simp [hlt], by simp, hge, by simp, hB, by rw [hsz]; omega⟩
    · simp at hr
  · cases hc : convA P src dst σ.H (σ.ev x) with
    | none => simp [hc] at hr
    | some r =>
      simp [hc] at hr
      subst hr
      exact goodW_of_good h hd (o := ⟨d, .convert src dst x, t, p, af, g⟩) (good_convert h hc)
end
end Go.Abs
namespace Go.Abs
open Go.RowKit
theorem RowRel.drop {E : Env} {k : Nat} : ∀ {n : Nat} {es : List A} {vs : List Value}, RowRel E k es vs → RowRel E k (es.drop n) (vs.drop (n * k))
  | 0, es, vs, h => by simpa using h
  | n + 1, [], vs, h => by simp only [RowRel] at h; subst h; simp [RowRel]
  | n + 1, e :: es, vs, h => by
    simp only [RowRel] at h
    obtain ⟨_, _, _, h4⟩ := h
    rw [List.drop_succ_cons, show (n + 1) * k = k + n * k by rw [Nat.add_mul, Nat.one_mul]; omega, ← List.drop_drop]
    exact RowRel.drop h4
theorem zeroCells_list {z : Array Value} {n : Nat} : (Builtin.zeroCells z n).toList = (List.replicate n z.toList).flatten := by
  unfold Builtin.zeroCells
  apply List.ext_getElem?
  intro j
  by_cases hz : z.size = 0
  · have hz' : z = #[] := by simpa using hz
    subst hz'
    simp
  · have hz0 : 0 < z.size := by omega
    simp only [Array.toList_map, Array.toList_range]
    rw [List.getElem?_map]
    by_cases hj : j < n * z.size
    · have hq : j / z.size < n := (Nat.div_lt_iff_lt_mul hz0).2 hj
      have hr : j % z.size < z.size := Nat.mod_lt _ hz0
      rw [List.getElem?_range hj]
      simp only [Option.map_some]
      have key : ∀ (m : Nat) (j : Nat), j < m * z.size → (List.replicate m z.toList).flatten[j]? = some (z[j % z.size]!) := by
        intro m
        induction m with
        | zero => intro j hj; omega
        | succ m ih =>
          intro j hj
          rw [List.replicate_succ, List.flatten_cons]
          by_cases h : j < z.size
          · rw [List.getElem?_append_left (by simpa using h), Nat.mod_eq_of_lt h, getElem!_pos z j h]; simp [h]
          · rw [List.getElem?_append_right (by simpa using h), Nat.mod_eq_sub_mod (by omega), Array.length_toList]
            exact ih _ (by rw [Nat.add_mul, Nat.one_mul] at hj; omega)
      rw [key n j hj]
    · rw [List.getElem?_eq_none (by simpa using hj), List.getElem?_eq_none (by
        rw [List.length_flatten, List.map_replicate, List.sum_replicate_nat]; simpa using hj)]
      rfl
section
variable {P : Program} {N0 : Nat → Prop} {w0 : Base} {nt : Nat} {σ : St} {φ : List Own} {a : Act} {w : World}
theorem goodW_clear (h : Conc N0 w0 nt σ φ a w) {d : Option Tmp} {x : Operand} {t ty : TypeId} {p : String} {af : Array Edge} {g : Option (Nat × Bool)} (hd : ∀ t, d = some t → t < nt) {nm : Nat}
    {σ' : St} (hr : clearA P σ d t (σ.ev x) = some σ') : GoodW P ⟨d, .call ⟨.builtin .clear, ⟨[x]⟩, ⟨[t]⟩⟩, ty, p, af, g⟩ a w N0 w0 nt φ nm σ' := by
  have hx := h.ev x
  unfold clearA at hr
  split at hr
  · rename_i n off k len cl hev
    rw [hev] at hx
    split at hr
    case h_2 => simp at hr
    rename_i e he
    split at hr
    case h_2 => simp at hr
    rename_i k' es ho
    split at hr
    · rename_i zz hz
      split at hr
      · rename_i hc
        obtain ⟨rfl, hzl, hk0, hzv, hzp, hle⟩ := hc
        obtain rfl := Option.some.inj hr
        have hty := tyElem_eq he
        obtain ⟨zv, hzr, hzrep⟩ := zeroA_eq (w := w) hz
        have hrep := hzrep (envOf N0 φ w)
        obtain ⟨r1, r2, r3⟩ := Rep_cells hrep hzv
        have hcall : ∀ {v : Value} {w' : World}, (Builtin.clear_ #[t] ty #[a.eval x]).run P w = .ok v w' → (Go.execOp a.eval ⟨d, .call ⟨.builtin .clear, ⟨[x]⟩, ⟨[t]⟩⟩, ty, p, af, g⟩).run P w = .ok (.value v) w' := fun {v w'} hrun => by
          obtain ⟨cs, hcs⟩ := run_builtin (P := P) (a := a) (w := w) (b := .clear) (xs := [x]) (us := ⟨[t]⟩) (d := d) (t := ty) (p := p) (af := af) (g := g)
          rw [hcs]
          exact run_v (s := Builtin.clear_ #[t] ty #[a.eval x]) hrun
        simp only [Rep] at hx
        have same : (es.take off ++ List.replicate 0 zz.norm ++ es.drop (off + 0)) = es := by simp
        rcases hx with ⟨o, hφ, hf, rfl, _, q, hv⟩ | ⟨b, cap, c', e', fr, hφ, hv, hlc, _, hb, hfit⟩
        · refine ⟨.tuple #[], w, φ, .inl (hcall ?_), ?_⟩
          · rw [hv]
            cases q <;> simp [Builtin.clear_, run_underlying hty]
          · rw [same]
            refine ⟨(h.setObj (fun p hp => h.objs n _ p ho hp)).put hd ?_, fun _ _ h => h⟩
            simp [Rep, RepL]
        · have hob := h.objs n _ _ ho hφ
          simp only [ObjRel] at hob
          obtain ⟨_, hp, ⟨cc, ee, ffr, hcc, hfr⟩, hE⟩ := hob
          by_cases hl0 : len = 0
          · subst hl0
            refine ⟨.tuple #[], w, φ, .inl (hcall ?_), ?_⟩
            · rw [hv]
              simp [Builtin.clear_, run_underlying hty]
            · rw [same]
              refine ⟨(h.setObj (fun p hp => h.objs n _ p ho hp)).put hd ?_, fun _ _ h => h⟩
              simp [Rep, RepL]
          · have hcc' : w.heap[b]? = some (.cells cc ee ffr) := hcc
            have hb' : w.heap[b]? = some (.cells c' e' fr) := hb
            rw [hb'] at hcc'
            simp only [Option.some.injEq, Go.Obj.cells.injEq] at hcc'
            obtain ⟨rfl, rfl, rfl⟩ := hcc'
            obtain ⟨vs, g1, g2, g3⟩ := RowRel.of_mem hE
            have hzc : zv.cells.size = k' := by rw [r3]; exact hzl
            have hnl : (List.replicate len zv.cells.toList).flatten.length = len * k' := by
              rw [List.length_flatten, List.map_replicate, List.sum_replicate_nat, Array.length_toList, hzc]
            have hmul : off * k' + len * k' ≤ c'.size := by
              have h1 : len * k' ≤ k' * cap := by rw [Nat.mul_comm k' cap]; exact Nat.mul_le_mul_right _ hlc
              omega
            have ht : w.there b (off * k') (List.replicate len zv.cells.toList).flatten.length := there_of hb' hfr (by rw [hnl]; exact hmul)
            have hone : ∀ u ∈ (List.replicate len zv.cells.toList).flatten, u.oneCell' = true := fun u hu => by
              obtain ⟨ys, hys, hu⟩ := List.mem_flatten.1 hu
              obtain ⟨_, rfl⟩ := List.mem_replicate.1 hys
              exact r2 u hu
            have hst := run_storeCells_cells (P := P) b (off * k') (List.replicate len zv.cells.toList).flatten 0 w (fun j hj => by rw [Nat.add_zero]; exact (ht j hj).1) (fun j hj => by rw [Nat.add_zero]; exact (ht j hj).2) hone
            rw [Nat.add_zero] at hst
            obtain ⟨cc'', hcc'', hss''⟩ := (setCells_heap (b := b) (List.replicate len zv.cells.toList).flatten (off * k') w).2.2.2.2.2.2 c' e' fr hb'
            have hext := h.ext_write (off * k') (List.replicate len zv.cells.toList).flatten hφ
            have hzn : RowRel (envOf N0 φ w) k' (List.replicate len zz.norm) (List.replicate len zv.cells.toList).flatten :=
              RowRel.replicate (by rw [norm_cells, List.length_map, hzl]) (by rw [norm_cells]; exact repL_norm0 r1) len
            have hvl := g1.length
            have hpz : A.pure.pureL (List.replicate len zz.norm) = true := pureL_of fun j y hy => by
              have := List.mem_of_getElem? hy
              obtain ⟨_, rfl⟩ := List.mem_replicate.1 this
              exact pure_norm hzp
            have hpp : A.pure.pureL (es.take off ++ List.replicate len zz.norm ++ es.drop (off + len)) = true := pureL_of fun j y hy => by
              rcases List.mem_append.1 (List.mem_of_getElem? hy) with hm | hm
              · rcases List.mem_append.1 hm with hm | hm
                · obtain ⟨r, hr⟩ := List.getElem?_of_mem (List.mem_of_mem_take hm); exact pureL_getElem hp hr
                · obtain ⟨r, hr⟩ := List.getElem?_of_mem hm; exact pureL_getElem hpz hr
              · obtain ⟨r, hr⟩ := List.getElem?_of_mem (List.mem_of_mem_drop hm); exact pureL_getElem hp hr
            have hw := h.write (o := .row k' (es.take off ++ List.replicate len zz.norm ++ es.drop (off + len))) (off := off * k') (vs := (List.replicate len zv.cells.toList).flatten) hφ (by
              simp only [ObjRel]
              refine ⟨trivial, hpp, ⟨cc'', e', fr, hcc'', fun j hj => hfr.1 j (by omega), fun hk hh => hfr.2 hk (by omega)⟩, ?_⟩
              have hrel := ((g1.take (n := off)).append hzn).append (g1.drop (n := off + len))
              refine RowRel.mem (vs := vs.take (off * k') ++ (List.replicate len zv.cells.toList).flatten ++ vs.drop ((off + len) * k')) (RowRel.mono (E := envOf N0 φ w) (fun x v hx hr => Rep.mono hext x v hr (fun _ _ => trivial)) hpp hrel) ?_ ?_
              · intro j u hu
                show (w.setCells b (off * k') _).cell? ⟨b, 0 + j, none⟩ = some u
                have hlen1 : (vs.take (off * k')).length = off * k' := by
                  rw [List.length_take, hvl]
                  have : off * k' ≤ es.length * k' := Nat.mul_le_mul_right _ (by omega)
                  omega
                rw [setCells_cell ht, Nat.zero_add]
                rw [List.append_assoc, List.getElem?_append, hlen1] at hu
                split at hu
                · rename_i hj
                  rw [if_neg (by omega)]
                  rw [List.getElem?_take] at hu
                  rw [if_pos hj] at hu
                  have := g2 j u hu
                  simpa [envOf] using this
                · rename_i hj
                  rw [List.getElem?_append, hnl] at hu
                  split at hu
                  · rename_i hj2
                    rw [if_pos (by rw [hnl]; omega)]
                    exact hu
                  · rename_i hj2
                    rw [if_neg (by rw [hnl]; omega)]
                    rw [List.getElem?_drop] at hu
                    have e3 : (off + len) * k' + (j - off * k' - len * k') = j := by rw [Nat.add_mul]; omega
                    rw [e3] at hu
                    have := g2 j u hu
                    simpa [envOf] using this
              · intro u hu
                rcases List.mem_append.1 hu with hu | hu
                · rcases List.mem_append.1 hu with hu | hu
                  · exact g3 u (List.mem_of_mem_take hu)
                  · exact hone u hu
                · exact g3 u (List.mem_of_mem_drop hu))
            refine ⟨.tuple #[], _, φ, .inl (hcall ?_), hw.put hd (by simp [Rep, RepL]), fun _ _ h => h⟩
            rw [hv]
            obtain ⟨len', rfl⟩ : ∃ m, len = m + 1 := ⟨len - 1, by omega⟩
            have e0 : (#[t] : Array TypeId)[0]? = some t := rfl
            have e1 : (#[Value.slice (some ⟨b, off * k', none⟩) (len' + 1) cap] : Array Value)[0]? = some (Value.slice (some ⟨b, off * k', none⟩) (len' + 1) cap) := rfl
            simp only [Builtin.clear_, e0, e1, Sem.run_bind, run_underlying hty, Result.andThen_ok, hzr, zeroCells_list, hst, Sem.run_pure]
      · simp at hr
    · simp at hr
  · simp at hr
end
end Go.Abs
