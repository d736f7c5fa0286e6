/- Soundness, third part: arithmetic and comparison, conversion, slices, indexes, fields, literals. -/
import Derived.Test.YtbnmicpgbcfooaaAbsE
import Derived.Laws.StructEq
namespace Go.Abs
open Go.RowKit

/-- The value of plain data. -/
def plainV : A → Value
  | .int k n => .int k n
  | .bool b => .bool b
  | .str s => .string ⟨s.toArray⟩
  | _ => undef

theorem plain_of_has {E : Env} {c : CK} {x : A} {v : Value} (h : c.has x = true) (hr : Rep E x v) : v = plainV x := by
  cases c <;> cases x <;> simp_all [CK.has, Rep, plainV]
theorem plainL_of_has {E : Env} : ∀ {ks : List CK} {xs : List A} {vs : List Value}, hasL ks xs = true → RepL E xs vs → vs = xs.map plainV
  | [], [], vs, _, h => by simpa [RepL] using h
  | c :: ks, x :: xs, vs, h, hr => by
    simp only [hasL, Bool.and_eq_true] at h
    simp only [RepL] at hr
    obtain ⟨v, vs', rfl, hx, hl⟩ := hr
    rw [plain_of_has h.1 hx, plainL_of_has h.2 hl]
    rfl
  | [], _ :: _, _, h, _ => by simp [hasL] at h
  | _ :: _, [], _, h, _ => by simp [hasL] at h

theorem hasL_append : ∀ {ks ls : List CK} {xs : List A}, hasL (ks ++ ls) xs = true → hasL ks (xs.take ks.length) = true ∧ hasL ls (xs.drop ks.length) = true
  | [], ls, xs, h => by simpa [hasL] using h
  | c :: ks, ls, [], h => by simp [hasL] at h
  | c :: ks, ls, x :: xs, h => by
    simp only [List.cons_append, hasL, Bool.and_eq_true] at h
    have := hasL_append h.2
    simp only [List.length_cons, List.take_succ_cons, List.drop_succ_cons, hasL, Bool.and_eq_true]
    exact ⟨⟨h.1, this.1⟩, this.2⟩
theorem hasL_length : ∀ {ks : List CK} {xs : List A}, hasL ks xs = true → ks.length = xs.length
  | [], [], _ => rfl
  | c :: ks, x :: xs, h => by
    simp only [hasL, Bool.and_eq_true] at h
    simp [hasL_length h.2]
  | [], _ :: _, h => by simp [hasL] at h
  | _ :: _, [], h => by simp [hasL] at h
theorem eqL_total : ∀ {ks : List CK} {xs ys : List A}, hasL ks xs = true → hasL ks ys = true → ∃ b, eqL xs ys = some b
  | [], [], [], _, _ => ⟨true, rfl⟩
  | c :: ks, x :: xs, y :: ys, h, h' => by
    simp only [hasL, Bool.and_eq_true] at h h'
    obtain ⟨b, hb⟩ := eqL_total h.2 h'.2
    have h1 := h.1
    have h2 := h'.1
    cases c <;> cases x <;> simp [CK.has] at h1 <;> cases y <;> simp [CK.has] at h2
    · subst h1; subst h2; exact ⟨_, by simp only [eqL, eqA, hb, if_true, Option.bind_some, Option.map_some]; rfl⟩
    · exact ⟨_, by simp only [eqL, eqA, hb, Option.bind_some, Option.map_some]; rfl⟩
    · exact ⟨_, by simp only [eqL, eqA, hb, Option.bind_some, Option.map_some]; rfl⟩
  | [], _ :: _, _, h, _ => by simp [hasL] at h
  | [], [], _ :: _, _, h => by simp [hasL] at h
  | _ :: _, [], _, h, _ => by simp [hasL] at h
  | _ :: _, _ :: _, [], _, h => by simp [hasL] at h
theorem eqL_split : ∀ {n : Nat} {xs ys : List A} {b c : Bool}, eqL (xs.take n) (ys.take n) = some b → eqL (xs.drop n) (ys.drop n) = some c → eqL xs ys = some (b && c)
  | 0, xs, ys, b, c, h, h' => by
    simp [eqL] at h
    subst h
    simpa using h'
  | n + 1, [], [], b, c, h, h' => by simp [eqL] at h h'; subst h; subst h'; rfl
  | n + 1, x :: xs, [], b, c, h, h' => by simp [eqL] at h
  | n + 1, [], y :: ys, b, c, h, h' => by simp [eqL] at h
  | n + 1, x :: xs, y :: ys, b, c, h, h' => by
    simp only [List.take_succ_cons, List.drop_succ_cons, eqL] at h h' ⊢
    cases hx : eqA x y with
    | none => simp [hx] at h
    | some r =>
      simp only [hx, Option.bind_some] at h ⊢
      cases he : eqL (xs.take n) (ys.take n) with
      | none => simp [he] at h
      | some s =>
        simp [he] at h
        rw [eqL_split he h']
        simp [← h, Bool.and_assoc]

theorem str_beq (x y : List UInt8) : ((⟨x.toArray⟩ : ByteArray).toList == (⟨y.toArray⟩ : ByteArray).toList) = (x == y) := by
  rw [ByteArray.toList_eq, ByteArray.toList_eq]

section
variable {P : Program} {w : World}

/-- '==' of a type, cell by cell. -/
def EqAt (P : Program) (w : World) (t : TypeId) (ks : List CK) (D : Nat) : Prop :=
  ∀ xs ys : List A, hasL ks xs = true → hasL ks ys = true → ∀ b, eqL xs ys = some b →
    (tyAgg P t = some true → (Op.equalIn D t (.agg (xs.map plainV).toArray) (.agg (ys.map plainV).toArray)).run P w = .ok b w) ∧
    (tyAgg P t = some false → ∀ x y, xs = [x] → ys = [y] → (Op.equalIn D t (plainV x) (plainV y)).run P w = .ok b w) ∧ (tyAgg P t ≠ none) ∧ (tyAgg P t = some false → ks.length = 1)

theorem eqFields_go (D : Nat) (rec : TypeId → Option (List CK)) (hrec : ∀ t ks, rec t = some ks → EqAt P w t ks D) (X Y : List A) :
    ∀ (fs : List Field) (off : Nat) (ks : List CK), ckGo rec (tySize P) fs off = some ks → hasL ks (X.drop off) = true → hasL ks (Y.drop off) = true →
      ∀ b, eqL (X.drop off) (Y.drop off) = some b → (Op.eqFields D (X.map plainV).toArray (Y.map plainV).toArray fs).run P w = .ok b w
  | [], off, ks, hg, hx, hy, b, hb => by
    simp [ckGo] at hg
    subst hg
    cases hX : X.drop off with
    | cons _ _ => simp [hX, hasL] at hx
    | nil =>
      cases hY : Y.drop off with
      | cons _ _ => simp [hY, hasL] at hy
      | nil =>
        rw [hX, hY] at hb
        simp [eqL] at hb
        subst hb
        simp [Op.eqFields]
  | f :: fs, off, ks, hg, hx, hy, b, hb => by
    simp only [ckGo] at hg
    split at hg
    · simp at hg
    · rename_i hf
      have hf1 : ¬ f.name = "_" := fun e => hf (.inl e)
      have hf2 : f.offset = off := Decidable.byContradiction fun e => hf (.inr e)
      split at hg
      · rename_i k1 n hk1 hn
        split at hg
        · rename_i hkn
          cases hgo : ckGo rec (tySize P) fs (off + n) with
          | none => simp [hgo] at hg
          | some k2 =>
            simp [hgo] at hg
            subst hg
            obtain ⟨hx1, hx2⟩ := hasL_append hx
            obtain ⟨hy1, hy2⟩ := hasL_append hy
            rw [hkn] at hx1 hx2 hy1 hy2
            obtain ⟨b1, hb1⟩ := eqL_total hx1 hy1
            rw [List.drop_drop] at hx2 hy2
            obtain ⟨b2, hb2⟩ := eqL_total hx2 hy2
            have hbb := eqL_split hb1 (by rw [List.drop_drop, List.drop_drop]; exact hb2)
            rw [hb] at hbb
            simp at hbb
            have hE := hrec _ _ hk1 _ _ hx1 hy1 b1 hb1
            have hrest := eqFields_go D rec hrec X Y fs (off + n) k2 hgo hx2 hy2 b2 hb2
            have hXn : n = 1 → off < X.length := by
              intro h1
              have := hasL_length hx1
              rw [hkn, h1, List.length_take, List.length_drop] at this
              omega
            have hYn : n = 1 → off < Y.length := by
              intro h1
              have := hasL_length hy1
              rw [hkn, h1, List.length_take, List.length_drop] at this
              omega
            have parts : ∀ Z : List A, tyAgg P f.type = some true → (part f.type (Z.map plainV).toArray off).run P w = .ok (.agg (((Z.drop off).take n).map plainV).toArray) w := by
              intro Z hag
              simp only [part, Sem.run_bind, run_isAgg_true hag, Result.andThen_ok, if_true, run_sizeOf hn, Sem.run_pure]
              congr 2
              apply Array.ext'
              simp [List.extract_eq_take_drop, List.map_take, List.map_drop]
            have step : ∀ x y : Value, (part f.type (X.map plainV).toArray off).run P w = .ok x w → (part f.type (Y.map plainV).toArray off).run P w = .ok y w → (Op.equalIn D f.type x y).run P w = .ok b1 w →
                (Op.eqFields D (X.map plainV).toArray (Y.map plainV).toArray (f :: fs)).run P w = .ok b w := by
              intro x y h1 h2 h3
              simp only [Op.eqFields, ne_eq, hf1, not_false_eq_true, if_true, hf2, Sem.run_bind, h1, h2, h3, Result.andThen_ok, Sem.run_ite, Sem.run_pure, hrest, hbb]
              cases b1 <;> simp
            cases hag : tyAgg P f.type with
            | none => exact absurd hag hE.2.2.1
            | some g =>
              cases g with
              | true => exact step _ _ (parts X hag) (parts Y hag) (hE.1 hag)
              | false =>
                have h1 := hE.2.2.2 hag
                rw [hkn] at h1
                have hXn' := hXn h1
                have hYn' := hYn h1
                rw [h1] at hE
                have hX : (X.drop off).take 1 = [X[off]] := by rw [List.drop_eq_getElem_cons hXn']; rfl
                have hY : (Y.drop off).take 1 = [Y[off]] := by rw [List.drop_eq_getElem_cons hYn']; rfl
                have hp : ∀ (Z : List A) (h : off < Z.length), (part f.type (Z.map plainV).toArray off).run P w = .ok (plainV Z[off]) w := by
                  intro Z h
                  simp [part, run_isAgg_false hag, h]
                exact step _ _ (hp X hXn') (hp Y hYn') (hE.2.1 hag _ _ hX hY)
        · simp at hg
      · simp at hg

theorem ckOf_sound : ∀ (d : Nat) (t : TypeId) (ks : List CK), ckOf P d t = some ks → ∀ D, d ≤ D → EqAt P w t ks D
  | 0, _, _, h, _, _ => by simp [ckOf] at h
  | d + 1, t, ks, h, D, hD => by
    obtain ⟨D', rfl⟩ : ∃ D', D = D' + 1 := ⟨D - 1, by omega⟩
    intro xs ys hx hy b hb
    simp only [ckOf] at h
    split at h
    · rename_i hu
      simp at h
      subst h
      have hag : tyAgg P t = some false := by simp [tyAgg, hu]
      refine ⟨fun h => by simp [hag] at h, fun _ x y hxs hys => ?_, by simp [hag], fun _ => rfl⟩
      subst hxs; subst hys
      cases x <;> simp [hasL, CK.has] at hx
      cases y <;> simp [hasL, CK.has] at hy
      simp [eqL, eqA] at hb
      rw [plainV, plainV, run_equalIn_bool' w D' t _ _ hu, hb]
    · rename_i k hu
      simp at h
      subst h
      have hag : tyAgg P t = some false := by simp [tyAgg, hu]
      refine ⟨fun h => by simp [hag] at h, fun _ x y hxs hys => ?_, by simp [hag], fun _ => rfl⟩
      subst hxs; subst hys
      cases x <;> simp [hasL, CK.has] at hx
      cases y <;> simp [hasL, CK.has] at hy
      subst hx; subst hy
      simp [eqL, eqA] at hb
      rw [plainV, plainV, run_equalIn_int w D' t _ _ _ _ hu, hb]
    · rename_i hu
      simp at h
      subst h
      have hag : tyAgg P t = some false := by simp [tyAgg, hu]
      refine ⟨fun h => by simp [hag] at h, fun _ x y hxs hys => ?_, by simp [hag], fun _ => rfl⟩
      subst hxs; subst hys
      cases x <;> simp [hasL, CK.has] at hx
      cases y <;> simp [hasL, CK.has] at hy
      simp [eqL, eqA] at hb
      rw [plainV, plainV, run_equalIn_string w D' t _ _ hu, str_beq, hb]
    · rename_i fs hu
      split at h
      · simp at h
      · rename_i hst
        have hag : tyAgg P t = some true := by simp [tyAgg, hu]
        refine ⟨fun _ => ?_, fun h => by simp [hag] at h, by simp [hag], fun h => by simp [hag] at h⟩
        have hf : P.fieldsOf t = fs := by simp [Program.fieldsOf, hu]
        rw [run_equalIn_agg w D' t _ _ (by rw [hf]; exact hu) (by simpa using hst), hf]
        exact eqFields_go D' (ckOf P d) (fun t ks h => ckOf_sound d t ks h D' (by omega)) xs ys fs.toList 0 ks h (by simpa using hx) (by simpa using hy) b (by simpa using hb)
    · simp at h

theorem run_eqGuard_one {op : BinOp} {t : TypeId} {x y : Operand} {a b : Value} (h1 : a ≠ .nilIface) (h2 : ∀ xs, a ≠ .agg xs) : (eqGuard op t x y a b).run P w = .ok () w := by
  cases op <;> simp only [eqGuard] <;> first
    | rfl
    | (cases a <;> first | rfl | (exact absurd rfl h1) | (exact absurd rfl (h2 _)))
end

section
variable {P : Program} {N0 : Nat → Prop} {w0 : Base} {nt : Nat} {σ : St} {φ : List Own} {a : Act} {w : World}

theorem good_unOp (h : Conc N0 w0 nt σ φ a w) {d : Option Tmp} {op : UnOp} {x : Operand} {s : Nat} {t : TypeId} {p : String} {af : Array Edge} {g : Option (Nat × Bool)} {r : A}
    (hr : unA op (σ.ev x) = some r) : Good P ⟨d, .unOp op s x, t, p, af, g⟩ a w N0 φ r := by
  have hx := h.ev x
  cases hc : σ.ev x <;> simp only [hc, unA] at hr <;> try (simp at hr; done)
  · cases op <;> simp at hr
    subst hr
    rw [hc] at hx
    refine good_same rfl (v := .int _ _) (by rw [rep_int hx]; rfl) ?_
    simp [Rep]
  · cases op <;> simp at hr
    subst hr
    rw [hc] at hx
    refine good_same rfl (v := .bool _) (by rw [rep_bool hx]; rfl) ?_
    simp only [Rep]

theorem run_binI {op : BinOp} {k : IntKind} {m n : Int} {t : TypeId} {r : A} (ho : op ≠ .shl) (ho' : op ≠ .shr) (hr : binI op k m n = some r) : (binOp op t (.int k m) (.int k n)).run P w = .ok (plainV r) w ∧ ∀ E : Env, Rep E r (plainV r) := by
  cases op <;> simp only [binI] at hr
  case shl => exact absurd rfl ho
  case shr => exact absurd rfl ho'
  case quo =>
    split at hr
    · simp at hr
    · rename_i h0
      obtain rfl := Option.some.inj hr
      exact ⟨by simp [binOp, Op.intDiv, h0, plainV], fun E => by simp [Rep, plainV]⟩
  case rem =>
    split at hr
    · simp at hr
    · rename_i h0
      obtain rfl := Option.some.inj hr
      exact ⟨by simp [binOp, Op.intDiv, h0, plainV], fun E => by simp [Rep, plainV]⟩
  all_goals first
    | (simp at hr; done)
    | (obtain rfl := Option.some.inj hr; exact ⟨by simp [binOp, Op.intArith, Op.intCmp, Op.intBits, plainV], fun E => by simp [Rep, plainV]⟩)
    | (obtain rfl := Option.some.inj hr; exact ⟨by simp only [binOp, Op.intBits, plainV]; simp only [ne_eq, not_true_eq_false, if_false, Sem.run_pure], fun E => by simp [Rep, plainV]⟩)

theorem toList_mk (s : List UInt8) : (⟨s.toArray⟩ : ByteArray).toList = s := by rw [ByteArray.toList_eq]
theorem append_mk (s t : List UInt8) : (⟨s.toArray⟩ : ByteArray) ++ ⟨t.toArray⟩ = ⟨(s ++ t).toArray⟩ := by
  apply ByteArray.ext
  simp

theorem run_binS {op : BinOp} {x y : List UInt8} {t : TypeId} {r : A} (hr : binS op x y = some r) : (binOp op t (.string ⟨x.toArray⟩) (.string ⟨y.toArray⟩)).run P w = .ok (plainV r) w ∧ ∀ E : Env, Rep E r (plainV r) := by
  cases op <;> simp only [binS] at hr
  case add =>
    split at hr
    · rename_i hle
      obtain rfl := Option.some.inj hr
      have : ¬ (IntKind.i64.max < ((x.length : Int) + y.length)) := by simp [IntKind.max, IntKind.signed, IntKind.bits]; omega
      exact ⟨by simp only [binOp, Op.stringOp, size_mk, Int.natCast_add, gt_iff_lt, this, if_false, append_mk, plainV, Sem.run_pure], fun E => by simp [Rep, plainV]⟩
    · simp at hr
  all_goals first
    | (simp at hr; done)
    | (obtain rfl := Option.some.inj hr; exact ⟨by simp only [binOp, Op.stringOp, toList_mk, plainV, Sem.run_pure, bne], fun E => by simp [Rep, plainV]⟩)

theorem run_ptr_nn (d : Nat) {t e : TypeId} (hu : P.underlying t = some (.pointer e)) : (Op.equalIn (d + 1) t (.pointer none) (.pointer none)).run P w = .ok true w := by
  simp [Op.equalIn, run_underlying hu]
theorem run_ptr_ns (d : Nat) {t e : TypeId} (hu : P.underlying t = some (.pointer e)) (q : Addr) : (Op.equalIn (d + 1) t (.pointer none) (.pointer (some q))).run P w = .ok false w := by
  simp [Op.equalIn, run_underlying hu]
theorem run_ptr_sn (d : Nat) {t e : TypeId} (hu : P.underlying t = some (.pointer e)) (q : Addr) : (Op.equalIn (d + 1) t (.pointer (some q)) (.pointer none)).run P w = .ok false w := by
  simp [Op.equalIn, run_underlying hu]
theorem run_ptr_eql {t : TypeId} {x y : Option Addr} {b : Bool} (h : (Op.equalIn (9999 + 1) t (.pointer x) (.pointer y)).run P w = .ok b w) : (binOp .eql t (.pointer x) (.pointer y)).run P w = .ok (.bool b) w := by
  have h' : (Op.equal t (.pointer x) (.pointer y)).run P w = .ok b w := h
  have e : binOp .eql t (.pointer x) (.pointer y) = (do pure (.bool (← Op.equal t (.pointer x) (.pointer y)))) := by cases x <;> cases y <;> rfl
  rw [e, Sem.run_bind, h']
  rfl
theorem run_ptr_neq {t : TypeId} {x y : Option Addr} {b : Bool} (h : (Op.equalIn (9999 + 1) t (.pointer x) (.pointer y)).run P w = .ok b w) : (binOp .neq t (.pointer x) (.pointer y)).run P w = .ok (.bool (!b)) w := by
  have h' : (Op.equal t (.pointer x) (.pointer y)).run P w = .ok b w := h
  have e : binOp .neq t (.pointer x) (.pointer y) = (do pure (.bool (!(← Op.equal t (.pointer x) (.pointer y))))) := by cases x <;> cases y <;> rfl
  rw [e, Sem.run_bind, h']
  rfl
theorem ptr_of {E : Env} {x : A} {v : Value} (h : Rep E x v) (hp : x.isPtr = true) : ∃ q, v = .pointer (some q) := by
  cases x <;> simp only [A.isPtr] at hp <;> try (simp at hp; done)
  all_goals simp only [Rep] at h
  · obtain ⟨_, b, off, hv, _⟩ := h; exact ⟨_, hv⟩
  · obtain ⟨b, k, _, hv⟩ := h; exact ⟨_, hv⟩
  · obtain ⟨b, k, _, hv⟩ := h; exact ⟨_, hv⟩

theorem good_binOp (h : Conc N0 w0 nt σ φ a w) {d : Option Tmp} {op : BinOp} {x y : Operand} {s u : Nat} {t : TypeId} {p : String} {af : Array Edge} {g : Option (Nat × Bool)} {r : A}
    (hr : binA (eqTy P s) (tyBool P s) (tyPtr P s) (tyElem P s).isSome op (σ.ev x) (σ.ev y) = some r) : Good P ⟨d, .binOp op s x y u, t, p, af, g⟩ a w N0 φ r := by
  have hx := h.ev x
  have hy := h.ev y
  have fin : ∀ v : Value, (eqGuard op s x y (a.eval x) (a.eval y)).run P w = .ok () w → (binOp op s (a.eval x) (a.eval y)).run P w = .ok v w → Rep (envOf N0 φ w) r v → Good P ⟨d, .binOp op s x y u, t, p, af, g⟩ a w N0 φ r := by
    intro v h1 h2 h3
    exact good_same (s := (do eqGuard op s x y (a.eval x) (a.eval y); binOp op s (a.eval x) (a.eval y))) rfl (by simp [h1, h2]) h3
  have nilc : ∀ (q : Option Addr) (n cap : Nat) (c : Bool), a.eval x = .slice q n cap → a.eval y = .slice none 0 0 → q.isNone = c → nilEq (tyElem P s).isSome op c = some r → Good P ⟨d, .binOp op s x y u, t, p, af, g⟩ a w N0 φ r := by
    intro q n cap c h1 h2 h3 h4
    rw [h1, h2] at fin
    have hg : (eqGuard op s x y (.slice q n cap) (.slice none 0 0)).run P w = .ok () w := run_eqGuard_one (by simp) (by simp)
    unfold nilEq at h4
    split at h4
    · rename_i hs
      obtain ⟨e, he⟩ := Option.isSome_iff_exists.1 hs
      have hu := tyElem_eq he
      have hq : ∀ d : Nat, (Op.equalIn (d + 1) s (.slice q n cap) (.slice none 0 0)).run P w = .ok c w := fun d => by
        subst h3
        cases q <;> simp [Op.equalIn, run_underlying hu]
      split at h4
      · obtain rfl := Option.some.inj h4
        exact fin (.bool c) hg (by simp only [binOp]; simp [Op.equal, Op.maxDepth, hq 9999]) (by simp only [Rep])
      · obtain rfl := Option.some.inj h4
        exact fin (.bool !c) hg (by simp only [binOp]; simp [Op.equal, Op.maxDepth, hq 9999]) (by simp only [Rep])
      · simp at h4
    · simp at h4
  unfold binA at hr
  split at hr
  · rename_i k m k' n hcx hcy
    rw [hcx] at hx; rw [hcy] at hy
    rw [rep_int hx, rep_int hy] at fin
    have hg : (eqGuard op s x y (.int k m) (.int k' n)).run P w = .ok () w := run_eqGuard_one (by simp) (by simp)
    split at hr
    · split at hr
      · simp at hr
      · rename_i h0
        simp at hr; subst hr
        exact fin _ hg (by simp [binOp, Op.shift, h0]; rfl) (by simp only [Rep])
    · split at hr
      · simp at hr
      · rename_i h0
        simp at hr; subst hr
        exact fin _ hg (by simp [binOp, Op.shift, h0]; rfl) (by simp only [Rep])
    · rename_i ho1 ho2
      split at hr
      · rename_i hk
        subst hk
        have hh := run_binI (P := P) (w := w) (t := s) ho1 ho2 hr
        exact fin _ hg hh.1 (hh.2 _)
      · simp at hr
  · rename_i m n hcx hcy
    rw [hcx] at hx; rw [hcy] at hy
    rw [rep_bool hx, rep_bool hy] at fin
    have hg : (eqGuard op s x y (.bool m) (.bool n)).run P w = .ok () w := run_eqGuard_one (by simp) (by simp)
    split at hr
    · rename_i hb
      have hu : P.underlying s = some .bool := by
        unfold tyBool at hb
        split at hb
        · assumption
        · simp at hb
      have he : (Op.equalIn 10000 s (.bool m) (.bool n)).run P w = .ok (m == n) w := run_equalIn_bool' w 9999 s m n hu
      split at hr <;> simp at hr <;> subst hr
      · exact fin (.bool (m == n)) hg (by simp [binOp, Op.equal, Op.maxDepth, he]) (by simp only [Rep])
      · exact fin (.bool (m != n)) hg (by simp [binOp, Op.equal, Op.maxDepth, he, bne]) (by simp only [Rep])
    · simp at hr
  · rename_i m n hcx hcy
    rw [hcx] at hx; rw [hcy] at hy
    rw [rep_str hx, rep_str hy] at fin
    have hh := run_binS (P := P) (w := w) (t := s) hr
    exact fin _ (run_eqGuard_one (by simp) (by simp)) hh.1 (hh.2 _)
  · rename_i xs ys hcx hcy
    rw [hcx] at hx; rw [hcy] at hy
    simp only [Rep] at hx hy
    obtain ⟨vs, hvx, hLx, _⟩ := hx
    obtain ⟨us, hvy, hLy, _⟩ := hy
    split at hr
    · rename_i l hks
      split at hr
      · rename_i hh
        unfold eqTy at hks
        split at hks
        · simp at hks
        · rename_i hgu
          obtain ⟨b, hb⟩ := eqL_total hh.1 hh.2
          have hs := ckOf_sound (P := P) (w := w) 10 s l hks 10000 (by omega) xs ys hh.1 hh.2 b hb
          have e1 := plainL_of_has hh.1 hLx
          have e2 := plainL_of_has hh.2 hLy
          subst e1; subst e2
          rw [hvx, hvy] at fin
          have hg : (eqGuard op s x y (.agg (xs.map plainV).toArray) (.agg (ys.map plainV).toArray)).run P w = .ok () w := run_eqGuard_agg w op s x y _ _ (by have := fun h => hgu (.inl h); simpa using this)
          cases hag : tyAgg P s with
          | none => exact absurd hag hs.2.2.1
          | some bb =>
            cases bb with
            | true =>
              have he := hs.1 hag
              split at hr
              · rw [hb] at hr
                obtain rfl := Option.some.inj hr
                exact fin (.bool b) hg (by rw [run_eql_struct, he]; rfl) (by simp only [Rep])
              · rw [hb] at hr
                obtain rfl := Option.some.inj hr
                exact fin (.bool !b) hg (by rw [run_neq_struct, he]; rfl) (by simp only [Rep])
              · simp at hr
            | false => exact absurd (fun h => hgu (.inr h)) (by simp [hag])
      · simp at hr
    · simp at hr
  · rename_i y' hcx
    rw [hcx] at hx
    simp only [Rep] at hx
    rw [hx] at fin
    have hg : ∀ z, (eqGuard op s x y (.pointer none) z).run P w = .ok () w := fun z => run_eqGuard_one (by simp) (by simp)
    split at hr
    · rename_i hp
      obtain ⟨e, hu⟩ := tyPtr_eq hp
      have hnn := run_ptr_nn (w := w) 9999 hu
      split at hr
      · split at hr
        · rename_i hcy
          obtain rfl := Option.some.inj hr
          rw [hcy] at hy
          simp only [Rep] at hy
          rw [hy] at fin
          exact fin (.bool true) (hg _) (run_ptr_eql hnn) (by simp only [Rep])
        · split at hr
          · rename_i hip
            obtain rfl := Option.some.inj hr
            obtain ⟨q, hq⟩ := ptr_of hy hip
            rw [hq] at fin
            exact fin (.bool false) (hg _) (run_ptr_eql (run_ptr_ns 9999 hu q)) (by simp only [Rep])
          · simp at hr
      · split at hr
        · rename_i hcy
          obtain rfl := Option.some.inj hr
          rw [hcy] at hy
          simp only [Rep] at hy
          rw [hy] at fin
          exact fin (.bool false) (hg _) (run_ptr_neq hnn) (by simp only [Rep])
        · split at hr
          · rename_i hip
            obtain rfl := Option.some.inj hr
            obtain ⟨q, hq⟩ := ptr_of hy hip
            rw [hq] at fin
            exact fin (.bool true) (hg _) (run_ptr_neq (run_ptr_ns 9999 hu q)) (by simp only [Rep])
          · simp at hr
      · simp at hr
    · simp at hr
  · rename_i x' hcy hne
    rw [hcy] at hy
    simp only [Rep] at hy
    rw [hy] at fin
    split at hr
    · rename_i hp
      simp only [Bool.and_eq_true] at hp
      obtain ⟨e, hu⟩ := tyPtr_eq hp.1
      obtain ⟨q, hq⟩ := ptr_of hx hp.2
      rw [hq] at fin
      have hg : (eqGuard op s x y (.pointer (some q)) (.pointer none)).run P w = .ok () w := run_eqGuard_one (by simp) (by simp)
      split at hr
      · obtain rfl := Option.some.inj hr
        exact fin (.bool false) hg (run_ptr_eql (run_ptr_sn 9999 hu q)) (by simp only [Rep])
      · obtain rfl := Option.some.inj hr
        exact fin (.bool true) hg (run_ptr_neq (run_ptr_sn 9999 hu q)) (by simp only [Rep])
      · simp at hr
    · simp at hr
  · rename_i c hcx hcy
    rw [hcx] at hx; rw [hcy] at hy
    simp only [Rep] at hx hy
    obtain ⟨q, cap, hv, hq⟩ := hx
    exact nilc q 0 cap c hv hy hq hr
  · rename_i e es hcx hcy
    rw [hcx] at hx; rw [hcy] at hy
    simp only [Rep] at hx hy
    obtain ⟨_, q, cap, hv, _, hm⟩ := hx
    obtain ⟨b, off, hq, _⟩ := hm (by simp)
    exact nilc q _ cap false hv hy (by rw [hq]; rfl) hr
  · simp at hr
end

end Go.Abs
