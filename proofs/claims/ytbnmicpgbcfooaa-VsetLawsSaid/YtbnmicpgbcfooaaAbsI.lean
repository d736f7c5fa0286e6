/- Soundness, sixth part: slice expressions, struct, array and slice literals. -/
import Derived.Test.YtbnmicpgbcfooaaAbsH
namespace Go.Abs
open Go.RowKit

section
variable {P : Program} {N0 : Nat → Prop} {w0 : Base} {nt : Nat} {σ : St} {φ : List Own} {a : Act} {w : World}

/-- The bounds that are given, as values. -/
theorem bd_val (h : Conc N0 w0 nt σ φ a w) {o : Option Operand} (ho : (σ.bd o).ok = true) : (o = none ∧ σ.bd o = .none) ∨ ∃ k n, o.map a.eval = some (.int k n) ∧ σ.bd o = .some n := by
  cases o with
  | none => exact .inl ⟨rfl, rfl⟩
  | some x =>
    right
    simp only [St.bd] at ho ⊢
    cases hx : σ.ev x <;> simp only [hx, bdOf, Bd.ok] at ho <;> try (simp at ho; done)
    rename_i k n
    have := h.ev x
    rw [hx] at this
    exact ⟨k, n, by simp [rep_int this], rfl⟩

theorem run_sliceBound {k : IntKind} {n : Int} {y : Nat} {c : BoundsCode} (h0 : 0 ≤ n) (h1 : n ≤ y) : (Instr.sliceBound (.int k n) y c).run P w = .ok n.toNat w := by
  simp [Instr.sliceBound, asIntOf, h0, h1]

/-- Bounds without the third index. -/
theorem run_bounds2 (h : Conc N0 w0 nt σ φ a w) {lo hi : Option Operand} (hlo : (σ.bd lo).ok = true) (hhi : (σ.bd hi).ok = true) {isS : Bool} {len cap : Nat} (hlc : len ≤ cap)
    (h0 : 0 ≤ (σ.bd lo).get 0) (h1 : (σ.bd lo).get 0 ≤ (σ.bd hi).get len) (h2 : (σ.bd hi).get len ≤ len) :
    (Instr.sliceBounds isS len cap (lo.map a.eval) (hi.map a.eval) none).run P w = .ok (((σ.bd lo).get 0).toNat, ((σ.bd hi).get len).toNat, cap) w := by
  rcases bd_val h hlo with ⟨rfl, e1⟩ | ⟨k, n, e1, e2⟩ <;> rcases bd_val h hhi with ⟨rfl, e3⟩ | ⟨k', n', e3, e4⟩
  · simp [Instr.sliceBounds, e1, Bd.get]
  · rw [e4] at h1 h2 ⊢
    rw [e1] at h1 ⊢
    simp only [Bd.get] at h1 h2 ⊢
    have := run_sliceBound (P := P) (w := w) (k := k') (n := n') (y := cap) (c := if isS then .sliceAcap else .sliceAlen) (by omega) (by omega)
    simp [Instr.sliceBounds, e3, this]
  · rw [e2] at h0 h1 ⊢
    simp only [Bd.get] at h0 h1 ⊢
    rw [e3] at h1 ⊢
    simp only at h1 ⊢
    have := run_sliceBound (P := P) (w := w) (k := k) (n := n) (y := len) (c := .sliceB) h0 (by omega)
    simp [Instr.sliceBounds, e1, this]
  · rw [e2] at h0 h1 ⊢
    rw [e4] at h1 h2 ⊢
    simp only [Bd.get] at h0 h1 h2 ⊢
    have t1 := run_sliceBound (P := P) (w := w) (k := k') (n := n') (y := cap) (c := if isS then .sliceAcap else .sliceAlen) (by omega) (by omega)
    have t2 := run_sliceBound (P := P) (w := w) (k := k) (n := n) (y := n'.toNat) (c := .sliceB) h0 (by omega)
    simp [Instr.sliceBounds, e1, e3, t1, t2]

/-- Bounds with the third index, the same as the second. -/
theorem run_bounds3 (h : Conc N0 w0 nt σ φ a w) {lo hi mx : Option Operand} (hlo : (σ.bd lo).ok = true) {m : Int} (hhi : σ.bd hi = .some m) (hmx : σ.bd mx = .some m) {isS : Bool} {len cap : Nat} (hlc : len ≤ cap)
    (h0 : 0 ≤ (σ.bd lo).get 0) (h1 : (σ.bd lo).get 0 ≤ m) (h2 : m ≤ len) :
    (Instr.sliceBounds isS len cap (lo.map a.eval) (hi.map a.eval) (mx.map a.eval)).run P w = .ok (((σ.bd lo).get 0).toNat, m.toNat, m.toNat) w := by
  rcases bd_val h (o := hi) (by rw [hhi]; rfl) with ⟨rfl, e3⟩ | ⟨k', n', e3, e4⟩
  · rw [e3] at hhi; cases hhi
  rcases bd_val h (o := mx) (by rw [hmx]; rfl) with ⟨rfl, e5⟩ | ⟨k'', n'', e5, e6⟩
  · rw [e5] at hmx; cases hmx
  have hn' : n' = m := by rw [e4] at hhi; injection hhi
  have hn'' : n'' = m := by rw [e6] at hmx; injection hmx
  rw [hn'] at e3
  rw [hn''] at e5
  have t1 := fun c => run_sliceBound (P := P) (w := w) (k := k'') (n := m) (y := cap) (c := c) (by omega) (by omega)
  have t2 := fun c => run_sliceBound (P := P) (w := w) (k := k') (n := m) (y := m.toNat) (c := c) (by omega) (by omega)
  rcases bd_val h hlo with ⟨rfl, e1⟩ | ⟨k, n, e1, e2⟩
  · simp [Instr.sliceBounds, e1, e3, e5, Bd.get, t1, t2]
  · rw [e2] at h0 h1 ⊢
    simp only [Bd.get] at h0 h1 ⊢
    have t3 := fun c => run_sliceBound (P := P) (w := w) (k := k) (n := n) (y := m.toNat) (c := c) h0 (by omega)
    simp [Instr.sliceBounds, e1, e3, e5, t1, t2, t3]

theorem extract_mk (s : List UInt8) (l h : Nat) : (⟨s.toArray⟩ : ByteArray).extract l h = ⟨((s.take h).drop l).toArray⟩ := by
  apply ByteArray.ext
  simp [ByteArray.data_extract, List.extract_eq_take_drop, List.drop_take]

theorem run_sliceAt {t : TypeId} (ht : (tyArr P t).isNone = true) {d : TypeDesc} (hu : P.underlying t = some d) {x : Value} {lo hi mx : Option Value} : (Instr.sliceAt t x lo hi mx).run P w = (Instr.slice t x lo hi mx).run P w := by
  unfold Instr.sliceAt
  rw [Sem.run_bind, run_underlying hu, Result.andThen_ok]
  cases d <;> first | rfl | (simp [tyArr, hu] at ht)

theorem good_slice (h : Conc N0 w0 nt σ φ a w) {d : Option Tmp} {s : Nat} {x : Operand} {lo hi mx : Option Operand} {t : TypeId} {p : String} {af : Array Edge} {g : Option (Nat × Bool)} {r : A}
    (ht : (tyArr P s).isNone = true) (hlo : (σ.bd lo).ok = true) (hhi : (σ.bd hi).ok = true)
    (hr : sliceA (tyStr P s) (elSize P s) (σ.ev x) (σ.bd lo) (σ.bd hi) (σ.bd mx) = some r) : Good P ⟨d, .slice s x lo hi mx, t, p, af, g⟩ a w N0 φ r := by
  have hx := h.ev x
  have nomx : σ.bd mx = .none → mx = none := by
    cases mx with
    | none => intro _; rfl
    | some m => intro hm; simp only [St.bd] at hm; cases he : σ.ev m <;> simp [he, bdOf] at hm
  have fin : ∀ {d' : TypeDesc} {v : Value}, P.underlying s = some d' → (Instr.slice s (a.eval x) (lo.map a.eval) (hi.map a.eval) (mx.map a.eval)).run P w = .ok v w → Rep (envOf N0 φ w) r v → Good P ⟨d, .slice s x lo hi mx, t, p, af, g⟩ a w N0 φ r := by
    intro d' v hu hv hrep
    exact good_same rfl (by rw [run_sliceAt ht hu]; exact hv) hrep
  have elems : ∀ (k : Nat) (es : List A) (q : Option Addr) (cap : Nat), elSize P s = some k → a.eval x = .slice q es.length cap → es.length ≤ cap → A.pure.pureL es = true →
      (es ≠ [] → ∃ b off, q = some ⟨b, off, none⟩ ∧ b < (envOf N0 φ w).w.heap.size ∧ ¬ (envOf N0 φ w).N b ∧ RepE (envOf N0 φ w) (strideOf es) b off es) →
      sliceE k es (σ.bd lo) (σ.bd hi) (σ.bd mx) = some r → Good P ⟨d, .slice s x lo hi mx, t, p, af, g⟩ a w N0 φ r := by
    intro k es q cap hk hv hlc hp hm hr
    unfold elSize at hk
    cases he : tyElem P s with
    | none => simp [he] at hk
    | some e =>
      simp only [he] at hk
      have hu := tyElem_eq he
      have core : ∀ l hh : Nat, l ≤ hh → hh ≤ es.length → strOK k es = true → ∀ c' : Nat, hh ≤ c' → c' ≤ cap →
          A.pure.pureL ((es.take hh).drop l) = true ∧ ((es.take hh).drop l).length = hh - l ∧
          ((es.take hh).drop l ≠ [] → ∃ b off, (if c' = l then q else q.map (·.add (l * k))) = some ⟨b, off, none⟩ ∧ b < (envOf N0 φ w).w.heap.size ∧ ¬ (envOf N0 φ w).N b ∧ RepE (envOf N0 φ w) (strideOf ((es.take hh).drop l)) b off ((es.take hh).drop l)) := by
        intro l hh hl hhl hst c' hc' hcc
        refine ⟨pureL_drop (pureL_take hp), by simp; omega, fun hne => ?_⟩
        have hes : es ≠ [] := by rintro rfl; simp at hne
        have hlt : l < hh := by
          rcases Nat.lt_or_ge l hh with hlt | hge
          · exact hlt
          · exfalso; apply hne; apply List.drop_eq_nil_of_le; simp; omega
        obtain ⟨b, off, rfl, hb, hnb, hE⟩ := hm hes
        have hk' : strideOf es = k := by
          unfold strOK at hst
          cases es with
          | nil => exact absurd rfl hes
          | cons z zs => simpa using hst
        rw [hk'] at hE
        have hE' := RepE_drop (n := l) (RepE_take (n := hh) hE)
        refine ⟨b, off + l * k, ?_, hb, hnb, by rw [stride_of hE' hne]; exact hE'⟩
        rw [if_neg (by omega)]
        simp [Addr.add_mid]
      unfold sliceE at hr
      split at hr
      · rename_i hmx
        split at hr
        · rename_i hc
          obtain ⟨hst, h0, h1, h2⟩ := hc
          obtain rfl := Option.some.inj hr
          have hb := run_bounds2 (P := P) h hlo hhi (isS := true) hlc h0 h1 h2
          have hmx' := nomx hmx
          subst hmx'
          obtain ⟨c1, c2, c3⟩ := core ((σ.bd lo).get 0).toNat ((σ.bd hi).get es.length).toNat (by omega) (by omega) hst cap (by omega) (Nat.le_refl _)
          refine fin hu (v := .slice (if cap = ((σ.bd lo).get 0).toNat then q else q.map (·.add (((σ.bd lo).get 0).toNat * k))) (((σ.bd hi).get es.length).toNat - ((σ.bd lo).get 0).toNat) (cap - ((σ.bd lo).get 0).toNat)) ?_ ?_
          · rw [hv]
            simp only [Option.map_none]
            simp only [Instr.slice, Sem.run_bind, run_underlying hu, Result.andThen_ok, hb, run_sizeOf hk, Sem.run_pure]
          · simp only [Rep]
            exact ⟨c1, _, _, by rw [c2], by rw [c2]; omega, c3⟩
        · simp at hr
      · rename_i m hmx
        split at hr
        · rename_i hc
          obtain ⟨hst, h0, h1, h2, h3, h4⟩ := hc
          have hhi' : σ.bd hi = .some m := by
            cases hb : σ.bd hi with
            | some n => rw [hb] at h3; simp only [Bd.get] at h3; rw [h3]
            | none => simp [hb, Bd.ok3] at h4
            | bad => simp [hb, Bd.ok3] at h4
          have hg : (σ.bd hi).get es.length = m := by rw [hhi']; rfl
          rw [hg] at h1 h2 hr
          obtain rfl := Option.some.inj hr
          have hb := run_bounds3 (P := P) h hlo hhi' hmx (isS := true) hlc h0 h1 h2
          obtain ⟨c1, c2, c3⟩ := core ((σ.bd lo).get 0).toNat m.toNat (by omega) (by omega) hst m.toNat (by omega) (by omega)
          refine fin hu (v := .slice (if m.toNat = ((σ.bd lo).get 0).toNat then q else q.map (·.add (((σ.bd lo).get 0).toNat * k))) (m.toNat - ((σ.bd lo).get 0).toNat) (m.toNat - ((σ.bd lo).get 0).toNat)) ?_ ?_
          · rw [hv]
            simp only [Instr.slice, Sem.run_bind, run_underlying hu, Result.andThen_ok, hb, run_sizeOf hk, Sem.run_pure]
          · simp only [Rep]
            exact ⟨c1, _, by rw [c2], c3⟩
        · simp at hr
      · simp at hr
  cases hc : σ.ev x <;> simp only [hc, sliceA] at hr <;> try (simp at hr; done)
  · rename_i str
    rw [hc] at hx
    split at hr
    · rename_i hst
      unfold sliceS at hr
      split at hr
      · rename_i hmx
        split at hr
        · rename_i hcond
          obtain ⟨h0, h1, h2⟩ := hcond
          obtain rfl := Option.some.inj hr
          have hmx' := nomx hmx
          subst hmx'
          have hb := run_bounds2 (P := P) h hlo hhi (isS := false) (len := str.length) (cap := str.length) (Nat.le_refl _) h0 h1 h2
          refine fin (tyStr_eq hst) (v := .string (ByteArray.extract ⟨str.toArray⟩ ((σ.bd lo).get 0).toNat ((σ.bd hi).get str.length).toNat)) ?_ ?_
          · rw [rep_str hx]
            simp only [Option.map_none, Instr.slice, Sem.run_bind, run_underlying (tyStr_eq hst), Result.andThen_ok, size_mk, hb, Sem.run_pure, Option.isSome_none, Bool.false_eq_true, if_false]
          · simp only [Rep, extract_mk]
        · simp at hr
      · simp at hr
    · simp at hr
  · rename_i es
    rw [hc] at hx
    simp only [Rep] at hx
    obtain ⟨hp, q, cap, hv, hlc, hm⟩ := hx
    split at hr
    · rename_i k hk
      exact elems k es q cap hk hv hlc hp hm hr
    · simp at hr
  · rename_i es
    rw [hc] at hx
    simp only [Rep] at hx
    obtain ⟨hp, q, hv, hm⟩ := hx
    split at hr
    · rename_i k hk
      exact elems k es q _ hk hv (Nat.le_refl _) hp hm hr
    · simp at hr
  · rename_i n off k' len c
    rw [hc] at hx
    split at hr
    · rename_i k hk
      split at hr
      · rename_i hkk
        subst hkk
        unfold elSize at hk
        cases he : tyElem P s with
        | none => simp [he] at hk
        | some e =>
          simp only [he] at hk
          have hu := tyElem_eq he
          simp only [Rep] at hx
          have val : ∃ (q : Option Addr) (cap : Nat), a.eval x = .slice q len cap ∧ len ≤ cap ∧
              ∀ l hh c' : Nat, l ≤ hh → hh ≤ len → hh ≤ c' → c' ≤ cap → ∀ cl : Bool, (cl = true → c' = hh) →
                Rep (envOf N0 φ w) (.row n (off + l) k (hh - l) cl) (.slice (if c' = l then q else q.map (·.add (l * k))) (hh - l) (c' - l)) := by
            rcases hx with ⟨o, hφ, hf, rfl, hoff, q, hv⟩ | ⟨b, cap, cc, ee, fr, hφ, hv, hlc, _, hblk, hsz⟩
            · refine ⟨q, 0, hv, Nat.le_refl _, fun l hh c' hl hhl hc' hcc cl hcl => ?_⟩
              have e1 : l = 0 := by omega
              have e2 : hh = 0 := by omega
              have e3 : c' = 0 := by omega
              subst e1; subst e2; subst e3
              simp only [Rep]
              exact .inl ⟨o, hφ, hf, by simp, by simpa using hoff, q, by simp⟩
            · refine ⟨_, cap, hv, hlc, fun l hh c' hl hhl hc' hcc cl hcl => ?_⟩
              simp only [Rep]
              by_cases hcl0 : c' = l
              · left
                have : hh = l := by omega
                refine ⟨_, hφ, by simp, by omega, by simp, some ⟨b, off * k, none⟩, ?_⟩
                rw [if_pos hcl0, show hh - l = 0 by omega, show c' - l = 0 by omega]
              · right
                refine ⟨b, c' - l, cc, ee, fr, hφ, ?_, by omega, fun hq => by have := hcl hq; omega, hblk, ?_⟩
                · rw [if_neg hcl0]
                  simp [Addr.add_mid, Nat.add_mul]
                · have : l * k + k * (c' - l) ≤ k * cap := by
                    rw [Nat.mul_comm l k, ← Nat.mul_add]
                    exact Nat.mul_le_mul_left k (by omega)
                  rw [Nat.add_mul]
                  omega
          obtain ⟨q, cap, hv, hlc, hval⟩ := val
          unfold sliceR at hr
          split at hr
          · rename_i hmx
            split at hr
            · rename_i hcond
              obtain ⟨h0, h1, h2⟩ := hcond
              obtain rfl := Option.some.inj hr
              have hmx' := nomx hmx
              subst hmx'
              have hb := run_bounds2 (P := P) h hlo hhi (isS := true) hlc h0 h1 h2
              have := hval ((σ.bd lo).get 0).toNat ((σ.bd hi).get len).toNat cap (by omega) (by omega) (by omega) (Nat.le_refl _) false (by simp)
              refine fin hu ?_ (by rw [show ((σ.bd hi).get len - (σ.bd lo).get 0).toNat = ((σ.bd hi).get len).toNat - ((σ.bd lo).get 0).toNat by omega]; exact this)
              rw [hv]
              simp only [Option.map_none]
              simp only [Instr.slice, Sem.run_bind, run_underlying hu, Result.andThen_ok, hb, run_sizeOf hk, Sem.run_pure]
            · simp at hr
          · rename_i m hmx
            split at hr
            · rename_i hcond
              obtain ⟨h0, h1, h2, h3, h4⟩ := hcond
              have hhi' : σ.bd hi = .some m := by
                cases hb : σ.bd hi with
                | some n => rw [hb] at h3; simp only [Bd.get] at h3; rw [h3]
                | none => simp [hb, Bd.ok3] at h4
                | bad => simp [hb, Bd.ok3] at h4
              have hg : (σ.bd hi).get len = m := by rw [hhi']; rfl
              rw [hg] at h1 h2 hr
              obtain rfl := Option.some.inj hr
              have hb := run_bounds3 (P := P) h hlo hhi' hmx (isS := true) hlc h0 h1 h2
              have := hval ((σ.bd lo).get 0).toNat m.toNat m.toNat (by omega) (by omega) (by omega) (by omega) true (fun _ => rfl)
              refine fin hu ?_ (by rw [show (m - (σ.bd lo).get 0).toNat = m.toNat - ((σ.bd lo).get 0).toNat by omega]; exact this)
              rw [hv]
              simp only [Instr.slice, Sem.run_bind, run_underlying hu, Result.andThen_ok, hb, run_sizeOf hk, Sem.run_pure]
            · simp at hr
          · simp at hr
      · simp at hr
    · simp at hr

/-! ### Literals -/
theorem foldl_set : ∀ (vs : List Value) (off j : Nat) (cs : List Value), off + j + vs.length ≤ cs.length →
    (vs.zipIdx j).foldl (fun (cs : Array Value) (p : Value × Nat) => cs.setIfInBounds (off + p.2) p.1) cs.toArray = (cs.take (off + j) ++ vs ++ cs.drop (off + j + vs.length)).toArray
  | [], off, j, cs, _ => by simp
  | v :: vs, off, j, cs, h => by
    simp only [List.zipIdx_cons, List.foldl_cons]
    have e : cs.toArray.setIfInBounds (off + j) v = (cs.set (off + j) v).toArray := by simp
    rw [e, foldl_set vs off (j + 1) (cs.set (off + j) v) (by simp at h ⊢; omega)]
    congr 1
    have hlt : off + j < cs.length := by simp at h; omega
    rw [show off + (j + 1) = off + j + 1 by omega]
    rw [List.take_succ_eq_append_getElem (by simpa using hlt)]
    simp only [List.getElem_set_self, List.length_cons, List.append_assoc, List.cons_append, List.nil_append]
    rw [List.take_set_of_le (Nat.le_refl _), List.drop_set_of_lt (by omega)]
    rw [show off + j + 1 + vs.length = off + j + (vs.length + 1) by omega]

/-- One part of a literal. -/
theorem fill_one {place : Nat → Option (Nat × Nat)} {i off size : Nat} {v : Value} {cs : List Value} {rest : List (Nat × Value)} (hp : place i = some (off, size)) (hs : v.cells.size = size) (hl : off + size ≤ cs.length) :
    Instr.fill place cs.toArray ((i, v) :: rest) = Instr.fill place (cs.take off ++ v.cells.toList ++ cs.drop (off + size)).toArray rest := by
  simp only [Instr.fill, hp]
  rw [if_neg (by simp [hs]; omega)]
  congr 1
  have e := foldl_set v.cells.toList off 0 cs (by simp [hs]; omega)
  simp only [Nat.add_zero] at e
  rw [show v.cells.toList.length = size by simpa using hs] at e
  rw [← e, ← Array.foldl_toList]
  simp

theorem fillC_sound {E : Env} {size : Option Nat} {off : Nat} {x : A} {v : Value} {zs zs' : List A} {vs : List Value} (hx : Rep E x v) (hz : RepL E zs vs) (h1 : ∀ u ∈ vs, u.oneCell' = true) (h : fillC size off x zs = some zs') :
    ∃ n, size = some n ∧ v.cells.size = n ∧ off + n ≤ vs.length ∧ RepL E zs' (vs.take off ++ v.cells.toList ++ vs.drop (off + n)) ∧ ∀ u ∈ vs.take off ++ v.cells.toList ++ vs.drop (off + n), u.oneCell' = true := by
  unfold fillC at h
  split at h
  · rename_i n
    split at h
    · rename_i hc
      obtain ⟨c1, c2, c3⟩ := hc
      obtain rfl := Option.some.inj h
      obtain ⟨r1, r2, r3⟩ := Rep_cells hx c3
      have hlen := (RepL_iff.1 hz).1
      refine ⟨n, rfl, by rw [r3, c1], by omega, RepL_append (RepL_append (RepL_take hz) r1) (RepL_drop hz), fun u hu => ?_⟩
      simp only [List.mem_append] at hu
      rcases hu with (hu | hu) | hu
      · exact h1 u (List.mem_of_mem_take hu)
      · exact r2 u hu
      · exact h1 u (List.mem_of_mem_drop hu)
    · simp at h
  · simp at h

theorem fillS_sound (h : Conc N0 w0 nt σ φ a w) {t : TypeId} {fs : Array Field} {place : Nat → Option (Nat × Nat)} (hu : P.underlying t = some (.struct fs))
    (hplace : ∀ i f n, fs[i]? = some f → tySize P f.type = some n → place i = some (f.offset, n)) :
    ∀ (ps : List (Nat × Operand)) (zs zs' : List A) (vs : List Value), RepL (envOf N0 φ w) zs vs → (∀ u ∈ vs, u.oneCell' = true) → fillS P t σ ps zs = some zs' →
      ∃ vs', Instr.fill place vs.toArray (ps.map fun p => (p.1, a.eval p.2)) = some vs'.toArray ∧ RepL (envOf N0 φ w) zs' vs' ∧ ∀ u ∈ vs', u.oneCell' = true
  | [], zs, zs', vs, hz, h1, hf => by
    simp [fillS] at hf
    subst hf
    exact ⟨vs, rfl, hz, h1⟩
  | (i, x) :: ps, zs, zs', vs, hz, h1, hf => by
    simp only [fillS] at hf
    split at hf
    · rename_i o ft hfi
      cases hc : fillC (tySize P ft) o (σ.ev x) zs with
      | none => simp [hc] at hf
      | some zs1 =>
        simp only [hc, Option.bind_some] at hf
        obtain ⟨n, hn, hv, hl, hz', h1'⟩ := fillC_sound (h.ev x) hz h1 hc
        obtain ⟨fs', fx, n', hu', hfx, rfl, rfl, hn', _⟩ := fieldInfo_eq hfi
        rw [hu] at hu'
        obtain rfl : fs = fs' := by injection hu' with e; injection e
        obtain ⟨vs', hr, hz'', h1''⟩ := fillS_sound h hu hplace ps zs1 zs' _ hz' h1' hf
        refine ⟨vs', ?_, hz'', h1''⟩
        rw [List.map_cons, fill_one (hplace i fx n hfx hn) hv hl]
        exact hr
    · simp at hf

theorem fillA_sound (h : Conc N0 w0 nt σ φ a w) {e n : Nat} (hn : tySize P e = some n) :
    ∀ (ps : List (Nat × Operand)) (zs zs' : List A) (vs : List Value), RepL (envOf N0 φ w) zs vs → (∀ u ∈ vs, u.oneCell' = true) → fillA P e σ ps zs = some zs' →
      ∃ vs', Instr.fill (fun i => some (i * n, n)) vs.toArray (ps.map fun p => (p.1, a.eval p.2)) = some vs'.toArray ∧ RepL (envOf N0 φ w) zs' vs' ∧ ∀ u ∈ vs', u.oneCell' = true
  | [], zs, zs', vs, hz, h1, hf => by
    simp [fillA] at hf
    subst hf
    exact ⟨vs, rfl, hz, h1⟩
  | (i, x) :: ps, zs, zs', vs, hz, h1, hf => by
    simp only [fillA, hn] at hf
    cases hc : fillC (some n) (i * n) (σ.ev x) zs with
    | none => simp [hc] at hf
    | some zs1 =>
      simp only [hc, Option.bind_some] at hf
      obtain ⟨n', hn', hv, hl, hz', h1'⟩ := fillC_sound (h.ev x) hz h1 hc
      obtain rfl := Option.some.inj hn'
      obtain ⟨vs', hr, hz'', h1''⟩ := fillA_sound h hn ps zs1 zs' _ hz' h1' hf
      refine ⟨vs', ?_, hz'', h1''⟩
      rw [List.map_cons, fill_one rfl hv hl]
      exact hr

theorem zeroA_eq {t : TypeId} {z : A} (h : zeroA P t = some z) : ∃ v, (zeroValue t).run P w = .ok v w ∧ (∀ E : Env, Rep E z v) := by
  unfold zeroA at h
  cases hi : P.info? t with
  | none => simp [hi] at h
  | some i =>
    simp only [hi, Option.bind_some] at h
    cases hz : i.zero with
    | none => simp [hz] at h
    | some v =>
      simp [hz] at h
      subst h
      exact ⟨v, by simp [zeroValue, typeInfo, hi, hz], fun E => Rep_toA E v⟩

theorem run_placesL : ∀ {fs : List Field}, (fs.all fun f => (tySize P f.type).isSome) = true →
    ∃ ys : List (Nat × Nat), (fs.mapM (fun f => (do pure (f.offset, ← sizeOf f.type) : Sem (Nat × Nat)))).run P w = .ok ys w ∧ ∀ (i : Nat) (f : Field) (n : Nat), fs[i]? = some f → tySize P f.type = some n → ys[i]? = some (f.offset, n)
  | [], _ => ⟨[], by simp, fun i f n hf => by simp at hf⟩
  | f :: fs, h => by
    simp only [List.all_cons, Bool.and_eq_true] at h
    obtain ⟨n, hn⟩ := Option.isSome_iff_exists.1 h.1
    obtain ⟨ys, hys, hpl⟩ := run_placesL h.2
    refine ⟨(f.offset, n) :: ys, ?_, fun i f' n' hf' hn' => ?_⟩
    · simp only [List.mapM_cons, Sem.run_bind, run_sizeOf hn, Result.andThen_ok, Sem.run_pure, hys]
    · cases i with
      | zero => simp at hf'; subst hf'; rw [hn] at hn'; simp at hn'; subst hn'; rfl
      | succ i => exact hpl i f' n' (by simpa using hf') hn'
theorem run_places {fs : Array Field} (h : (fs.toList.all fun f => (tySize P f.type).isSome) = true) :
    ∃ ys : Array (Nat × Nat), (fs.mapM (fun f => (do pure (f.offset, ← sizeOf f.type) : Sem (Nat × Nat)))).run P w = .ok ys w ∧ ∀ (i : Nat) (f : Field) (n : Nat), fs[i]? = some f → tySize P f.type = some n → ys[i]? = some (f.offset, n) := by
  obtain ⟨ys, hys, hpl⟩ := run_placesL (w := w) h
  refine ⟨ys.toArray, ?_, fun i f n hf hn => by simpa using hpl i f n (by simpa using hf) hn⟩
  rw [Array.mapM_eq_mapM_toList, Sem.run_map, hys]
  rfl

theorem good_build (h : Conc N0 w0 nt σ φ a w) {d : Option Tmp} {s : Nat} {ps : Array (Nat × Operand)} {t : TypeId} {p : String} {af : Array Edge} {g : Option (Nat × Bool)} {r : A}
    (hr : buildA P s σ ps.toList = some r) : Good P ⟨d, .build s ps, t, p, af, g⟩ a w N0 φ r := by
  unfold buildA at hr
  split at hr
  · rename_i zs hz
    obtain ⟨z, hzr, hzrep⟩ := zeroA_eq (w := w) hz
    have hzv := hzrep (envOf N0 φ w)
    simp only [Rep] at hzv
    obtain ⟨vs, rfl, hL, hone⟩ := hzv
    split at hr
    · rename_i n e hn
      split at hr
      · rename_i hsz
        obtain ⟨k, hk⟩ := Option.isSome_iff_exists.1 hsz
        cases hf : fillA P e σ ps.toList zs with
        | none => simp [hf] at hr
        | some zs' =>
          simp [hf] at hr
          subst hr
          have hu := tyArr_eq hn
          obtain ⟨vs', hfill, hL', hone'⟩ := fillA_sound h hk ps.toList zs zs' vs hL hone hf
          refine good_same rfl (v := .agg vs'.toArray) ?_ (by simp only [Rep]; exact ⟨vs', rfl, hL', hone'⟩)
          simp only [Instr.build, Sem.run_bind, hzr, Result.andThen_ok, run_underlying hu, run_sizeOf hk, Value.cells]
          rw [show (ps.map fun x => (x.1, a.eval x.2)).toList = ps.toList.map fun p => (p.1, a.eval p.2) by simp, hfill]
          rfl
      · simp at hr
    · rename_i hn
      split at hr
      · rename_i hall
        cases hf : fillS P s σ ps.toList zs with
        | none => simp [hf] at hr
        | some zs' =>
          simp [hf] at hr
          subst hr
          unfold allSized at hall
          split at hall
          · rename_i fs hu
            obtain ⟨ys, hys, hplace⟩ := run_places (w := w) hall
            obtain ⟨vs', hfill, hL', hone'⟩ := fillS_sound h hu hplace ps.toList zs zs' vs hL hone hf
            refine good_same rfl (v := .agg vs'.toArray) ?_ (by simp only [Rep]; exact ⟨vs', rfl, hL', hone'⟩)
            simp only [Instr.build, Sem.run_bind, hzr, Result.andThen_ok, run_underlying hu, Value.cells, hys]
            rw [show (ps.map fun x => (x.1, a.eval x.2)).toList = ps.toList.map fun p => (p.1, a.eval p.2) by simp, hfill]
            rfl
          · simp at hall
      · simp at hr
  · simp at hr
end

end Go.Abs
