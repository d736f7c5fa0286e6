/- What the laws of this claim rest on: the abstract executor, its soundness, and what the functions compute on pure data. No condition. -/
import Derived.Test.YtmaipoimiiaofaaU5
set_option linter.unusedVariables false
set_option linter.unusedSimpArgs false
namespace Go.Proofs.Ytmaipoimiiaofaa
open Go.Abs
set_option linter.unusedSimpArgs false
set_option linter.unusedVariables false
set_option maxRecDepth 20000
set_option maxHeartbeats 8000000
def Nd.enc (n : Nd) : A := .agg [.int .i64 n.op, .int .i64 n.kids, .str n.lo, .str n.hi]
@[go_sem] theorem Nd.enc_eq {a b : Int} {c d : List UInt8} : Nd.enc ⟨a, b, c, d⟩ = .agg [.int .i64 a, .int .i64 b, .str c, .str d] := rfl
theorem Nd.enc_inj (r s : Nd) (h : r.enc = s.enc) : r = s := by
  cases r; cases s; simpa [Nd.enc] using h
@[simp] theorem Nd.enc_eq_iff {r s : Nd} : (r.enc = s.enc) = (r = s) := propext ⟨Nd.enc_inj r s, fun h => by rw [h]⟩
def Nd.ok (n : Nd) : Prop := n.lo.length ≤ 9223372036854775807 ∧ n.hi.length ≤ 9223372036854775807
def okF (l : List Nd) : Prop := ∀ n ∈ l, n.ok
theorem nd_get {l : List Nd} {k : Nat} (h : k < l.length) : (l.map Nd.enc)[k]? = some (.agg [.int .i64 l[k].op, .int .i64 l[k].kids, .str l[k].lo, .str l[k].hi]) := by
  rw [List.getElem?_map, List.getElem?_eq_getElem h]; rfl
@[simp] theorem map_nd_inj {l m : List Nd} : (l.map Nd.enc = m.map Nd.enc) = (l = m) := map_inj Nd.enc_inj
theorem ok_ref09_Node : codeOK Try.prog RL12 Try.f48.ntmps (Try.f48.body.getD .skip) = true := by kernel_rfl
theorem c_ref09_Node (n : Nd) (h : n.ok) : CallA Try.prog 48 [n.enc] (· = .bool (okN n)) := by
  refine callA_of_body RL12_ok mixed Try.func48 rfl (Nat.le_of_ble_eq_true rfl) ok_ref09_Node ?_
  unfold Try.f48
  obtain ⟨op, kids, lo, hi⟩ := n
  obtain ⟨h1, h2⟩ := h
  simp only at h1 h2
  unfold okN
  cases e1 : op == 1 with
  | true => cases k0 : kids == 0 <;> cases l0 : lo == [] <;> cases g0 : hi == [] <;> simp -implicitDefEqProofs (maxSteps := 600000) (disch := (first | omega | decide)) only [go_sem, ↓reduceIte, seval, e1, k0, l0, g0]
  | false =>
    cases e2 : op == 2 with
    | true => cases k0 : kids == 0 <;> cases l0 : lo == [] <;> cases g0 : hi == [] <;> simp -implicitDefEqProofs (maxSteps := 600000) (disch := (first | omega | decide)) only [go_sem, ↓reduceIte, seval, e1, e2, k0, l0, g0]
    | false =>
      cases e3 : op == 3 with
      | true =>
        by_cases q : lo.length ≤ 16
        · have q' : (lo.length : Int) ≤ 16 := by omega
          cases k0 : kids == 0 <;> cases g0 : hi == [] <;> simp -implicitDefEqProofs (maxSteps := 600000) (disch := (first | omega | decide)) only [go_sem, ↓reduceIte, seval, e1, e2, e3, k0, g0, q, q']
        · have q' : ¬ (lo.length : Int) ≤ 16 := by omega
          cases k0 : kids == 0 <;> cases g0 : hi == [] <;> simp -implicitDefEqProofs (maxSteps := 600000) (disch := (first | omega | decide)) only [go_sem, ↓reduceIte, seval, e1, e2, e3, k0, g0, q, q']
      | false =>
        cases e4 : op == 4 with
        | true => cases k0 : kids == 0 <;> simp -implicitDefEqProofs (maxSteps := 600000) (disch := (first | omega | decide)) only [go_sem, ↓reduceIte, seval, e1, e2, e3, e4, k0, h1, h2]
        | false =>
          cases e5 : op == 5 with
          | true =>
            by_cases q : lo.length ≤ 17
            · have q' : (lo.length : Int) ≤ 17 := by omega
              cases k0 : kids == 0 <;> cases g0 : hi == [] <;> simp -implicitDefEqProofs (maxSteps := 600000) (disch := (first | omega | decide)) only [go_sem, ↓reduceIte, seval, e1, e2, e3, e4, e5, k0, g0, q, q']
            · have q' : ¬ (lo.length : Int) ≤ 17 := by omega
              cases k0 : kids == 0 <;> cases g0 : hi == [] <;> simp -implicitDefEqProofs (maxSteps := 600000) (disch := (first | omega | decide)) only [go_sem, ↓reduceIte, seval, e1, e2, e3, e4, e5, k0, g0, q, q']
          | false =>
            cases l0 : lo == [] with
            | false => simp -implicitDefEqProofs (maxSteps := 600000) (disch := (first | omega | decide)) only [go_sem, ↓reduceIte, seval, e1, e2, e3, e4, e5, l0]
            | true =>
              cases g0 : hi == [] with
              | false => simp -implicitDefEqProofs (maxSteps := 600000) (disch := (first | omega | decide)) only [go_sem, ↓reduceIte, seval, e1, e2, e3, e4, e5, l0, g0]
              | true =>
                cases e6 : op == 6 with
                | true =>
                  have e : op = 6 := by simpa using e6
                  subst e
                  cases k1 : kids == 1 <;> simp -implicitDefEqProofs (maxSteps := 600000) (disch := (first | omega | decide)) only [go_sem, ↓reduceIte, seval, l0, g0, k1]
                | false =>
                  cases e7 : op == 7 with
                  | true => by_cases q1 : 1 ≤ kids <;> by_cases q2 : kids ≤ 32 <;> simp -implicitDefEqProofs (maxSteps := 600000) (disch := (first | omega | decide)) only [go_sem, ↓reduceIte, seval, e1, e2, e3, e4, e5, e6, e7, l0, g0, q1, q2]
                  | false =>
                    cases e8 : op == 8 with
                    | true => by_cases q1 : 1 ≤ kids <;> by_cases q2 : kids ≤ 32 <;> simp -implicitDefEqProofs (maxSteps := 600000) (disch := (first | omega | decide)) only [go_sem, ↓reduceIte, seval, e1, e2, e3, e4, e5, e6, e7, e8, l0, g0, q1, q2]
                    | false => simp -implicitDefEqProofs (maxSteps := 600000) (disch := (first | omega | decide)) only [go_sem, ↓reduceIte, seval, e1, e2, e3, e4, e5, e6, e7, e8, l0, g0]
theorem ok_filter_plain : codeOK Try.prog RL12 Try.f31.ntmps (Try.f31.body.getD .skip) = true := by kernel_rfl
theorem c_filter_plain (n : Nd) (h : n.ok) : CallA Try.prog 31 [n.enc] (· = .bool (okN n)) := by
  refine callA_of_body RL12_ok mixed Try.func31 rfl (Nat.le_of_ble_eq_true rfl) ok_filter_plain ?_
  unfold Try.f31
  obtain ⟨op, kids, lo, hi⟩ := n
  obtain ⟨h1, h2⟩ := h
  simp only at h1 h2
  unfold okN
  cases e1 : op == 1 with
  | true => cases k0 : kids == 0 <;> cases l0 : lo == [] <;> cases g0 : hi == [] <;> simp -implicitDefEqProofs (maxSteps := 600000) (disch := (first | omega | decide)) only [go_sem, ↓reduceIte, seval, e1, k0, l0, g0]
  | false =>
    cases e2 : op == 2 with
    | true => cases k0 : kids == 0 <;> cases l0 : lo == [] <;> cases g0 : hi == [] <;> simp -implicitDefEqProofs (maxSteps := 600000) (disch := (first | omega | decide)) only [go_sem, ↓reduceIte, seval, e1, e2, k0, l0, g0]
    | false =>
      cases e3 : op == 3 with
      | true =>
        by_cases q : lo.length ≤ 16
        · have q' : (lo.length : Int) ≤ 16 := by omega
          cases k0 : kids == 0 <;> cases g0 : hi == [] <;> simp -implicitDefEqProofs (maxSteps := 600000) (disch := (first | omega | decide)) only [go_sem, ↓reduceIte, seval, e1, e2, e3, k0, g0, q, q']
        · have q' : ¬ (lo.length : Int) ≤ 16 := by omega
          cases k0 : kids == 0 <;> cases g0 : hi == [] <;> simp -implicitDefEqProofs (maxSteps := 600000) (disch := (first | omega | decide)) only [go_sem, ↓reduceIte, seval, e1, e2, e3, k0, g0, q, q']
      | false =>
        cases e4 : op == 4 with
        | true => cases k0 : kids == 0 <;> simp -implicitDefEqProofs (maxSteps := 600000) (disch := (first | omega | decide)) only [go_sem, ↓reduceIte, seval, e1, e2, e3, e4, k0, h1, h2]
        | false =>
          cases e5 : op == 5 with
          | true =>
            by_cases q : lo.length ≤ 17
            · cases k0 : kids == 0 <;> cases g0 : hi == [] <;> simp -implicitDefEqProofs (maxSteps := 600000) (disch := (first | omega | decide)) only [go_sem, ↓reduceIte, seval, e1, e2, e3, e4, e5, k0, g0, q, h1]
            · cases k0 : kids == 0 <;> cases g0 : hi == [] <;> simp -implicitDefEqProofs (maxSteps := 600000) (disch := (first | omega | decide)) only [go_sem, ↓reduceIte, seval, e1, e2, e3, e4, e5, k0, g0, q, h1]
          | false =>
            cases e6 : op == 6 with
            | true => cases l0 : lo == [] <;> cases g0 : hi == [] <;> cases k1 : kids == 1 <;> simp -implicitDefEqProofs (maxSteps := 600000) (disch := (first | omega | decide)) only [go_sem, ↓reduceIte, seval, e1, e2, e3, e4, e5, e6, l0, g0, k1]
                      all_goals (have e : op = 6 := by simpa using e6
                                 subst e; rfl)
            | false =>
              cases e7 : op == 7 with
              | true => cases l0 : lo == [] <;> cases g0 : hi == [] <;> by_cases q1 : 1 ≤ kids <;> by_cases q2 : kids ≤ 32 <;> simp -implicitDefEqProofs (maxSteps := 600000) (disch := (first | omega | decide)) only [go_sem, ↓reduceIte, seval, e1, e2, e3, e4, e5, e6, e7, l0, g0, q1, q2]
              | false =>
                cases e8 : op == 8 with
                | true => cases l0 : lo == [] <;> cases g0 : hi == [] <;> by_cases q1 : 1 ≤ kids <;> by_cases q2 : kids ≤ 32 <;> simp -implicitDefEqProofs (maxSteps := 600000) (disch := (first | omega | decide)) only [go_sem, ↓reduceIte, seval, e1, e2, e3, e4, e5, e6, e7, e8, l0, g0, q1, q2]
                | false => cases l0 : lo == [] <;> cases g0 : hi == [] <;> simp -implicitDefEqProofs (maxSteps := 600000) (disch := (first | omega | decide)) only [go_sem, ↓reduceIte, seval, e1, e2, e3, e4, e5, e6, e7, e8, l0, g0]
noncomputable def F9a : Tab := RL12.add 48 (entry (fun (n : Nd) => [n.enc]) (fun n => n.ok) (fun n => .bool (okN n)))
theorem F9a_ok : TabOK Try.prog F9a := RL12_ok.add (callable_of Try.func48 (by kernel_rfl) (by kernel_rfl)) (entry_ok fun n h => c_ref09_Node n h)
@[go_sem] theorem F9a_old {g : FuncId} {xs : List A} (h : g ≠ 48) : F9a.f g xs = RL12.f g xs := Tab.add_ne h
theorem F9a_ref09_Node (n : Nd) (h : n.ok) : F9a.f 48 [n.enc] = some (.bool (okN n)) :=
  (Tab.add_eq : F9a.f 48 [n.enc] = (entry (fun (n : Nd) => [n.enc]) (fun n => n.ok) (fun n => .bool (okN n))) [n.enc]).trans (entry_eq (fun i j h => by first | (cases i; cases j; rfl; done) | simpa [Prod.ext_iff, and_assoc] using h | (simp at h; omega)) n h)
noncomputable def F9b : Tab := F9a.add 31 (entry (fun (n : Nd) => [n.enc]) (fun n => n.ok) (fun n => .bool (okN n)))
theorem F9b_ok : TabOK Try.prog F9b := F9a_ok.add (callable_of Try.func31 (by kernel_rfl) (by kernel_rfl)) (entry_ok fun n h => c_filter_plain n h)
@[go_sem] theorem F9b_old {g : FuncId} {xs : List A} (h : g ≠ 31) : F9b.f g xs = F9a.f g xs := Tab.add_ne h
@[go_sem] theorem F9b_eff {g : FuncId} : F9b.eff g = false := rfl
@[go_sem] theorem F9b_ords {n : Nat} : F9b.ords n = [] := rfl
theorem F9b_filter_plain (n : Nd) (h : n.ok) : F9b.f 31 [n.enc] = some (.bool (okN n)) :=
  (Tab.add_eq : F9b.f 31 [n.enc] = (entry (fun (n : Nd) => [n.enc]) (fun n => n.ok) (fun n => .bool (okN n))) [n.enc]).trans (entry_eq (fun i j h => by first | (cases i; cases j; rfl; done) | simpa [Prod.ext_iff, and_assoc] using h | (simp at h; omega)) n h)
theorem f_Node {op kids : Int} {lo hi : List UInt8} (h1 : lo.length ≤ 9223372036854775807) (h2 : hi.length ≤ 9223372036854775807) : F9a.f 48 [.agg [.int .i64 op, .int .i64 kids, .str lo, .str hi]] = some (.bool (okN ⟨op, kids, lo, hi⟩)) := F9a_ref09_Node ⟨op, kids, lo, hi⟩ ⟨h1, h2⟩
theorem f_plain {op kids : Int} {lo hi : List UInt8} (h1 : lo.length ≤ 9223372036854775807) (h2 : hi.length ≤ 9223372036854775807) : F9b.f 31 [.agg [.int .i64 op, .int .i64 kids, .str lo, .str hi]] = some (.bool (okN ⟨op, kids, lo, hi⟩)) := F9b_filter_plain ⟨op, kids, lo, hi⟩ ⟨h1, h2⟩
def leafOK (n : Nd) : Prop := okN n = true ∧ n.kids = 0
theorem leafOK_op {n : Nd} (h : leafOK n) : n.op = 1 ∨ n.op = 2 ∨ (n.op = 3 ∧ n.lo.length ≤ 16) ∨ (n.op = 4 ∧ rightR ⟨n.lo, n.hi, false⟩ = true) ∨ (n.op = 5 ∧ n.lo.length ≤ 17) := by
  obtain ⟨op, kids, lo, hi⟩ := n
  obtain ⟨h, hk⟩ := h
  simp only at hk ⊢
  subst hk
  unfold okN at h
  simp only at h
  cases e1 : op == 1 with
  | true => exact .inl (by simpa using e1)
  | false =>
    cases e2 : op == 2 with
    | true => exact .inr (.inl (by simpa using e2))
    | false =>
      cases e3 : op == 3 with
      | true => exact .inr (.inr (.inl ⟨by simpa using e3, by simp [e1, e2, e3] at h; exact h.1⟩))
      | false =>
        cases e4 : op == 4 with
        | true => exact .inr (.inr (.inr (.inl ⟨by simpa using e4, by simpa [e1, e2, e3, e4] using h⟩)))
        | false =>
          cases e5 : op == 5 with
          | true => exact .inr (.inr (.inr (.inr ⟨by simpa using e5, by simp [e1, e2, e3, e4, e5] at h; exact h.1⟩)))
          | false =>
            exfalso
            rw [e1, e2, e3, e4, e5] at h
            simp at h
theorem pre_enc (lo : List UInt8) : (prefixR lo).enc = .agg [.str (prefixR lo).lo, .str (prefixR lo).hi, .bool (prefixR lo).op] := rfl
theorem pre_len {k : List UInt8} (h : k.length ≤ 16) : (prefixR k).lo.length ≤ 9223372036854775807 ∧ (prefixR k).hi.length ≤ 9223372036854775807 := by
  have := right_parts (prefix_right h)
  exact ⟨by omega, by omega⟩
theorem ok_filter_leaf : codeOK Try.prog F9b Try.f33.ntmps (Try.f33.body.getD .skip) = true := by kernel_rfl
theorem c_filter_leaf (n : Nd) (s : List UInt8) (h : n.ok) (hn : leafOK n) (hs : s.length ≤ 9223372036854775807) : CallA Try.prog 33 [n.enc, .str s] (· = .bool (hasN n [] s)) := by
  refine callA_of_body F9b_ok mixed Try.func33 rfl (Nat.le_of_ble_eq_true rfl) ok_filter_leaf ?_
  unfold Try.f33
  have ho := leafOK_op hn
  obtain ⟨op, kids, lo, hi⟩ := n
  obtain ⟨h1, h2⟩ := h
  simp only at h1 h2 ho
  unfold hasN
  rcases ho with rfl | rfl | ⟨rfl, q⟩ | ⟨rfl, q⟩ | ⟨rfl, q⟩
  · simp -implicitDefEqProofs (maxSteps := 600000) (disch := (first | omega | decide)) only [go_sem, ↓reduceIte, seval]
  · simp -implicitDefEqProofs (maxSteps := 600000) (disch := (first | omega | decide)) only [go_sem, ↓reduceIte, seval]
  · obtain ⟨p1, p2⟩ := pre_len q
    have e : hasR ⟨(prefixR lo).lo, (prefixR lo).hi, (prefixR lo).op⟩ s = beginsB s lo := prefix_has q
    simp -implicitDefEqProofs (maxSteps := 600000) (disch := (first | omega | decide)) only [go_sem, ↓reduceIte, seval, h1, hs, pre_enc, p1, p2, e]
  · simp -implicitDefEqProofs (maxSteps := 600000) (disch := (first | omega | decide)) only [go_sem, ↓reduceIte, seval, h1, h2, hs]
  · simp -implicitDefEqProofs (maxSteps := 600000) (disch := (first | omega | decide)) only [go_sem, ↓reduceIte, seval, h1, hs, open_has q]
theorem ok_filter_leafRanges : codeOK Try.prog F9b Try.f29.ntmps (Try.f29.body.getD .skip) = true := by kernel_rfl
theorem c_filter_leafRanges (n : Nd) (h : n.ok) (hn : leafOK n) : CallA Try.prog 29 [n.enc] (· = .slc ((setS (hasN n [])).map Rng.enc)) := by
  refine callA_of_body F9b_ok mixed Try.func29 rfl (Nat.le_of_ble_eq_true rfl) ok_filter_leafRanges ?_
  unfold Try.f29
  have ho := leafOK_op hn
  have hk : kN n = 0 := by unfold kN; rw [hn.2]; rfl
  have hl : ∀ x, hasN n [] x = if n.op == 1 then true else hasRs (rgN n) x := fun x => leaf_has hn.1 hk x
  obtain ⟨op, kids, lo, hi⟩ := n
  obtain ⟨h1, h2⟩ := h
  simp only at h1 h2 ho hl
  have one : ∀ r : Rng, rightR r = true → (∀ x, hasN ⟨op, kids, lo, hi⟩ [] x = hasR r x) → setS (hasN ⟨op, kids, lo, hi⟩ []) = [r] := fun r hr hx =>
    (setS_eq (l := [r]) (by rw [rightRs_iff]; exact hr) fun x => by rw [hx, hasRs_cons, hasRs_nil, Bool.or_false]).symm
  rcases ho with rfl | rfl | ⟨rfl, q⟩ | ⟨rfl, q⟩ | ⟨rfl, q⟩
  · have e : setS (hasN ⟨1, kids, lo, hi⟩ []) = [⟨[], [], true⟩] := one _ (by decide) fun x => by rw [hl, all_has]; rfl
    rw [e]
    simp -implicitDefEqProofs (maxSteps := 600000) (disch := (first | omega | decide)) only [go_sem, ↓reduceIte, seval]
  · have e : setS (hasN ⟨2, kids, lo, hi⟩ []) = [] := (setS_eq (l := []) rfl fun x => by rw [hl]; rfl).symm
    rw [e]
    simp -implicitDefEqProofs (maxSteps := 600000) (disch := (first | omega | decide)) only [go_sem, ↓reduceIte, seval]
  · have e : setS (hasN ⟨3, kids, lo, hi⟩ []) = [prefixR lo] := one _ (prefix_right q) fun x => by rw [hl]; simp [rgN, hasRs]
    rw [e]
    simp -implicitDefEqProofs (maxSteps := 600000) (disch := (first | omega | decide)) only [go_sem, ↓reduceIte, seval, h1, pre_enc]
  · have e : setS (hasN ⟨4, kids, lo, hi⟩ []) = [⟨lo, hi, false⟩] := one _ q fun x => by rw [hl]; simp [rgN, hasRs]
    rw [e]
    simp -implicitDefEqProofs (maxSteps := 600000) (disch := (first | omega | decide)) only [go_sem, ↓reduceIte, seval]
  · have e : setS (hasN ⟨5, kids, lo, hi⟩ []) = [⟨lo, [], true⟩] := one _ (by unfold rightR; simp [q]) fun x => by rw [hl]; simp [rgN, hasRs]
    rw [e]
    simp -implicitDefEqProofs (maxSteps := 600000) (disch := (first | omega | decide)) only [go_sem, ↓reduceIte, seval]
theorem begI_neg {l : List Nd} {a : Int} (h : a < 0) : begI l a = -1 := by unfold begI; rw [if_pos h]
def begOK (b : Int) (v : List Nd × Int) : Prop := v.1.length ≤ 4611686018427387904 ∧ okF v.1 ∧ v.2 < (v.1.length : Int) ∧ -1 ≤ v.2 ∧ v.2 < b
noncomputable def GB (b : Int) : Tab := F9b.add 32 (entry (fun (v : List Nd × Int) => [.slc (v.1.map Nd.enc), .int .i64 v.2]) (begOK b) (fun v => .int .i64 (begI v.1 v.2)))
@[go_sem] theorem GB_old {b : Int} {g : FuncId} {xs : List A} (h : g ≠ 32) : (GB b).f g xs = F9b.f g xs := Tab.add_ne h
@[go_sem] theorem GB_eff {b : Int} {g : FuncId} : (GB b).eff g = false := rfl
@[go_sem] theorem GB_ords {b : Int} {n : Nat} : (GB b).ords n = [] := rfl
theorem begE_inj (i j : List Nd × Int) (h : [A.slc (i.1.map Nd.enc), .int .i64 i.2] = [A.slc (j.1.map Nd.enc), .int .i64 j.2]) : i = j := by
  simpa [Prod.ext_iff, and_assoc] using h
theorem GB_Begin {b : Int} {l : List Nd} {a : Int} (h : begOK b (l, a)) : (GB b).f 32 [.slc (l.map Nd.enc), .int .i64 a] = some (.int .i64 (begI l a)) :=
  (Tab.add_eq : (GB b).f 32 [.slc (l.map Nd.enc), .int .i64 a] = _).trans (entry_eq (enc := fun (v : List Nd × Int) => [.slc (v.1.map Nd.enc), .int .i64 v.2]) begE_inj (l, a) h)
theorem ok_Begin (b : Int) : codeOK Try.prog (GB b) Try.f32.ntmps (Try.f32.body.getD .skip) = true := by kernel_rfl
theorem skip_from {l : List Nd} {c b : Nat} (hb : b ≤ l.length) : (∀ r, skip 1 (l.take b).reverse = some r → skip (c + 1) (l.take b).reverse = skip c (l.take r.length).reverse) ∧ (∀ r, skip 1 (l.take b).reverse = some r → r.length < b) ∧ (skip 1 (l.take b).reverse = none → skip (c + 1) (l.take b).reverse = none) := by
  have h0 : skip (c + 1) (l.take b).reverse = (skip 1 (l.take b).reverse).bind (skip c) := by rw [Nat.add_comm, skip_add]
  have hr : ∀ r, skip 1 (l.take b).reverse = some r → r = (l.take r.length).reverse ∧ r.length < b := fun r h => by
    obtain ⟨seg, h1, h2⟩ := skip_run _ _ _ h
    obtain ⟨vs, h3, h4⟩ := h2 []
    have h5 : l.take b = r.reverse ++ seg.reverse := by
      have := congrArg List.reverse h1
      rwa [List.reverse_reverse, List.reverse_append] at this
    have h6 : r.reverse = l.take r.reverse.length := by
      have : r.reverse <+: l.take b := ⟨_, h5.symm⟩
      exact List.prefix_iff_eq_take.1 (this.trans (List.take_prefix b l))
    refine ⟨by rw [List.length_reverse] at h6; rw [← h6, List.reverse_reverse], ?_⟩
    have hs : seg ≠ [] := by
      rintro rfl
      have : some [] = some ([] ++ vs) := h4
      have := congrArg List.length (Option.some.inj this)
      simp at this; omega
    have h7 := congrArg List.length h5
    rw [List.length_append, List.length_take, List.length_reverse, List.length_reverse] at h7
    have : 0 < seg.length := List.length_pos_iff.2 hs
    omega
  refine ⟨fun r h => ?_, fun r h => (hr r h).2, fun h => by rw [h0, h]; rfl⟩
  rw [h0, h]
  show skip c r = _
  rw [← (hr r h).1]
theorem begI_at {l : List Nd} {b : Nat} : begI l ((b : Int) - 1) = match skip 1 (l.take b).reverse with | some r => (r.length : Int) | none => -1 := by
  cases b with
  | zero => rfl
  | succ b =>
    unfold begI
    rw [if_neg (by omega)]
    have e : (((b + 1 : Nat) : Int) - 1).toNat + 1 = b + 1 := by omega
    rw [e]; rfl
theorem c_ref09_Begin : ∀ (b : Nat) (l : List Nd) (a : Int), begOK (b : Int) (l, a) → CallA Try.prog 32 [.slc (l.map Nd.enc), .int .i64 a] (· = .int .i64 (begI l a))
  | 0, l, a, h => by
    have ha : a < 0 := by have := h.2.2.2.2; simp only at this; omega
    have hT : TabOK Try.prog (GB (-1)) := F9b_ok.add (callable_of Try.func32 (by kernel_rfl) (by kernel_rfl)) (entry_ok fun v hv => by
      exfalso
      obtain ⟨_, _, _, h4, h5⟩ := hv
      omega)
    refine callA_of_body hT mixed Try.func32 rfl (Nat.le_of_ble_eq_true rfl) (ok_Begin _) ?_
    unfold Try.f32
    rw [begI_neg ha]
    simp -implicitDefEqProofs (maxSteps := 600000) (disch := (first | omega | decide)) only [go_sem, ↓reduceIte, seval, ha]
  | b + 1, l, a, h => by
    have hT : TabOK Try.prog (GB (b : Int)) := F9b_ok.add (callable_of Try.func32 (by kernel_rfl) (by kernel_rfl)) (entry_ok fun v hv => c_ref09_Begin b v.1 v.2 hv)
    refine callA_of_body hT mixed Try.func32 rfl (Nat.le_of_ble_eq_true rfl) (ok_Begin _) ?_
    unfold Try.f32
    obtain ⟨h1, h2, h3, h4, h5⟩ := h
    simp only at h1 h2 h3 h4 h5
    by_cases ha : a < 0
    · rw [begI_neg ha]
      simp -implicitDefEqProofs (maxSteps := 600000) (disch := (first | omega | decide)) only [go_sem, ↓reduceIte, seval, ha]
    · obtain ⟨k, rfl⟩ : ∃ k : Nat, a = (k : Int) := ⟨a.toNat, by omega⟩
      have hk : k < l.length := by omega
      have hk' : (k : Int) < (l.length : Int) := by omega
      have hge : ¬ (l.length : Int) ≤ (k : Int) := by omega
      have e1 := nd_get hk
      obtain ⟨g1, g2⟩ := h2 _ (List.getElem_mem hk)
      have hspec : begI l (k : Int) = match (if okN l[k] = true then skip (kN l[k]) (l.take k).reverse else none) with | some r => (r.length : Int) | none => -1 := by
        have : ((k + 1 : Nat) : Int) - 1 = (k : Int) := by omega
        rw [← this, begI_at, List.take_succ_eq_append_getElem hk, List.reverse_append]
        show (match skip (0 + 1) (l[k] :: (l.take k).reverse) with | some r => (r.length : Int) | none => -1) = _
        simp only [skip, Nat.zero_add]
      have hkid := okN_kids (n := l[k])
      rw [hspec]
      generalize hx : l[k] = x at *
      obtain ⟨op, kids, lo, hi⟩ := x
      simp only at e1 g1 g2
      have hn := f_Node (op := op) (kids := kids) (lo := lo) (hi := hi) g1 g2
      cases hok : okN ⟨op, kids, lo, hi⟩ with
      | false =>
        rw [hok] at hn
        simp -implicitDefEqProofs (maxSteps := 600000) (disch := (first | omega | decide)) only [go_sem, ↓reduceIte, seval, ha, hk', hge, e1, hn, List.length_map]
      | true =>
        rw [hok] at hn
        obtain ⟨q1, q2⟩ := hkid hok
        generalize hkn : kN ⟨op, kids, lo, hi⟩ = kn at *
        simp only at q1
        subst q1
        simp -implicitDefEqProofs (maxSteps := 600000) (disch := (first | omega | decide)) only [go_sem, ↓reduceIte, seval, ha, hk', hge, e1, hn, List.length_map]
        refine wpA_loop [0, 1] (ι := {p : Nat × Nat // p.1 ≤ kn ∧ p.2 ≤ k ∧ skip kn (l.take k).reverse = skip (kn - p.1) (l.take p.2).reverse}) (fun p => [(6, .int .i64 p.1.1), (5, .int .i64 p.1.2)]) (fun _ => []) (fun p => kn - p.1.1) ⟨(0, k), by omega, by omega, by simp⟩ (Nat.zero_le _) ?_ ?_
        · simp -implicitDefEqProofs (maxSteps := 600000) (disch := (first | omega | decide)) only [go_sem, ↓reduceIte, seval]
        · rintro ⟨⟨j, f⟩, hj, hf, hd⟩
          simp only at hj hf hd ⊢
          by_cases hlt : j < kn
          · have hlt' : (j : Int) < (kn : Int) := by omega
            have hB : (GB (b : Int)).f 32 [.slc (l.map Nd.enc), .int .i64 ((f : Int) - 1)] = some (.int .i64 (begI l ((f : Int) - 1))) := GB_Begin ⟨h1, h2, by simp only; omega, by simp only; omega, by simp only; omega⟩
            obtain ⟨s1, s2, s3⟩ := skip_from (l := l) (c := kn - j - 1) (b := f) (by omega)
            have e : kn - j = kn - j - 1 + 1 := by omega
            rw [begI_at] at hB
            cases hs : skip 1 (l.take f).reverse with
            | none =>
              rw [hs] at hB
              have hh : skip kn (l.take k).reverse = none := by rw [hd, e]; exact s3 hs
              simp -implicitDefEqProofs (maxSteps := 600000) (disch := (first | omega | decide)) only [go_sem, ↓reduceIte, seval, hlt', e1, hB, hh, wrap_i64, List.length_map]
            | some r =>
              rw [hs] at hB
              have hr := s2 r hs
              have hr0 : ¬ (r.length : Int) < 0 := by omega
              have hh : skip kn (l.take k).reverse = skip (kn - (j + 1)) (l.take r.length).reverse := by rw [hd, e, s1 r hs]; rfl
              simp -implicitDefEqProofs (maxSteps := 600000) (disch := (first | omega | decide)) only [go_sem, ↓reduceIte, seval, hlt', e1, hB, hr0, wrap_i64, List.length_map]
              exact ⟨⟨(j + 1, r.length), by simp only; omega, by simp only; omega, hh⟩, by simp, by show kn - (j + 1) < kn - j; omega⟩
          · have hlt' : ¬ (j : Int) < (kn : Int) := by omega
            have e : kn - j = 0 := by omega
            rw [e] at hd
            simp only [skip] at hd
            have hfl : ((l.take f).reverse.length : Int) = (f : Int) := by rw [List.length_reverse, List.length_take]; omega
            rw [hd]
            simp only [hfl]
            simp -implicitDefEqProofs (maxSteps := 600000) (disch := (first | omega | decide)) only [go_sem, ↓reduceIte, seval, hlt', e1, List.length_map]
noncomputable def F9c : Tab := F9b.add 32 (entry (fun (v : List Nd × Int) => [.slc (v.1.map Nd.enc), .int .i64 v.2]) (fun v => v.1.length ≤ 1000 ∧ okF v.1 ∧ v.2 < (v.1.length : Int) ∧ -1 ≤ v.2) (fun v => .int .i64 (begI v.1 v.2)))
theorem F9c_ok : TabOK Try.prog F9c := F9b_ok.add (callable_of Try.func32 (by kernel_rfl) (by kernel_rfl)) (entry_ok fun v h => c_ref09_Begin (v.1.length + 1) v.1 v.2 ⟨Nat.le_trans h.1 (by decide), h.2.1, h.2.2.1, h.2.2.2, by simp only; omega⟩)
@[go_sem] theorem F9c_old {g : FuncId} {xs : List A} (h : g ≠ 32) : F9c.f g xs = F9b.f g xs := Tab.add_ne h
@[go_sem] theorem F9c_eff {g : FuncId} : F9c.eff g = false := rfl
@[go_sem] theorem F9c_ords {n : Nat} : F9c.ords n = [] := rfl
theorem F9c_ref09_Begin (v : List Nd × Int) (h : v.1.length ≤ 1000 ∧ okF v.1 ∧ v.2 < (v.1.length : Int) ∧ -1 ≤ v.2) : F9c.f 32 [.slc (v.1.map Nd.enc), .int .i64 v.2] = some (.int .i64 (begI v.1 v.2)) :=
  (Tab.add_eq : F9c.f 32 [.slc (v.1.map Nd.enc), .int .i64 v.2] = (entry (fun (v : List Nd × Int) => [.slc (v.1.map Nd.enc), .int .i64 v.2]) (fun v => v.1.length ≤ 1000 ∧ okF v.1 ∧ v.2 < (v.1.length : Int) ∧ -1 ≤ v.2) (fun v => .int .i64 (begI v.1 v.2))) [.slc (v.1.map Nd.enc), .int .i64 v.2]).trans (entry_eq (fun i j h => by first | (cases i; cases j; rfl; done) | simpa [Prod.ext_iff, and_assoc] using h | (simp at h; omega)) v h)
theorem f_Begin {l : List Nd} {a : Int} (h : l.length ≤ 1000 ∧ okF l ∧ a < (l.length : Int) ∧ -1 ≤ a) : F9c.f 32 [.slc (l.map Nd.enc), .int .i64 a] = some (.int .i64 (begI l a)) := F9c_ref09_Begin (l, a) h
theorem ok_ref09_Right : codeOK Try.prog F9c Try.f11.ntmps (Try.f11.body.getD .skip) = true := by kernel_rfl
theorem c_ref09_Right (l : List Nd) (h : l.length ≤ 1000) (ho : okF l) : CallA Try.prog 11 [.slc (l.map Nd.enc)] (· = .bool (rightF l)) := by
  refine callA_of_body F9c_ok mixed Try.func11 rfl (Nat.le_of_ble_eq_true rfl) ok_ref09_Right ?_
  unfold Try.f11
  rw [← ref_right]
  by_cases h1 : 1 ≤ l.length
  · have h1' : (1 : Int) ≤ (l.length : Int) := by omega
    by_cases h2 : l.length ≤ 32
    · have h2' : (l.length : Int) ≤ 32 := by omega
      have hb := f_Begin (l := l) (a := (l.length : Int) - 1) ⟨h, ho, by omega, by omega⟩
      cases h3 : begI l ((l.length : Int) - 1) == 0 <;> simp -implicitDefEqProofs (maxSteps := 600000) (disch := (first | omega | decide)) only [go_sem, ↓reduceIte, seval, h1, h1', h2, h2', hb, h3, wrap_i64, List.length_map]
    · have h2' : ¬ (l.length : Int) ≤ 32 := by omega
      simp -implicitDefEqProofs (maxSteps := 600000) (disch := (first | omega | decide)) only [go_sem, ↓reduceIte, seval, h1, h1', h2, h2', List.length_map]
  · have h1' : ¬ (1 : Int) ≤ (l.length : Int) := by omega
    simp -implicitDefEqProofs (maxSteps := 600000) (disch := (first | omega | decide)) only [go_sem, ↓reduceIte, seval, h1, h1', List.length_map]
noncomputable def F9d : Tab := F9c.add 11 (entry (fun (l : List Nd) => [.slc (l.map Nd.enc)]) (fun l => l.length ≤ 1000 ∧ okF l) (fun l => .bool (rightF l)))
theorem F9d_ok : TabOK Try.prog F9d := F9c_ok.add (callable_of Try.func11 (by kernel_rfl) (by kernel_rfl)) (entry_ok fun l h => c_ref09_Right l h.1 h.2)
@[go_sem] theorem F9d_old {g : FuncId} {xs : List A} (h : g ≠ 11) : F9d.f g xs = F9c.f g xs := Tab.add_ne h
theorem F9d_ref09_Right (l : List Nd) (h : l.length ≤ 1000 ∧ okF l) : F9d.f 11 [.slc (l.map Nd.enc)] = some (.bool (rightF l)) :=
  (Tab.add_eq : F9d.f 11 [.slc (l.map Nd.enc)] = (entry (fun (l : List Nd) => [.slc (l.map Nd.enc)]) (fun l => l.length ≤ 1000 ∧ okF l) (fun l => .bool (rightF l))) [.slc (l.map Nd.enc)]).trans (entry_eq (fun i j h => by first | (cases i; cases j; rfl; done) | simpa [Prod.ext_iff, and_assoc] using h | (simp at h; omega)) l h)
theorem f_rRight {l : List Nd} (h : l.length ≤ 1000 ∧ okF l) : F9d.f 11 [.slc (l.map Nd.enc)] = some (.bool (rightF l)) := F9d_ref09_Right l h
end Go.Proofs.Ytmaipoimiiaofaa
namespace Go.Proofs.Ytmaipoimiiaofaa
open Go.Abs
set_option linter.unusedSimpArgs false
set_option linter.unusedVariables false
set_option maxRecDepth 20000
set_option maxHeartbeats 8000000
section
variable {V : Type} {t : List V} {i : Nat}
theorem vs_step (h : i < t.length) : t.drop (t.length - (i + 1)) = t[t.length - (i + 1)]'(by omega) :: t.drop (t.length - i) := by
  rw [List.drop_eq_getElem_cons (by omega : t.length - (i + 1) < t.length)]
  rw [show t.length - (i + 1) + 1 = t.length - i by omega]
theorem last_take (h : i < t.length) : (t.take (t.length - i)).getLast? = some (t[t.length - (i + 1)]'(by omega)) := by
  rw [List.getLast?_eq_getElem?, List.length_take, List.getElem?_take, if_pos (by omega)]
  rw [show min (t.length - i) t.length - 1 = t.length - (i + 1) by omega]
  exact List.getElem?_eq_getElem _
end
theorem last_at {l : List Nd} {k : Nat} (hk : k < l.length) {t s : List (List UInt8 → Bool)} (h : runN [] (l.take k) = some t) (h1 : stepN t l[k] = some s) : okN l[k] = true ∧ kN l[k] ≤ t.length ∧ ∀ x, lastV (l.take (k + 1)) x = hasN l[k] (t.drop (t.length - kN l[k])) x := by
  have h2 := runN_take_succ hk []
  rw [h] at h2
  have h2 : runN [] (l.take (k + 1)) = stepN t l[k] := h2
  rw [h1] at h2
  unfold stepN at h1
  split at h1
  · rename_i g
    obtain rfl := Option.some.inj h1
    exact ⟨g.1, g.2, fun x => lastV_of h2 (by simp) x⟩
  · cases h1
theorem run_at {l : List Nd} {k : Nat} (hk : k < l.length) {s : List (List UInt8 → Bool)} (h : runN [] l = some s) : ∃ t u, runN [] (l.take k) = some t ∧ stepN t l[k] = some u := by
  obtain ⟨t, ht⟩ := runN_take h k
  obtain ⟨u, hu⟩ := runN_take h (k + 1)
  have h2 := runN_take_succ hk []
  rw [ht, hu] at h2
  exact ⟨t, u, ht, h2.symm⟩
def inOK (b : Int) (v : List Nd × Int × List UInt8) : Prop := v.1.length ≤ 1000 ∧ okF v.1 ∧ (∃ s, runN [] v.1 = some s) ∧ 0 ≤ v.2.1 ∧ v.2.1 < (v.1.length : Int) ∧ v.2.2.length ≤ 9223372036854775807 ∧ v.2.1 < b
def inEnc (v : List Nd × Int × List UInt8) : List A := [.slc (v.1.map Nd.enc), .int .i64 v.2.1, .str v.2.2]
noncomputable def inR (v : List Nd × Int × List UInt8) : A := .bool (lastV (v.1.take (v.2.1.toNat + 1)) v.2.2)
noncomputable def GI (b : Int) : Tab := F9d.add 35 (entry inEnc (inOK b) inR)
@[go_sem] theorem GI_old {b : Int} {g : FuncId} {xs : List A} (h : g ≠ 35) : (GI b).f g xs = F9d.f g xs := Tab.add_ne h
@[go_sem] theorem GI_eff {b : Int} {g : FuncId} : (GI b).eff g = false := rfl
@[go_sem] theorem GI_ords {b : Int} {n : Nat} : (GI b).ords n = [] := rfl
theorem inE_inj (i j : List Nd × Int × List UInt8) (h : inEnc i = inEnc j) : i = j := by
  simpa [inEnc, Prod.ext_iff, and_assoc] using h
theorem GI_In {b : Int} {l : List Nd} {a : Int} {s : List UInt8} (h : inOK b (l, a, s)) : (GI b).f 35 [.slc (l.map Nd.enc), .int .i64 a, .str s] = some (.bool (lastV (l.take (a.toNat + 1)) s)) :=
  (Tab.add_eq : (GI b).f 35 [.slc (l.map Nd.enc), .int .i64 a, .str s] = _).trans (entry_eq (enc := inEnc) (spec := inR) inE_inj (l, a, s) h)
theorem ok_In (b : Int) : codeOK Try.prog (GI b) Try.f35.ntmps (Try.f35.body.getD .skip) = true := by kernel_rfl
theorem c_ref09_In : ∀ (b : Nat) (l : List Nd) (a : Int) (s : List UInt8), inOK (b : Int) (l, a, s) → CallA Try.prog 35 [.slc (l.map Nd.enc), .int .i64 a, .str s] (· = .bool (lastV (l.take (a.toNat + 1)) s))
  | 0, l, a, s, h => by
    exfalso
    obtain ⟨_, _, _, h4, _, _, h5⟩ := h
    simp only at h4 h5; omega
  | b + 1, l, a, s, h => by
    have hT : TabOK Try.prog (GI (b : Int)) := F9d_ok.add (callable_of Try.func35 (by kernel_rfl) (by kernel_rfl)) (entry_ok fun v hv => c_ref09_In b v.1 v.2.1 v.2.2 hv)
    refine callA_of_body hT mixed Try.func35 rfl (Nat.le_of_ble_eq_true rfl) (ok_In _) ?_
    unfold Try.f35
    obtain ⟨h1, h2, ⟨st, hst⟩, h3, h4, h5, h6⟩ := h
    simp only at h1 h2 hst h3 h4 h5 h6
    obtain ⟨k, rfl⟩ : ∃ k : Nat, a = (k : Int) := ⟨a.toNat, by omega⟩
    have hk : k < l.length := by omega
    have hk' : (k : Int) < (l.length : Int) := by omega
    obtain ⟨t, u, ht, hu⟩ := run_at hk hst
    obtain ⟨g1, g2, g3⟩ := last_at hk ht hu
    have e1 := nd_get hk
    obtain ⟨n1, n2⟩ := h2 _ (List.getElem_mem hk)
    have hkid := okN_kids g1
    rw [show (k : Int).toNat = k by omega, g3]
    clear hu g3
    have hIn : ∀ f j : Nat, f ≤ k → j < t.length → runN [] (l.take f) = some (t.take (t.length - j)) → (GI (b : Int)).f 35 [.slc (l.map Nd.enc), .int .i64 ((f : Int) - 1), .str s] = some (.bool (t[t.length - (j + 1)]! s)) := fun f j hf hj hr => by
      have f0 : f ≠ 0 := by
        rintro rfl
        have hr : some [] = some (t.take (t.length - j)) := hr
        have := congrArg List.length (Option.some.inj hr)
        simp at this; omega
      have := GI_In (b := (b : Int)) (l := l) (a := (f : Int) - 1) (s := s) ⟨h1, h2, ⟨st, hst⟩, by simp only; omega, by simp only; omega, h5, by simp only; omega⟩
      rw [this, show ((f : Int) - 1).toNat + 1 = f by omega, lastV_of hr (last_take hj), getElem!_pos t _ (by omega)]
    generalize hx : l[k] = x at *
    obtain ⟨op, kids, lo, hi⟩ := x
    unfold hasN
    simp only at n1 n2 hkid ⊢
    cases o1 : op == 1 with
    | true => simp -implicitDefEqProofs (maxSteps := 600000) (disch := (first | omega | decide)) only [go_sem, ↓reduceIte, seval, hk', e1, o1, List.length_map]
    | false =>
      cases o3 : op == 3 with
      | true => simp -implicitDefEqProofs (maxSteps := 600000) (disch := (first | omega | decide)) only [go_sem, ↓reduceIte, seval, hk', e1, o1, o3, n1, h5, List.length_map]
      | false =>
        cases o4 : op == 4 with
        | true => simp -implicitDefEqProofs (maxSteps := 600000) (disch := (first | omega | decide)) only [go_sem, ↓reduceIte, seval, hk', e1, o1, o3, o4, n1, n2, h5, List.length_map]
        | false =>
          cases o5 : op == 5 with
          | true => simp -implicitDefEqProofs (maxSteps := 600000) (disch := (first | omega | decide)) only [go_sem, ↓reduceIte, seval, hk', e1, o1, o3, o4, o5, n1, h5, List.length_map]
          | false =>
            cases o6 : op == 6 with
            | true =>
              have hk1 : kN ⟨op, kids, lo, hi⟩ = 1 := by
                have e : op = 6 := by simpa using o6
                subst e
                unfold okN at g1
                simp at g1
                unfold kN; simp only; omega
              rw [hk1] at g2 ⊢
              have hv := vs_step (t := t) (i := 0) (by omega)
              have hi := hIn k 0 (Nat.le_refl _) (by omega) (by rw [ht]; simp)
              rw [getElem!_pos t _ (by omega)] at hi
              simp only [Nat.zero_add, Nat.sub_zero, List.drop_length] at hv hi
              rw [hv]
              simp only [List.all_cons, List.all_nil, Bool.and_true]
              generalize t[t.length - 1] s = w at *
              simp -implicitDefEqProofs (maxSteps := 600000) (disch := (first | omega | decide)) only [go_sem, ↓reduceIte, seval, hk', e1, o1, o3, o4, o5, o6, hi, wrap_i64, List.length_map]
            | false =>
              generalize hkn : kN ⟨op, kids, lo, hi⟩ = kn at *
              obtain ⟨rfl, hk32⟩ := hkid
              simp -implicitDefEqProofs (maxSteps := 600000) (disch := (first | omega | decide)) only [go_sem, ↓reduceIte, seval, hk', e1, o1, o3, o4, o5, o6, List.length_map]
              refine wpA_loop [0, 1, 2, 6, 7] (ι := {p : Nat × Nat // p.1 ≤ kn ∧ p.2 ≤ k ∧ runN [] (l.take p.2) = some (t.take (t.length - p.1))}) (fun p => [(11, .int .i64 p.1.1), (10, .int .i64 p.1.2), (8, .bool ((t.drop (t.length - p.1.1)).all (· s))), (9, .bool ((t.drop (t.length - p.1.1)).any (· s)))]) (fun _ => []) (fun p => kn - p.1.1) ⟨(0, k), by omega, by omega, by rw [ht]; simp⟩ (Nat.zero_le _) ?_ ?_
              · simp -implicitDefEqProofs (maxSteps := 600000) (disch := (first | omega | decide)) only [go_sem, ↓reduceIte, seval]
                simp
              · rintro ⟨⟨j, f⟩, hj, hf, hd⟩
                simp only at hj hf hd ⊢
                by_cases hlt : j < kn
                · have hlt' : (j : Int) < (kn : Int) := by omega
                  have hi := hIn f j hf (by omega) hd
                  have hv := vs_step (t := t) (i := j) (by omega)
                  rw [getElem!_pos t _ (by omega)] at hi
                  obtain ⟨p, q1, q2, q3⟩ := beg_step (b := f) (by omega) hd (by intro e; have := congrArg List.length e; simp at this; omega)
                  have q3 : runN [] (l.take p) = some (t.take (t.length - (j + 1))) := by
                    rw [q3, List.length_take, List.take_take]; congr 2; omega
                  have hB := f_Begin (l := l) (a := (f : Int) - 1) ⟨h1, h2, by omega, by omega⟩
                  rw [q1] at hB
                  have ha : (t.drop (t.length - (j + 1))).all (· s) = ((t.drop (t.length - j)).all (· s) && t[t.length - (j + 1)] s) := by rw [hv, List.all_cons, Bool.and_comm]
                  have ho : (t.drop (t.length - (j + 1))).any (· s) = ((t.drop (t.length - j)).any (· s) || t[t.length - (j + 1)] s) := by rw [hv, List.any_cons, Bool.or_comm]
                  have nx : ∀ x y, x = ((t.drop (t.length - j)).all (· s) && t[t.length - (j + 1)] s) → y = ((t.drop (t.length - j)).any (· s) || t[t.length - (j + 1)] s) → ∃ i : {p : Nat × Nat // p.1 ≤ kn ∧ p.2 ≤ k ∧ runN [] (l.take p.2) = some (t.take (t.length - p.1))}, ((j : Int) + 1 = (i.1.1 : Int) ∧ (p : Int) = (i.1.2 : Int) ∧ x = (t.drop (t.length - i.1.1)).all (· s) ∧ y = (t.drop (t.length - i.1.1)).any (· s)) ∧ kn - i.1.1 < kn - j := fun x y ex ey => ⟨⟨(j + 1, p), by simp only; omega, by simp only; omega, q3⟩, ⟨by simp, rfl, by rw [ex, ha], by rw [ey, ho]⟩, by show kn - (j + 1) < kn - j; omega⟩
                  clear ha ho hv
                  generalize (t.drop (t.length - j)).all (· s) = A1 at *
                  generalize (t.drop (t.length - j)).any (· s) = O1 at *
                  generalize t[t.length - (j + 1)] s = W at *
                  cases A1 <;> cases O1 <;> cases W
                  all_goals
                    simp -implicitDefEqProofs (maxSteps := 600000) (disch := (first | omega | decide)) only [go_sem, ↓reduceIte, seval, hlt', hi, hB, wrap_i64, List.length_map]
                    exact nx _ _ rfl rfl
                · have hlt' : ¬ (j : Int) < (kn : Int) := by omega
                  obtain rfl : j = kn := by omega
                  generalize (t.drop (t.length - j)).all (· s) = A1 at *
                  generalize (t.drop (t.length - j)).any (· s) = O1 at *
                  cases o7 : op == 7 <;> cases o8 : op == 8 <;> cases A1 <;> cases O1 <;> simp -implicitDefEqProofs (maxSteps := 600000) (disch := (first | omega | decide)) only [go_sem, ↓reduceIte, seval, hlt', o7, o8, List.length_map]
                  all_goals
                    have x7 : op = 7 := by simpa using o7
                    have x8 : op = 8 := by simpa using o8
                    omega
noncomputable def F9e : Tab := F9d.add 35 (entry (fun (v : List Nd × Int × List UInt8) => [.slc (v.1.map Nd.enc), .int .i64 v.2.1, .str v.2.2]) (fun v => v.1.length ≤ 1000 ∧ okF v.1 ∧ (∃ s, runN [] v.1 = some s) ∧ 0 ≤ v.2.1 ∧ v.2.1 < (v.1.length : Int) ∧ v.2.2.length ≤ 9223372036854775807) (fun v => .bool (lastV (v.1.take (v.2.1.toNat + 1)) v.2.2)))
theorem F9e_ok : TabOK Try.prog F9e := F9d_ok.add (callable_of Try.func35 (by kernel_rfl) (by kernel_rfl)) (entry_ok fun v h => c_ref09_In v.1.length v.1 v.2.1 v.2.2 ⟨h.1, h.2.1, h.2.2.1, h.2.2.2.1, h.2.2.2.2.1, h.2.2.2.2.2, h.2.2.2.2.1⟩)
@[go_sem] theorem F9e_old {g : FuncId} {xs : List A} (h : g ≠ 35) : F9e.f g xs = F9d.f g xs := Tab.add_ne h
@[go_sem] theorem F9e_eff {g : FuncId} : F9e.eff g = false := rfl
@[go_sem] theorem F9e_ords {n : Nat} : F9e.ords n = [] := rfl
theorem F9e_ref09_In (v : List Nd × Int × List UInt8) (h : v.1.length ≤ 1000 ∧ okF v.1 ∧ (∃ s, runN [] v.1 = some s) ∧ 0 ≤ v.2.1 ∧ v.2.1 < (v.1.length : Int) ∧ v.2.2.length ≤ 9223372036854775807) : F9e.f 35 [.slc (v.1.map Nd.enc), .int .i64 v.2.1, .str v.2.2] = some (.bool (lastV (v.1.take (v.2.1.toNat + 1)) v.2.2)) :=
  (Tab.add_eq : F9e.f 35 [.slc (v.1.map Nd.enc), .int .i64 v.2.1, .str v.2.2] = (entry (fun (v : List Nd × Int × List UInt8) => [.slc (v.1.map Nd.enc), .int .i64 v.2.1, .str v.2.2]) (fun v => v.1.length ≤ 1000 ∧ okF v.1 ∧ (∃ s, runN [] v.1 = some s) ∧ 0 ≤ v.2.1 ∧ v.2.1 < (v.1.length : Int) ∧ v.2.2.length ≤ 9223372036854775807) (fun v => .bool (lastV (v.1.take (v.2.1.toNat + 1)) v.2.2))) [.slc (v.1.map Nd.enc), .int .i64 v.2.1, .str v.2.2]).trans (entry_eq (fun i j h => by first | (cases i; cases j; rfl; done) | simpa [Prod.ext_iff, and_assoc] using h | (simp at h; omega)) v h)
theorem f_In {l : List Nd} {a : Int} {s : List UInt8} (h : l.length ≤ 1000 ∧ okF l ∧ (∃ s, runN [] l = some s) ∧ 0 ≤ a ∧ a < (l.length : Int) ∧ s.length ≤ 9223372036854775807) : F9e.f 35 [.slc (l.map Nd.enc), .int .i64 a, .str s] = some (.bool (lastV (l.take (a.toNat + 1)) s)) := F9e_ref09_In (l, a, s) h
theorem matchF_none {l : List Nd} (h : rightF l = false) : matchF l = fun _ => false := by
  funext x; unfold matchF
  unfold rightF at h
  cases hv : valF l with
  | none => rfl
  | some v => rw [hv] at h; cases h
theorem ok_ref09_Match : codeOK Try.prog F9e Try.f13.ntmps (Try.f13.body.getD .skip) = true := by kernel_rfl
theorem c_ref09_Match (l : List Nd) (s : List UInt8) (h : l.length ≤ 1000) (ho : okF l) (hs : s.length ≤ 9223372036854775807) : CallA Try.prog 13 [.slc (l.map Nd.enc), .str s] (· = .bool (matchF l s)) := by
  refine callA_of_body F9e_ok mixed Try.func13 rfl (Nat.le_of_ble_eq_true rfl) ok_ref09_Match ?_
  unfold Try.f13
  have hR := f_rRight (l := l) ⟨h, ho⟩
  cases hr : rightF l with
  | false =>
    rw [hr] at hR
    rw [matchF_none hr]
    simp -implicitDefEqProofs (maxSteps := 600000) (disch := (first | omega | decide)) only [go_sem, ↓reduceIte, seval, hR, List.length_map]
  | true =>
    rw [hr] at hR
    obtain ⟨v, h1, h2⟩ := rightF_iff.1 hr
    rw [matchF_val (valF_some.2 ⟨h1, h2⟩)]
    have hl : l ≠ [] := by rintro rfl; simp [runN] at h2
    have hl1 : 1 ≤ l.length := by
      cases l with
      | nil => exact absurd rfl hl
      | cons _ _ => simp
    have hi := f_In (l := l) (a := (l.length : Int) - 1) (s := s) ⟨h, ho, ⟨_, h2⟩, by omega, by omega, hs⟩
    rw [show ((l.length : Int) - 1).toNat + 1 = l.length by omega, List.take_length, lastV_of h2 (v := v) rfl] at hi
    simp -implicitDefEqProofs (maxSteps := 600000) (disch := (first | omega | decide)) only [go_sem, ↓reduceIte, seval, hR, hi, wrap_i64, List.length_map]
noncomputable def F9f : Tab := F9e.add 13 (entry (fun (v : List Nd × List UInt8) => [.slc (v.1.map Nd.enc), .str v.2]) (fun v => v.1.length ≤ 1000 ∧ okF v.1 ∧ v.2.length ≤ 9223372036854775807) (fun v => .bool (matchF v.1 v.2)))
theorem F9f_ok : TabOK Try.prog F9f := F9e_ok.add (callable_of Try.func13 (by kernel_rfl) (by kernel_rfl)) (entry_ok fun v h => c_ref09_Match v.1 v.2 h.1 h.2.1 h.2.2)
@[go_sem] theorem F9f_old {g : FuncId} {xs : List A} (h : g ≠ 13) : F9f.f g xs = F9e.f g xs := Tab.add_ne h
@[go_sem] theorem F9f_eff {g : FuncId} : F9f.eff g = false := rfl
@[go_sem] theorem F9f_ords {n : Nat} : F9f.ords n = [] := rfl
theorem F9f_ref09_Match (v : List Nd × List UInt8) (h : v.1.length ≤ 1000 ∧ okF v.1 ∧ v.2.length ≤ 9223372036854775807) : F9f.f 13 [.slc (v.1.map Nd.enc), .str v.2] = some (.bool (matchF v.1 v.2)) :=
  (Tab.add_eq : F9f.f 13 [.slc (v.1.map Nd.enc), .str v.2] = (entry (fun (v : List Nd × List UInt8) => [.slc (v.1.map Nd.enc), .str v.2]) (fun v => v.1.length ≤ 1000 ∧ okF v.1 ∧ v.2.length ≤ 9223372036854775807) (fun v => .bool (matchF v.1 v.2))) [.slc (v.1.map Nd.enc), .str v.2]).trans (entry_eq (fun i j h => by first | (cases i; cases j; rfl; done) | simpa [Prod.ext_iff, and_assoc] using h | (simp at h; omega)) v h)
theorem f_rMatch {l : List Nd} {s : List UInt8} (h : l.length ≤ 1000 ∧ okF l ∧ s.length ≤ 9223372036854775807) : F9f.f 13 [.slc (l.map Nd.enc), .str s] = some (.bool (matchF l s)) := F9f_ref09_Match (l, s) h
theorem run_len : ∀ {l : List Nd} {st s : List (List UInt8 → Bool)}, runN st l = some s → s.length ≤ st.length + l.length
  | [], st, s, h => by
    have h : some st = some s := h
    obtain rfl := Option.some.inj h
    simp
  | n :: l, st, s, h => by
    have h : (stepN st n).bind (fun s => runN s l) = some s := h
    cases h1 : stepN st n with
    | none => rw [h1] at h; cases h
    | some t =>
      rw [h1] at h
      have := run_len (l := l) (st := t) (s := s) h
      unfold stepN at h1
      split at h1
      · obtain rfl := Option.some.inj h1
        simp only [List.length_append, List.length_take, List.length_cons, List.length_nil] at this ⊢
        omega
      · cases h1
theorem ok_filter_Right : codeOK Try.prog F9f Try.f10.ntmps (Try.f10.body.getD .skip) = true := by kernel_rfl
theorem c_filter_Right (l : List Nd) (h : l.length ≤ 4611686018427387904) (ho : okF l) : CallA Try.prog 10 [.slc (l.map Nd.enc)] (· = .bool (rightF l)) := by
  refine callA_of_body F9f_ok mixed Try.func10 rfl (Nat.le_of_ble_eq_true rfl) ok_filter_Right ?_
  unfold Try.f10
  by_cases h2 : 32 < l.length
  · have h2' : (32 : Int) < (l.length : Int) := by omega
    have hr : rightF l = false := by
      rw [Bool.eq_false_iff]; intro e
      obtain ⟨v, h3, _⟩ := rightF_iff.1 e
      omega
    simp -implicitDefEqProofs (maxSteps := 600000) (disch := (first | omega | decide)) only [go_sem, ↓reduceIte, seval, h2, h2', hr, List.length_map]
  · have h2' : ¬ (32 : Int) < (l.length : Int) := by omega
    simp -implicitDefEqProofs (maxSteps := 600000) (disch := (first | omega | decide)) only [go_sem, ↓reduceIte, seval, h2, h2', List.length_map]
    refine wpA_loop [2, 9, 10] (ι := {p : Nat × List (List UInt8 → Bool) // p.1 ≤ l.length ∧ runN [] (l.take p.1) = some p.2}) (fun p => [(11, .int .i64 p.1.1), (3, .int .i64 p.1.2.length)]) (fun _ => []) (fun p => l.length - p.1.1) ⟨(0, []), by omega, rfl⟩ (Nat.zero_le _) ?_ ?_
    · simp -implicitDefEqProofs (maxSteps := 600000) (disch := (first | omega | decide)) only [go_sem, ↓reduceIte, seval]
    · rintro ⟨⟨k, st⟩, hk, hd⟩
      simp only at hk hd ⊢
      have hsl := run_len hd
      rw [List.length_nil, List.length_take] at hsl
      by_cases hlt : k < l.length
      · have hlt' : (k : Int) < (l.length : Int) := by omega
        have e1 := nd_get hlt
        obtain ⟨n1, n2⟩ := ho _ (List.getElem_mem hlt)
        have hf := f_plain (op := l[k].op) (kids := l[k].kids) n1 n2
        have hsn := runN_take_succ hlt []
        rw [hd] at hsn
        have hsn : runN [] (l.take (k + 1)) = stepN st l[k] := hsn
        have hrf : stepN st l[k] = none → rightF l = false := fun e => by
          rw [Bool.eq_false_iff]; intro hr
          obtain ⟨v, _, h3⟩ := rightF_iff.1 hr
          obtain ⟨t, u, q1, q2⟩ := run_at hlt h3
          rw [hd] at q1
          obtain rfl := Option.some.inj q1
          rw [e] at q2; cases q2
        have hkid := okN_kids (n := l[k])
        generalize l[k] = x at *
        obtain ⟨op, kids, lo, hi⟩ := x
        simp only at n1 n2 hf hkid e1
        cases hok : okN ⟨op, kids, lo, hi⟩ with
        | false =>
          rw [hok] at hf
          have hr := hrf (by unfold stepN; rw [if_neg]; rw [hok]; simp)
          simp -implicitDefEqProofs (maxSteps := 600000) (disch := (first | omega | decide)) only [go_sem, ↓reduceIte, seval, hlt', e1, hf, hr, List.length_map]
        | true =>
          rw [hok] at hf
          obtain ⟨q1, q2⟩ := hkid hok
          generalize hkn : kN ⟨op, kids, lo, hi⟩ = kn at *
          subst q1
          by_cases hg : kn ≤ st.length
          · have hg' : ¬ (st.length : Int) < (kn : Int) := by omega
            have hst : stepN st ⟨op, (kn : Int), lo, hi⟩ = some (st.take (st.length - kn) ++ [hasN ⟨op, (kn : Int), lo, hi⟩ (st.drop (st.length - kn))]) := by
              unfold stepN; rw [hkn, if_pos ⟨hok, hg⟩]
            rw [hst] at hsn
            have c1 : (st.length : Int) + (1 - (kn : Int)) = ((st.take (st.length - kn) ++ [hasN ⟨op, (kn : Int), lo, hi⟩ (st.drop (st.length - kn))]).length : Int) := by
              simp only [List.length_append, List.length_take, List.length_cons, List.length_nil]; omega
            simp -implicitDefEqProofs (maxSteps := 600000) (disch := (first | omega | decide)) only [go_sem, ↓reduceIte, seval, hlt', e1, hf, hg', wrap_i64, List.length_map]
            exact ⟨⟨(k + 1, _), by simp only; omega, hsn⟩, ⟨by simp, c1⟩, by show l.length - (k + 1) < l.length - k; omega⟩
          · have hg' : (st.length : Int) < (kn : Int) := by omega
            have hr := hrf (by unfold stepN; rw [hkn, if_neg]; intro e; exact hg e.2)
            simp -implicitDefEqProofs (maxSteps := 600000) (disch := (first | omega | decide)) only [go_sem, ↓reduceIte, seval, hlt', e1, hf, hg', hr, List.length_map]
      · have hlt' : ¬ (k : Int) < (l.length : Int) := by omega
        rw [List.take_of_length_le (by omega)] at hd
        have hr : rightF l = ((st.length : Int) == 1) := by
          rw [Bool.eq_iff_iff, rightF_iff, beq_iff_eq]
          constructor
          · rintro ⟨v, _, h3⟩
            rw [hd] at h3
            obtain rfl := Option.some.inj h3
            rfl
          · intro e
            obtain ⟨v, rfl⟩ := List.length_eq_one_iff.1 (show st.length = 1 by omega)
            exact ⟨v, by omega, hd⟩
        rw [hr]
        simp -implicitDefEqProofs (maxSteps := 600000) (disch := (first | omega | decide)) only [go_sem, ↓reduceIte, seval, hlt', List.length_map]
noncomputable def F9g : Tab := F9f.add 10 (entry (fun (l : List Nd) => [.slc (l.map Nd.enc)]) (fun l => l.length ≤ 4611686018427387904 ∧ okF l) (fun l => .bool (rightF l)))
theorem F9g_ok : TabOK Try.prog F9g := F9f_ok.add (callable_of Try.func10 (by kernel_rfl) (by kernel_rfl)) (entry_ok fun l h => c_filter_Right l h.1 h.2)
@[go_sem] theorem F9g_old {g : FuncId} {xs : List A} (h : g ≠ 10) : F9g.f g xs = F9f.f g xs := Tab.add_ne h
@[go_sem] theorem F9g_ords {n : Nat} : F9g.ords n = [] := rfl
theorem F9g_filter_Right (l : List Nd) (h : l.length ≤ 4611686018427387904 ∧ okF l) : F9g.f 10 [.slc (l.map Nd.enc)] = some (.bool (rightF l)) :=
  (Tab.add_eq : F9g.f 10 [.slc (l.map Nd.enc)] = (entry (fun (l : List Nd) => [.slc (l.map Nd.enc)]) (fun l => l.length ≤ 4611686018427387904 ∧ okF l) (fun l => .bool (rightF l))) [.slc (l.map Nd.enc)]).trans (entry_eq (fun i j h => by first | (cases i; cases j; rfl; done) | simpa [Prod.ext_iff, and_assoc] using h | (simp at h; omega)) l h)
theorem f_Right {l : List Nd} (h : l.length ≤ 4611686018427387904 ∧ okF l) : F9g.f 10 [.slc (l.map Nd.enc)] = some (.bool (rightF l)) := F9g_filter_Right l h
def nodeB (op : Int) (bs : List Bool) : Bool := if op == 6 then !(bs.all id) else if op == 7 then bs.all id else bs.any id
theorem bool_get {l : List Bool} {k : Nat} (h : k < l.length) : (l.map A.bool)[k]? = some (.bool l[k]) := by
  rw [List.getElem?_map, List.getElem?_eq_getElem h]; rfl
theorem ok_filter_node : codeOK Try.prog F9g Try.f34.ntmps (Try.f34.body.getD .skip) = true := by kernel_rfl
theorem c_filter_node (op : Int) (bs : List Bool) (h : bs.length ≤ 4611686018427387904) : CallA Try.prog 34 [.int .i64 op, .slc (bs.map .bool)] (· = .bool (nodeB op bs)) := by
  refine callA_of_body F9g_ok mixed Try.func34 rfl (Nat.le_of_ble_eq_true rfl) ok_filter_node ?_
  unfold Try.f34
  simp -implicitDefEqProofs (maxSteps := 600000) (disch := (first | omega | decide)) only [go_sem, ↓reduceIte, seval, List.length_map]
  refine wpA_loop [0, 4, 9, 10] (ι := {k : Nat // k ≤ bs.length}) (fun p => [(11, .int .i64 p.1), (5, .bool ((bs.take p.1).all id)), (6, .bool ((bs.take p.1).any id))]) (fun _ => []) (fun p => bs.length - p.1) ⟨0, by omega⟩ (Nat.zero_le _) ?_ ?_
  · simp -implicitDefEqProofs (maxSteps := 600000) (disch := (first | omega | decide)) only [go_sem, ↓reduceIte, seval, List.take_zero, List.all_nil, List.any_nil]
  · rintro ⟨k, hk⟩
    simp only
    by_cases hlt : k < bs.length
    · have hlt' : (k : Int) < (bs.length : Int) := by omega
      have e1 := bool_get hlt
      have ha : (bs.take (k + 1)).all id = ((bs.take k).all id && bs[k]) := by rw [List.take_succ_eq_append_getElem hlt, List.all_append]; simp only [List.all_cons, List.all_nil, Bool.and_true, id]
      have ho : (bs.take (k + 1)).any id = ((bs.take k).any id || bs[k]) := by rw [List.take_succ_eq_append_getElem hlt, List.any_append]; simp only [List.any_cons, List.any_nil, Bool.or_false, id]
      have nx : ∀ x y, x = ((bs.take k).all id && bs[k]) → y = ((bs.take k).any id || bs[k]) → ∃ j : {k : Nat // k ≤ bs.length}, ((k : Int) + 1 = (j.1 : Int) ∧ x = (bs.take j.1).all id ∧ y = (bs.take j.1).any id) ∧ bs.length - j.1 < bs.length - k := fun x y ex ey => ⟨⟨k + 1, hlt⟩, ⟨by simp, by rw [ex, ha], by rw [ey, ho]⟩, by show bs.length - (k + 1) < bs.length - k; omega⟩
      clear ha ho
      generalize (bs.take k).all id = A1 at *
      generalize (bs.take k).any id = O1 at *
      generalize bs[k] = W at *
      cases A1 <;> cases O1 <;> cases W
      all_goals
        simp -implicitDefEqProofs (maxSteps := 600000) (disch := (first | omega | decide)) only [go_sem, ↓reduceIte, seval, hlt', e1, wrap_i64, List.length_map]
        exact nx _ _ rfl rfl
    · have hlt' : ¬ (k : Int) < (bs.length : Int) := by omega
      rw [List.take_of_length_le (by omega)]
      unfold nodeB
      generalize bs.all id = A1 at *
      generalize bs.any id = O1 at *
      cases o6 : op == 6 <;> cases o7 : op == 7 <;> cases A1 <;> cases O1 <;> simp -implicitDefEqProofs (maxSteps := 600000) (disch := (first | omega | decide)) only [go_sem, ↓reduceIte, seval, hlt', o6, o7, List.length_map]
noncomputable def F9h : Tab := F9g.add 34 (entry (fun (v : Int × List Bool) => [.int .i64 v.1, .slc (v.2.map .bool)]) (fun v => v.2.length ≤ 4611686018427387904) (fun v => .bool (nodeB v.1 v.2)))
theorem F9h_ok : TabOK Try.prog F9h := F9g_ok.add (callable_of Try.func34 (by kernel_rfl) (by kernel_rfl)) (entry_ok fun v h => c_filter_node v.1 v.2 h)
@[go_sem] theorem F9h_old {g : FuncId} {xs : List A} (h : g ≠ 34) : F9h.f g xs = F9g.f g xs := Tab.add_ne h
theorem F9h_filter_node (v : Int × List Bool) (h : v.2.length ≤ 4611686018427387904) : F9h.f 34 [.int .i64 v.1, .slc (v.2.map .bool)] = some (.bool (nodeB v.1 v.2)) :=
  (Tab.add_eq : F9h.f 34 [.int .i64 v.1, .slc (v.2.map .bool)] = (entry (fun (v : Int × List Bool) => [.int .i64 v.1, .slc (v.2.map .bool)]) (fun v => v.2.length ≤ 4611686018427387904) (fun v => .bool (nodeB v.1 v.2))) [.int .i64 v.1, .slc (v.2.map .bool)]).trans (entry_eq (fun i j h => by first | (cases i; cases j; rfl; done) | simpa [Prod.ext_iff, and_assoc] using h | (simp at h; omega)) v h)
theorem f_node {op : Int} {bs : List Bool} (h : bs.length ≤ 4611686018427387904) : F9h.f 34 [.int .i64 op, .slc (bs.map .bool)] = some (.bool (nodeB op bs)) := F9h_filter_node (op, bs) h
noncomputable def F9i : Tab := F9h.add 33 (entry (fun (v : Nd × List UInt8) => [v.1.enc, .str v.2]) (fun v => v.1.ok ∧ leafOK v.1 ∧ v.2.length ≤ 9223372036854775807) (fun v => .bool (hasN v.1 [] v.2)))
theorem F9i_ok : TabOK Try.prog F9i := F9h_ok.add (callable_of Try.func33 (by kernel_rfl) (by kernel_rfl)) (entry_ok fun v h => c_filter_leaf v.1 v.2 h.1 h.2.1 h.2.2)
@[go_sem] theorem F9i_old {g : FuncId} {xs : List A} (h : g ≠ 33) : F9i.f g xs = F9h.f g xs := Tab.add_ne h
@[go_sem] theorem F9i_eff {g : FuncId} : F9i.eff g = false := rfl
@[go_sem] theorem F9i_fix {n : Nat} : F9i.fix n = false := rfl
@[go_sem] theorem F9i_ords {n : Nat} : F9i.ords n = [] := rfl
theorem F9i_filter_leaf (v : Nd × List UInt8) (h : v.1.ok ∧ leafOK v.1 ∧ v.2.length ≤ 9223372036854775807) : F9i.f 33 [v.1.enc, .str v.2] = some (.bool (hasN v.1 [] v.2)) :=
  (Tab.add_eq : F9i.f 33 [v.1.enc, .str v.2] = (entry (fun (v : Nd × List UInt8) => [v.1.enc, .str v.2]) (fun v => v.1.ok ∧ leafOK v.1 ∧ v.2.length ≤ 9223372036854775807) (fun v => .bool (hasN v.1 [] v.2))) [v.1.enc, .str v.2]).trans (entry_eq (fun i j h => by first | (cases i; cases j; rfl; done) | simpa [Prod.ext_iff, and_assoc] using h | (simp at h; omega)) v h)
theorem f_leaf {op kids : Int} {lo hi s : List UInt8} (h : Nd.ok ⟨op, kids, lo, hi⟩ ∧ leafOK ⟨op, kids, lo, hi⟩ ∧ s.length ≤ 9223372036854775807) : F9i.f 33 [.agg [.int .i64 op, .int .i64 kids, .str lo, .str hi], .str s] = some (.bool (hasN ⟨op, kids, lo, hi⟩ [] s)) := F9i_filter_leaf (⟨op, kids, lo, hi⟩, s) h
end Go.Proofs.Ytmaipoimiiaofaa
namespace Go.Proofs.Ytmaipoimiiaofaa
open Go.Abs
set_option linter.unusedSimpArgs false
set_option linter.unusedVariables false
set_option maxRecDepth 20000
set_option maxHeartbeats 8000000
theorem node_op {n : Nd} (h : okN n = true) (hk : n.kids ≠ 0) : n.op = 6 ∧ n.kids = 1 ∨ n.op = 7 ∨ n.op = 8 := by
  obtain ⟨op, kids, lo, hi⟩ := n
  unfold okN at h
  simp only at h hk ⊢
  have hk' : (kids == 0) = false := by simpa using hk
  simp only [hk', Bool.false_and, ite_self] at h
  split at h
  · cases h
  · split at h
    · cases h
    · split at h
      · cases h
      · split at h
        · cases h
        · split at h
          · cases h
          · simp at h
            omega
theorem node_has {n : Nd} (h : okN n = true) (hk : n.kids ≠ 0) (vs : List (List UInt8 → Bool)) (s : List UInt8) : hasN n vs s = nodeB n.op (vs.map (· s)) := by
  unfold hasN nodeB
  rcases node_op h hk with ⟨e, _⟩ | e | e <;> rw [e] <;> simp [Function.comp_def]
theorem stepN_leaf {n : Nd} {st : List (List UInt8 → Bool)} (h : okN n = true) (hk : n.kids = 0) : stepN st n = some (st ++ [hasN n []]) := by
  have e : kN n = 0 := by unfold kN; rw [hk]; rfl
  unfold stepN
  rw [if_pos ⟨h, by omega⟩, e, Nat.sub_zero, List.take_length, List.drop_length]
section
variable {V : Type} {f : V → A} {st : List V} {x : V} {m : Nat}
theorem row_snoc : (st ++ [x]).map f = st.map f ++ [f x] := by rw [List.map_append]; rfl
theorem row_take : ((st.map f).take m) = (st.take m).map f := List.map_take.symm
theorem row_drop : ((st.map f).drop m) = (st.drop m).map f := List.map_drop.symm
end
theorem ok_filter_Match : codeOK Try.prog F9i Try.f12.ntmps (Try.f12.body.getD .skip) = true := by kernel_rfl
theorem c_filter_Match (l : List Nd) (s : List UInt8) (h : l.length ≤ 4611686018427387904) (ho : okF l) (hs : s.length ≤ 9223372036854775807) : CallA Try.prog 12 [.slc (l.map Nd.enc), .str s] (· = .bool (matchF l s)) := by
  refine callA_of_body F9i_ok mixed Try.func12 rfl (Nat.le_of_ble_eq_true rfl) ok_filter_Match ?_
  unfold Try.f12
  have hR := f_Right (l := l) ⟨h, ho⟩
  cases hr : rightF l with
  | false =>
    rw [hr] at hR
    rw [matchF_none hr]
    simp -implicitDefEqProofs (maxSteps := 600000) (disch := (first | omega | decide)) only [go_sem, ↓reduceIte, seval, hR, List.length_map]
  | true =>
    rw [hr] at hR
    obtain ⟨v, h1, h2⟩ := rightF_iff.1 hr
    rw [matchF_val (valF_some.2 ⟨h1, h2⟩)]
    simp -implicitDefEqProofs (maxSteps := 600000) (disch := (first | omega | decide)) only [go_sem, ↓reduceIte, seval, hR, List.length_map]
    refine wpA_loop_nil 5 1 rfl ?_
    refine wpA_loopP [2, 1, 0] (by decide) (by decide) (by decide) (fun _ hi => absurd hi (Nat.not_lt_zero _)) [1, 4, 12, 13] (ι := {p : Nat × List (List UInt8 → Bool) // p.1 ≤ l.length ∧ runN [] (l.take p.1) = some p.2}) (fun p => [(14, .int .i64 p.1.1), (5, .row 0 0 1 p.1.2.length false)]) (fun p => [(0, .row 1 (p.1.2.map fun v => A.bool (v s)))]) (fun p => l.length - p.1.1) ⟨(0, []), by omega, rfl⟩ (Nat.zero_le _) ?_ ?_
    · simp -implicitDefEqProofs (maxSteps := 600000) (disch := (first | omega | decide)) only [go_sem, ↓reduceIte, seval]
    · rintro ⟨⟨k, st⟩, hk, hd⟩
      simp only at hk hd ⊢
      have hsl := run_len hd
      rw [List.length_nil, List.length_take] at hsl
      by_cases hlt : k < l.length
      · have hlt' : (k : Int) < (l.length : Int) := by omega
        have e1 := nd_get hlt
        obtain ⟨n1, n2⟩ := ho _ (List.getElem_mem hlt)
        obtain ⟨t, u, q1, q2⟩ := run_at hlt h2
        rw [hd] at q1
        obtain rfl := Option.some.inj q1
        have hsn := runN_take_succ hlt []
        rw [hd] at hsn
        have hsn : runN [] (l.take (k + 1)) = stepN st l[k] := hsn
        obtain ⟨g1, g2, _⟩ := last_at hlt hd q2
        rw [q2] at hsn
        obtain ⟨k1, k2⟩ := okN_kids g1
        have hnh := node_has g1
        have hnl := stepN_leaf (st := st) g1
        generalize l[k] = x at *
        obtain ⟨op, kids, lo, hi⟩ := x
        simp only at n1 n2 k1 e1 hnh hnl
        cases hk0 : kids == 0 with
        | true =>
          obtain rfl : kids = 0 := by simpa using hk0
          have hf := f_leaf (op := op) (kids := 0) (s := s) ⟨⟨n1, n2⟩, ⟨g1, rfl⟩, hs⟩
          rw [hnl rfl] at q2
          obtain rfl := Option.some.inj q2
          simp -implicitDefEqProofs (maxSteps := 600000) (disch := (first | omega | decide)) only [go_sem, ↓reduceIte, seval, hlt', e1, hf, wrap_i64, List.length_map]
          refine ⟨⟨Nat.le_refl _, by omega⟩, ⟨(k + 1, _), by simp only; omega, hsn⟩, ⟨⟨by simp, by simp⟩, by rw [row_snoc, List.take_of_length_le (by simp)]⟩, by show l.length - (k + 1) < l.length - k; omega⟩
        | false =>
          generalize hkn : kN ⟨op, kids, lo, hi⟩ = kn at *
          subst k1
          have hst : stepN st ⟨op, (kn : Int), lo, hi⟩ = some (st.take (st.length - kn) ++ [hasN ⟨op, (kn : Int), lo, hi⟩ (st.drop (st.length - kn))]) := by
            unfold stepN; rw [hkn, if_pos ⟨g1, g2⟩]
          rw [hst] at q2
          obtain rfl := Option.some.inj q2
          have hf := f_node (op := op) (bs := (st.drop (st.length - kn)).map (· s)) (by rw [List.length_map, List.length_drop]; omega)
          rw [← hnh (by simpa using hk0), List.map_map] at hf
          have hf : F9h.f 34 [.int .i64 op, .slc ((st.drop (st.length - kn)).map fun v => A.bool (v s))] = some (.bool (hasN ⟨op, (kn : Int), lo, hi⟩ (st.drop (st.length - kn)) s)) := hf
          have c4 : ((st.length : Int) - ((st.length : Int) - (kn : Int))).toNat = kn := by omega
          have c5 : ((st.length : Int) - (kn : Int) - 0).toNat = st.length - kn := by omega
          have c6 : (st.drop (st.length - kn)).take kn = st.drop (st.length - kn) := List.take_of_length_le (by rw [List.length_drop]; omega)
          have c1 : ((st.length : Int) - (kn : Int)).toNat = st.length - kn := by omega
          have c2 : (0 : Int) ≤ (st.length : Int) - (kn : Int) := by omega
          have c3 : (st.length : Int) - (kn : Int) ≤ (st.length : Int) := by omega
          simp -implicitDefEqProofs (maxSteps := 600000) (disch := (first | omega | decide)) only [go_sem, ↓reduceIte, seval, hlt', e1, hk0, hf, c1, c2, c3, c4, c5, c6, row_drop, row_take, wrap_i64, List.length_map]
          exact ⟨Int.le_refl _, by omega, ⟨by omega, by omega⟩, ⟨(k + 1, _), by simp only; omega, hsn⟩, ⟨⟨by simp, by simp only [List.length_append, List.length_take, List.length_cons, List.length_nil]; omega⟩, by rw [row_snoc]⟩, by show l.length - (k + 1) < l.length - k; omega⟩
      · have hlt' : ¬ (k : Int) < (l.length : Int) := by omega
        rw [List.take_of_length_le (by omega), h2] at hd
        obtain rfl := Option.some.inj hd
        simp -implicitDefEqProofs (maxSteps := 600000) (disch := (first | omega | decide)) only [go_sem, ↓reduceIte, seval, hlt', List.length_map]
noncomputable def F9m : Tab := F9i.add 12 (entry (fun (v : List Nd × List UInt8) => [.slc (v.1.map Nd.enc), .str v.2]) (fun v => v.1.length ≤ 4611686018427387904 ∧ okF v.1 ∧ v.2.length ≤ 9223372036854775807) (fun v => .bool (matchF v.1 v.2)))
theorem F9m_ok : TabOK Try.prog F9m := F9i_ok.add (callable_of Try.func12 (by kernel_rfl) (by kernel_rfl)) (entry_ok fun v h => c_filter_Match v.1 v.2 h.1 h.2.1 h.2.2)
@[go_sem] theorem F9m_old {g : FuncId} {xs : List A} (h : g ≠ 12) : F9m.f g xs = F9i.f g xs := Tab.add_ne h
theorem F9m_filter_Match (v : List Nd × List UInt8) (h : v.1.length ≤ 4611686018427387904 ∧ okF v.1 ∧ v.2.length ≤ 9223372036854775807) : F9m.f 12 [.slc (v.1.map Nd.enc), .str v.2] = some (.bool (matchF v.1 v.2)) :=
  (Tab.add_eq : F9m.f 12 [.slc (v.1.map Nd.enc), .str v.2] = (entry (fun (v : List Nd × List UInt8) => [.slc (v.1.map Nd.enc), .str v.2]) (fun v => v.1.length ≤ 4611686018427387904 ∧ okF v.1 ∧ v.2.length ≤ 9223372036854775807) (fun v => .bool (matchF v.1 v.2))) [.slc (v.1.map Nd.enc), .str v.2]).trans (entry_eq (fun i j h => by first | (cases i; cases j; rfl; done) | simpa [Prod.ext_iff, and_assoc] using h | (simp at h; omega)) v h)
theorem f_Match {l : List Nd} {s : List UInt8} (h : l.length ≤ 4611686018427387904 ∧ okF l ∧ s.length ≤ 9223372036854775807) : F9m.f 12 [.slc (l.map Nd.enc), .str s] = some (.bool (matchF l s)) := F9m_filter_Match (l, s) h
theorem run_ok : ∀ {l : List Nd} {st s : List (List UInt8 → Bool)}, runN st l = some s → ∀ n ∈ l, okN n = true
  | [], st, s, h => fun n hn => by cases hn
  | m :: l, st, s, h => fun n hn => by
    have h : (stepN st m).bind (fun s => runN s l) = some s := h
    cases h1 : stepN st m with
    | none => rw [h1] at h; cases h
    | some t =>
      rw [h1] at h
      rcases List.mem_cons.1 hn with rfl | hn
      · unfold stepN at h1
        split at h1
        · rename_i g; exact g.1
        · cases h1
      · exact run_ok (l := l) (st := t) (s := s) h n hn
theorem all_snoc {l : List Nd} {k : Nat} (h : k < l.length) : allN (l.take (k + 1)) = allN (l.take k) ++ rgN l[k] := by
  rw [List.take_succ_eq_append_getElem h, allN_append]
  simp [allN]
theorem all_ok {l : List Nd} (ho : okF l) (hk : ∀ n ∈ l, okN n = true) : okL (allN l) := by
  induction l with
  | nil => intro r hr; cases hr
  | cons n l ih =>
    intro r hr
    simp only [allN, List.mem_append] at hr
    rcases hr with hr | hr
    · have h1 := ho n (by simp)
      have h2 := hk n (by simp)
      unfold rgN at hr
      split at hr
      · rename_i e
        obtain rfl := List.mem_singleton.1 hr
        refine pre_len ?_
        have e : n.op = 3 := by simpa using e
        unfold okN at h2
        rw [e] at h2
        simp at h2
        exact h2.1.2
      · split at hr
        · obtain rfl := List.mem_singleton.1 hr
          exact h1
        · split at hr
          · obtain rfl := List.mem_singleton.1 hr
            exact ⟨h1.1, by simp⟩
          · cases hr
    · exact ih (fun n hn => ho n (by simp [hn])) (fun n hn => hk n (by simp [hn])) r hr
noncomputable def F9n : Tab := F9m.add 37 (entry (fun (v : List Rng × List Rng) => [.slc (v.1.map Rng.enc), .slc (v.2.map Rng.enc)]) (fun v => v.1.length ≤ 1000 ∧ v.2.length ≤ 1000 ∧ okL v.1 ∧ okL v.2) (fun v => .slc ((edgesS v.1 v.2).map .str)))
theorem F9n_ok : TabOK Try.prog F9n := F9m_ok.add (callable_of Try.func37 (by kernel_rfl) (by kernel_rfl)) (entry_ok fun v h => c_ref08_Edges v.1 v.2 h.1 h.2.1 h.2.2.1 h.2.2.2)
@[go_sem] theorem F9n_old {g : FuncId} {xs : List A} (h : g ≠ 37) : F9n.f g xs = F9m.f g xs := Tab.add_ne h
theorem F9n_ref08_Edges (v : List Rng × List Rng) (h : v.1.length ≤ 1000 ∧ v.2.length ≤ 1000 ∧ okL v.1 ∧ okL v.2) : F9n.f 37 [.slc (v.1.map Rng.enc), .slc (v.2.map Rng.enc)] = some (.slc ((edgesS v.1 v.2).map .str)) :=
  (Tab.add_eq : F9n.f 37 [.slc (v.1.map Rng.enc), .slc (v.2.map Rng.enc)] = (entry (fun (v : List Rng × List Rng) => [.slc (v.1.map Rng.enc), .slc (v.2.map Rng.enc)]) (fun v => v.1.length ≤ 1000 ∧ v.2.length ≤ 1000 ∧ okL v.1 ∧ okL v.2) (fun v => .slc ((edgesS v.1 v.2).map .str))) [.slc (v.1.map Rng.enc), .slc (v.2.map Rng.enc)]).trans (entry_eq (fun i j h => by first | (cases i; cases j; rfl; done) | simpa [Prod.ext_iff, and_assoc] using h | (simp at h; omega)) v h)
theorem f_Edges {a : List Rng} (ha : a.length ≤ 1000) (oka : okL a) : F9n.f 37 [.slc (a.map Rng.enc), .slc []] = some (.slc ((edgesS a []).map .str)) := F9n_ref08_Edges (a, []) ⟨ha, by simp, oka, fun r hr => by cases hr⟩
noncomputable def F9e' : Tab := { F9n with eff := fun f => f == 37, frz := fun f => f == 37 }
theorem F9e'_ok : TabOK Try.prog F9e' := ⟨F9n_ok.f, F9n_ok.hp⟩
@[go_sem] theorem F9e'_f : F9e'.f = F9n.f := rfl
@[go_sem] theorem F9e'_eff {g : FuncId} : F9e'.eff g = (g == 37) := rfl
@[go_sem] theorem F9e'_frz {g : FuncId} : F9e'.frz g = (g == 37) := rfl
@[go_sem] theorem F9e'_fix {n : Nat} : F9e'.fix n = false := rfl
@[go_sem] theorem F9e'_ords {n : Nat} : F9e'.ords n = [] := rfl
theorem setS_none : setS (fun _ => false) = [] := (setS_eq (l := []) rfl fun x => rfl).symm
theorem ok_ref09_Ranges : codeOK Try.prog F9e' Try.f15.ntmps (Try.f15.body.getD .skip) = true := by kernel_rfl
theorem c_ref09_Ranges (l : List Nd) (h : l.length ≤ 1000) (ho : okF l) : CallA Try.prog 15 [.slc (l.map Nd.enc)] (· = .slc ((setS (matchF l)).map Rng.enc)) := by
  refine callA_of_body F9e'_ok mixed Try.func15 rfl (Nat.le_of_ble_eq_true rfl) ok_ref09_Ranges ?_
  unfold Try.f15
  have hR := f_rRight (l := l) ⟨h, ho⟩
  cases hr : rightF l with
  | false =>
    rw [hr] at hR
    rw [matchF_none hr, setS_none]
    simp -implicitDefEqProofs (maxSteps := 600000) (disch := (first | omega | decide)) only [go_sem, ↓reduceIte, seval, hR, List.length_map]
  | true =>
    rw [hr] at hR
    obtain ⟨v, h1, h2⟩ := rightF_iff.1 hr
    have hv := valF_some.2 ⟨h1, h2⟩
    have hset := (flat_set (val_flat hv)).1
    rw [matchF_val hv]
    have hP : ∀ s : List UInt8, s.length ≤ 17 → F9f.f 13 [.slc (l.map Nd.enc), .str s] = some (.bool (v s)) := fun s hs => by
      rw [← matchF_val hv]; exact f_rMatch ⟨h, ho, by omega⟩
    have hal := allN_len l
    have he := f_Edges (a := allN l) (by omega) (all_ok ho (run_ok h2))
    have h17 := edgesS_len17 (allN l) []
    have hel := edgN_len l
    change (mkS v (edgesS (allN l) [])).1.reverse = _ at hset
    change (edgesS (allN l) []).length ≤ _ at hel
    simp -implicitDefEqProofs (maxSteps := 600000) (disch := (first | omega | decide)) only [go_sem, ↓reduceIte, seval, hR, List.length_map]
    refine wpA_loop_nil 4 3 rfl ?_
    refine wpA_loop [0, 2, 3] (ι := {k : Nat // k ≤ l.length}) (fun p => [(5, .int .i64 p.1), (4, .row 0 0 3 (allN (l.take p.1)).length false)]) (fun p => [(0, .row 3 ((allN (l.take p.1)).map Rng.enc))]) (fun p => l.length - p.1) ⟨0, by omega⟩ (Nat.zero_le _) ?_ ?_
    · simp -implicitDefEqProofs (maxSteps := 600000) (disch := (first | omega | decide)) only [go_sem, ↓reduceIte, seval, List.take_zero]
      simp [allN]
    · rintro ⟨k, hk⟩
      simp only
      have hkl := allN_len (l.take k)
      rw [List.length_take] at hkl
      by_cases hlt : k < l.length
      · have hlt' : (k : Int) < (l.length : Int) := by omega
        have e1 := nd_get hlt
        obtain ⟨n1, n2⟩ := ho _ (List.getElem_mem hlt)
        have hsn := all_snoc hlt
        have hpl : l[k].op = 3 → l[k].lo.length ≤ 16 := fun e => by
          have g := run_ok h2 _ (List.getElem_mem hlt)
          unfold okN at g
          rw [e] at g
          simp at g
          exact g.1.2
        have tl : ∀ x : A, (((allN (l.take k)).map Rng.enc) ++ [x]).take ((allN (l.take k)).length + 1) = ((allN (l.take k)).map Rng.enc) ++ [x] := fun x => List.take_of_length_le (by simp)
        generalize l[k] = x at *
        obtain ⟨op, kids, lo, hi⟩ := x
        simp only at n1 n2 e1 hpl
        have nx : ∀ L, allN (l.take (k + 1)) = L → ∃ j : {k : Nat // k ≤ l.length}, (((k : Int) + 1 = (j.1 : Int) ∧ L.length = (allN (l.take j.1)).length) ∧ L.map Rng.enc = (allN (l.take j.1)).map Rng.enc) ∧ l.length - j.1 < l.length - k := fun L e => ⟨⟨k + 1, hlt⟩, ⟨⟨by simp, by rw [e]⟩, by rw [e]⟩, by show l.length - (k + 1) < l.length - k; omega⟩
        cases o3 : op == 3 with
        | true =>
          obtain rfl : op = 3 := by simpa using o3
          have fin := nx _ (hsn.trans (show _ = allN (l.take k) ++ [prefixR lo] from rfl))
          rw [List.length_append, List.map_append] at fin
          simp -implicitDefEqProofs (maxSteps := 600000) (disch := (first | omega | decide)) only [go_sem, ↓reduceIte, seval, hlt', e1, n1, pre_enc, tl, wrap_i64, List.length_map]
          refine ⟨⟨Nat.le_refl _, by omega⟩, ?_⟩
          rw [show List.take (allN (l.take k)).length ((allN (l.take k)).map Rng.enc) = (allN (l.take k)).map Rng.enc from List.take_of_length_le (by simp)]
          exact fin
        | false =>
          cases o4 : op == 4 with
          | true =>
            obtain rfl : op = 4 := by simpa using o4
            have fin := nx _ (hsn.trans (show _ = allN (l.take k) ++ [⟨lo, hi, false⟩] from rfl))
            rw [List.length_append, List.map_append] at fin
            simp -implicitDefEqProofs (maxSteps := 600000) (disch := (first | omega | decide)) only [go_sem, ↓reduceIte, seval, hlt', e1, tl, wrap_i64, List.length_map]
            refine ⟨⟨Nat.le_refl _, by omega⟩, ?_⟩
            rw [show List.take (allN (l.take k)).length ((allN (l.take k)).map Rng.enc) = (allN (l.take k)).map Rng.enc from List.take_of_length_le (by simp)]
            exact fin
          | false =>
            cases o5 : op == 5 with
            | true =>
              obtain rfl : op = 5 := by simpa using o5
              have fin := nx _ (hsn.trans (show _ = allN (l.take k) ++ [⟨lo, [], true⟩] from rfl))
              rw [List.length_append, List.map_append] at fin
              simp -implicitDefEqProofs (maxSteps := 600000) (disch := (first | omega | decide)) only [go_sem, ↓reduceIte, seval, hlt', e1, tl, wrap_i64, List.length_map]
              refine ⟨⟨Nat.le_refl _, by omega⟩, ?_⟩
              rw [show List.take (allN (l.take k)).length ((allN (l.take k)).map Rng.enc) = (allN (l.take k)).map Rng.enc from List.take_of_length_le (by simp)]
              exact fin
            | false =>
              have fin := nx _ (hsn.trans (show _ = allN (l.take k) by unfold rgN; simp only [o3, o4, o5]; simp))
              simp -implicitDefEqProofs (maxSteps := 600000) (disch := (first | omega | decide)) only [go_sem, ↓reduceIte, seval, hlt', e1, o3, o4, o5, wrap_i64, List.length_map]
              exact fin
      · have hlt' : ¬ (k : Int) < (l.length : Int) := by omega
        rw [List.take_of_length_le (by omega)] at *
        have tl : ((allN l).map Rng.enc).take (allN l).length = (allN l).map Rng.enc := List.take_of_length_le (by simp)
        simp -implicitDefEqProofs (maxSteps := 600000) (disch := (first | omega | decide)) only [go_sem, ↓reduceIte, seval, hlt', tl, he, List.length_map, List.contains_nil, List.contains_cons]
        refine ⟨Nat.le_refl _, ?_⟩
        rw [← hset]
        generalize edgesS (allN l) [] = e at *
        clear he hset
        refine wpA_loop_nil 3 3 rfl ?_
        refine wpA_loop [0, 2, 6] (ι := {k : Nat // k ≤ e.length}) (fun p => [(8, .int .i64 p.1), (7, .bool (mkS v (e.take p.1)).2), (3, .row 1 0 3 (mkS v (e.take p.1)).1.length false)]) (fun p => [(1, .row 3 (rowS (mkS v (e.take p.1)).1))]) (fun p => e.length - p.1) ⟨0, by omega⟩ (Nat.zero_le _) ?_ ?_
        · simp -implicitDefEqProofs (maxSteps := 600000) (disch := (first | omega | decide)) only [go_sem, ↓reduceIte, seval, List.take_zero]
          simp [mkS, rowS]
        · rintro ⟨k, hk⟩
          simp only
          have hlen := mkS_len v (e.take k) ([], false)
          have hwas := mkS_was v (e.take k) ([], false) (by simp)
          have hml : (mkS v (e.take k)).1.length ≤ k := by
            have : (mkS v (e.take k)).1.length ≤ 0 + (e.take k).length := hlen
            rw [List.length_take] at this; omega
          have hwas' : (mkS v (e.take k)).2 = true → (mkS v (e.take k)).1 ≠ [] := hwas
          clear hlen hwas
          by_cases hlt : k < e.length
          · have hlt' : (k : Int) < (e.length : Int) := by omega
            have e1 := str_get hlt
            have hs17 := h17 _ (List.getElem_mem hlt)
            have hp := hP _ hs17
            have hst := mkS_step v e k hlt
            have next : ∀ st, mkS v (e.take (k + 1)) = st → ∃ j : {k : Nat // k ≤ e.length}, (((k : Int) + 1 = (j.1 : Int) ∧ st.2 = (mkS v (e.take j.1)).2 ∧ st.1.length = (mkS v (e.take j.1)).1.length) ∧ rowS st.1 = rowS (mkS v (e.take j.1)).1) ∧ e.length - j.1 < e.length - k := fun st h => ⟨⟨k + 1, hlt⟩, ⟨⟨by simp, by rw [h], by rw [h]⟩, by rw [h]⟩, by show e.length - (k + 1) < e.length - k; omega⟩
            have nx := next _ hst
            clear next hst hP
            generalize mkS v (e.take k) = st at *
            generalize e[k] = s at *
            obtain ⟨m, was⟩ := st
            simp only at hml hwas' nx ⊢
            simp only [stS] at nx
            cases hps : v s <;> rw [hps] at hp nx <;> cases was
            · simp -implicitDefEqProofs (maxSteps := 600000) (disch := (first | omega | decide)) only [go_sem, ↓reduceIte, seval, hlt', e1, hp, wrap_i64, List.length_map]
              exact nx
            · cases m with
              | nil => exact absurd rfl (hwas' rfl)
              | cons q qs =>
                rw [rowS_cons]
                have c1 : (((qs.length + 1 : Nat) : Int) - 1).toNat = qs.length := by omega
                have c2 : (0 : Int) ≤ ((qs.length + 1 : Nat) : Int) - 1 := by omega
                have c3 : ((qs.length + 1 : Nat) : Int) - 1 < ((qs.length + 1 : Nat) : Int) := by omega
                have hq : qs.length + 1 ≤ k := hml
                simp -implicitDefEqProofs (maxSteps := 600000) (disch := (first | omega | decide)) only [go_sem, ↓reduceIte, seval, hlt', e1, hp, c1, c2, c3, rowS_get', rowS_set, wrap_i64, List.length_map]
                obtain ⟨j, h⟩ := nx
                refine ⟨j, ?_⟩
                simpa [rowS_cons] using h
            · cases m with
              | nil =>
                rw [rowS_nil]
                simp -implicitDefEqProofs (maxSteps := 600000) (disch := (first | omega | decide)) only [go_sem, ↓reduceIte, seval, hlt', e1, hp, wrap_i64, List.length_map]
                exact nx
              | cons q qs =>
                rw [rowS_cons]
                have hq : qs.length + 1 ≤ k := hml
                simp -implicitDefEqProofs (maxSteps := 600000) (disch := (first | omega | decide)) only [go_sem, ↓reduceIte, seval, hlt', e1, hp, rowS_full, rowS_take, wrap_i64, List.length_map]
                refine ⟨⟨Nat.le_refl _, by omega⟩, ?_⟩
                obtain ⟨j, h⟩ := nx
                refine ⟨j, ?_⟩
                simpa [rowS_cons] using h
            · simp -implicitDefEqProofs (maxSteps := 600000) (disch := (first | omega | decide)) only [go_sem, ↓reduceIte, seval, hlt', e1, hp, wrap_i64, List.length_map]
              exact nx
          · have hlt' : ¬ (k : Int) < (e.length : Int) := by omega
            rw [show e.take k = e from List.take_of_length_le (by omega)] at *
            have hll : (mkS v e).1.length = (rowS (mkS v e).1).length := by rw [rowS_len]
            simp -implicitDefEqProofs (maxSteps := 600000) (disch := (first | omega | decide)) only [go_sem, ↓reduceIte, seval, hlt', wrap_i64, hll, List.length_map, List.take_length]
            exact ⟨Nat.le_refl _, rfl⟩
noncomputable def F9v : Tab := F9n.add 15 (entry (fun (l : List Nd) => [.slc (l.map Nd.enc)]) (fun l => l.length ≤ 1000 ∧ okF l) (fun l => .slc ((setS (matchF l)).map Rng.enc)))
theorem F9v_ok : TabOK Try.prog F9v := F9n_ok.add (callable_of Try.func15 (by kernel_rfl) (by kernel_rfl)) (entry_ok fun l h => c_ref09_Ranges l h.1 h.2)
@[go_sem] theorem F9v_old {g : FuncId} {xs : List A} (h : g ≠ 15) : F9v.f g xs = F9n.f g xs := Tab.add_ne h
@[go_sem] theorem F9v_eff {g : FuncId} : F9v.eff g = false := rfl
@[go_sem] theorem F9v_ords {n : Nat} : F9v.ords n = [] := rfl
theorem F9v_ref09_Ranges (l : List Nd) (h : l.length ≤ 1000 ∧ okF l) : F9v.f 15 [.slc (l.map Nd.enc)] = some (.slc ((setS (matchF l)).map Rng.enc)) :=
  (Tab.add_eq : F9v.f 15 [.slc (l.map Nd.enc)] = (entry (fun (l : List Nd) => [.slc (l.map Nd.enc)]) (fun l => l.length ≤ 1000 ∧ okF l) (fun l => .slc ((setS (matchF l)).map Rng.enc))) [.slc (l.map Nd.enc)]).trans (entry_eq (fun i j h => by first | (cases i; cases j; rfl; done) | simpa [Prod.ext_iff, and_assoc] using h | (simp at h; omega)) l h)
theorem f_rRanges {l : List Nd} (h : l.length ≤ 1000 ∧ okF l) : F9v.f 15 [.slc (l.map Nd.enc)] = some (.slc ((setS (matchF l)).map Rng.enc)) := F9v_ref09_Ranges l h
end Go.Proofs.Ytmaipoimiiaofaa
namespace Go.Proofs.Ytmaipoimiiaofaa
open Go.Abs
set_option linter.unusedSimpArgs false
set_option linter.unusedVariables false
set_option maxRecDepth 20000
set_option maxHeartbeats 8000000
def rsA (r : List Rng) : A := .slc (r.map Rng.enc)
theorem rsA_inj (l m : List Rng) (h : rsA l = rsA m) : l = m := by simpa [rsA] using h
@[simp] theorem map_rsA_inj {L M : List (List Rng)} : (L.map rsA = M.map rsA) = (L = M) := map_inj rsA_inj
theorem rsA_get {L : List (List Rng)} {k : Nat} (h : k < L.length) : (L.map rsA)[k]? = some (.slc (L[k].map Rng.enc)) := by
  rw [List.getElem?_map, List.getElem?_eq_getElem h]; rfl
def nodeU (op : Int) (L : List (List Rng)) (x : List UInt8) : Bool := if op == 7 then L.all (hasRs · x) else L.any (hasRs · x)
theorem nodeU_flat {op : Int} {L : List (List Rng)} {es : List (List UInt8)} (h : ∀ r ∈ L, FlatE es (hasRs r)) : FlatE es (nodeU op L) := fun x e h1 h2 => by
  unfold nodeU
  have hx : ∀ r ∈ L, hasRs r x = hasRs r e := fun r hr => h r hr x e h1 h2
  have ha : L.all (hasRs · x) = L.all (hasRs · e) := by
    rw [Bool.eq_iff_iff, List.all_eq_true, List.all_eq_true]
    exact ⟨fun g r hr => by rw [← hx r hr]; exact g r hr, fun g r hr => by rw [hx r hr]; exact g r hr⟩
  have ho : L.any (hasRs · x) = L.any (hasRs · e) := by
    rw [Bool.eq_iff_iff, List.any_eq_true, List.any_eq_true]
    exact ⟨fun ⟨r, hr, g⟩ => ⟨r, hr, by rw [← hx r hr]; exact g⟩, fun ⟨r, hr, g⟩ => ⟨r, hr, by rw [hx r hr]; exact g⟩⟩
  rw [ha, ho]
def ndOK (op : Int) (L : List (List Rng)) : Prop := L ≠ [] ∧ L.length ≤ 1000 ∧ (op = 6 → L.length = 1) ∧ (∀ r ∈ L, rightRs r = true) ∧ ∃ l : List Nd, l.length ≤ 1000 ∧ ∀ r ∈ L, FlatE (edgN l) (hasRs r)
theorem right_ok' {r : List Rng} (h : rightRs r = true) : okL r := by rw [← setS_self h]; exact setS_ok _
theorem ok_filter_nodeRanges : codeOK Try.prog F9v Try.f30.ntmps (Try.f30.body.getD .skip) = true := by kernel_rfl
theorem c_filter_nodeRanges (op : Int) (L : List (List Rng)) (h : ndOK op L) : CallA Try.prog 30 [.int .i64 op, .slc (L.map rsA)] (· = .slc ((setS fun x => nodeB op (L.map (hasRs · x))).map Rng.enc)) := by
  refine callA_of_body F9v_ok mixed Try.func30 rfl (Nat.le_of_ble_eq_true rfl) ok_filter_nodeRanges ?_
  unfold Try.f30
  obtain ⟨h0, h1, h6, hR, l, hl, hf⟩ := h
  have hone : ∀ x, op = 6 → nodeB op (L.map (hasRs · x)) = !nodeU op L x := fun x e => by
    obtain ⟨r, rfl⟩ := List.length_eq_one_iff.1 (h6 e)
    subst e
    simp [nodeB, nodeU]
  have htwo : ∀ x, op ≠ 6 → nodeB op (L.map (hasRs · x)) = nodeU op L x := fun x e => by
    have e6 : (op == 6) = false := by simpa using e
    unfold nodeB nodeU
    rw [e6]
    simp [Function.comp_def]
  cases L with
  | nil => exact absurd rfl h0
  | cons r0 rest =>
    have hsub : ∀ k, ∀ r ∈ r0 :: rest.take k, r ∈ r0 :: rest := fun k r hr => by
      rcases List.mem_cons.1 hr with rfl | hr
      · simp
      · exact List.mem_cons_of_mem _ (List.mem_of_mem_take hr)
    have hfl : ∀ k, FlatE (edgN l) (nodeU op (r0 :: rest.take k)) := fun k => nodeU_flat fun r hr => hf r (hsub k r hr)
    have hS : ∀ k, IsS (nodeU op (r0 :: rest.take k)) ∧ (setS (nodeU op (r0 :: rest.take k))).length ≤ 100000 := fun k => by
      obtain ⟨_, q1, q2⟩ := flat_set (hfl k)
      exact ⟨q1, by omega⟩
    have he : ∀ r ∈ r0 :: rest, r.length ≤ 100000 ∧ okL r := fun r hr => by
      refine ⟨?_, right_ok' (hR r hr)⟩
      have := (flat_set (hf r hr)).2.2
      rw [setS_self (hR r hr)] at this
      omega
    have hz : r0 = setS (nodeU op (r0 :: rest.take 0)) := by
      have : nodeU op (r0 :: rest.take 0) = hasRs r0 := by funext x; simp [nodeU]
      rw [this, setS_self (hR r0 (by simp))]
    have e0 : rsA r0 = .slc (r0.map Rng.enc) := rfl
    simp -implicitDefEqProofs (maxSteps := 600000) (disch := (first | omega | decide)) only [go_sem, ↓reduceIte, seval, e0, List.length_map, List.map_cons, List.length_cons]
    refine ⟨⟨by omega, by omega⟩, ?_⟩
    have h1' : rest.length ≤ 999 := by simpa using h1
    have tk : (rest.map rsA).take rest.length = rest.map rsA := List.take_of_length_le (by simp)
    refine wpA_loop [0, 4, 12, 13] (ι := {k : Nat // k ≤ rest.length}) (fun p => [(14, .int .i64 p.1), (5, .slc ((setS (nodeU op (r0 :: rest.take p.1))).map Rng.enc))]) (fun _ => []) (fun p => rest.length - p.1) ⟨0, by omega⟩ (Nat.zero_le _) ?_ ?_
    · rw [← hz]
      simp -implicitDefEqProofs (maxSteps := 600000) (disch := (first | omega | decide)) only [go_sem, ↓reduceIte, seval]
    · rintro ⟨k, hk⟩
      simp only
      by_cases hlt : k < rest.length
      · have hlt' : (k : Int) < (rest.length : Int) := by omega
        have e1 := rsA_get hlt
        obtain ⟨p1, p2⟩ := he rest[k] (List.mem_cons_of_mem _ (List.getElem_mem hlt))
        obtain ⟨q1, q2⟩ := hS k
        have q3 := setS_ok (nodeU op (r0 :: rest.take k))
        have hn : ∀ x, nodeU op (r0 :: rest.take (k + 1)) x = if op == 7 then nodeU op (r0 :: rest.take k) x && hasRs rest[k] x else nodeU op (r0 :: rest.take k) x || hasRs rest[k] x := fun x => by
          rw [List.take_succ_eq_append_getElem hlt]
          unfold nodeU
          cases op == 7 <;> simp only [List.all_cons, List.all_append, List.all_nil, List.any_cons, List.any_append, List.any_nil, Bool.and_true, Bool.or_false, Bool.and_assoc, Bool.or_assoc, Bool.false_eq_true, if_true, if_false]
        have hh : ∀ x, hasRs (setS (nodeU op (r0 :: rest.take k))) x = nodeU op (r0 :: rest.take k) x := fun x => setS_has q1 x
        cases o7 : op == 7 with
        | true =>
          have e : (fun s => hasRs (setS (nodeU op (r0 :: rest.take k))) s && hasRs rest[k] s) = nodeU op (r0 :: rest.take (k + 1)) := by
            funext s; rw [hh, hn, o7]; rfl
          have hm := r_ranges_Meet (a := setS (nodeU op (r0 :: rest.take k))) (b := rest[k]) ⟨q2, p1, q3, p2⟩
          rw [e] at hm
          simp -implicitDefEqProofs (maxSteps := 600000) (disch := (first | omega | decide)) only [go_sem, ↓reduceIte, seval, hlt', tk, e1, o7, hm, wrap_i64, List.length_map]
          exact ⟨⟨k + 1, hlt⟩, ⟨by simp, rfl⟩, by show rest.length - (k + 1) < rest.length - k; omega⟩
        | false =>
          have e : (fun s => hasRs (setS (nodeU op (r0 :: rest.take k))) s || hasRs rest[k] s) = nodeU op (r0 :: rest.take (k + 1)) := by
            funext s; rw [hh, hn, o7]; rfl
          have hm := r_ranges_Union (a := setS (nodeU op (r0 :: rest.take k))) (b := rest[k]) ⟨q2, p1, q3, p2⟩
          rw [e] at hm
          simp -implicitDefEqProofs (maxSteps := 600000) (disch := (first | omega | decide)) only [go_sem, ↓reduceIte, seval, hlt', tk, e1, o7, hm, wrap_i64, List.length_map]
          exact ⟨⟨k + 1, hlt⟩, ⟨by simp, rfl⟩, by show rest.length - (k + 1) < rest.length - k; omega⟩
      · have hlt' : ¬ (k : Int) < (rest.length : Int) := by omega
        obtain ⟨q1, q2⟩ := hS k
        have q3 := setS_ok (nodeU op (r0 :: rest.take k))
        have hh : ∀ x, hasRs (setS (nodeU op (r0 :: rest.take k))) x = nodeU op (r0 :: rest.take k) x := fun x => setS_has q1 x
        rw [show rest.take k = rest from List.take_of_length_le (by omega)] at *
        cases o6 : op == 6 with
        | true =>
          have hx : op = 6 := by simpa using o6
          have e : (fun s => !hasRs (setS (nodeU op (r0 :: rest))) s) = fun x => nodeB op (hasRs r0 x :: rest.map (hasRs · x)) := by
            funext s; rw [hh, ← hone s hx]; rfl
          have hm := r_ranges_Not (l := setS (nodeU op (r0 :: rest))) ⟨q2, q3⟩
          rw [e] at hm
          simp -implicitDefEqProofs (maxSteps := 600000) (disch := (first | omega | decide)) only [go_sem, ↓reduceIte, seval, hlt', tk, o6, hm, List.length_map]
        | false =>
          have hx : op ≠ 6 := by simpa using o6
          have e : (fun x => nodeB op (hasRs r0 x :: rest.map (hasRs · x))) = nodeU op (r0 :: rest) := by
            funext s; rw [← htwo s hx]; rfl
          rw [e]
          simp -implicitDefEqProofs (maxSteps := 600000) (disch := (first | omega | decide)) only [go_sem, ↓reduceIte, seval, hlt', tk, o6, List.length_map]
noncomputable def F9o : Tab := F9v.add 30 (entry (fun (v : Int × List (List Rng)) => [.int .i64 v.1, .slc (v.2.map rsA)]) (fun v => ndOK v.1 v.2) (fun v => .slc ((setS fun x => nodeB v.1 (v.2.map (hasRs · x))).map Rng.enc)))
theorem F9o_ok : TabOK Try.prog F9o := F9v_ok.add (callable_of Try.func30 (by kernel_rfl) (by kernel_rfl)) (entry_ok fun v h => c_filter_nodeRanges v.1 v.2 h)
@[go_sem] theorem F9o_old {g : FuncId} {xs : List A} (h : g ≠ 30) : F9o.f g xs = F9v.f g xs := Tab.add_ne h
theorem F9o_filter_nodeRanges (v : Int × List (List Rng)) (h : ndOK v.1 v.2) : F9o.f 30 [.int .i64 v.1, .slc (v.2.map rsA)] = some (.slc ((setS fun x => nodeB v.1 (v.2.map (hasRs · x))).map Rng.enc)) :=
  (Tab.add_eq : F9o.f 30 [.int .i64 v.1, .slc (v.2.map rsA)] = (entry (fun (v : Int × List (List Rng)) => [.int .i64 v.1, .slc (v.2.map rsA)]) (fun v => ndOK v.1 v.2) (fun v => .slc ((setS fun x => nodeB v.1 (v.2.map (hasRs · x))).map Rng.enc))) [.int .i64 v.1, .slc (v.2.map rsA)]).trans (entry_eq (fun i j h => by first | (cases i; cases j; rfl; done) | simpa [Prod.ext_iff, and_assoc] using h | (simp at h; omega)) v h)
theorem f_nodeRanges {op : Int} {L : List (List Rng)} (h : ndOK op L) : F9o.f 30 [.int .i64 op, .slc (L.map rsA)] = some (.slc ((setS fun x => nodeB op (L.map (hasRs · x))).map Rng.enc)) := F9o_filter_nodeRanges (op, L) h
noncomputable def F9q : Tab := F9o.add 29 (entry (fun (n : Nd) => [n.enc]) (fun n => n.ok ∧ leafOK n) (fun n => .slc ((setS (hasN n [])).map Rng.enc)))
theorem F9q_ok : TabOK Try.prog F9q := F9o_ok.add (callable_of Try.func29 (by kernel_rfl) (by kernel_rfl)) (entry_ok fun n h => c_filter_leafRanges n h.1 h.2)
@[go_sem] theorem F9q_old {g : FuncId} {xs : List A} (h : g ≠ 29) : F9q.f g xs = F9o.f g xs := Tab.add_ne h
theorem F9q_filter_leafRanges (n : Nd) (h : n.ok ∧ leafOK n) : F9q.f 29 [n.enc] = some (.slc ((setS (hasN n [])).map Rng.enc)) :=
  (Tab.add_eq : F9q.f 29 [n.enc] = (entry (fun (n : Nd) => [n.enc]) (fun n => n.ok ∧ leafOK n) (fun n => .slc ((setS (hasN n [])).map Rng.enc))) [n.enc]).trans (entry_eq (fun i j h => by first | (cases i; cases j; rfl; done) | simpa [Prod.ext_iff, and_assoc] using h | (simp at h; omega)) n h)
theorem f_leafRanges {op kids : Int} {lo hi : List UInt8} (h : Nd.ok ⟨op, kids, lo, hi⟩ ∧ leafOK ⟨op, kids, lo, hi⟩) : F9q.f 29 [.agg [.int .i64 op, .int .i64 kids, .str lo, .str hi]] = some (.slc ((setS (hasN ⟨op, kids, lo, hi⟩ [])).map Rng.enc)) := F9q_filter_leafRanges ⟨op, kids, lo, hi⟩ h
noncomputable def F9x : Tab := { F9q with ords := fun n => if n = 10 then [[999999, 0]] else [] }
theorem F9x_ok : TabOK Try.prog F9x := ⟨F9q_ok.f, F9q_ok.hp⟩
@[go_sem] theorem F9x_f : F9x.f = F9q.f := rfl
@[go_sem] theorem F9x_eff {g : FuncId} : F9x.eff g = false := rfl
@[go_sem] theorem F9x_fix {n : Nat} : F9x.fix n = false := rfl
@[go_sem] theorem F9x_ords10 : F9x.ords 10 = [[999999, 0]] := rfl
@[go_sem] theorem F9x_ords {n : Nat} (h : n ≠ 10) : F9x.ords n = [] := if_neg h
theorem ok_filter_Ranges : codeOK Try.prog F9x Try.f9.ntmps (Try.f9.body.getD .skip) = true := by kernel_rfl
theorem c_filter_Ranges (l : List Nd) (h : l.length ≤ 4611686018427387904) (ho : okF l) : CallA Try.prog 9 [.slc (l.map Nd.enc)] (· = .slc ((setS (matchF l)).map Rng.enc)) := by
  refine callA_of_body F9x_ok mixed Try.func9 rfl (Nat.le_of_ble_eq_true rfl) ok_filter_Ranges ?_
  unfold Try.f9
  have hR := f_Right (l := l) ⟨h, ho⟩
  cases hr : rightF l with
  | false =>
    rw [hr] at hR
    rw [matchF_none hr, setS_none]
    simp -implicitDefEqProofs (maxSteps := 600000) (disch := (first | omega | decide)) only [go_sem, ↓reduceIte, seval, hR, List.length_map]
  | true =>
    rw [hr] at hR
    obtain ⟨v, h1, h2⟩ := rightF_iff.1 hr
    rw [matchF_val (valF_some.2 ⟨h1, h2⟩)]
    simp -implicitDefEqProofs (maxSteps := 600000) (disch := (first | omega | decide)) only [go_sem, ↓reduceIte, seval, hR, List.length_map]
    refine wpA_loop_nil 3 1 rfl ?_
    refine wpA_loopP [2, 1, 0] (by decide) (by decide) (by decide) (fun _ hi => absurd hi (Nat.not_lt_zero _)) [2, 10, 11] (ι := {p : Nat × List (List UInt8 → Bool) // p.1 ≤ l.length ∧ runN [] (l.take p.1) = some p.2}) (fun p => [(12, .int .i64 p.1.1), (3, .row 0 0 1 p.1.2.length false)]) (fun p => [(0, .row 1 (p.1.2.map fun v => rsA (setS v)))]) (fun p => l.length - p.1.1) ⟨(0, []), by omega, rfl⟩ (Nat.zero_le _) ?_ ?_
    · simp -implicitDefEqProofs (maxSteps := 600000) (disch := (first | omega | decide)) only [go_sem, ↓reduceIte, seval]
    · rintro ⟨⟨k, st⟩, hk, hd⟩
      simp only at hk hd ⊢
      have hsl := run_len hd
      rw [List.length_nil, List.length_take] at hsl
      by_cases hlt : k < l.length
      · have hlt' : (k : Int) < (l.length : Int) := by omega
        have e1 := nd_get hlt
        obtain ⟨n1, n2⟩ := ho _ (List.getElem_mem hlt)
        obtain ⟨t, u, q1, q2⟩ := run_at hlt h2
        rw [hd] at q1
        obtain rfl := Option.some.inj q1
        have hsn := runN_take_succ hlt []
        rw [hd] at hsn
        have hsn : runN [] (l.take (k + 1)) = stepN st l[k] := hsn
        obtain ⟨g1, g2, _⟩ := last_at hlt hd q2
        rw [q2] at hsn
        obtain ⟨k1, k2⟩ := okN_kids g1
        have hnh := node_has g1
        have hno := node_op g1
        have hnl := stepN_leaf (st := st) g1
        generalize l[k] = x at *
        obtain ⟨op, kids, lo, hi⟩ := x
        simp only at n1 n2 k1 e1 hnh hnl hno
        cases hk0 : kids == 0 with
        | true =>
          obtain rfl : kids = 0 := by simpa using hk0
          have hf := f_leafRanges (op := op) (kids := 0) ⟨⟨n1, n2⟩, ⟨g1, rfl⟩⟩
          rw [hnl rfl] at q2
          obtain rfl := Option.some.inj q2
          simp -implicitDefEqProofs (maxSteps := 600000) (disch := (first | omega | decide)) only [go_sem, ↓reduceIte, seval, hlt', e1, hf, wrap_i64, List.length_map]
          refine ⟨⟨Nat.le_refl _, by omega⟩, ⟨(k + 1, _), by simp only; omega, hsn⟩, ⟨⟨by simp, by simp⟩, by rw [row_snoc, List.take_of_length_le (by simp)]; rfl⟩, by show l.length - (k + 1) < l.length - k; omega⟩
        | false =>
          have hkn0 : kids ≠ 0 := by simpa using hk0
          generalize hkn : kN ⟨op, kids, lo, hi⟩ = kn at *
          subst k1
          have hst : stepN st ⟨op, (kn : Int), lo, hi⟩ = some (st.take (st.length - kn) ++ [hasN ⟨op, (kn : Int), lo, hi⟩ (st.drop (st.length - kn))]) := by
            unfold stepN; rw [hkn, if_pos ⟨g1, g2⟩]
          rw [hst] at q2
          obtain rfl := Option.some.inj q2
          have hfl := run_flat_take hd
          have hvs : ∀ w ∈ st.drop (st.length - kn), ∀ x, hasRs (setS w) x = w x := fun w hw x => setS_has (flat_set (hfl w (List.mem_of_mem_drop hw))).2.1 x
          have hL : ndOK op ((st.drop (st.length - kn)).map setS) := by
            have hdl : (st.drop (st.length - kn)).length = kn := by rw [List.length_drop]; omega
            refine ⟨?_, ?_, ?_, ?_, l, by omega, ?_⟩
            · intro e
              have := congrArg List.length e
              rw [List.length_map, hdl] at this
              simp at this; omega
            · rw [List.length_map, hdl]; omega
            · intro e
              rw [List.length_map, hdl]
              rcases hno hkn0 with q | q | q <;> omega
            · intro r hr
              obtain ⟨w, _, rfl⟩ := List.mem_map.1 hr
              exact setS_right w
            · intro r hr
              obtain ⟨w, hw, rfl⟩ := List.mem_map.1 hr
              have e : hasRs (setS w) = w := by funext x; exact hvs w hw x
              rw [e]
              exact hfl w (List.mem_of_mem_drop hw)
          have hsp : (fun x => nodeB op (((st.drop (st.length - kn)).map setS).map (hasRs · x))) = hasN ⟨op, (kn : Int), lo, hi⟩ (st.drop (st.length - kn)) := by
            funext x
            rw [hnh hkn0, List.map_map]
            congr 1
            exact List.map_congr_left fun w hw => hvs w hw x
          have hf := f_nodeRanges hL
          rw [hsp, List.map_map] at hf
          have hf : F9o.f 30 [.int .i64 op, .slc ((st.drop (st.length - kn)).map fun v => rsA (setS v))] = some (.slc ((setS (hasN ⟨op, (kn : Int), lo, hi⟩ (st.drop (st.length - kn)))).map Rng.enc)) := hf
          have c4 : ((st.length : Int) - ((st.length : Int) - (kn : Int))).toNat = kn := by omega
          have c5 : ((st.length : Int) - (kn : Int) - 0).toNat = st.length - kn := by omega
          have c6 : (st.drop (st.length - kn)).take kn = st.drop (st.length - kn) := List.take_of_length_le (by rw [List.length_drop]; omega)
          have c1 : ((st.length : Int) - (kn : Int)).toNat = st.length - kn := by omega
          have c2 : (0 : Int) ≤ (st.length : Int) - (kn : Int) := by omega
          have c3 : (st.length : Int) - (kn : Int) ≤ (st.length : Int) := by omega
          have c7 : st.length - kn + kn = st.length := by omega
          have c8 : st.length ≤ st.length := Nat.le_refl _
          have c9 : st.length - kn ≤ st.length := by omega
          have sst : ∀ L : List (List UInt8 → Bool), ((L.map fun v => rsA (setS v)).isEmpty || strideOf (L.map fun v => rsA (setS v)) == 1) = true := fun L => by cases L <;> rfl
          simp -implicitDefEqProofs (maxSteps := 600000) (disch := (first | omega | decide)) only [go_sem, ↓reduceIte, seval, hlt', e1, hk0, hf, sst, List.take_length, c1, c2, c3, c4, c5, c6, c7, c8, c9, row_drop, row_take, wrap_i64, List.length_map, List.contains_nil, List.contains_cons]
          have lt' : (st.take (st.length - kn)).length ≤ 32 := by rw [List.length_take]; omega
          exact ⟨Int.le_refl _, by omega, ⟨(k + 1, _), by simp only; omega, hsn⟩, ⟨⟨by simp, by simp only [List.length_append, List.length_cons, List.length_nil]⟩, by rw [row_snoc]; rfl⟩, by show l.length - (k + 1) < l.length - k; omega⟩
      · have hlt' : ¬ (k : Int) < (l.length : Int) := by omega
        rw [show l.take k = l from List.take_of_length_le (by omega), h2] at hd
        obtain rfl := Option.some.inj hd
        have ev : rsA (setS v) = .slc ((setS v).map Rng.enc) := rfl
        simp -implicitDefEqProofs (maxSteps := 600000) (disch := (first | omega | decide)) only [go_sem, ↓reduceIte, seval, hlt', ev, List.length_map]
noncomputable def F9q' : Tab := F9q.add 9 (entry (fun (l : List Nd) => [.slc (l.map Nd.enc)]) (fun l => l.length ≤ 4611686018427387904 ∧ okF l) (fun l => .slc ((setS (matchF l)).map Rng.enc)))
theorem F9q'_ok : TabOK Try.prog F9q' := F9q_ok.add (callable_of Try.func9 (by kernel_rfl) (by kernel_rfl)) (entry_ok fun l h => c_filter_Ranges l h.1 h.2)
@[go_sem] theorem F9q'_old {g : FuncId} {xs : List A} (h : g ≠ 9) : F9q'.f g xs = F9q.f g xs := Tab.add_ne h
@[go_sem] theorem F9q'_fix {n : Nat} : F9q'.fix n = false := rfl
@[go_sem] theorem F9q'_ords {n : Nat} : F9q'.ords n = [] := rfl
theorem F9q'_filter_Ranges (l : List Nd) (h : l.length ≤ 4611686018427387904 ∧ okF l) : F9q'.f 9 [.slc (l.map Nd.enc)] = some (.slc ((setS (matchF l)).map Rng.enc)) :=
  (Tab.add_eq : F9q'.f 9 [.slc (l.map Nd.enc)] = (entry (fun (l : List Nd) => [.slc (l.map Nd.enc)]) (fun l => l.length ≤ 4611686018427387904 ∧ okF l) (fun l => .slc ((setS (matchF l)).map Rng.enc))) [.slc (l.map Nd.enc)]).trans (entry_eq (fun i j h => by first | (cases i; cases j; rfl; done) | simpa [Prod.ext_iff, and_assoc] using h | (simp at h; omega)) l h)
theorem f_Ranges {l : List Nd} (h : l.length ≤ 4611686018427387904 ∧ okF l) : F9q'.f 9 [.slc (l.map Nd.enc)] = some (.slc ((setS (matchF l)).map Rng.enc)) := F9q'_filter_Ranges l h
def ndA (k : List Nd) : A := .slc (k.map Nd.enc)
theorem ndA_inj (l m : List Nd) (h : ndA l = ndA m) : l = m := by simpa [ndA] using h
@[simp] theorem map_ndA_inj {L M : List (List Nd)} : (L.map ndA = M.map ndA) = (L = M) := map_inj ndA_inj
theorem ndA_get {LL : List (List Nd)} {o : Nat} (h : o < LL.length) : (LL.map ndA)[o]? = some (.slc (LL[o].map Nd.enc)) := by
  rw [List.getElem?_map, List.getElem?_eq_getElem h]; rfl
theorem st09 (l : List Nd) : ((l.map Nd.enc).isEmpty || strideOf (l.map Nd.enc) == 4) = true := by cases l <;> rfl
theorem fl_take {V : Type} {LL : List (List V)} {o : Nat} (h : o < LL.length) : (LL.take (o + 1)).flatten = (LL.take o).flatten ++ LL[o] := by
  rw [← List.take_append_getElem h, List.flatten_append]; simp
theorem fl_len {V : Type} (LL : List (List V)) (o : Nat) : (LL.take o).flatten.length ≤ LL.flatten.length := by
  conv => rhs; rw [← List.take_append_drop o LL]
  rw [List.flatten_append, List.length_append]; omega
def joinN (op : Int) (LL : List (List Nd)) : List Nd := LL.flatten ++ [⟨op, LL.length, [], []⟩]
theorem ok_filter_join : codeOK Try.prog F9q' Try.f39.ntmps (Try.f39.body.getD .skip) = true := by kernel_rfl
theorem c_filter_join (op : Int) (LL : List (List Nd)) (hL : LL.length ≤ 1000000) (hk : LL.flatten.length ≤ 1000000000) : CallA Try.prog 39 [.int .i64 op, .slc (LL.map ndA)] (· = .slc ((joinN op LL).map Nd.enc)) := by
  refine callA_of_body F9q'_ok mixed Try.func39 rfl (Nat.le_of_ble_eq_true rfl) ok_filter_join ?_
  unfold Try.f39
  simp -implicitDefEqProofs (maxSteps := 600000) (disch := (first | omega | decide)) only [go_sem, ↓reduceIte, seval, List.length_map]
  refine wpA_loop_nil 5 4 rfl ?_
  refine wpA_loop [0, 1, 4, 8, 9] (ι := {o : Nat // o ≤ LL.length}) (fun p => [(10, .int .i64 p.1), (5, .row 0 0 4 (LL.take p.1).flatten.length false)]) (fun p => [(0, .row 4 ((LL.take p.1).flatten.map Nd.enc))]) (fun p => LL.length - p.1) ⟨0, by omega⟩ (Nat.zero_le _) ?_ ?_
  · simp -implicitDefEqProofs (maxSteps := 600000) (disch := (first | omega | decide)) only [go_sem, ↓reduceIte, seval]
    simp
  · rintro ⟨o, ho⟩
    simp only
    have hfl := fl_len LL (o + 1)
    by_cases hlt : o < LL.length
    · have hlt' : (o : Int) < (LL.length : Int) := by omega
      have hd := ndA_get hlt
      have hst := fl_take hlt
      rw [hst, List.length_append] at hfl
      generalize LL[o] = k at *
      have st := st09 k
      have tl : ((LL.take o).flatten.map Nd.enc).take (LL.take o).flatten.length = (LL.take o).flatten.map Nd.enc := List.take_of_length_le (by rw [List.length_map]; exact Nat.le_refl _)
      simp -implicitDefEqProofs (maxSteps := 600000) (disch := (first | omega | decide)) only [go_sem, ↓reduceIte, seval, hlt', hd, st, tl, wrap_i64, List.length_map]
      exact ⟨⟨Nat.le_refl _, by omega⟩, ⟨o + 1, hlt⟩, ⟨⟨by simp, by rw [hst, List.length_append]⟩, by rw [hst, List.map_append]⟩, by show LL.length - (o + 1) < LL.length - o; omega⟩
    · have hlt' : ¬ (o : Int) < (LL.length : Int) := by omega
      obtain rfl : o = LL.length := by omega
      rw [List.take_length] at *
      have tl : (LL.flatten.map Nd.enc).take LL.flatten.length = LL.flatten.map Nd.enc := List.take_of_length_le (by rw [List.length_map]; exact Nat.le_refl _)
      have tl1 : ∀ x : A, (LL.flatten.map Nd.enc ++ [x]).take (LL.flatten.length + 1) = LL.flatten.map Nd.enc ++ [x] := fun x => List.take_of_length_le (by rw [List.length_append, List.length_map]; exact Nat.le_refl _)
      have hj : (joinN op LL).map Nd.enc = LL.flatten.map Nd.enc ++ [.agg [.int .i64 op, .int .i64 LL.length, .str [], .str []]] := by
        unfold joinN; rw [List.map_append]; rfl
      rw [hj]
      simp -implicitDefEqProofs (maxSteps := 600000) (disch := (first | omega | decide)) only [go_sem, ↓reduceIte, seval, hlt', tl, tl1, List.length_map]
      exact ⟨⟨Nat.le_refl _, by omega⟩, by rw [List.length_append, List.length_map]; exact Nat.le_refl _⟩
noncomputable def F9r : Tab := F9q'.add 39 (entry (fun (v : Int × List (List Nd)) => [.int .i64 v.1, .slc (v.2.map ndA)]) (fun v => v.2.length ≤ 1000000 ∧ v.2.flatten.length ≤ 1000000000) (fun v => .slc ((joinN v.1 v.2).map Nd.enc)))
theorem F9r_ok : TabOK Try.prog F9r := F9q'_ok.add (callable_of Try.func39 (by kernel_rfl) (by kernel_rfl)) (entry_ok fun v h => c_filter_join v.1 v.2 h.1 h.2)
@[go_sem] theorem F9r_old {g : FuncId} {xs : List A} (h : g ≠ 39) : F9r.f g xs = F9q'.f g xs := Tab.add_ne h
@[go_sem] theorem F9r_ords {n : Nat} : F9r.ords n = [] := rfl
theorem F9r_filter_join (v : Int × List (List Nd)) (h : v.2.length ≤ 1000000 ∧ v.2.flatten.length ≤ 1000000000) : F9r.f 39 [.int .i64 v.1, .slc (v.2.map ndA)] = some (.slc ((joinN v.1 v.2).map Nd.enc)) :=
  (Tab.add_eq : F9r.f 39 [.int .i64 v.1, .slc (v.2.map ndA)] = (entry (fun (v : Int × List (List Nd)) => [.int .i64 v.1, .slc (v.2.map ndA)]) (fun v => v.2.length ≤ 1000000 ∧ v.2.flatten.length ≤ 1000000000) (fun v => .slc ((joinN v.1 v.2).map Nd.enc))) [.int .i64 v.1, .slc (v.2.map ndA)]).trans (entry_eq (fun i j h => by first | (cases i; cases j; rfl; done) | simpa [Prod.ext_iff, and_assoc] using h | (simp at h; omega)) v h)
theorem f_join {op : Int} {LL : List (List Nd)} (h : LL.length ≤ 1000000 ∧ LL.flatten.length ≤ 1000000000) : F9r.f 39 [.int .i64 op, .slc (LL.map ndA)] = some (.slc ((joinN op LL).map Nd.enc)) := F9r_filter_join (op, LL) h
theorem ok_filter_All : codeOK Try.prog F9r Try.f24.ntmps (Try.f24.body.getD .skip) = true := by kernel_rfl
theorem c_filter_All : CallA Try.prog 24 [] (· = .slc ([⟨1, 0, [], []⟩].map Nd.enc)) := by
  refine callA_of_body F9r_ok mixed Try.func24 rfl (Nat.le_of_ble_eq_true rfl) ok_filter_All ?_
  unfold Try.f24
  simp -implicitDefEqProofs (maxSteps := 600000) (disch := (first | omega | decide)) only [go_sem, ↓reduceIte, seval]
theorem ok_filter_None : codeOK Try.prog F9r Try.f25.ntmps (Try.f25.body.getD .skip) = true := by kernel_rfl
theorem c_filter_None : CallA Try.prog 25 [] (· = .slc ([⟨2, 0, [], []⟩].map Nd.enc)) := by
  refine callA_of_body F9r_ok mixed Try.func25 rfl (Nat.le_of_ble_eq_true rfl) ok_filter_None ?_
  unfold Try.f25
  simp -implicitDefEqProofs (maxSteps := 600000) (disch := (first | omega | decide)) only [go_sem, ↓reduceIte, seval]
theorem ok_filter_Prefix : codeOK Try.prog F9r Try.f26.ntmps (Try.f26.body.getD .skip) = true := by kernel_rfl
theorem c_filter_Prefix (p : List UInt8) : CallA Try.prog 26 [.str p] (· = .slc ([⟨3, 0, p, []⟩].map Nd.enc)) := by
  refine callA_of_body F9r_ok mixed Try.func26 rfl (Nat.le_of_ble_eq_true rfl) ok_filter_Prefix ?_
  unfold Try.f26
  simp -implicitDefEqProofs (maxSteps := 600000) (disch := (first | omega | decide)) only [go_sem, ↓reduceIte, seval]
theorem ok_filter_Between : codeOK Try.prog F9r Try.f27.ntmps (Try.f27.body.getD .skip) = true := by kernel_rfl
theorem c_filter_Between (lo hi : List UInt8) : CallA Try.prog 27 [.str lo, .str hi] (· = .slc ([⟨4, 0, lo, hi⟩].map Nd.enc)) := by
  refine callA_of_body F9r_ok mixed Try.func27 rfl (Nat.le_of_ble_eq_true rfl) ok_filter_Between ?_
  unfold Try.f27
  simp -implicitDefEqProofs (maxSteps := 600000) (disch := (first | omega | decide)) only [go_sem, ↓reduceIte, seval]
theorem ok_filter_From : codeOK Try.prog F9r Try.f28.ntmps (Try.f28.body.getD .skip) = true := by kernel_rfl
theorem c_filter_From (lo : List UInt8) : CallA Try.prog 28 [.str lo] (· = .slc ([⟨5, 0, lo, []⟩].map Nd.enc)) := by
  refine callA_of_body F9r_ok mixed Try.func28 rfl (Nat.le_of_ble_eq_true rfl) ok_filter_From ?_
  unfold Try.f28
  simp -implicitDefEqProofs (maxSteps := 600000) (disch := (first | omega | decide)) only [go_sem, ↓reduceIte, seval]
noncomputable def F9s : Tab := F9r.add 24 (entry (fun (u : Unit) => []) (fun u => True) (fun u => .slc ([⟨1, 0, [], []⟩].map Nd.enc)))
theorem F9s_ok : TabOK Try.prog F9s := F9r_ok.add (callable_of Try.func24 (by kernel_rfl) (by kernel_rfl)) (entry_ok fun u h => c_filter_All)
@[go_sem] theorem F9s_old {g : FuncId} {xs : List A} (h : g ≠ 24) : F9s.f g xs = F9r.f g xs := Tab.add_ne h
theorem F9s_filter_All (u : Unit) (h : True) : F9s.f 24 [] = some (.slc ([⟨1, 0, [], []⟩].map Nd.enc)) :=
  (Tab.add_eq : F9s.f 24 [] = (entry (fun (u : Unit) => []) (fun u => True) (fun u => .slc ([⟨1, 0, [], []⟩].map Nd.enc))) []).trans (entry_eq (fun i j h => by first | (cases i; cases j; rfl; done) | simpa [Prod.ext_iff, and_assoc] using h | (simp at h; omega)) u h)
noncomputable def F9t : Tab := F9s.add 25 (entry (fun (u : Unit) => []) (fun u => True) (fun u => .slc ([⟨2, 0, [], []⟩].map Nd.enc)))
theorem F9t_ok : TabOK Try.prog F9t := F9s_ok.add (callable_of Try.func25 (by kernel_rfl) (by kernel_rfl)) (entry_ok fun u h => c_filter_None)
@[go_sem] theorem F9t_old {g : FuncId} {xs : List A} (h : g ≠ 25) : F9t.f g xs = F9s.f g xs := Tab.add_ne h
@[go_sem] theorem F9t_eff {g : FuncId} : F9t.eff g = false := rfl
@[go_sem] theorem F9t_ords {n : Nat} : F9t.ords n = [] := rfl
theorem F9t_filter_None (u : Unit) (h : True) : F9t.f 25 [] = some (.slc ([⟨2, 0, [], []⟩].map Nd.enc)) :=
  (Tab.add_eq : F9t.f 25 [] = (entry (fun (u : Unit) => []) (fun u => True) (fun u => .slc ([⟨2, 0, [], []⟩].map Nd.enc))) []).trans (entry_eq (fun i j h => by first | (cases i; cases j; rfl; done) | simpa [Prod.ext_iff, and_assoc] using h | (simp at h; omega)) u h)
theorem f_All : F9s.f 24 [] = some (.slc ([(⟨1, 0, [], []⟩ : Nd)].map Nd.enc)) := F9s_filter_All () trivial
theorem f_None : F9t.f 25 [] = some (.slc ([⟨2, 0, [], []⟩].map Nd.enc)) := F9t_filter_None () trivial
theorem ok_filter_Not : codeOK Try.prog F9t Try.f19.ntmps (Try.f19.body.getD .skip) = true := by kernel_rfl
theorem c_filter_Not (l : List Nd) (h : l.length ≤ 1000000) : CallA Try.prog 19 [.slc (l.map Nd.enc)] (· = .slc ((l ++ [(⟨6, 1, [], []⟩ : Nd)]).map Nd.enc)) := by
  refine callA_of_body F9t_ok mixed Try.func19 rfl (Nat.le_of_ble_eq_true rfl) ok_filter_Not ?_
  unfold Try.f19
  have hj := f_join (op := 6) (LL := [l]) ⟨by simp, by simp; omega⟩
  have e : joinN 6 [l] = l ++ [(⟨6, 1, [], []⟩ : Nd)] := by simp [joinN]
  rw [e] at hj
  simp only [List.map_cons, List.map_nil, ndA] at hj
  simp -implicitDefEqProofs (maxSteps := 600000) (disch := (first | omega | decide)) only [go_sem, ↓reduceIte, seval, hj]
def andN (LL : List (List Nd)) : List Nd := if LL.length = 0 then [⟨1, 0, [], []⟩] else joinN 7 LL
def orN (LL : List (List Nd)) : List Nd := if LL.length = 0 then [⟨2, 0, [], []⟩] else joinN 8 LL
theorem ok_filter_And : codeOK Try.prog F9t Try.f17.ntmps (Try.f17.body.getD .skip) = true := by kernel_rfl
theorem c_filter_And (LL : List (List Nd)) (hL : LL.length ≤ 1000000) (hk : LL.flatten.length ≤ 1000000000) : CallA Try.prog 17 [.slc (LL.map ndA)] (· = .slc ((andN LL).map Nd.enc)) := by
  refine callA_of_body F9t_ok mixed Try.func17 rfl (Nat.le_of_ble_eq_true rfl) ok_filter_And ?_
  unfold Try.f17
  have hj := f_join (op := 7) ⟨hL, hk⟩
  have ha := f_All
  unfold andN
  by_cases h0 : LL.length = 0
  · have h0' : ((LL.length : Int) == 0) = true := by simp [h0]
    rw [if_pos h0]
    simp -implicitDefEqProofs (maxSteps := 600000) (disch := (first | omega | decide)) only [go_sem, ↓reduceIte, seval, h0', ha, List.length_map]
  · have h0' : ((LL.length : Int) == 0) = false := by rw [beq_eq_false_iff_ne]; omega
    rw [if_neg h0]
    simp -implicitDefEqProofs (maxSteps := 600000) (disch := (first | omega | decide)) only [go_sem, ↓reduceIte, seval, h0', hj, List.length_map]
theorem ok_filter_Or : codeOK Try.prog F9t Try.f18.ntmps (Try.f18.body.getD .skip) = true := by kernel_rfl
theorem c_filter_Or (LL : List (List Nd)) (hL : LL.length ≤ 1000000) (hk : LL.flatten.length ≤ 1000000000) : CallA Try.prog 18 [.slc (LL.map ndA)] (· = .slc ((orN LL).map Nd.enc)) := by
  refine callA_of_body F9t_ok mixed Try.func18 rfl (Nat.le_of_ble_eq_true rfl) ok_filter_Or ?_
  unfold Try.f18
  have hj := f_join (op := 8) ⟨hL, hk⟩
  have ha := f_None
  unfold orN
  by_cases h0 : LL.length = 0
  · have h0' : ((LL.length : Int) == 0) = true := by simp [h0]
    rw [if_pos h0]
    simp -implicitDefEqProofs (maxSteps := 600000) (disch := (first | omega | decide)) only [go_sem, ↓reduceIte, seval, h0', ha, List.length_map]
  · have h0' : ((LL.length : Int) == 0) = false := by rw [beq_eq_false_iff_ne]; omega
    rw [if_neg h0]
    simp -implicitDefEqProofs (maxSteps := 600000) (disch := (first | omega | decide)) only [go_sem, ↓reduceIte, seval, h0', hj, List.length_map]
def sameF (a b : List Nd) : Bool := decide (a = b)
theorem ok_ref09_Same : codeOK Try.prog F9t Try.f23.ntmps (Try.f23.body.getD .skip) = true := by kernel_rfl
theorem c_ref09_Same (a b : List Nd) (hl : a.length ≤ 4611686018427387904) (hb : b.length ≤ 4611686018427387904) : CallA Try.prog 23 [.slc (a.map Nd.enc), .slc (b.map Nd.enc)] (· = .bool (sameF a b)) := by
  refine callA_of_body F9t_ok mixed Try.func23 rfl (Nat.le_of_ble_eq_true rfl) ok_ref09_Same ?_
  unfold Try.f23
  cases h0 : ((a.length : Int) == (b.length : Int)) with
  | false =>
    have hne : a.length ≠ b.length := by
      have : (a.length : Int) ≠ (b.length : Int) := by simpa using h0
      omega
    have hh : sameF a b = false := by unfold sameF; simp; intro e; exact hne (by rw [e])
    simp -implicitDefEqProofs (maxSteps := 600000) (disch := (first | omega | decide)) only [go_sem, ↓reduceIte, seval, h0, hh, List.length_map]
  | true =>
    have he : a.length = b.length := by
      have : (a.length : Int) = (b.length : Int) := by simpa using h0
      omega
    simp -implicitDefEqProofs (maxSteps := 600000) (disch := (first | omega | decide)) only [go_sem, ↓reduceIte, seval, h0, List.length_map]
    refine wpA_loop [0, 1] (ι := {k : Nat // k ≤ a.length ∧ a.take k = b.take k}) (fun p => [(5, .int .i64 p.1)]) (fun _ => []) (fun p => a.length - p.1) ⟨0, by omega, rfl⟩ (Nat.zero_le _) ?_ ?_
    · simp -implicitDefEqProofs (maxSteps := 600000) (disch := (first | omega | decide)) only [go_sem, ↓reduceIte, seval]
    · rintro ⟨k, hk, hd⟩
      simp only
      by_cases hlt : k < a.length
      · have hlt' : (k : Int) < (a.length : Int) := by omega
        have hlt2 : (k : Int) < (b.length : Int) := by omega
        have hltb : k < b.length := by omega
        have e1 := nd_get hlt
        have e2 := nd_get hltb
        have t1 := (List.take_append_getElem hlt).symm
        have t2 := (List.take_append_getElem hltb).symm
        have hno : a[k] ≠ b[k] → sameF a b = false := fun h => by
          unfold sameF; simp; intro e; subst e; exact h rfl
        generalize hx : a[k] = x at *
        generalize hy : b[k] = y at *
        obtain ⟨f, t, o, q⟩ := x
        obtain ⟨f', t', o', q'⟩ := y
        simp only at e1 e2
        cases h1 : f == f' with
        | false =>
          have hh := hno (by have : f ≠ f' := by simpa using h1
                             simp [this])
          simp -implicitDefEqProofs (maxSteps := 600000) (disch := (first | omega | decide)) only [go_sem, ↓reduceIte, seval, hlt', hlt2, e1, e2, h1, hh, List.length_map]
        | true =>
          cases h2 : t == t' with
          | false =>
            have hh := hno (by have : t ≠ t' := by simpa using h2
                               simp [this])
            simp -implicitDefEqProofs (maxSteps := 600000) (disch := (first | omega | decide)) only [go_sem, ↓reduceIte, seval, hlt', hlt2, e1, e2, h1, h2, hh, List.length_map]
          | true =>
            cases h3 : o == o' with
            | false =>
              have hh := hno (by have : o ≠ o' := by simpa using h3
                                 simp [this])
              simp -implicitDefEqProofs (maxSteps := 600000) (disch := (first | omega | decide)) only [go_sem, ↓reduceIte, seval, hlt', hlt2, e1, e2, h1, h2, h3, hh, List.length_map]
            | true =>
              cases h4 : q == q' with
              | false =>
                have hh := hno (by have : q ≠ q' := by simpa using h4
                                   simp [this])
                simp -implicitDefEqProofs (maxSteps := 600000) (disch := (first | omega | decide)) only [go_sem, ↓reduceIte, seval, hlt', hlt2, e1, e2, h1, h2, h3, h4, hh, List.length_map]
              | true =>
                obtain rfl : f = f' := by simpa using h1
                obtain rfl : t = t' := by simpa using h2
                obtain rfl : o = o' := by simpa using h3
                obtain rfl : q = q' := by simpa using h4
                simp -implicitDefEqProofs (maxSteps := 600000) (disch := (first | omega | decide)) only [go_sem, ↓reduceIte, seval, hlt', hlt2, e1, e2, h1, h2, h3, h4, wrap_i64, List.length_map]
                exact ⟨⟨k + 1, hlt, by rw [t1, t2, hd]⟩, by simp, by show a.length - (k + 1) < a.length - k; omega⟩
      · have hlt' : ¬ (k : Int) < (a.length : Int) := by omega
        have hh : sameF a b = true := by
          rw [List.take_of_length_le (by omega), List.take_of_length_le (by omega)] at hd
          simp [sameF, hd]
        simp -implicitDefEqProofs (maxSteps := 600000) (disch := (first | omega | decide)) only [go_sem, ↓reduceIte, seval, hlt', hh, List.length_map]
def longF (l : List Nd) (m : Int) : Bool := decide (m < (l.length : Int)) || l.any fun r => decide (40 < r.lo.length) || decide (40 < r.hi.length)
theorem longF_len {l : List Nd} {m : Int} (h : longF l m = false) : ¬ m < (l.length : Int) := by
  unfold longF at h
  simp only [Bool.or_eq_false_iff, decide_eq_false_iff_not] at h
  exact h.1
theorem ok_ref09_Long : codeOK Try.prog F9t Try.f8.ntmps (Try.f8.body.getD .skip) = true := by kernel_rfl
theorem c_ref09_Long (l : List Nd) (m : Int) (hl : l.length ≤ 9223372036854775807) : CallA Try.prog 8 [.slc (l.map Nd.enc), .int .i64 m] (· = .bool (longF l m)) := by
  refine callA_of_body F9t_ok mixed Try.func8 rfl (Nat.le_of_ble_eq_true rfl) ok_ref09_Long ?_
  unfold Try.f8
  by_cases h0 : m < (l.length : Int)
  · have hh : longF l m = true := by simp [longF, h0]
    simp -implicitDefEqProofs (maxSteps := 600000) (disch := (first | omega | decide)) only [go_sem, ↓reduceIte, seval, h0, hh, List.length_map]
  · have hh : longF l m = l.any fun r => decide (40 < r.lo.length) || decide (40 < r.hi.length) := by simp [longF, h0]
    simp -implicitDefEqProofs (maxSteps := 600000) (disch := (first | omega | decide)) only [go_sem, ↓reduceIte, seval, h0, List.length_map]
    rw [hh]
    refine wpA_loop [0] (ι := {k : Nat // k ≤ l.length ∧ (l.any fun r => decide (40 < r.lo.length) || decide (40 < r.hi.length)) = ((l.drop k).any fun r => decide (40 < r.lo.length) || decide (40 < r.hi.length))}) (fun p => [(5, .int .i64 p.1), (4, .bool false)]) (fun _ => []) (fun p => l.length - p.1) ⟨0, by omega, rfl⟩ (Nat.zero_le _) ?_ ?_
    · simp -implicitDefEqProofs (maxSteps := 600000) (disch := (first | omega | decide)) only [go_sem, ↓reduceIte, seval]
    · rintro ⟨k, hk, hd⟩
      simp only
      by_cases hlt : k < l.length
      · have hlt' : (k : Int) < (l.length : Int) := by omega
        have e1 := nd_get hlt
        rw [List.drop_eq_getElem_cons hlt, List.any_cons] at hd
        generalize hx : l[k] = x at *
        obtain ⟨op, kids, lo, hi⟩ := x
        simp only at hd e1
        by_cases h1 : 40 < lo.length
        · have h1' : (40 : Int) < (lo.length : Int) := by omega
          rw [decide_eq_true h1, Bool.true_or, Bool.true_or] at hd
          simp -implicitDefEqProofs (maxSteps := 600000) (disch := (first | omega | decide)) only [go_sem, ↓reduceIte, seval, hlt', e1, h1', hd, wrap_i64, List.length_map]
        · have h1' : ¬ (40 : Int) < (lo.length : Int) := by omega
          by_cases h2 : 40 < hi.length
          · have h2' : (40 : Int) < (hi.length : Int) := by omega
            rw [decide_eq_true h2, Bool.or_true, Bool.true_or] at hd
            simp -implicitDefEqProofs (maxSteps := 600000) (disch := (first | omega | decide)) only [go_sem, ↓reduceIte, seval, hlt', e1, h1', h2', hd, wrap_i64, List.length_map]
          · have h2' : ¬ (40 : Int) < (hi.length : Int) := by omega
            rw [decide_eq_false h1, decide_eq_false h2, Bool.or_false, Bool.false_or] at hd
            simp -implicitDefEqProofs (maxSteps := 600000) (disch := (first | omega | decide)) only [go_sem, ↓reduceIte, seval, hlt', e1, h1', h2', wrap_i64, List.length_map]
            exact ⟨⟨k + 1, hlt, hd⟩, by simp, by show l.length - (k + 1) < l.length - k; omega⟩
      · have hlt' : ¬ (k : Int) < (l.length : Int) := by omega
        rw [List.drop_of_length_le (by omega)] at hd
        simp -implicitDefEqProofs (maxSteps := 600000) (disch := (first | omega | decide)) only [go_sem, ↓reduceIte, seval, hlt', hd, List.length_map]
theorem stepN_frame {st s : List (List UInt8 → Bool)} {n : Nd} (pre : List (List UInt8 → Bool)) (h : stepN st n = some s) : stepN (pre ++ st) n = some (pre ++ s) := by
  unfold stepN at h ⊢
  split at h
  · rename_i hn
    obtain rfl := Option.some.inj h
    have e : (pre ++ st).length - kN n = pre.length + (st.length - kN n) := by rw [List.length_append]; omega
    rw [if_pos ⟨hn.1, by rw [List.length_append]; omega⟩, e, List.take_append, List.drop_append, List.take_of_length_le (by omega), List.drop_of_length_le (l := pre) (by omega), Nat.add_sub_cancel_left, List.nil_append, List.append_assoc]
  · cases h
theorem runN_frame (pre : List (List UInt8 → Bool)) : ∀ {l : List Nd} {st s : List (List UInt8 → Bool)}, runN st l = some s → runN (pre ++ st) l = some (pre ++ s)
  | [], st, s, h => by
    have h : some st = some s := h
    obtain rfl := Option.some.inj h
    rfl
  | n :: l, st, s, h => by
    have h : (stepN st n).bind (fun s => runN s l) = some s := h
    show (stepN (pre ++ st) n).bind (fun s => runN s l) = _
    cases h1 : stepN st n with
    | none => rw [h1] at h; cases h
    | some t =>
      rw [h1] at h
      rw [stepN_frame pre h1]
      exact runN_frame pre h
theorem val_join {op : Int} {a b : List Nd} {v w : List UInt8 → Bool} (hv : valF a = some v) (hw : valF b = some w) (hl : a.length + b.length ≤ 31) (ho : op = 7 ∨ op = 8) :
    valF (joinN op [a, b]) = some (hasN ⟨op, 2, [], []⟩ [v, w]) := by
  obtain ⟨_, h1⟩ := valF_some.1 hv
  obtain ⟨_, h2⟩ := valF_some.1 hw
  have e : joinN op [a, b] = (a ++ b) ++ [⟨op, 2, [], []⟩] := by simp [joinN]
  rw [e]
  refine valF_some.2 ⟨by simp; omega, ?_⟩
  have h3 : runN [v] b = some [v, w] := runN_frame [v] h2
  rw [runN_snoc, runN_append, h1]
  show ((runN [v] b).bind fun s => stepN s _) = _
  rw [h3]
  show stepN [v, w] _ = _
  unfold stepN
  rw [if_pos (by rcases ho with rfl | rfl <;> exact ⟨by decide, Nat.le_refl 2⟩)]
  rfl
theorem val_not {a : List Nd} {v : List UInt8 → Bool} (hv : valF a = some v) (hl : a.length ≤ 31) : valF (a ++ [(⟨6, 1, [], []⟩ : Nd)]) = some (hasN ⟨6, 1, [], []⟩ [v]) := by
  obtain ⟨_, h1⟩ := valF_some.1 hv
  refine valF_some.2 ⟨by simp; omega, ?_⟩
  rw [runN_snoc, h1]
  show stepN [v] _ = _
  unfold stepN
  rw [if_pos ⟨by decide, Nat.le_refl 1⟩]
  rfl
theorem rightF_val {l : List Nd} {v : List UInt8 → Bool} (h : valF l = some v) : rightF l = true := by unfold rightF; rw [h]; rfl
theorem val_right {l : List Nd} (h : rightF l = true) : valF l = some (matchF l) := by
  obtain ⟨v, h1, h2⟩ := rightF_iff.1 h
  have := valF_some.2 ⟨h1, h2⟩
  rw [this, matchF_val this]
theorem and_two (a b : List Nd) : andN [a, b] = joinN 7 [a, b] := rfl
theorem or_two (a b : List Nd) : orN [a, b] = joinN 8 [a, b] := rfl
theorem okF_join {op : Int} {a b : List Nd} (ha : okF a) (hb : okF b) : okF (joinN op [a, b]) := fun n hn => by
  simp only [joinN, List.flatten_cons, List.flatten_nil, List.append_nil, List.append_assoc] at hn
  rcases List.mem_append.1 hn with hn | hn
  · exact ha n hn
  · rcases List.mem_append.1 hn with hn | hn
    · exact hb n hn
    · obtain rfl := List.mem_singleton.1 hn
      exact ⟨by simp, by simp⟩
theorem okF_not {a : List Nd} (ha : okF a) : okF (a ++ [(⟨6, 1, [], []⟩ : Nd)]) := fun n hn => by
  rcases List.mem_append.1 hn with hn | hn
  · exact ha n hn
  · obtain rfl := List.mem_singleton.1 hn
    exact ⟨by simp, by simp⟩
theorem len_join {op : Int} {a b : List Nd} : (joinN op [a, b]).length = a.length + b.length + 1 := by simp [joinN]; omega
theorem match_and {a b : List Nd} (ha : rightF a = true) (hb : rightF b = true) (hl : a.length + b.length ≤ 31) : rightF (andN [a, b]) = true ∧ matchF (andN [a, b]) = fun s => matchF a s && matchF b s := by
  have h := val_join (op := 7) (val_right ha) (val_right hb) hl (.inl rfl)
  rw [and_two]
  refine ⟨rightF_val h, ?_⟩
  rw [matchF_val h]
  funext s
  simp [hasN]
theorem match_or {a b : List Nd} (ha : rightF a = true) (hb : rightF b = true) (hl : a.length + b.length ≤ 31) : rightF (orN [a, b]) = true ∧ matchF (orN [a, b]) = fun s => matchF a s || matchF b s := by
  have h := val_join (op := 8) (val_right ha) (val_right hb) hl (.inr rfl)
  rw [or_two]
  refine ⟨rightF_val h, ?_⟩
  rw [matchF_val h]
  funext s
  simp [hasN]
theorem match_not {a : List Nd} (ha : rightF a = true) (hl : a.length ≤ 31) : rightF (a ++ [(⟨6, 1, [], []⟩ : Nd)]) = true ∧ matchF (a ++ [(⟨6, 1, [], []⟩ : Nd)]) = fun s => !matchF a s := by
  have h := val_not (val_right ha) hl
  refine ⟨rightF_val h, ?_⟩
  rw [matchF_val h]
  funext s
  simp [hasN]
theorem match_set (l : List Nd) : IsS (matchF l) ∧ (setS (matchF l)).length ≤ 1 + 2 * l.length := by
  cases hr : rightF l with
  | true =>
    have h := flat_set (l := l) (val_flat (val_right hr))
    exact h.2
  | false =>
    rw [matchF_none hr, setS_none]
    refine ⟨?_, by simp⟩
    have := isS_has []
    rwa [show hasRs [] = fun _ => false from funext fun _ => rfl] at this
theorem sameF_self (a : List Nd) : sameF a a = true := by simp [sameF]
def exF : List Nd := [⟨3, 0, [97], []⟩, ⟨3, 0, [97, 98], []⟩, ⟨6, 1, [], []⟩, ⟨7, 2, [], []⟩]
theorem exF_val : valF exF = some (hasN ⟨7, 2, [], []⟩ [hasN ⟨3, 0, [97], []⟩ [], hasN ⟨6, 1, [], []⟩ [hasN ⟨3, 0, [97, 98], []⟩ []]]) := by
  refine valF_some.2 ⟨by decide, ?_⟩
  rfl
theorem exF_match (x : List UInt8) : matchF exF x = (beginsB x [97] && !beginsB x [97, 98]) := by
  rw [matchF_val exF_val]
  simp [hasN]
theorem exF_set : setS (matchF exF) = [⟨[97], [97, 98], false⟩, ⟨[97, 99], [98], false⟩] := (setS_eq (by decide) fun s => by
  rw [exF_match, ← prefix_has (t := [97]) (by simp), ← prefix_has (t := [97, 98]) (by simp)]
  have p1 : prefixR [97] = ⟨[97], [98], false⟩ := by decide
  have p2 : prefixR [97, 98] = ⟨[97, 98], [97, 99], false⟩ := by decide
  have r1 : rightR ⟨[97], [97, 98], false⟩ = true := by decide
  have r2 : rightR ⟨[97, 99], [98], false⟩ = true := by decide
  have r3 : rightR ⟨[97], [98], false⟩ = true := by decide
  have r4 : rightR ⟨[97, 98], [97, 99], false⟩ = true := by decide
  have l1 : ltB [97] [97, 98] = true := by decide
  have l2 : ltB [97, 98] [97, 99] = true := by decide
  have l3 : ltB [97, 99] [98] = true := by decide
  simp only [hasRs_cons, hasRs_nil, hasR_eq, p1, p2, r1, r2, r3, r4, upTo, Bool.true_and, Bool.false_or, Bool.or_false]
  cases h1 : ltB s [97]
  · cases h2 : ltB s [97, 98]
    · cases h3 : ltB s [97, 99]
      · cases h4 : ltB s [98] <;> rfl
      · have h4 := lt_trans' h3 l3
        rw [h4]; rfl
    · have h3 := lt_trans' h2 l2
      have h4 := lt_trans' h3 l3
      rw [h3, h4]; rfl
  · have h2 := lt_trans' h1 l1
    have h3 := lt_trans' h2 l2
    have h4 := lt_trans' h3 l3
    rw [h2, h3, h4]; rfl).symm
noncomputable def F9A : Tab := F9t.add 26 (entry (fun (p : List UInt8) => [.str p]) (fun p => True) (fun p => .slc ([⟨3, 0, p, []⟩].map Nd.enc)))
theorem F9A_ok : TabOK Try.prog F9A := F9t_ok.add (callable_of Try.func26 (by kernel_rfl) (by kernel_rfl)) (entry_ok fun p h => c_filter_Prefix p)
@[go_sem] theorem F9A_old {g : FuncId} {xs : List A} (h : g ≠ 26) : F9A.f g xs = F9t.f g xs := Tab.add_ne h
theorem F9A_filter_Prefix (p : List UInt8) (h : True) : F9A.f 26 [.str p] = some (.slc ([⟨3, 0, p, []⟩].map Nd.enc)) :=
  (Tab.add_eq : F9A.f 26 [.str p] = (entry (fun (p : List UInt8) => [.str p]) (fun p => True) (fun p => .slc ([⟨3, 0, p, []⟩].map Nd.enc))) [.str p]).trans (entry_eq (fun i j h => by first | (cases i; cases j; rfl; done) | simpa [Prod.ext_iff, and_assoc] using h | (simp at h; omega)) p h)
noncomputable def F9B : Tab := F9A.add 27 (entry (fun (v : List UInt8 × List UInt8) => [.str v.1, .str v.2]) (fun v => True) (fun v => .slc ([⟨4, 0, v.1, v.2⟩].map Nd.enc)))
theorem F9B_ok : TabOK Try.prog F9B := F9A_ok.add (callable_of Try.func27 (by kernel_rfl) (by kernel_rfl)) (entry_ok fun v h => c_filter_Between v.1 v.2)
@[go_sem] theorem F9B_old {g : FuncId} {xs : List A} (h : g ≠ 27) : F9B.f g xs = F9A.f g xs := Tab.add_ne h
theorem F9B_filter_Between (v : List UInt8 × List UInt8) (h : True) : F9B.f 27 [.str v.1, .str v.2] = some (.slc ([⟨4, 0, v.1, v.2⟩].map Nd.enc)) :=
  (Tab.add_eq : F9B.f 27 [.str v.1, .str v.2] = (entry (fun (v : List UInt8 × List UInt8) => [.str v.1, .str v.2]) (fun v => True) (fun v => .slc ([⟨4, 0, v.1, v.2⟩].map Nd.enc))) [.str v.1, .str v.2]).trans (entry_eq (fun i j h => by first | (cases i; cases j; rfl; done) | simpa [Prod.ext_iff, and_assoc] using h | (simp at h; omega)) v h)
noncomputable def F9C : Tab := F9B.add 28 (entry (fun (p : List UInt8) => [.str p]) (fun p => True) (fun p => .slc ([⟨5, 0, p, []⟩].map Nd.enc)))
theorem F9C_ok : TabOK Try.prog F9C := F9B_ok.add (callable_of Try.func28 (by kernel_rfl) (by kernel_rfl)) (entry_ok fun p h => c_filter_From p)
@[go_sem] theorem F9C_old {g : FuncId} {xs : List A} (h : g ≠ 28) : F9C.f g xs = F9B.f g xs := Tab.add_ne h
theorem F9C_filter_From (p : List UInt8) (h : True) : F9C.f 28 [.str p] = some (.slc ([⟨5, 0, p, []⟩].map Nd.enc)) :=
  (Tab.add_eq : F9C.f 28 [.str p] = (entry (fun (p : List UInt8) => [.str p]) (fun p => True) (fun p => .slc ([⟨5, 0, p, []⟩].map Nd.enc))) [.str p]).trans (entry_eq (fun i j h => by first | (cases i; cases j; rfl; done) | simpa [Prod.ext_iff, and_assoc] using h | (simp at h; omega)) p h)
noncomputable def F9D : Tab := F9C.add 19 (entry (fun (l : List Nd) => [.slc (l.map Nd.enc)]) (fun l => l.length ≤ 1000000) (fun l => .slc ((l ++ [(⟨6, 1, [], []⟩ : Nd)]).map Nd.enc)))
theorem F9D_ok : TabOK Try.prog F9D := F9C_ok.add (callable_of Try.func19 (by kernel_rfl) (by kernel_rfl)) (entry_ok fun l h => c_filter_Not l h)
@[go_sem] theorem F9D_old {g : FuncId} {xs : List A} (h : g ≠ 19) : F9D.f g xs = F9C.f g xs := Tab.add_ne h
theorem F9D_filter_Not (l : List Nd) (h : l.length ≤ 1000000) : F9D.f 19 [.slc (l.map Nd.enc)] = some (.slc ((l ++ [(⟨6, 1, [], []⟩ : Nd)]).map Nd.enc)) :=
  (Tab.add_eq : F9D.f 19 [.slc (l.map Nd.enc)] = (entry (fun (l : List Nd) => [.slc (l.map Nd.enc)]) (fun l => l.length ≤ 1000000) (fun l => .slc ((l ++ [(⟨6, 1, [], []⟩ : Nd)]).map Nd.enc))) [.slc (l.map Nd.enc)]).trans (entry_eq (fun i j h => by first | (cases i; cases j; rfl; done) | simpa [Prod.ext_iff, and_assoc] using h | (simp at h; omega)) l h)
noncomputable def F9E : Tab := F9D.add 17 (entry (fun (L : List (List Nd)) => [.slc (L.map ndA)]) (fun L => L.length ≤ 1000000 ∧ L.flatten.length ≤ 1000000000) (fun L => .slc ((andN L).map Nd.enc)))
theorem F9E_ok : TabOK Try.prog F9E := F9D_ok.add (callable_of Try.func17 (by kernel_rfl) (by kernel_rfl)) (entry_ok fun L h => c_filter_And L h.1 h.2)
@[go_sem] theorem F9E_old {g : FuncId} {xs : List A} (h : g ≠ 17) : F9E.f g xs = F9D.f g xs := Tab.add_ne h
theorem F9E_filter_And (L : List (List Nd)) (h : L.length ≤ 1000000 ∧ L.flatten.length ≤ 1000000000) : F9E.f 17 [.slc (L.map ndA)] = some (.slc ((andN L).map Nd.enc)) :=
  (Tab.add_eq : F9E.f 17 [.slc (L.map ndA)] = (entry (fun (L : List (List Nd)) => [.slc (L.map ndA)]) (fun L => L.length ≤ 1000000 ∧ L.flatten.length ≤ 1000000000) (fun L => .slc ((andN L).map Nd.enc))) [.slc (L.map ndA)]).trans (entry_eq (fun i j h => by first | (cases i; cases j; rfl; done) | simpa [Prod.ext_iff, and_assoc] using h | (simp at h; omega)) L h)
noncomputable def F9F : Tab := F9E.add 18 (entry (fun (L : List (List Nd)) => [.slc (L.map ndA)]) (fun L => L.length ≤ 1000000 ∧ L.flatten.length ≤ 1000000000) (fun L => .slc ((orN L).map Nd.enc)))
theorem F9F_ok : TabOK Try.prog F9F := F9E_ok.add (callable_of Try.func18 (by kernel_rfl) (by kernel_rfl)) (entry_ok fun L h => c_filter_Or L h.1 h.2)
@[go_sem] theorem F9F_old {g : FuncId} {xs : List A} (h : g ≠ 18) : F9F.f g xs = F9E.f g xs := Tab.add_ne h
theorem F9F_filter_Or (L : List (List Nd)) (h : L.length ≤ 1000000 ∧ L.flatten.length ≤ 1000000000) : F9F.f 18 [.slc (L.map ndA)] = some (.slc ((orN L).map Nd.enc)) :=
  (Tab.add_eq : F9F.f 18 [.slc (L.map ndA)] = (entry (fun (L : List (List Nd)) => [.slc (L.map ndA)]) (fun L => L.length ≤ 1000000 ∧ L.flatten.length ≤ 1000000000) (fun L => .slc ((orN L).map Nd.enc))) [.slc (L.map ndA)]).trans (entry_eq (fun i j h => by first | (cases i; cases j; rfl; done) | simpa [Prod.ext_iff, and_assoc] using h | (simp at h; omega)) L h)
noncomputable def F9G : Tab := F9F.add 23 (entry (fun (v : List Nd × List Nd) => [.slc (v.1.map Nd.enc), .slc (v.2.map Nd.enc)]) (fun v => v.1.length ≤ 4611686018427387904 ∧ v.2.length ≤ 4611686018427387904) (fun v => .bool (sameF v.1 v.2)))
theorem F9G_ok : TabOK Try.prog F9G := F9F_ok.add (callable_of Try.func23 (by kernel_rfl) (by kernel_rfl)) (entry_ok fun v h => c_ref09_Same v.1 v.2 h.1 h.2)
@[go_sem] theorem F9G_old {g : FuncId} {xs : List A} (h : g ≠ 23) : F9G.f g xs = F9F.f g xs := Tab.add_ne h
theorem F9G_ref09_Same (v : List Nd × List Nd) (h : v.1.length ≤ 4611686018427387904 ∧ v.2.length ≤ 4611686018427387904) : F9G.f 23 [.slc (v.1.map Nd.enc), .slc (v.2.map Nd.enc)] = some (.bool (sameF v.1 v.2)) :=
  (Tab.add_eq : F9G.f 23 [.slc (v.1.map Nd.enc), .slc (v.2.map Nd.enc)] = (entry (fun (v : List Nd × List Nd) => [.slc (v.1.map Nd.enc), .slc (v.2.map Nd.enc)]) (fun v => v.1.length ≤ 4611686018427387904 ∧ v.2.length ≤ 4611686018427387904) (fun v => .bool (sameF v.1 v.2))) [.slc (v.1.map Nd.enc), .slc (v.2.map Nd.enc)]).trans (entry_eq (fun i j h => by first | (cases i; cases j; rfl; done) | simpa [Prod.ext_iff, and_assoc] using h | (simp at h; omega)) v h)
noncomputable def F9H : Tab := F9G.add 8 (entry (fun (v : List Nd × Int) => [.slc (v.1.map Nd.enc), .int .i64 v.2]) (fun v => v.1.length ≤ 9223372036854775807) (fun v => .bool (longF v.1 v.2)))
theorem F9H_ok : TabOK Try.prog F9H := F9G_ok.add (callable_of Try.func8 (by kernel_rfl) (by kernel_rfl)) (entry_ok fun v h => c_ref09_Long v.1 v.2 h)
@[go_sem] theorem F9H_old {g : FuncId} {xs : List A} (h : g ≠ 8) : F9H.f g xs = F9G.f g xs := Tab.add_ne h
theorem F9H_ref09_Long (v : List Nd × Int) (h : v.1.length ≤ 9223372036854775807) : F9H.f 8 [.slc (v.1.map Nd.enc), .int .i64 v.2] = some (.bool (longF v.1 v.2)) :=
  (Tab.add_eq : F9H.f 8 [.slc (v.1.map Nd.enc), .int .i64 v.2] = (entry (fun (v : List Nd × Int) => [.slc (v.1.map Nd.enc), .int .i64 v.2]) (fun v => v.1.length ≤ 9223372036854775807) (fun v => .bool (longF v.1 v.2))) [.slc (v.1.map Nd.enc), .int .i64 v.2]).trans (entry_eq (fun i j h => by first | (cases i; cases j; rfl; done) | simpa [Prod.ext_iff, and_assoc] using h | (simp at h; omega)) v h)
noncomputable def F9I : Tab := F9H.add 16 (entry (fun (v : List Rng × List UInt8) => [.slc (v.1.map Rng.enc), .str v.2]) (fun v => v.1.length ≤ 100000 ∧ okL v.1 ∧ v.2.length ≤ 9223372036854775807) (fun v => .bool (hasRs v.1 v.2)))
theorem F9I_ok : TabOK Try.prog F9I := F9H_ok.add (callable_of Try.func16 (by kernel_rfl) (by kernel_rfl)) (entry_ok fun v h => c_ref08_Has v.1 v.2 (by omega) h.2.1 h.2.2)
@[go_sem] theorem F9I_old {g : FuncId} {xs : List A} (h : g ≠ 16) : F9I.f g xs = F9H.f g xs := Tab.add_ne h
@[go_sem] theorem F9I_eff {g : FuncId} : F9I.eff g = false := rfl
@[go_sem] theorem F9I_ords {n : Nat} : F9I.ords n = [] := rfl
theorem F9I_ref08_Has (v : List Rng × List UInt8) (h : v.1.length ≤ 100000 ∧ okL v.1 ∧ v.2.length ≤ 9223372036854775807) : F9I.f 16 [.slc (v.1.map Rng.enc), .str v.2] = some (.bool (hasRs v.1 v.2)) :=
  (Tab.add_eq : F9I.f 16 [.slc (v.1.map Rng.enc), .str v.2] = (entry (fun (v : List Rng × List UInt8) => [.slc (v.1.map Rng.enc), .str v.2]) (fun v => v.1.length ≤ 100000 ∧ okL v.1 ∧ v.2.length ≤ 9223372036854775807) (fun v => .bool (hasRs v.1 v.2))) [.slc (v.1.map Rng.enc), .str v.2]).trans (entry_eq (fun i j h => by first | (cases i; cases j; rfl; done) | simpa [Prod.ext_iff, and_assoc] using h | (simp at h; omega)) v h)
theorem g_Prefix (p : List UInt8) : F9A.f 26 [.str p] = some (.slc ([⟨3, 0, p, []⟩].map Nd.enc)) := F9A_filter_Prefix p trivial
theorem g_Between (lo hi : List UInt8) : F9B.f 27 [.str lo, .str hi] = some (.slc ([⟨4, 0, lo, hi⟩].map Nd.enc)) := F9B_filter_Between (lo, hi) trivial
theorem g_From (p : List UInt8) : F9C.f 28 [.str p] = some (.slc ([⟨5, 0, p, []⟩].map Nd.enc)) := F9C_filter_From p trivial
theorem g_Not {l : List Nd} (h : l.length ≤ 1000000) : F9D.f 19 [.slc (l.map Nd.enc)] = some (.slc ((l ++ [(⟨6, 1, [], []⟩ : Nd)]).map Nd.enc)) := F9D_filter_Not l h
theorem g_And {L : List (List Nd)} (h : L.length ≤ 1000000 ∧ L.flatten.length ≤ 1000000000) : F9E.f 17 [.slc (L.map ndA)] = some (.slc ((andN L).map Nd.enc)) := F9E_filter_And L h
theorem g_Or {L : List (List Nd)} (h : L.length ≤ 1000000 ∧ L.flatten.length ≤ 1000000000) : F9F.f 18 [.slc (L.map ndA)] = some (.slc ((orN L).map Nd.enc)) := F9F_filter_Or L h
theorem g_Same {a b : List Nd} (h : a.length ≤ 4611686018427387904 ∧ b.length ≤ 4611686018427387904) : F9G.f 23 [.slc (a.map Nd.enc), .slc (b.map Nd.enc)] = some (.bool (sameF a b)) := F9G_ref09_Same (a, b) h
theorem g_Long {a : List Nd} {m : Int} (h : a.length ≤ 9223372036854775807) : F9H.f 8 [.slc (a.map Nd.enc), .int .i64 m] = some (.bool (longF a m)) := F9H_ref09_Long (a, m) h
theorem g_rHas {a : List Rng} {s : List UInt8} (h : a.length ≤ 100000 ∧ okL a ∧ s.length ≤ 9223372036854775807) : F9I.f 16 [.slc (a.map Rng.enc), .str s] = some (.bool (hasRs a s)) := F9I_ref08_Has (a, s) h
theorem ok_law09_awake : codeOK Try.prog F9I Try.f7.ntmps (Try.f7.body.getD .skip) = true := by kernel_rfl
theorem c_law09_awake : CallA Try.prog 7 [] (· = .bool true) := by
  refine callA_of_body F9I_ok mixed Try.func7 rfl (Nat.le_of_ble_eq_true rfl) ok_law09_awake ?_
  unfold Try.f7
  have ok : okF exF := fun n hn => by
    simp only [exF, List.mem_cons, List.not_mem_nil, or_false] at hn
    rcases hn with rfl | rfl | rfl | rfl <;> exact ⟨by simp, by simp⟩
  have p1 := g_Prefix [97]
  have p2 := g_Prefix [97, 98]
  have n1 := g_Not (l := [⟨3, 0, [97, 98], []⟩]) (by simp)
  have a1 := g_And (L := [[⟨3, 0, [97], []⟩], [⟨3, 0, [97, 98], []⟩, ⟨6, 1, [], []⟩]]) ⟨by simp, by simp⟩
  have e : andN [[⟨3, 0, [97], []⟩], [⟨3, 0, [97, 98], []⟩, ⟨6, 1, [], []⟩]] = exF := rfl
  rw [e] at a1
  have rg := f_Ranges (l := exF) ⟨by simp [exF], ok⟩
  rw [exF_set] at rg
  have rr := f_Right (l := exF) ⟨by simp [exF], ok⟩
  rw [rightF_val exF_val] at rr
  have m1 := f_Match (l := exF) (s := [97, 99]) ⟨by simp [exF], ok, by simp⟩
  have m2 := f_Match (l := exF) (s := [97, 98, 99]) ⟨by simp [exF], ok, by simp⟩
  rw [exF_match, show (beginsB [97, 99] [97] && !beginsB [97, 99] [97, 98]) = true by decide] at m1
  rw [exF_match, show (beginsB [97, 98, 99] [97] && !beginsB [97, 98, 99] [97, 98]) = false by decide] at m2
  simp only [exF, List.map_cons, List.map_nil, List.cons_append, List.nil_append, Nd.enc, ndA, Rng.enc] at p1 p2 n1 a1 rg rr m1 m2
  have b1 : (([97] : List UInt8) == [97]) = true := by decide
  have b2 : (([97, 98] : List UInt8) == [97, 98]) = true := by decide
  have b3 : (([97, 99] : List UInt8) == [97, 99]) = true := by decide
  have b4 : (([98] : List UInt8) == [98]) = true := by decide
  simp -implicitDefEqProofs (maxSteps := 600000) (disch := (first | omega | decide)) only [go_sem, ↓reduceIte, seval, p1, p2, n1, a1, rg, rr, m1, m2, b1, b2, b3, b4]
noncomputable def F9J : Tab := F9I.add 7 (entry (fun (u : Unit) => []) (fun u => True) (fun u => .bool true))
theorem F9J_ok : TabOK Try.prog F9J := F9I_ok.add (callable_of Try.func7 (by kernel_rfl) (by kernel_rfl)) (entry_ok fun u h => c_law09_awake)
@[go_sem] theorem F9J_old {g : FuncId} {xs : List A} (h : g ≠ 7) : F9J.f g xs = F9I.f g xs := Tab.add_ne h
@[go_sem] theorem F9J_eff {g : FuncId} : F9J.eff g = false := rfl
@[go_sem] theorem F9J_ords {n : Nat} : F9J.ords n = [] := rfl
theorem F9J_law09_awake (u : Unit) (h : True) : F9J.f 7 [] = some (.bool true) :=
  (Tab.add_eq : F9J.f 7 [] = (entry (fun (u : Unit) => []) (fun u => True) (fun u => .bool true)) []).trans (entry_eq (fun i j h => by first | (cases i; cases j; rfl; done) | simpa [Prod.ext_iff, and_assoc] using h | (simp at h; omega)) u h)
theorem g_awake : F9J.f 7 [] = some (.bool true) := F9J_law09_awake () trivial
theorem sameRs_self' (a : List Rng) : sameRs a a = true := by simp [sameRs]
theorem ok_law09_FilterMatches : codeOK Try.prog F9J Try.f3.ntmps (Try.f3.body.getD .skip) = true := by kernel_rfl
theorem c_law09_FilterMatches (l : List Nd) (s : List UInt8) (hl : l.length ≤ 9223372036854775807) (ol : okF l) (hs : s.length ≤ 9223372036854775807) : CallA Try.prog 3 [.slc (l.map Nd.enc), .str s] (· = .bool true) := by
  refine callA_of_body F9J_ok mixed Try.func3 rfl (Nat.le_of_ble_eq_true rfl) ok_law09_FilterMatches ?_
  unfold Try.f3
  have g0 := g_awake
  have g1 := g_Long (a := l) (m := 40) (by omega)
  cases hg : longF l 40 with
  | true =>
    rw [hg] at g1
    simp -implicitDefEqProofs (maxSteps := 600000) (disch := (first | omega | decide)) only [go_sem, ↓reduceIte, seval, g0, g1]
  | false =>
    have hlen := longF_len hg
    rw [hg] at g1
    by_cases h2 : (300 : Int) < (s.length : Int)
    · simp -implicitDefEqProofs (maxSteps := 600000) (disch := (first | omega | decide)) only [go_sem, ↓reduceIte, seval, g0, g1, h2, List.length_map]
    · obtain ⟨i1, i2⟩ := match_set l
      have f1 := f_Right (l := l) ⟨by omega, ol⟩
      have f2 := f_rRight (l := l) ⟨by omega, ol⟩
      have f3 := f_Match (l := l) (s := s) ⟨by omega, ol, hs⟩
      have f4 := f_rMatch (l := l) (s := s) ⟨by omega, ol, hs⟩
      have f5 := f_Ranges (l := l) ⟨by omega, ol⟩
      have f6 := f_rRanges (l := l) ⟨by omega, ol⟩
      have f7 := r_ref08_Same (a := setS (matchF l)) (b := setS (matchF l)) ⟨by omega, by omega⟩
      have f8 := g_rHas (a := setS (matchF l)) (s := s) ⟨by omega, setS_ok _, hs⟩
      rw [sameRs_self'] at f7
      rw [setS_has i1] at f8
      have w2 : ∀ x : Bool, (x == x) = true := fun x => by simp
      simp -implicitDefEqProofs (maxSteps := 600000) (disch := (first | omega | decide)) only [go_sem, ↓reduceIte, seval, g0, g1, h2, f1, f2, f3, f4, f5, f6, f7, f8, w2, List.length_map]
theorem ok_law09_FilterTurns : codeOK Try.prog F9J Try.f4.ntmps (Try.f4.body.getD .skip) = true := by kernel_rfl
theorem c_law09_FilterTurns (a b : List Nd) (s : List UInt8) (hla : a.length ≤ 9223372036854775807) (hlb : b.length ≤ 9223372036854775807) (oa : okF a) (ob : okF b) (hs : s.length ≤ 9223372036854775807) : CallA Try.prog 4 [.slc (a.map Nd.enc), .slc (b.map Nd.enc), .str s] (· = .bool true) := by
  refine callA_of_body F9J_ok mixed Try.func4 rfl (Nat.le_of_ble_eq_true rfl) ok_law09_FilterTurns ?_
  unfold Try.f4
  have g0 := g_awake
  have g1 := g_Long (a := a) (m := 15) (by omega)
  have g2 := g_Long (a := b) (m := 15) (by omega)
  cases hg : longF a 15 with
  | true =>
    rw [hg] at g1
    simp -implicitDefEqProofs (maxSteps := 600000) (disch := (first | omega | decide)) only [go_sem, ↓reduceIte, seval, g0, g1]
  | false =>
    have la := longF_len hg
    rw [hg] at g1
    cases hg' : longF b 15 with
    | true =>
      rw [hg'] at g2
      simp -implicitDefEqProofs (maxSteps := 600000) (disch := (first | omega | decide)) only [go_sem, ↓reduceIte, seval, g0, g1, g2]
    | false =>
      have lb := longF_len hg'
      rw [hg'] at g2
      by_cases h2 : (300 : Int) < (s.length : Int)
      · simp -implicitDefEqProofs (maxSteps := 600000) (disch := (first | omega | decide)) only [go_sem, ↓reduceIte, seval, g0, g1, g2, h2, List.length_map]
      · have r1 := f_rRight (l := a) ⟨by omega, oa⟩
        have r2 := f_rRight (l := b) ⟨by omega, ob⟩
        cases ha : rightF a with
        | false =>
          rw [ha] at r1
          simp -implicitDefEqProofs (maxSteps := 600000) (disch := (first | omega | decide)) only [go_sem, ↓reduceIte, seval, g0, g1, g2, h2, r1, List.length_map]
        | true =>
          rw [ha] at r1
          cases hb : rightF b with
          | false =>
            rw [hb] at r2
            simp -implicitDefEqProofs (maxSteps := 600000) (disch := (first | omega | decide)) only [go_sem, ↓reduceIte, seval, g0, g1, g2, h2, r1, r2, List.length_map]
          | true =>
            rw [hb] at r2
            obtain ⟨a1, a2⟩ := match_and ha hb (by omega)
            obtain ⟨o1, o2⟩ := match_or ha hb (by omega)
            obtain ⟨n1, n2⟩ := match_not ha (by omega)
            have f1 := f_Match (l := a) (s := s) ⟨by omega, oa, hs⟩
            have f2 := f_Match (l := b) (s := s) ⟨by omega, ob, hs⟩
            have f3 := g_And (L := [a, b]) ⟨by simp, by simp; omega⟩
            have f4 := g_Or (L := [a, b]) ⟨by simp, by simp; omega⟩
            have f5 := g_Not (l := a) (by omega)
            have k1 : okF (andN [a, b]) := okF_join oa ob
            have k2 : okF (orN [a, b]) := okF_join oa ob
            have k3 := okF_not oa
            have l1 : (andN [a, b]).length = a.length + b.length + 1 := len_join
            have l2 : (orN [a, b]).length = a.length + b.length + 1 := len_join
            have l3 : (a ++ [(⟨6, 1, [], []⟩ : Nd)]).length = a.length + 1 := by simp
            have f6 := f_Right (l := andN [a, b]) ⟨by omega, k1⟩
            have f7 := f_Right (l := orN [a, b]) ⟨by omega, k2⟩
            have f8 := f_Right (l := a ++ [⟨6, 1, [], []⟩]) ⟨by omega, k3⟩
            have f9 := f_Match (l := andN [a, b]) (s := s) ⟨by omega, k1, hs⟩
            have f10 := f_Match (l := orN [a, b]) (s := s) ⟨by omega, k2, hs⟩
            have f11 := f_Match (l := a ++ [⟨6, 1, [], []⟩]) (s := s) ⟨by omega, k3, hs⟩
            rw [a1] at f6; rw [o1] at f7; rw [n1] at f8; rw [a2] at f9; rw [o2] at f10; rw [n2] at f11
            generalize andN [a, b] = X at *
            generalize orN [a, b] = Y at *
            generalize a ++ [(⟨6, 1, [], []⟩ : Nd)] = Z at *
            simp only [List.map_cons, List.map_nil, ndA] at f3 f4
            cases hx : matchF a s <;> cases hy : matchF b s <;> simp only [hx, hy, Bool.and_true, Bool.and_false, Bool.or_true, Bool.or_false, Bool.true_or, Bool.false_or, Bool.not_true, Bool.not_false] at f1 f2 f9 f10 f11 <;> simp -implicitDefEqProofs (maxSteps := 600000) (disch := (first | omega | decide)) only [go_sem, ↓reduceIte, seval, g0, g1, g2, h2, r1, r2, f1, f2, f3, f4, f5, f6, f7, f8, f9, f10, f11, List.length_map]
theorem ok_law09_FilterRanges : codeOK Try.prog F9J Try.f5.ntmps (Try.f5.body.getD .skip) = true := by kernel_rfl
theorem c_law09_FilterRanges (a b : List Nd) (hla : a.length ≤ 9223372036854775807) (hlb : b.length ≤ 9223372036854775807) (oa : okF a) (ob : okF b) : CallA Try.prog 5 [.slc (a.map Nd.enc), .slc (b.map Nd.enc)] (· = .bool true) := by
  refine callA_of_body F9J_ok mixed Try.func5 rfl (Nat.le_of_ble_eq_true rfl) ok_law09_FilterRanges ?_
  unfold Try.f5
  have g0 := g_awake
  have g1 := g_Long (a := a) (m := 15) (by omega)
  have g2 := g_Long (a := b) (m := 15) (by omega)
  cases hg : longF a 15 with
  | true =>
    rw [hg] at g1
    simp -implicitDefEqProofs (maxSteps := 600000) (disch := (first | omega | decide)) only [go_sem, ↓reduceIte, seval, g0, g1]
  | false =>
    have la := longF_len hg
    rw [hg] at g1
    cases hg' : longF b 15 with
    | true =>
      rw [hg'] at g2
      simp -implicitDefEqProofs (maxSteps := 600000) (disch := (first | omega | decide)) only [go_sem, ↓reduceIte, seval, g0, g1, g2]
    | false =>
      have lb := longF_len hg'
      rw [hg'] at g2
      have r1 := f_rRight (l := a) ⟨by omega, oa⟩
      have r2 := f_rRight (l := b) ⟨by omega, ob⟩
      cases ha : rightF a with
      | false =>
        rw [ha] at r1
        simp -implicitDefEqProofs (maxSteps := 600000) (disch := (first | omega | decide)) only [go_sem, ↓reduceIte, seval, g0, g1, g2, r1, List.length_map]
      | true =>
        rw [ha] at r1
        cases hb : rightF b with
        | false =>
          rw [hb] at r2
          simp -implicitDefEqProofs (maxSteps := 600000) (disch := (first | omega | decide)) only [go_sem, ↓reduceIte, seval, g0, g1, g2, r1, r2, List.length_map]
        | true =>
          rw [hb] at r2
          obtain ⟨a1, a2⟩ := match_and ha hb (by omega)
          obtain ⟨o1, o2⟩ := match_or ha hb (by omega)
          obtain ⟨n1, n2⟩ := match_not ha (by omega)
          obtain ⟨ia, ja⟩ := match_set a
          obtain ⟨ib, jb⟩ := match_set b
          have k1 : okF (andN [a, b]) := okF_join oa ob
          have k2 : okF (orN [a, b]) := okF_join oa ob
          have k3 := okF_not oa
          have l1 : (andN [a, b]).length = a.length + b.length + 1 := len_join
          have l2 : (orN [a, b]).length = a.length + b.length + 1 := len_join
          have l3 : (a ++ [(⟨6, 1, [], []⟩ : Nd)]).length = a.length + 1 := by simp
          have q1 := (match_set (andN [a, b])).2
          have q2 := (match_set (orN [a, b])).2
          have q3 := (match_set (a ++ [(⟨6, 1, [], []⟩ : Nd)])).2
          have f1 := f_Ranges (l := a) ⟨by omega, oa⟩
          have f2 := f_Ranges (l := b) ⟨by omega, ob⟩
          have f3 := g_And (L := [a, b]) ⟨by simp, by simp; omega⟩
          have f4 := g_Or (L := [a, b]) ⟨by simp, by simp; omega⟩
          have f5 := g_Not (l := a) (by omega)
          have f6 := f_Ranges (l := andN [a, b]) ⟨by omega, k1⟩
          have f7 := f_Ranges (l := orN [a, b]) ⟨by omega, k2⟩
          have f8 := f_Ranges (l := a ++ [⟨6, 1, [], []⟩]) ⟨by omega, k3⟩
          have f9 := r_ranges_Meet (a := setS (matchF a)) (b := setS (matchF b)) ⟨by omega, by omega, setS_ok _, setS_ok _⟩
          have f10 := r_ranges_Union (a := setS (matchF a)) (b := setS (matchF b)) ⟨by omega, by omega, setS_ok _, setS_ok _⟩
          have f11 := r_ranges_Not (l := setS (matchF a)) ⟨by omega, setS_ok _⟩
          have e1 : (fun s => hasRs (setS (matchF a)) s && hasRs (setS (matchF b)) s) = matchF (andN [a, b]) := by
            rw [a2]; funext s; rw [setS_has ia, setS_has ib]
          have e2 : (fun s => hasRs (setS (matchF a)) s || hasRs (setS (matchF b)) s) = matchF (orN [a, b]) := by
            rw [o2]; funext s; rw [setS_has ia, setS_has ib]
          have e3 : (fun s => !hasRs (setS (matchF a)) s) = matchF (a ++ [(⟨6, 1, [], []⟩ : Nd)]) := by
            rw [n2]; funext s; rw [setS_has ia]
          rw [e1] at f9; rw [e2] at f10; rw [e3] at f11
          generalize andN [a, b] = X at *
          generalize orN [a, b] = Y at *
          generalize a ++ [(⟨6, 1, [], []⟩ : Nd)] = Z at *
          have s1 := r_ref08_Same (a := setS (matchF X)) (b := setS (matchF X)) ⟨by omega, by omega⟩
          have s2 := r_ref08_Same (a := setS (matchF Y)) (b := setS (matchF Y)) ⟨by omega, by omega⟩
          have s3 := r_ref08_Same (a := setS (matchF Z)) (b := setS (matchF Z)) ⟨by omega, by omega⟩
          rw [sameRs_self'] at s1 s2 s3
          simp only [List.map_cons, List.map_nil, ndA] at f3 f4
          simp -implicitDefEqProofs (maxSteps := 600000) (disch := (first | omega | decide)) only [go_sem, ↓reduceIte, seval, g0, g1, g2, r1, r2, f1, f2, f3, f4, f5, f6, f7, f8, f9, f10, f11, s1, s2, s3, List.length_map]
theorem fits_nds {x : A} (h : fits (.rows [.int .i64, .int .i64, .str, .str]) x) : ∃ l : List Nd, x = .slc (l.map Nd.enc) ∧ l.length ≤ maxLen ∧ okF l := by
  simp only [fits] at h
  obtain ⟨es, rfl, hl, he⟩ := h
  have ml := maxLen_le
  obtain ⟨l, rfl, hk⟩ := list_of (f := Nd.enc) (P := fun n => n.ok) (es := es) (fun e hx => by
    obtain ⟨ys, rfl, hy⟩ := he e hx
    simp only [fitsL] at hy
    obtain ⟨y1, z1, rfl, h1, y2, z2, rfl, h2, y3, z3, rfl, h3, y4, z4, rfl, h4, rfl⟩ := hy
    simp only [fits] at h1 h2 h3 h4
    obtain ⟨a, rfl, _⟩ := h1
    obtain ⟨b, rfl, _⟩ := h2
    obtain ⟨s, rfl, hs⟩ := h3
    obtain ⟨t, rfl, ht⟩ := h4
    exact ⟨⟨a, b, s, t⟩, rfl, ⟨by show s.length ≤ _; omega, by show t.length ≤ _; omega⟩⟩)
  exact ⟨l, rfl, by simpa using hl, hk⟩
theorem fits_ndss {x : A} (h : fits (.list (.rows [.int .i64, .int .i64, .str, .str])) x) : ∃ L : List (List Nd), x = .slc (L.map ndA) ∧ L.length ≤ maxLen ∧ ∀ l ∈ L, l.length ≤ maxLen ∧ okF l := by
  rw [fits] at h
  obtain ⟨es, rfl, hl, he⟩ := h
  obtain ⟨L, rfl, hk⟩ := list_of (f := ndA) (P := fun l => l.length ≤ maxLen ∧ okF l) (es := es) (fun e hx => by
    obtain ⟨l, rfl, h1, h2⟩ := fits_nds (he e hx)
    exact ⟨l, rfl, h1, h2⟩)
  exact ⟨L, rfl, by simpa using hl, hk⟩
noncomputable def F9K : Tab := { F9J with eff := fun f => f == 19, frz := fun f => f == 19 }
theorem F9K_ok : TabOK Try.prog F9K := ⟨F9J_ok.f, F9J_ok.hp⟩
@[go_sem] theorem F9K_f : F9K.f = F9J.f := rfl
@[go_sem] theorem F9K_eff {g : FuncId} : F9K.eff g = (g == 19) := rfl
@[go_sem] theorem F9K_frz {g : FuncId} : F9K.frz g = (g == 19) := rfl
@[go_sem] theorem F9K_fix {n : Nat} : F9K.fix n = false := rfl
@[go_sem] theorem F9K_ords {n : Nat} : F9K.ords n = [] := rfl
theorem ok_law09_FilterBuilds : codeOK Try.prog F9K Try.f6.ntmps (Try.f6.body.getD .skip) = true := by kernel_rfl
theorem c_law09_FilterBuilds (L : List (List Nd)) (lo hi : List UInt8) (hL : L.length ≤ 9223372036854775807) (hl : ∀ l ∈ L, l.length ≤ 9223372036854775807) (h1 : lo.length ≤ 9223372036854775807) (h2 : hi.length ≤ 9223372036854775807) : CallA Try.prog 6 [.slc (L.map ndA), .str lo, .str hi] (· = .bool true) := by
  refine callA_of_body F9K_ok mixed Try.func6 rfl (Nat.le_of_ble_eq_true rfl) ok_law09_FilterBuilds ?_
  unfold Try.f6
  have g0 := g_awake
  by_cases c1 : (10 : Int) < (L.length : Int)
  · simp -implicitDefEqProofs (maxSteps := 600000) (disch := (first | omega | decide)) only [go_sem, ↓reduceIte, seval, g0, c1, List.length_map]
  · by_cases c2 : (300 : Int) < (lo.length : Int)
    · simp -implicitDefEqProofs (maxSteps := 600000) (disch := (first | omega | decide)) only [go_sem, ↓reduceIte, seval, g0, c1, c2, List.length_map]
    · by_cases c3 : (300 : Int) < (hi.length : Int)
      · simp -implicitDefEqProofs (maxSteps := 600000) (disch := (first | omega | decide)) only [go_sem, ↓reduceIte, seval, g0, c1, c2, c3, List.length_map]
      · simp -implicitDefEqProofs (maxSteps := 600000) (disch := (first | omega | decide)) only [go_sem, ↓reduceIte, seval, g0, c1, c2, c3, List.length_map]
        refine wpA_loop_nil 7 4 rfl ?_
        refine wpA_loop [0, 1, 2, 28, 29] (ι := {o : Nat // o ≤ L.length ∧ (L.take o).flatten.length ≤ 40 * o}) (fun p => [(30, .int .i64 p.1), (7, .row 0 0 4 (L.take p.1).flatten.length false)]) (fun p => [(0, .row 4 ((L.take p.1).flatten.map Nd.enc))]) (fun p => L.length - p.1) ⟨0, by omega, by simp⟩ (Nat.zero_le _) ?_ ?_
        · simp -implicitDefEqProofs (maxSteps := 600000) (disch := (first | omega | decide)) only [go_sem, ↓reduceIte, seval]
          simp
        · rintro ⟨o, ho, hf⟩
          simp only
          by_cases hlt : o < L.length
          · have hlt' : (o : Int) < (L.length : Int) := by omega
            have hd := ndA_get hlt
            have hst := fl_take hlt
            have hk := hl _ (List.getElem_mem hlt)
            generalize L[o] = k at *
            have g1 := g_Long (a := k) (m := 40) hk
            cases hg : longF k 40 with
            | true =>
              rw [hg] at g1
              simp -implicitDefEqProofs (maxSteps := 600000) (disch := (first | omega | decide)) only [go_sem, ↓reduceIte, seval, hlt', hd, g1, List.length_map]
            | false =>
              rw [hg] at g1
              have hlk := longF_len hg
              have st := st09 k
              have tl : ((L.take o).flatten.map Nd.enc).take (L.take o).flatten.length = (L.take o).flatten.map Nd.enc := List.take_of_length_le (by rw [List.length_map]; exact Nat.le_refl _)
              simp -implicitDefEqProofs (maxSteps := 600000) (disch := (first | omega | decide)) only [go_sem, ↓reduceIte, seval, hlt', hd, g1, st, tl, wrap_i64, List.length_map]
              exact ⟨⟨Nat.le_refl _, by omega⟩, ⟨o + 1, hlt, by rw [hst, List.length_append]; omega⟩, ⟨⟨by simp, by rw [hst, List.length_append]⟩, by rw [hst, List.map_append]⟩, by show L.length - (o + 1) < L.length - o; omega⟩
          · have hlt' : ¬ (o : Int) < (L.length : Int) := by omega
            obtain rfl : o = L.length := by omega
            rw [List.take_length] at *
            have st := st09 L.flatten
            have tl : (L.flatten.map Nd.enc).take L.flatten.length = L.flatten.map Nd.enc := List.take_of_length_le (by rw [List.length_map]; exact Nat.le_refl _)
            have tl1 : ∀ x : A, (L.flatten.map Nd.enc ++ [x]).take (L.flatten.length + 1) = L.flatten.map Nd.enc ++ [x] := fun x => List.take_of_length_le (by rw [List.length_append, List.length_map]; exact Nat.le_refl _)
            have hle : L.flatten.length ≤ L.flatten.length := Nat.le_refl _
            have fA := g_And (L := L) ⟨by omega, by omega⟩
            have fO := g_Or (L := L) ⟨by omega, by omega⟩
            have fN := g_Not (l := L.flatten) (by omega)
            have e1 : (L.flatten ++ [(⟨6, 1, [], []⟩ : Nd)]).map Nd.enc = L.flatten.map Nd.enc ++ [.agg [.int .i64 6, .int .i64 1, .str [], .str []]] := by rw [List.map_append]; rfl
            have s0 := g_Same (a := L.flatten ++ [(⟨6, 1, [], []⟩ : Nd)]) (b := L.flatten ++ [(⟨6, 1, [], []⟩ : Nd)]) ⟨by rw [List.length_append, List.length_singleton]; omega, by rw [List.length_append, List.length_singleton]; omega⟩
            have s1 := g_Same (a := andN L) (b := andN L)
            have s2 := g_Same (a := orN L) (b := orN L)
            have b1 := f_All
            have b2 := f_None
            have b3 := g_Prefix lo
            have b4 := g_Between lo hi
            have b5 := g_From lo
            have t1 := g_Same (a := [(⟨1, 0, [], []⟩ : Nd)]) (b := [(⟨1, 0, [], []⟩ : Nd)]) ⟨by simp, by simp⟩
            have t2 := g_Same (a := [(⟨2, 0, [], []⟩ : Nd)]) (b := [(⟨2, 0, [], []⟩ : Nd)]) ⟨by simp, by simp⟩
            have t3 := g_Same (a := [(⟨3, 0, lo, []⟩ : Nd)]) (b := [(⟨3, 0, lo, []⟩ : Nd)]) ⟨by simp, by simp⟩
            have t4 := g_Same (a := [(⟨4, 0, lo, hi⟩ : Nd)]) (b := [(⟨4, 0, lo, hi⟩ : Nd)]) ⟨by simp, by simp⟩
            have t5 := g_Same (a := [(⟨5, 0, lo, []⟩ : Nd)]) (b := [(⟨5, 0, lo, []⟩ : Nd)]) ⟨by simp, by simp⟩
            rw [sameF_self] at s0 s1 s2 t1 t2 t3 t4 t5
            rw [e1] at s0 fN
            simp only [List.map_cons, List.map_nil, Nd.enc] at b1 b2 b3 b4 b5 t1 t2 t3 t4 t5
            by_cases h0 : L.length = 0
            · have h0' : ((L.length : Int) == 0) = true := by simp [h0]
              unfold andN at fA s1
              unfold orN at fO s2
              rw [if_pos h0] at fA fO s1 s2
              have s1 := s1 ⟨by simp, by simp⟩
              have s2 := s2 ⟨by simp, by simp⟩
              simp only [List.map_cons, List.map_nil, Nd.enc] at fA fO s1 s2
              simp -implicitDefEqProofs (maxSteps := 600000) (disch := (first | omega | decide)) only [go_sem, ↓reduceIte, seval, hlt', h0', hle, st, tl, tl1, fA, fO, fN, s0, s1, s2, b1, b2, b3, b4, b5, t1, t2, t3, t4, t5, List.length_map, List.length_append, List.contains_nil, List.contains_cons]
              refine ⟨?_, ?_, ?_, ?_, ?_, ?_⟩ <;> omega
            · have h0' : ((L.length : Int) == 0) = false := by rw [beq_eq_false_iff_ne]; omega
              unfold andN at fA s1
              unfold orN at fO s2
              rw [if_neg h0] at fA fO s1 s2
              have j1 : (joinN 7 L).map Nd.enc = L.flatten.map Nd.enc ++ [.agg [.int .i64 7, .int .i64 L.length, .str [], .str []]] := by
                unfold joinN; rw [List.map_append]; rfl
              have j2 : (joinN 8 L).map Nd.enc = L.flatten.map Nd.enc ++ [.agg [.int .i64 8, .int .i64 L.length, .str [], .str []]] := by
                unfold joinN; rw [List.map_append]; rfl
              have jl : ∀ o, (joinN o L).length = L.flatten.length + 1 := fun o => by unfold joinN; rw [List.length_append]; rfl
              have s1 := s1 ⟨by rw [jl]; omega, by rw [jl]; omega⟩
              have s2 := s2 ⟨by rw [jl]; omega, by rw [jl]; omega⟩
              rw [j1] at fA s1
              rw [j2] at fO s2
              simp -implicitDefEqProofs (maxSteps := 600000) (disch := (first | omega | decide)) only [go_sem, ↓reduceIte, seval, hlt', h0', hle, st, tl, tl1, fA, fO, fN, s0, s1, s2, b1, b2, b3, b4, b5, t1, t2, t3, t4, t5, List.length_map, List.length_append, List.contains_nil, List.contains_cons]
              refine ⟨?_, ?_, ?_, ?_, ?_, ?_⟩ <;> omega
end Go.Proofs.Ytmaipoimiiaofaa
