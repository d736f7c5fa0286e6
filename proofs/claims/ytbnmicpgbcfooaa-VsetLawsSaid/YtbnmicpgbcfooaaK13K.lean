/- Chapter 13: what is made of two lists; some counts more; the example. -/
import Derived.Test.YtbnmicpgbcfooaaK13E
import Derived.Test.YtbnmicpgbcfooaaK13I
import Derived.Test.YtbnmicpgbcfooaaK13T
namespace Go.Proofs.Ytbnmicpgbcfooaa
open Go.Abs
set_option linter.unusedSimpArgs false
set_option linter.unusedVariables false
set_option maxRecDepth 20000
set_option maxHeartbeats 8000000

theorem fn_inj {g h : FuncId} (e : A.fn g [] = A.fn h []) : g = h := by injection e
def kpOf (g : FuncId) : Bool → Bool → Bool := if g = 57 then (· || ·) else if g = 58 then (· && ·) else fun x y => x && !y
theorem kpOf_ff (g : FuncId) : kpOf g false false = false := by
  unfold kpOf; split
  · rfl
  · split <;> rfl
theorem kpOf_f {g : FuncId} (h : isOp g = true) : ∀ x y, T13k.f g [.bool x, .bool y] = some (.bool (kpOf g x y)) := fun x y => by
  simp only [isOp, Bool.or_eq_true, beq_iff_eq] at h
  rcases h with (rfl | rfl) | rfl
  · exact (T13k_old (by decide)).trans ((T13j_old (by decide)).trans t_Union1)
  · exact (T13k_old (by decide)).trans t_Meet1
  · exact t_Less1
noncomputable def T13l : Tab := T13k.add 56 (entry (fun (v : List Run × List Run × FuncId) => [.slc (v.1.map Run.enc), .slc (v.2.1.map Run.enc), .fn v.2.2 []]) (fun v => v.1.length ≤ 4398046511104 ∧ v.2.1.length ≤ 4398046511104 ∧ isOp v.2.2 = true) (fun v => .slc ((setR fun n => kpOf v.2.2 (hasL13 v.1 n) (hasL13 v.2.1 n)).map Run.enc)))
theorem T13l_ok : TabOK Try.prog T13l := T13k_ok.add (callable_of Try.func56 (by kernel_rfl) (by kernel_rfl)) (entry_ok fun v h => c_sweep v.1 v.2.1 v.2.2 (kpOf v.2.2) h.2.2 (kpOf_f h.2.2) (kpOf_ff _) h.1 h.2.1)
@[go_sem] theorem T13l_old {g : FuncId} {xs : List A} (h : g ≠ 56) : T13l.f g xs = T13k.f g xs := Tab.add_ne h
@[go_sem] theorem T13l_eff {g : FuncId} : T13l.eff g = T13k.eff g := rfl
@[go_sem] theorem T13l_frz {g : FuncId} : T13l.frz g = T13k.frz g := rfl
@[go_sem] theorem T13l_effT : T13l.effT = T13k.effT := rfl
@[go_sem] theorem T13l_fix : T13l.fix = T13k.fix := rfl
@[go_sem] theorem T13l_nf : T13l.nf = T13k.nf := rfl
@[go_sem] theorem T13l_ords {n : Nat} : T13l.ords n = T13k.ords n := rfl
@[go_sem] theorem T13l_hp : T13l.hp = T13k.hp := rfl
theorem T13l_counts_sweep (v : List Run × List Run × FuncId) (h : v.1.length ≤ 4398046511104 ∧ v.2.1.length ≤ 4398046511104 ∧ isOp v.2.2 = true) : T13l.f 56 [.slc (v.1.map Run.enc), .slc (v.2.1.map Run.enc), .fn v.2.2 []] = some (.slc ((setR fun n => kpOf v.2.2 (hasL13 v.1 n) (hasL13 v.2.1 n)).map Run.enc)) :=
  (Tab.add_eq : T13l.f 56 [.slc (v.1.map Run.enc), .slc (v.2.1.map Run.enc), .fn v.2.2 []] = (entry (fun (v : List Run × List Run × FuncId) => [.slc (v.1.map Run.enc), .slc (v.2.1.map Run.enc), .fn v.2.2 []]) (fun v => v.1.length ≤ 4398046511104 ∧ v.2.1.length ≤ 4398046511104 ∧ isOp v.2.2 = true) (fun v => .slc ((setR fun n => kpOf v.2.2 (hasL13 v.1 n) (hasL13 v.2.1 n)).map Run.enc))) [.slc (v.1.map Run.enc), .slc (v.2.1.map Run.enc), .fn v.2.2 []]).trans (entry_eq (fun i j h => by first | (cases i; cases j; rfl; done) | simpa [Prod.ext_iff, and_assoc] using h | (simp at h; omega)) v h)
@[go_sem] theorem t_sweepU {a b : List Run} (ha : a.length ≤ 4398046511104) (hb : b.length ≤ 4398046511104) : T13l.f 56 [.slc (a.map Run.enc), .slc (b.map Run.enc), .fn 57 []] = some (.slc ((setR fun n => hasL13 a n || hasL13 b n).map Run.enc)) := T13l_counts_sweep (a, b, _) ⟨ha, hb, rfl⟩
@[go_sem] theorem t_sweepM {a b : List Run} (ha : a.length ≤ 4398046511104) (hb : b.length ≤ 4398046511104) : T13l.f 56 [.slc (a.map Run.enc), .slc (b.map Run.enc), .fn 58 []] = some (.slc ((setR fun n => hasL13 a n && hasL13 b n).map Run.enc)) := T13l_counts_sweep (a, b, _) ⟨ha, hb, rfl⟩
@[go_sem] theorem t_sweepL {a b : List Run} (ha : a.length ≤ 4398046511104) (hb : b.length ≤ 4398046511104) : T13l.f 56 [.slc (a.map Run.enc), .slc (b.map Run.enc), .fn 59 []] = some (.slc ((setR fun n => hasL13 a n && !hasL13 b n).map Run.enc)) := T13l_counts_sweep (a, b, _) ⟨ha, hb, rfl⟩
theorem ok_counts_Union : codeOK Try.prog T13l Try.f45.ntmps (Try.f45.body.getD .skip) = true := by kernel_rfl
theorem c_counts_Union (a b : List Run) (ha : a.length ≤ 4398046511104) (hb : b.length ≤ 4398046511104) : CallA Try.prog 45 [.slc (a.map Run.enc), .slc (b.map Run.enc)] (· = .slc ((setR fun n => hasL13 a n || hasL13 b n).map Run.enc)) := by
  refine callA_of_body T13l_ok mixed Try.func45 rfl (Nat.le_of_ble_eq_true rfl) ok_counts_Union ?_
  unfold Try.f45
  simp -implicitDefEqProofs (maxSteps := 600000) (disch := (first | omega | decide)) only [go_sem, ↓reduceIte, Nat.reduceEqDiff, reduceCtorEq, Nat.reduceAdd, Nat.reduceSub, Nat.reduceMul, Nat.reduceLeDiff, Nat.reduceLT, Nat.reduceBEq, Nat.reduceBNe, Int.reduceLE, Int.reduceLT, Int.reduceBEq, Int.reduceBNe, Int.reduceEq, Int.reduceNe, Int.reduceAdd, Int.reduceSub, Int.reduceMul, Int.reduceNeg, Int.reduceToNat, ha, hb, List.length_map]
theorem ok_counts_Meet : codeOK Try.prog T13l Try.f46.ntmps (Try.f46.body.getD .skip) = true := by kernel_rfl
theorem c_counts_Meet (a b : List Run) (ha : a.length ≤ 4398046511104) (hb : b.length ≤ 4398046511104) : CallA Try.prog 46 [.slc (a.map Run.enc), .slc (b.map Run.enc)] (· = .slc ((setR fun n => hasL13 a n && hasL13 b n).map Run.enc)) := by
  refine callA_of_body T13l_ok mixed Try.func46 rfl (Nat.le_of_ble_eq_true rfl) ok_counts_Meet ?_
  unfold Try.f46
  simp -implicitDefEqProofs (maxSteps := 600000) (disch := (first | omega | decide)) only [go_sem, ↓reduceIte, Nat.reduceEqDiff, reduceCtorEq, Nat.reduceAdd, Nat.reduceSub, Nat.reduceMul, Nat.reduceLeDiff, Nat.reduceLT, Nat.reduceBEq, Nat.reduceBNe, Int.reduceLE, Int.reduceLT, Int.reduceBEq, Int.reduceBNe, Int.reduceEq, Int.reduceNe, Int.reduceAdd, Int.reduceSub, Int.reduceMul, Int.reduceNeg, Int.reduceToNat, ha, hb, List.length_map]
theorem ok_counts_Less : codeOK Try.prog T13l Try.f47.ntmps (Try.f47.body.getD .skip) = true := by kernel_rfl
theorem c_counts_Less (a b : List Run) (ha : a.length ≤ 4398046511104) (hb : b.length ≤ 4398046511104) : CallA Try.prog 47 [.slc (a.map Run.enc), .slc (b.map Run.enc)] (· = .slc ((setR fun n => hasL13 a n && !hasL13 b n).map Run.enc)) := by
  refine callA_of_body T13l_ok mixed Try.func47 rfl (Nat.le_of_ble_eq_true rfl) ok_counts_Less ?_
  unfold Try.f47
  simp -implicitDefEqProofs (maxSteps := 600000) (disch := (first | omega | decide)) only [go_sem, ↓reduceIte, Nat.reduceEqDiff, reduceCtorEq, Nat.reduceAdd, Nat.reduceSub, Nat.reduceMul, Nat.reduceLeDiff, Nat.reduceLT, Nat.reduceBEq, Nat.reduceBNe, Int.reduceLE, Int.reduceLT, Int.reduceBEq, Int.reduceBNe, Int.reduceEq, Int.reduceNe, Int.reduceAdd, Int.reduceSub, Int.reduceMul, Int.reduceNeg, Int.reduceToNat, ha, hb, List.length_map]
noncomputable def T13m : Tab := T13e.add 31 (entry (fun (v : Int × List Run × List Run) => [.int .i64 v.1, .slc (v.2.1.map Run.enc), .slc (v.2.2.map Run.enc)]) (fun v => opOK v.1 ∧ v.2.1.length ≤ 1000 ∧ v.2.2.length ≤ 1000) (fun v => .slc ((setR (opP v.1 v.2.1 v.2.2)).map Run.enc)))
theorem T13m_ok : TabOK Try.prog T13m := T13e_ok.add (callable_of Try.func31 (by kernel_rfl) (by kernel_rfl)) (entry_ok fun v h => c_ref13_Make v.1 v.2.1 v.2.2 h.1 h.2.1 h.2.2)
@[go_sem] theorem T13m_old {g : FuncId} {xs : List A} (h : g ≠ 31) : T13m.f g xs = T13e.f g xs := Tab.add_ne h
@[go_sem] theorem T13m_eff {g : FuncId} : T13m.eff g = T13e.eff g := rfl
@[go_sem] theorem T13m_frz {g : FuncId} : T13m.frz g = T13e.frz g := rfl
@[go_sem] theorem T13m_effT : T13m.effT = T13e.effT := rfl
@[go_sem] theorem T13m_fix : T13m.fix = T13e.fix := rfl
@[go_sem] theorem T13m_nf : T13m.nf = T13e.nf := rfl
@[go_sem] theorem T13m_ords {n : Nat} : T13m.ords n = T13e.ords n := rfl
@[go_sem] theorem T13m_hp : T13m.hp = T13e.hp := rfl
theorem T13m_ref13_Make (v : Int × List Run × List Run) (h : opOK v.1 ∧ v.2.1.length ≤ 1000 ∧ v.2.2.length ≤ 1000) : T13m.f 31 [.int .i64 v.1, .slc (v.2.1.map Run.enc), .slc (v.2.2.map Run.enc)] = some (.slc ((setR (opP v.1 v.2.1 v.2.2)).map Run.enc)) :=
  (Tab.add_eq : T13m.f 31 [.int .i64 v.1, .slc (v.2.1.map Run.enc), .slc (v.2.2.map Run.enc)] = (entry (fun (v : Int × List Run × List Run) => [.int .i64 v.1, .slc (v.2.1.map Run.enc), .slc (v.2.2.map Run.enc)]) (fun v => opOK v.1 ∧ v.2.1.length ≤ 1000 ∧ v.2.2.length ≤ 1000) (fun v => .slc ((setR (opP v.1 v.2.1 v.2.2)).map Run.enc))) [.int .i64 v.1, .slc (v.2.1.map Run.enc), .slc (v.2.2.map Run.enc)]).trans (entry_eq (fun i j h => by first | (cases i; cases j; rfl; done) | simpa [Prod.ext_iff, and_assoc] using h | (simp at h; omega)) v h)
theorem op1 (a b : List Run) : opP 1 a b = fun n => hasL13 a n || hasL13 b n := rfl
theorem op2 (a b : List Run) : opP 2 a b = fun n => hasL13 a n && hasL13 b n := rfl
theorem op3 (a b : List Run) : opP 3 a b = fun n => hasL13 a n && !hasL13 b n := rfl
@[go_sem] theorem t_Make1 {a b : List Run} (ha : a.length ≤ 1000) (hb : b.length ≤ 1000) : T13m.f 31 [.int .i64 1, .slc (a.map Run.enc), .slc (b.map Run.enc)] = some (.slc ((setR fun n => hasL13 a n || hasL13 b n).map Run.enc)) := T13m_ref13_Make (1, a, b) ⟨.inl rfl, ha, hb⟩
@[go_sem] theorem t_Make2 {a b : List Run} (ha : a.length ≤ 1000) (hb : b.length ≤ 1000) : T13m.f 31 [.int .i64 2, .slc (a.map Run.enc), .slc (b.map Run.enc)] = some (.slc ((setR fun n => hasL13 a n && hasL13 b n).map Run.enc)) := T13m_ref13_Make (2, a, b) ⟨.inr (.inl rfl), ha, hb⟩
@[go_sem] theorem t_Make3 {a b : List Run} (ha : a.length ≤ 1000) (hb : b.length ≤ 1000) : T13m.f 31 [.int .i64 3, .slc (a.map Run.enc), .slc (b.map Run.enc)] = some (.slc ((setR fun n => hasL13 a n && !hasL13 b n).map Run.enc)) := T13m_ref13_Make (3, a, b) ⟨.inr (.inr rfl), ha, hb⟩
theorem t_Make10 {a : List Run} (ha : a.length ≤ 1000) : T13m.f 31 [.int .i64 1, .slc (a.map Run.enc), .slc []] = some (.slc ((setR (hasL13 a)).map Run.enc)) := by
  have h := t_Make1 (a := a) (b := []) ha (by simp)
  have e : (fun n => hasL13 a n || hasL13 [] n) = hasL13 a := by funext n; rw [has_nil, Bool.or_false]
  rw [e] at h; exact h
theorem ok_ref13_Of : codeOK Try.prog T13m Try.f11.ntmps (Try.f11.body.getD .skip) = true := by kernel_rfl
theorem c_ref13_Of (a : List Run) (ha : a.length ≤ 1000) : CallA Try.prog 11 [.slc (a.map Run.enc)] (· = .slc ((setR (hasL13 a)).map Run.enc)) := by
  refine callA_of_body T13m_ok mixed Try.func11 rfl (Nat.le_of_ble_eq_true rfl) ok_ref13_Of ?_
  unfold Try.f11
  have h := t_Make10 ha
  simp -implicitDefEqProofs (maxSteps := 600000) (disch := (first | omega | decide)) only [go_sem, ↓reduceIte, Nat.reduceEqDiff, reduceCtorEq, Nat.reduceAdd, Nat.reduceSub, Nat.reduceMul, Nat.reduceLeDiff, Nat.reduceLT, Nat.reduceBEq, Nat.reduceBNe, Int.reduceLE, Int.reduceLT, Int.reduceBEq, Int.reduceBNe, Int.reduceEq, Int.reduceNe, Int.reduceAdd, Int.reduceSub, Int.reduceMul, Int.reduceNeg, Int.reduceToNat, h, ha, List.length_map]

noncomputable def C13Aa : Tab := T13u.addH 51 (entryH (fun l : List Run => [.slc (l.map Run.enc)]) (fun _ => []) (fun l => l.length ≤ 4398046511104) (fun l => (.row 0 0 2 l.length false, [.row 2 (l.map Run.enc)], [])))
noncomputable def C13A : Tab := { C13Aa with eff := fun f => f == 52 || f == 51, frz := fun f => f == 52 }
theorem C13Aa_ok : TabOK Try.prog C13Aa := T13u_ok.addH (callable_of Try.func51 (by kernel_rfl) (by kernel_rfl)) (entryH_ok fun l h => h_Clone_Run l h)
theorem C13A_ok : TabOK Try.prog C13A := ⟨C13Aa_ok.f, C13Aa_ok.hp⟩
@[go_sem] theorem C13A_f : C13A.f = T13u.f := rfl
@[go_sem] theorem C13A_eff {g : FuncId} : C13A.eff g = (g == 52 || g == 51) := rfl
@[go_sem] theorem C13A_effT : C13A.effT = false := rfl
@[go_sem] theorem C13A_frz {g : FuncId} : C13A.frz g = (g == 52) := rfl
@[go_sem] theorem C13A_fix {n : Nat} : C13A.fix n = false := rfl
@[go_sem] theorem C13A_nf : C13A.nf = 0 := rfl
@[go_sem] theorem C13A_ords {n : Nat} : C13A.ords n = [] := rfl
theorem C13A_clone {l : List Run} (h : l.length ≤ 4398046511104) : C13A.hp 51 [.slc (l.map Run.enc)] [] = some (.row 0 0 2 l.length false, [.row 2 (l.map Run.enc)], []) := by
  have h0 : C13Aa.hp 51 [.slc (l.map Run.enc)] [] = entryH (fun l : List Run => [A.slc (l.map Run.enc)]) (fun _ => []) (fun l => l.length ≤ 4398046511104) (fun l => (.row 0 0 2 l.length false, [.row 2 (l.map Run.enc)], [])) [.slc (l.map Run.enc)] [] := Tab.addH_eq
  exact h0.trans (entryH_eq (enc := fun l : List Run => [A.slc (l.map Run.enc)]) (obs := fun _ => []) (fun i j h _ => by simpa using h) l h)
/-- Single counts as runs. -/
def oneL (m : List Int) : List Run := m.map fun n => ⟨n, n⟩
theorem ok_counts_Add : codeOK Try.prog C13A Try.f42.ntmps (Try.f42.body.getD .skip) = true := by kernel_rfl
theorem c_counts_Add (l : List Run) (m : List Int) (hl : l.length ≤ 1000000) (hm : m.length ≤ 1000000) : CallA Try.prog 42 [.slc (l.map Run.enc), .slc (m.map (A.int .i64))] (· = .slc ((setR (hasL13 (l ++ oneL m))).map Run.enc)) := by
  refine callA_of_body C13A_ok mixed Try.func42 rfl (Nat.le_of_ble_eq_true rfl) ok_counts_Add ?_
  unfold Try.f42
  have h0 := C13A_clone (l := l) (by omega)
  simp -implicitDefEqProofs (maxSteps := 600000) (disch := (first | omega | decide)) only [go_sem, ↓reduceIte, Nat.reduceEqDiff, reduceCtorEq, Nat.reduceAdd, Nat.reduceSub, Nat.reduceMul, Nat.reduceLeDiff, Nat.reduceLT, Nat.reduceBEq, Nat.reduceBNe, Int.reduceLE, Int.reduceLT, Int.reduceBEq, Int.reduceBNe, Int.reduceEq, Int.reduceNe, Int.reduceAdd, Int.reduceSub, Int.reduceMul, Int.reduceNeg, Int.reduceToNat, h0, List.length_map, List.contains_nil, List.contains_cons]
  refine wpA_loop [4, 10, 11] (ι := {k : Nat // k ≤ m.length}) (fun p => [(12, .int .i64 p.1), (5, .row 0 0 2 (l.length + p.1) false)]) (fun p => [(0, .row 2 ((l ++ oneL (m.take p.1)).map Run.enc))]) (fun p => m.length - p.1) ⟨0, by omega⟩ (Nat.zero_le _) ?_ ?_
  · simp -implicitDefEqProofs (maxSteps := 600000) (disch := (first | omega | decide)) only [go_sem, ↓reduceIte, Nat.reduceEqDiff, reduceCtorEq, Nat.reduceAdd, Nat.reduceSub, Nat.reduceMul, Nat.reduceLeDiff, Nat.reduceLT, Nat.reduceBEq, Nat.reduceBNe, Int.reduceLE, Int.reduceLT, Int.reduceBEq, Int.reduceBNe, Int.reduceEq, Int.reduceNe, Int.reduceAdd, Int.reduceSub, Int.reduceMul, Int.reduceNeg, Int.reduceToNat]
    simp [oneL]
  · rintro ⟨k, hk⟩
    simp only
    have hlen : (l ++ oneL (m.take k)).length = l.length + k := by simp [oneL]; omega
    by_cases hlt : k < m.length
    · have hlt' : (k : Int) < (m.length : Int) := by omega
      have e1 : (m.map (A.int .i64))[k]? = some (.int .i64 m[k]) := by
        rw [List.getElem?_map, List.getElem?_eq_getElem hlt]; rfl
      have ht : m.take (k + 1) = m.take k ++ [m[k]] := (List.take_append_getElem hlt).symm
      have hh : l ++ oneL (m.take (k + 1)) = (l ++ oneL (m.take k)) ++ [⟨m[k], m[k]⟩] := by
        rw [ht]; unfold oneL; rw [List.map_append, ← List.append_assoc]; rfl
      have tl : ((l ++ oneL (m.take k)).map Run.enc).take (l.length + k) = (l ++ oneL (m.take k)).map Run.enc := List.take_of_length_le (Nat.le_of_eq (by rw [List.length_map, hlen]))
      simp -implicitDefEqProofs (maxSteps := 600000) (disch := (first | omega | decide)) only [go_sem, ↓reduceIte, Nat.reduceEqDiff, reduceCtorEq, Nat.reduceAdd, Nat.reduceSub, Nat.reduceMul, Nat.reduceLeDiff, Nat.reduceLT, Nat.reduceBEq, Nat.reduceBNe, Int.reduceLE, Int.reduceLT, Int.reduceBEq, Int.reduceBNe, Int.reduceEq, Int.reduceNe, Int.reduceAdd, Int.reduceSub, Int.reduceMul, Int.reduceNeg, Int.reduceToNat, hlt', e1, tl, hlen, wrap_i64, List.length_map]
      exact ⟨⟨Nat.le_refl _, by omega⟩, ⟨k + 1, hlt⟩, ⟨⟨by simp, by show l.length + k + 1 = l.length + (k + 1); omega⟩, by rw [hh, List.map_append (l₁ := l ++ oneL (m.take k))]; rfl⟩, by show m.length - (k + 1) < m.length - k; omega⟩
    · have hlt' : ¬ (k : Int) < (m.length : Int) := by omega
      have tl : ((l ++ oneL (m.take k)).map Run.enc).take (l.length + k) = (l ++ oneL (m.take k)).map Run.enc := List.take_of_length_le (Nat.le_of_eq (by rw [List.length_map, hlen]))
      rw [List.take_of_length_le (show m.length ≤ k by omega)] at *
      simp -implicitDefEqProofs (maxSteps := 600000) (disch := (first | omega | decide)) only [go_sem, ↓reduceIte, Nat.reduceEqDiff, reduceCtorEq, Nat.reduceAdd, Nat.reduceSub, Nat.reduceMul, Nat.reduceLeDiff, Nat.reduceLT, Nat.reduceBEq, Nat.reduceBNe, Int.reduceLE, Int.reduceLT, Int.reduceBEq, Int.reduceBNe, Int.reduceEq, Int.reduceNe, Int.reduceAdd, Int.reduceSub, Int.reduceMul, Int.reduceNeg, Int.reduceToNat, hlt', tl, hlen, List.length_map, List.contains_nil, List.contains_cons]
      exact Nat.le_refl _
end Go.Proofs.Ytbnmicpgbcfooaa
