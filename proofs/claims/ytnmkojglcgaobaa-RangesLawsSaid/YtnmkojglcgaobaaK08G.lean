/- Chapter 08: sorting and compacting a single text that is no object of the call's own. -/
import Derived.Test.YtnmkojglcgaobaaK08F
namespace Go.Proofs.Ytnmkojglcgaobaa
open Go.Abs
set_option linter.unusedSimpArgs false
set_option linter.unusedVariables false
set_option maxRecDepth 20000
set_option maxHeartbeats 8000000

theorem ok_slices_insertionSortCmpFunc_string : codeOK Try.prog T07 Try.f135.ntmps (Try.f135.body.getD .skip) = true := by kernel_rfl
theorem c_ins1 (x : A) : CallA Try.prog 135 [.slc [x], .int .i64 0, .int .i64 1, .fn 75 []] (· = .tup []) := by
  refine callA_of_body T07_ok mixed Try.func135 rfl (Nat.le_of_ble_eq_true rfl) ok_slices_insertionSortCmpFunc_string ?_
  unfold Try.f135
  simp -implicitDefEqProofs (maxSteps := 600000) (disch := (first | omega | decide)) only [go_sem, ↓reduceIte, Nat.reduceEqDiff, reduceCtorEq, Nat.reduceAdd, Nat.reduceSub, Nat.reduceMul, Nat.reduceLeDiff, Nat.reduceLT, Nat.reduceBEq, Nat.reduceBNe, Int.reduceLE, Int.reduceLT, Int.reduceBEq, Int.reduceBNe, Int.reduceEq, Int.reduceNe, Int.reduceAdd, Int.reduceSub, Int.reduceMul, Int.reduceNeg, Int.reduceToNat, wrap_i64]
  refine wpA_loop [] (ι := Unit) (fun _ => [(2, .int .i64 1), (8, .int .i64 1)]) (fun _ => []) (fun _ => 0) () (Nat.zero_le _) ?_ ?_
  · simp -implicitDefEqProofs (maxSteps := 600000) (disch := (first | omega | decide)) only [go_sem, ↓reduceIte, Nat.reduceEqDiff, reduceCtorEq, Nat.reduceAdd, Nat.reduceSub, Nat.reduceMul, Nat.reduceLeDiff, Nat.reduceLT, Nat.reduceBEq, Nat.reduceBNe, Int.reduceLE, Int.reduceLT, Int.reduceBEq, Int.reduceBNe, Int.reduceEq, Int.reduceNe, Int.reduceAdd, Int.reduceSub, Int.reduceMul, Int.reduceNeg, Int.reduceToNat]
  · intro _
    simp -implicitDefEqProofs (maxSteps := 600000) (disch := (first | omega | decide)) only [go_sem, ↓reduceIte, Nat.reduceEqDiff, reduceCtorEq, Nat.reduceAdd, Nat.reduceSub, Nat.reduceMul, Nat.reduceLeDiff, Nat.reduceLT, Nat.reduceBEq, Nat.reduceBNe, Int.reduceLE, Int.reduceLT, Int.reduceBEq, Int.reduceBNe, Int.reduceEq, Int.reduceNe, Int.reduceAdd, Int.reduceSub, Int.reduceMul, Int.reduceNeg, Int.reduceToNat, wrap_i64, resL_nil]
    try rfl
noncomputable def T08s : Tab := T07.add 135 (entry (fun (x : List UInt8) => [.slc [.str x], .int .i64 0, .int .i64 1, .fn 75 []]) (fun x => True) (fun x => .tup []))
theorem T08s_ok : TabOK Try.prog T08s := T07_ok.add (callable_of Try.func135 (by kernel_rfl) (by kernel_rfl)) (entry_ok fun x h => c_ins1 (.str x))
@[go_sem] theorem T08s_old {g : FuncId} {xs : List A} (h : g ≠ 135) : T08s.f g xs = T07.f g xs := Tab.add_ne h
@[go_sem] theorem T08s_eff {g : FuncId} : T08s.eff g = T07.eff g := rfl
@[go_sem] theorem T08s_frz {g : FuncId} : T08s.frz g = T07.frz g := rfl
@[go_sem] theorem T08s_effT : T08s.effT = T07.effT := rfl
@[go_sem] theorem T08s_fix : T08s.fix = T07.fix := rfl
@[go_sem] theorem T08s_nf : T08s.nf = T07.nf := rfl
@[go_sem] theorem T08s_ords {n : Nat} : T08s.ords n = T07.ords n := rfl
@[go_sem] theorem T08s_hp : T08s.hp = T07.hp := rfl
theorem T08s_slices_insertionSortCmpFunc_string (x : List UInt8) (h : True) : T08s.f 135 [.slc [.str x], .int .i64 0, .int .i64 1, .fn 75 []] = some (.tup []) :=
  (Tab.add_eq : T08s.f 135 [.slc [.str x], .int .i64 0, .int .i64 1, .fn 75 []] = (entry (fun (x : List UInt8) => [.slc [.str x], .int .i64 0, .int .i64 1, .fn 75 []]) (fun x => True) (fun x => .tup [])) [.slc [.str x], .int .i64 0, .int .i64 1, .fn 75 []]).trans (entry_eq (fun i j h => by first | (cases i; cases j; rfl; done) | simpa [Prod.ext_iff, and_assoc] using h | (simp at h; omega)) x h)
@[go_sem] theorem t_ins1 {x : List UInt8} : T08s.f 135 [.slc [.str x], .int .i64 0, .int .i64 1, .fn 75 []] = some (.tup []) := T08s_slices_insertionSortCmpFunc_string x trivial
theorem ok_slices_pdqsortCmpFunc_string : codeOK Try.prog T08s Try.f121.ntmps (Try.f121.body.getD .skip) = true := by kernel_rfl
theorem c_pdq1 (x : List UInt8) (n : Int) : CallA Try.prog 121 [.slc [.str x], .int .i64 0, .int .i64 1, .int .i64 n, .fn 75 []] (· = .tup []) := by
  refine callA_of_body T08s_ok mixed Try.func121 rfl (Nat.le_of_ble_eq_true rfl) ok_slices_pdqsortCmpFunc_string ?_
  unfold Try.f121
  simp -implicitDefEqProofs (maxSteps := 600000) (disch := (first | omega | decide)) only [go_sem, ↓reduceIte, Nat.reduceEqDiff, reduceCtorEq, Nat.reduceAdd, Nat.reduceSub, Nat.reduceMul, Nat.reduceLeDiff, Nat.reduceLT, Nat.reduceBEq, Nat.reduceBNe, Int.reduceLE, Int.reduceLT, Int.reduceBEq, Int.reduceBNe, Int.reduceEq, Int.reduceNe, Int.reduceAdd, Int.reduceSub, Int.reduceMul, Int.reduceNeg, Int.reduceToNat, wrap_i64]
  refine wpA_loop [0] (ι := Unit) (fun _ => [(1, .int .i64 0), (2, .int .i64 1), (4, .fn 75 [])]) (fun _ => []) (fun _ => 0) () (Nat.zero_le _) ?_ ?_
  · simp -implicitDefEqProofs (maxSteps := 600000) (disch := (first | omega | decide)) only [go_sem, ↓reduceIte, Nat.reduceEqDiff, reduceCtorEq, Nat.reduceAdd, Nat.reduceSub, Nat.reduceMul, Nat.reduceLeDiff, Nat.reduceLT, Nat.reduceBEq, Nat.reduceBNe, Int.reduceLE, Int.reduceLT, Int.reduceBEq, Int.reduceBNe, Int.reduceEq, Int.reduceNe, Int.reduceAdd, Int.reduceSub, Int.reduceMul, Int.reduceNeg, Int.reduceToNat]
  · intro _
    simp -implicitDefEqProofs (maxSteps := 600000) (disch := (first | omega | decide)) only [go_sem, ↓reduceIte, Nat.reduceEqDiff, reduceCtorEq, Nat.reduceAdd, Nat.reduceSub, Nat.reduceMul, Nat.reduceLeDiff, Nat.reduceLT, Nat.reduceBEq, Nat.reduceBNe, Int.reduceLE, Int.reduceLT, Int.reduceBEq, Int.reduceBNe, Int.reduceEq, Int.reduceNe, Int.reduceAdd, Int.reduceSub, Int.reduceMul, Int.reduceNeg, Int.reduceToNat, wrap_i64, resL_nil]
    try rfl
theorem ok_math_bits_Len64 : codeOK Try.prog T08s Try.f118.ntmps (Try.f118.body.getD .skip) = true := by kernel_rfl
theorem c_len64 : CallA Try.prog 118 [.int .u64 1] (· = .int .i64 1) := by
  refine callA_of_body T08s_ok mixed Try.func118 rfl (Nat.le_of_ble_eq_true rfl) ok_math_bits_Len64 ?_
  unfold Try.f118
  have w8 : IntKind.u8.wrap 1 = 1 := by decide
  have w64 : IntKind.i64.wrap 1 = 1 := by decide
  simp -implicitDefEqProofs (maxSteps := 600000) (disch := (first | omega | decide)) only [go_sem, ↓reduceIte, Nat.reduceEqDiff, reduceCtorEq, Nat.reduceAdd, Nat.reduceSub, Nat.reduceMul, Nat.reduceLeDiff, Nat.reduceLT, Nat.reduceBEq, Nat.reduceBNe, Int.reduceLE, Int.reduceLT, Int.reduceBEq, Int.reduceBNe, Int.reduceEq, Int.reduceNe, Int.reduceAdd, Int.reduceSub, Int.reduceMul, Int.reduceNeg, Int.reduceToNat, w8, w64, encU8]
  try decide
end Go.Proofs.Ytnmkojglcgaobaa
