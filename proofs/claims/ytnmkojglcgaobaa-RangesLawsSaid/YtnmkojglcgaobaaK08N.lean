/- Chapter 08: what the sweeps ask. -/
import Derived.Test.YtnmkojglcgaobaaK08A
namespace Go.Proofs.Ytnmkojglcgaobaa
open Go.Abs
set_option linter.unusedSimpArgs false
set_option linter.unusedVariables false
set_option maxRecDepth 20000
set_option maxHeartbeats 4000000

theorem ok_ranges_Union_1 : codeOK Try.prog T07 Try.f65.ntmps (Try.f65.body.getD .skip) = true := by kernel_rfl
theorem c_rUnion1 (x y : Bool) : CallA Try.prog 65 [.bool x, .bool y] (· = .bool (x || y)) := by
  refine callA_of_body T07_ok mixed Try.func65 rfl (Nat.le_of_ble_eq_true rfl) ok_ranges_Union_1 ?_
  unfold Try.f65
  cases x <;> simp -implicitDefEqProofs (maxSteps := 600000) (disch := (first | omega | decide)) only [go_sem, ↓reduceIte, Nat.reduceEqDiff, reduceCtorEq, Nat.reduceAdd, Nat.reduceSub, Nat.reduceMul, Nat.reduceLeDiff, Nat.reduceLT, Nat.reduceBEq, Nat.reduceBNe, Int.reduceLE, Int.reduceLT, Int.reduceBEq, Int.reduceBNe, Int.reduceEq, Int.reduceNe, Int.reduceAdd, Int.reduceSub, Int.reduceMul, Int.reduceNeg, Int.reduceToNat]
theorem ok_ranges_Meet_1 : codeOK Try.prog T07 Try.f66.ntmps (Try.f66.body.getD .skip) = true := by kernel_rfl
theorem c_rMeet1 (x y : Bool) : CallA Try.prog 66 [.bool x, .bool y] (· = .bool (x && y)) := by
  refine callA_of_body T07_ok mixed Try.func66 rfl (Nat.le_of_ble_eq_true rfl) ok_ranges_Meet_1 ?_
  unfold Try.f66
  cases x <;> simp -implicitDefEqProofs (maxSteps := 600000) (disch := (first | omega | decide)) only [go_sem, ↓reduceIte, Nat.reduceEqDiff, reduceCtorEq, Nat.reduceAdd, Nat.reduceSub, Nat.reduceMul, Nat.reduceLeDiff, Nat.reduceLT, Nat.reduceBEq, Nat.reduceBNe, Int.reduceLE, Int.reduceLT, Int.reduceBEq, Int.reduceBNe, Int.reduceEq, Int.reduceNe, Int.reduceAdd, Int.reduceSub, Int.reduceMul, Int.reduceNeg, Int.reduceToNat]
theorem ok_ranges_Less_1 : codeOK Try.prog T07 Try.f67.ntmps (Try.f67.body.getD .skip) = true := by kernel_rfl
theorem c_rLess1 (x y : Bool) : CallA Try.prog 67 [.bool x, .bool y] (· = .bool (x && !y)) := by
  refine callA_of_body T07_ok mixed Try.func67 rfl (Nat.le_of_ble_eq_true rfl) ok_ranges_Less_1 ?_
  unfold Try.f67
  cases x <;> simp -implicitDefEqProofs (maxSteps := 600000) (disch := (first | omega | decide)) only [go_sem, ↓reduceIte, Nat.reduceEqDiff, reduceCtorEq, Nat.reduceAdd, Nat.reduceSub, Nat.reduceMul, Nat.reduceLeDiff, Nat.reduceLT, Nat.reduceBEq, Nat.reduceBNe, Int.reduceLE, Int.reduceLT, Int.reduceBEq, Int.reduceBNe, Int.reduceEq, Int.reduceNe, Int.reduceAdd, Int.reduceSub, Int.reduceMul, Int.reduceNeg, Int.reduceToNat]
theorem ok_ranges_Not_1 : codeOK Try.prog T07 Try.f68.ntmps (Try.f68.body.getD .skip) = true := by kernel_rfl
theorem c_rNot1 (x y : Bool) : CallA Try.prog 68 [.bool x, .bool y] (· = .bool (!x)) := by
  refine callA_of_body T07_ok mixed Try.func68 rfl (Nat.le_of_ble_eq_true rfl) ok_ranges_Not_1 ?_
  unfold Try.f68
  cases x <;> simp -implicitDefEqProofs (maxSteps := 600000) (disch := (first | omega | decide)) only [go_sem, ↓reduceIte, Nat.reduceEqDiff, reduceCtorEq, Nat.reduceAdd, Nat.reduceSub, Nat.reduceMul, Nat.reduceLeDiff, Nat.reduceLT, Nat.reduceBEq, Nat.reduceBNe, Int.reduceLE, Int.reduceLT, Int.reduceBEq, Int.reduceBNe, Int.reduceEq, Int.reduceNe, Int.reduceAdd, Int.reduceSub, Int.reduceMul, Int.reduceNeg, Int.reduceToNat]
noncomputable def S8w : Tab := T07.add 65 (entry (fun (v : Bool × Bool) => [.bool v.1, .bool v.2]) (fun v => True) (fun v => .bool (v.1 || v.2)))
theorem S8w_ok : TabOK Try.prog S8w := T07_ok.add (callable_of Try.func65 (by kernel_rfl) (by kernel_rfl)) (entry_ok fun v h => c_rUnion1 v.1 v.2)
@[go_sem] theorem S8w_old {g : FuncId} {xs : List A} (h : g ≠ 65) : S8w.f g xs = T07.f g xs := Tab.add_ne h
@[go_sem] theorem S8w_eff {g : FuncId} : S8w.eff g = T07.eff g := rfl
@[go_sem] theorem S8w_frz {g : FuncId} : S8w.frz g = T07.frz g := rfl
@[go_sem] theorem S8w_effT : S8w.effT = T07.effT := rfl
@[go_sem] theorem S8w_fix : S8w.fix = T07.fix := rfl
@[go_sem] theorem S8w_nf : S8w.nf = T07.nf := rfl
@[go_sem] theorem S8w_ords {n : Nat} : S8w.ords n = T07.ords n := rfl
@[go_sem] theorem S8w_hp : S8w.hp = T07.hp := rfl
theorem S8w_ranges_Union_1 (v : Bool × Bool) (h : True) : S8w.f 65 [.bool v.1, .bool v.2] = some (.bool (v.1 || v.2)) :=
  (Tab.add_eq : S8w.f 65 [.bool v.1, .bool v.2] = (entry (fun (v : Bool × Bool) => [.bool v.1, .bool v.2]) (fun v => True) (fun v => .bool (v.1 || v.2))) [.bool v.1, .bool v.2]).trans (entry_eq (fun i j h => by first | (cases i; cases j; rfl; done) | simpa [Prod.ext_iff, and_assoc] using h | (simp at h; omega)) v h)
noncomputable def S8x : Tab := S8w.add 66 (entry (fun (v : Bool × Bool) => [.bool v.1, .bool v.2]) (fun v => True) (fun v => .bool (v.1 && v.2)))
theorem S8x_ok : TabOK Try.prog S8x := S8w_ok.add (callable_of Try.func66 (by kernel_rfl) (by kernel_rfl)) (entry_ok fun v h => c_rMeet1 v.1 v.2)
@[go_sem] theorem S8x_old {g : FuncId} {xs : List A} (h : g ≠ 66) : S8x.f g xs = S8w.f g xs := Tab.add_ne h
@[go_sem] theorem S8x_eff {g : FuncId} : S8x.eff g = S8w.eff g := rfl
@[go_sem] theorem S8x_frz {g : FuncId} : S8x.frz g = S8w.frz g := rfl
@[go_sem] theorem S8x_effT : S8x.effT = S8w.effT := rfl
@[go_sem] theorem S8x_fix : S8x.fix = S8w.fix := rfl
@[go_sem] theorem S8x_nf : S8x.nf = S8w.nf := rfl
@[go_sem] theorem S8x_ords {n : Nat} : S8x.ords n = S8w.ords n := rfl
@[go_sem] theorem S8x_hp : S8x.hp = S8w.hp := rfl
theorem S8x_ranges_Meet_1 (v : Bool × Bool) (h : True) : S8x.f 66 [.bool v.1, .bool v.2] = some (.bool (v.1 && v.2)) :=
  (Tab.add_eq : S8x.f 66 [.bool v.1, .bool v.2] = (entry (fun (v : Bool × Bool) => [.bool v.1, .bool v.2]) (fun v => True) (fun v => .bool (v.1 && v.2))) [.bool v.1, .bool v.2]).trans (entry_eq (fun i j h => by first | (cases i; cases j; rfl; done) | simpa [Prod.ext_iff, and_assoc] using h | (simp at h; omega)) v h)
noncomputable def S8y : Tab := S8x.add 67 (entry (fun (v : Bool × Bool) => [.bool v.1, .bool v.2]) (fun v => True) (fun v => .bool (v.1 && !v.2)))
theorem S8y_ok : TabOK Try.prog S8y := S8x_ok.add (callable_of Try.func67 (by kernel_rfl) (by kernel_rfl)) (entry_ok fun v h => c_rLess1 v.1 v.2)
@[go_sem] theorem S8y_old {g : FuncId} {xs : List A} (h : g ≠ 67) : S8y.f g xs = S8x.f g xs := Tab.add_ne h
@[go_sem] theorem S8y_eff {g : FuncId} : S8y.eff g = S8x.eff g := rfl
@[go_sem] theorem S8y_frz {g : FuncId} : S8y.frz g = S8x.frz g := rfl
@[go_sem] theorem S8y_effT : S8y.effT = S8x.effT := rfl
@[go_sem] theorem S8y_fix : S8y.fix = S8x.fix := rfl
@[go_sem] theorem S8y_nf : S8y.nf = S8x.nf := rfl
@[go_sem] theorem S8y_ords {n : Nat} : S8y.ords n = S8x.ords n := rfl
@[go_sem] theorem S8y_hp : S8y.hp = S8x.hp := rfl
theorem S8y_ranges_Less_1 (v : Bool × Bool) (h : True) : S8y.f 67 [.bool v.1, .bool v.2] = some (.bool (v.1 && !v.2)) :=
  (Tab.add_eq : S8y.f 67 [.bool v.1, .bool v.2] = (entry (fun (v : Bool × Bool) => [.bool v.1, .bool v.2]) (fun v => True) (fun v => .bool (v.1 && !v.2))) [.bool v.1, .bool v.2]).trans (entry_eq (fun i j h => by first | (cases i; cases j; rfl; done) | simpa [Prod.ext_iff, and_assoc] using h | (simp at h; omega)) v h)
noncomputable def S8z : Tab := S8y.add 68 (entry (fun (v : Bool × Bool) => [.bool v.1, .bool v.2]) (fun v => True) (fun v => .bool (!v.1)))
theorem S8z_ok : TabOK Try.prog S8z := S8y_ok.add (callable_of Try.func68 (by kernel_rfl) (by kernel_rfl)) (entry_ok fun v h => c_rNot1 v.1 v.2)
@[go_sem] theorem S8z_old {g : FuncId} {xs : List A} (h : g ≠ 68) : S8z.f g xs = S8y.f g xs := Tab.add_ne h
@[go_sem] theorem S8z_eff {g : FuncId} : S8z.eff g = S8y.eff g := rfl
@[go_sem] theorem S8z_frz {g : FuncId} : S8z.frz g = S8y.frz g := rfl
@[go_sem] theorem S8z_effT : S8z.effT = S8y.effT := rfl
@[go_sem] theorem S8z_fix : S8z.fix = S8y.fix := rfl
@[go_sem] theorem S8z_nf : S8z.nf = S8y.nf := rfl
@[go_sem] theorem S8z_ords {n : Nat} : S8z.ords n = S8y.ords n := rfl
@[go_sem] theorem S8z_hp : S8z.hp = S8y.hp := rfl
theorem S8z_ranges_Not_1 (v : Bool × Bool) (h : True) : S8z.f 68 [.bool v.1, .bool v.2] = some (.bool (!v.1)) :=
  (Tab.add_eq : S8z.f 68 [.bool v.1, .bool v.2] = (entry (fun (v : Bool × Bool) => [.bool v.1, .bool v.2]) (fun v => True) (fun v => .bool (!v.1))) [.bool v.1, .bool v.2]).trans (entry_eq (fun i j h => by first | (cases i; cases j; rfl; done) | simpa [Prod.ext_iff, and_assoc] using h | (simp at h; omega)) v h)
def isOpR (g : FuncId) : Bool := g == 65 || g == 66 || g == 67 || g == 68
def kpR (g : FuncId) : Bool → Bool → Bool := if g = 65 then (· || ·) else if g = 66 then (· && ·) else if g = 67 then (fun x y => x && !y) else fun x _ => !x
theorem kpR_z {g : FuncId} (h : isOpR g = true) (x y : Bool) : S8z.f g [.bool x, .bool y] = some (.bool (kpR g x y)) := by
  simp only [isOpR, Bool.or_eq_true, beq_iff_eq] at h
  rcases h with ((rfl | rfl) | rfl) | rfl
  · exact (S8z_old (by decide)).trans ((S8y_old (by decide)).trans ((S8x_old (by decide)).trans (S8w_ranges_Union_1 (x, y) trivial)))
  · exact (S8z_old (by decide)).trans ((S8y_old (by decide)).trans (S8x_ranges_Meet_1 (x, y) trivial))
  · exact (S8z_old (by decide)).trans (S8y_ranges_Less_1 (x, y) trivial)
  · exact S8z_ranges_Not_1 (x, y) trivial
end Go.Proofs.Ytnmkojglcgaobaa
