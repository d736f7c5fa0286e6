/- Chapter 14: union, meet and rest; sets with some versions more; vectors; the greatest count; whether two sets are the same. -/
import Derived.Test.YtbnmicpgbcfooaaK14G
namespace Go.Proofs.Ytbnmicpgbcfooaa
open Go.Abs
set_option linter.unusedSimpArgs false
set_option linter.unusedVariables false
set_option maxRecDepth 20000
set_option maxHeartbeats 8000000

def isC (g : FuncId) : Bool := (g == 45 || g == 46) || g == 47
def opC (g : FuncId) : Int := if g = 45 then 1 else if g = 46 then 2 else 3
theorem opC_f {g : FuncId} (h : isC g = true) : ∀ x y : List Run, x.length ≤ 1000000 → y.length ≤ 1000000 → K14p.f g [.slc (x.map Run.enc), .slc (y.map Run.enc)] = some (.slc ((setR (opP (opC g) x y)).map Run.enc)) := fun x y hx hy => by
  simp only [isC, Bool.or_eq_true, beq_iff_eq] at h
  rcases h with (rfl | rfl) | rfl
  · show K14p.f _ _ = some (.slc ((setR (opP 1 x y)).map Run.enc))
    rw [op1]
    simp -implicitDefEqProofs (maxSteps := 600000) (disch := (first | omega | decide)) only [go_sem, ↓reduceIte, Nat.reduceEqDiff, reduceCtorEq, Nat.reduceAdd, Nat.reduceSub, Nat.reduceMul, Nat.reduceLeDiff, Nat.reduceLT, Nat.reduceBEq, Nat.reduceBNe, Int.reduceLE, Int.reduceLT, Int.reduceBEq, Int.reduceBNe, Int.reduceEq, Int.reduceNe, Int.reduceAdd, Int.reduceSub, Int.reduceMul, Int.reduceNeg, Int.reduceToNat]
  · show K14p.f _ _ = some (.slc ((setR (opP 2 x y)).map Run.enc))
    rw [op2]
    simp -implicitDefEqProofs (maxSteps := 600000) (disch := (first | omega | decide)) only [go_sem, ↓reduceIte, Nat.reduceEqDiff, reduceCtorEq, Nat.reduceAdd, Nat.reduceSub, Nat.reduceMul, Nat.reduceLeDiff, Nat.reduceLT, Nat.reduceBEq, Nat.reduceBNe, Int.reduceLE, Int.reduceLT, Int.reduceBEq, Int.reduceBNe, Int.reduceEq, Int.reduceNe, Int.reduceAdd, Int.reduceSub, Int.reduceMul, Int.reduceNeg, Int.reduceToNat]
  · show K14p.f _ _ = some (.slc ((setR (opP 3 x y)).map Run.enc))
    rw [op3]
    simp -implicitDefEqProofs (maxSteps := 600000) (disch := (first | omega | decide)) only [go_sem, ↓reduceIte, Nat.reduceEqDiff, reduceCtorEq, Nat.reduceAdd, Nat.reduceSub, Nat.reduceMul, Nat.reduceLeDiff, Nat.reduceLT, Nat.reduceBEq, Nat.reduceBNe, Int.reduceLE, Int.reduceLT, Int.reduceBEq, Int.reduceBNe, Int.reduceEq, Int.reduceNe, Int.reduceAdd, Int.reduceSub, Int.reduceMul, Int.reduceNeg, Int.reduceToNat]
noncomputable def K14s : Tab := K14r.add 44 (entry (fun (v : List Known × List Known × FuncId) => [.slc (v.1.map Known.enc), .slc (v.2.1.map Known.enc), .fn v.2.2 []]) (fun v => smallK v.1 ∧ smallK v.2.1 ∧ isC v.2.2 = true) (fun v => .slc ((opK (opC v.2.2) v.1 v.2.1).map Known.enc)))
theorem K14s_ok : TabOK Try.prog K14s := K14r_ok.add (callable_of Try.func44 (by kernel_rfl) (by kernel_rfl)) (entry_ok fun v h => c_vset_each v.1 v.2.1 v.2.2 (opC v.2.2) h.1 h.2.1 (opC_f h.2.2))
@[go_sem] theorem K14s_old {g : FuncId} {xs : List A} (h : g ≠ 44) : K14s.f g xs = K14r.f g xs := Tab.add_ne h
@[go_sem] theorem K14s_eff {g : FuncId} : K14s.eff g = K14r.eff g := rfl
@[go_sem] theorem K14s_frz {g : FuncId} : K14s.frz g = K14r.frz g := rfl
@[go_sem] theorem K14s_effT : K14s.effT = K14r.effT := rfl
@[go_sem] theorem K14s_fix : K14s.fix = K14r.fix := rfl
@[go_sem] theorem K14s_nf : K14s.nf = K14r.nf := rfl
@[go_sem] theorem K14s_ords {n : Nat} : K14s.ords n = K14r.ords n := rfl
@[go_sem] theorem K14s_hp : K14s.hp = K14r.hp := rfl
theorem K14s_vset_each (v : List Known × List Known × FuncId) (h : smallK v.1 ∧ smallK v.2.1 ∧ isC v.2.2 = true) : K14s.f 44 [.slc (v.1.map Known.enc), .slc (v.2.1.map Known.enc), .fn v.2.2 []] = some (.slc ((opK (opC v.2.2) v.1 v.2.1).map Known.enc)) :=
  (Tab.add_eq : K14s.f 44 [.slc (v.1.map Known.enc), .slc (v.2.1.map Known.enc), .fn v.2.2 []] = (entry (fun (v : List Known × List Known × FuncId) => [.slc (v.1.map Known.enc), .slc (v.2.1.map Known.enc), .fn v.2.2 []]) (fun v => smallK v.1 ∧ smallK v.2.1 ∧ isC v.2.2 = true) (fun v => .slc ((opK (opC v.2.2) v.1 v.2.1).map Known.enc))) [.slc (v.1.map Known.enc), .slc (v.2.1.map Known.enc), .fn v.2.2 []]).trans (entry_eq (fun i j h => by first | (cases i; cases j; rfl; done) | simpa [Prod.ext_iff, and_assoc] using h | (simp at h; omega)) v h)
theorem k_eachU {a b : List Known} (ha : smallK a) (hb : smallK b) : K14s.f 44 [.slc (a.map Known.enc), .slc (b.map Known.enc), .fn 45 []] = some (.slc ((opK 1 a b).map Known.enc)) := K14s_vset_each (a, b, _) ⟨ha, hb, rfl⟩
theorem k_eachM {a b : List Known} (ha : smallK a) (hb : smallK b) : K14s.f 44 [.slc (a.map Known.enc), .slc (b.map Known.enc), .fn 46 []] = some (.slc ((opK 2 a b).map Known.enc)) := K14s_vset_each (a, b, _) ⟨ha, hb, rfl⟩
theorem k_eachL {a b : List Known} (ha : smallK a) (hb : smallK b) : K14s.f 44 [.slc (a.map Known.enc), .slc (b.map Known.enc), .fn 47 []] = some (.slc ((opK 3 a b).map Known.enc)) := K14s_vset_each (a, b, _) ⟨ha, hb, rfl⟩
theorem ok_vset_Union : codeOK Try.prog K14s Try.f23.ntmps (Try.f23.body.getD .skip) = true := by kernel_rfl
theorem c_vset_Union (a b : List Known) (ha : smallK a) (hb : smallK b) : CallA Try.prog 23 [.slc (a.map Known.enc), .slc (b.map Known.enc)] (· = .slc ((opK 1 a b).map Known.enc)) := by
  refine callA_of_body K14s_ok mixed Try.func23 rfl (Nat.le_of_ble_eq_true rfl) ok_vset_Union ?_
  unfold Try.f23
  have h := k_eachU ha hb
  simp -implicitDefEqProofs (maxSteps := 600000) (disch := (first | omega | decide)) only [go_sem, ↓reduceIte, Nat.reduceEqDiff, reduceCtorEq, Nat.reduceAdd, Nat.reduceSub, Nat.reduceMul, Nat.reduceLeDiff, Nat.reduceLT, Nat.reduceBEq, Nat.reduceBNe, Int.reduceLE, Int.reduceLT, Int.reduceBEq, Int.reduceBNe, Int.reduceEq, Int.reduceNe, Int.reduceAdd, Int.reduceSub, Int.reduceMul, Int.reduceNeg, Int.reduceToNat, h]
theorem ok_vset_Meet : codeOK Try.prog K14s Try.f24.ntmps (Try.f24.body.getD .skip) = true := by kernel_rfl
theorem c_vset_Meet (a b : List Known) (ha : smallK a) (hb : smallK b) : CallA Try.prog 24 [.slc (a.map Known.enc), .slc (b.map Known.enc)] (· = .slc ((opK 2 a b).map Known.enc)) := by
  refine callA_of_body K14s_ok mixed Try.func24 rfl (Nat.le_of_ble_eq_true rfl) ok_vset_Meet ?_
  unfold Try.f24
  have h := k_eachM ha hb
  simp -implicitDefEqProofs (maxSteps := 600000) (disch := (first | omega | decide)) only [go_sem, ↓reduceIte, Nat.reduceEqDiff, reduceCtorEq, Nat.reduceAdd, Nat.reduceSub, Nat.reduceMul, Nat.reduceLeDiff, Nat.reduceLT, Nat.reduceBEq, Nat.reduceBNe, Int.reduceLE, Int.reduceLT, Int.reduceBEq, Int.reduceBNe, Int.reduceEq, Int.reduceNe, Int.reduceAdd, Int.reduceSub, Int.reduceMul, Int.reduceNeg, Int.reduceToNat, h]
theorem ok_vset_Less : codeOK Try.prog K14s Try.f25.ntmps (Try.f25.body.getD .skip) = true := by kernel_rfl
theorem c_vset_Less (a b : List Known) (ha : smallK a) (hb : smallK b) : CallA Try.prog 25 [.slc (a.map Known.enc), .slc (b.map Known.enc)] (· = .slc ((opK 3 a b).map Known.enc)) := by
  refine callA_of_body K14s_ok mixed Try.func25 rfl (Nat.le_of_ble_eq_true rfl) ok_vset_Less ?_
  unfold Try.f25
  have h := k_eachL ha hb
  simp -implicitDefEqProofs (maxSteps := 600000) (disch := (first | omega | decide)) only [go_sem, ↓reduceIte, Nat.reduceEqDiff, reduceCtorEq, Nat.reduceAdd, Nat.reduceSub, Nat.reduceMul, Nat.reduceLeDiff, Nat.reduceLT, Nat.reduceBEq, Nat.reduceBNe, Int.reduceLE, Int.reduceLT, Int.reduceBEq, Int.reduceBNe, Int.reduceEq, Int.reduceNe, Int.reduceAdd, Int.reduceSub, Int.reduceMul, Int.reduceNeg, Int.reduceToNat, h]
noncomputable def K14t : Tab := K14s.add 19 (entry (fun (s : List Known) => [.slc (s.map Known.enc)]) (fun s => smallK s) (fun s => .slc ((ofK s).map Known.enc)))
theorem K14t_ok : TabOK Try.prog K14t := K14s_ok.add (callable_of Try.func19 (by kernel_rfl) (by kernel_rfl)) (entry_ok fun s h => c_vset_Of s h)
@[go_sem] theorem K14t_old {g : FuncId} {xs : List A} (h : g ≠ 19) : K14t.f g xs = K14s.f g xs := Tab.add_ne h
@[go_sem] theorem K14t_eff {g : FuncId} : K14t.eff g = K14s.eff g := rfl
@[go_sem] theorem K14t_frz {g : FuncId} : K14t.frz g = K14s.frz g := rfl
@[go_sem] theorem K14t_effT : K14t.effT = K14s.effT := rfl
@[go_sem] theorem K14t_fix : K14t.fix = K14s.fix := rfl
@[go_sem] theorem K14t_nf : K14t.nf = K14s.nf := rfl
@[go_sem] theorem K14t_ords {n : Nat} : K14t.ords n = K14s.ords n := rfl
@[go_sem] theorem K14t_hp : K14t.hp = K14s.hp := rfl
theorem K14t_vset_Of (s : List Known) (h : smallK s) : K14t.f 19 [.slc (s.map Known.enc)] = some (.slc ((ofK s).map Known.enc)) :=
  (Tab.add_eq : K14t.f 19 [.slc (s.map Known.enc)] = (entry (fun (s : List Known) => [.slc (s.map Known.enc)]) (fun s => smallK s) (fun s => .slc ((ofK s).map Known.enc))) [.slc (s.map Known.enc)]).trans (entry_eq (fun i j h => by first | (cases i; cases j; rfl; done) | simpa [Prod.ext_iff, and_assoc] using h | (simp at h; omega)) s h)
noncomputable def K14u : Tab := K14t.add 23 (entry (fun (v : List Known × List Known) => [.slc (v.1.map Known.enc), .slc (v.2.map Known.enc)]) (fun v => smallK v.1 ∧ smallK v.2) (fun v => .slc ((opK 1 v.1 v.2).map Known.enc)))
theorem K14u_ok : TabOK Try.prog K14u := K14t_ok.add (callable_of Try.func23 (by kernel_rfl) (by kernel_rfl)) (entry_ok fun v h => c_vset_Union v.1 v.2 h.1 h.2)
@[go_sem] theorem K14u_old {g : FuncId} {xs : List A} (h : g ≠ 23) : K14u.f g xs = K14t.f g xs := Tab.add_ne h
@[go_sem] theorem K14u_eff {g : FuncId} : K14u.eff g = K14t.eff g := rfl
@[go_sem] theorem K14u_frz {g : FuncId} : K14u.frz g = K14t.frz g := rfl
@[go_sem] theorem K14u_effT : K14u.effT = K14t.effT := rfl
@[go_sem] theorem K14u_fix : K14u.fix = K14t.fix := rfl
@[go_sem] theorem K14u_nf : K14u.nf = K14t.nf := rfl
@[go_sem] theorem K14u_ords {n : Nat} : K14u.ords n = K14t.ords n := rfl
@[go_sem] theorem K14u_hp : K14u.hp = K14t.hp := rfl
theorem K14u_vset_Union (v : List Known × List Known) (h : smallK v.1 ∧ smallK v.2) : K14u.f 23 [.slc (v.1.map Known.enc), .slc (v.2.map Known.enc)] = some (.slc ((opK 1 v.1 v.2).map Known.enc)) :=
  (Tab.add_eq : K14u.f 23 [.slc (v.1.map Known.enc), .slc (v.2.map Known.enc)] = (entry (fun (v : List Known × List Known) => [.slc (v.1.map Known.enc), .slc (v.2.map Known.enc)]) (fun v => smallK v.1 ∧ smallK v.2) (fun v => .slc ((opK 1 v.1 v.2).map Known.enc))) [.slc (v.1.map Known.enc), .slc (v.2.map Known.enc)]).trans (entry_eq (fun i j h => by first | (cases i; cases j; rfl; done) | simpa [Prod.ext_iff, and_assoc] using h | (simp at h; omega)) v h)
noncomputable def K14v : Tab := K14u.add 24 (entry (fun (v : List Known × List Known) => [.slc (v.1.map Known.enc), .slc (v.2.map Known.enc)]) (fun v => smallK v.1 ∧ smallK v.2) (fun v => .slc ((opK 2 v.1 v.2).map Known.enc)))
theorem K14v_ok : TabOK Try.prog K14v := K14u_ok.add (callable_of Try.func24 (by kernel_rfl) (by kernel_rfl)) (entry_ok fun v h => c_vset_Meet v.1 v.2 h.1 h.2)
@[go_sem] theorem K14v_old {g : FuncId} {xs : List A} (h : g ≠ 24) : K14v.f g xs = K14u.f g xs := Tab.add_ne h
@[go_sem] theorem K14v_eff {g : FuncId} : K14v.eff g = K14u.eff g := rfl
@[go_sem] theorem K14v_frz {g : FuncId} : K14v.frz g = K14u.frz g := rfl
@[go_sem] theorem K14v_effT : K14v.effT = K14u.effT := rfl
@[go_sem] theorem K14v_fix : K14v.fix = K14u.fix := rfl
@[go_sem] theorem K14v_nf : K14v.nf = K14u.nf := rfl
@[go_sem] theorem K14v_ords {n : Nat} : K14v.ords n = K14u.ords n := rfl
@[go_sem] theorem K14v_hp : K14v.hp = K14u.hp := rfl
theorem K14v_vset_Meet (v : List Known × List Known) (h : smallK v.1 ∧ smallK v.2) : K14v.f 24 [.slc (v.1.map Known.enc), .slc (v.2.map Known.enc)] = some (.slc ((opK 2 v.1 v.2).map Known.enc)) :=
  (Tab.add_eq : K14v.f 24 [.slc (v.1.map Known.enc), .slc (v.2.map Known.enc)] = (entry (fun (v : List Known × List Known) => [.slc (v.1.map Known.enc), .slc (v.2.map Known.enc)]) (fun v => smallK v.1 ∧ smallK v.2) (fun v => .slc ((opK 2 v.1 v.2).map Known.enc))) [.slc (v.1.map Known.enc), .slc (v.2.map Known.enc)]).trans (entry_eq (fun i j h => by first | (cases i; cases j; rfl; done) | simpa [Prod.ext_iff, and_assoc] using h | (simp at h; omega)) v h)
noncomputable def K14w : Tab := K14v.add 25 (entry (fun (v : List Known × List Known) => [.slc (v.1.map Known.enc), .slc (v.2.map Known.enc)]) (fun v => smallK v.1 ∧ smallK v.2) (fun v => .slc ((opK 3 v.1 v.2).map Known.enc)))
theorem K14w_ok : TabOK Try.prog K14w := K14v_ok.add (callable_of Try.func25 (by kernel_rfl) (by kernel_rfl)) (entry_ok fun v h => c_vset_Less v.1 v.2 h.1 h.2)
@[go_sem] theorem K14w_old {g : FuncId} {xs : List A} (h : g ≠ 25) : K14w.f g xs = K14v.f g xs := Tab.add_ne h
@[go_sem] theorem K14w_eff {g : FuncId} : K14w.eff g = K14v.eff g := rfl
@[go_sem] theorem K14w_frz {g : FuncId} : K14w.frz g = K14v.frz g := rfl
@[go_sem] theorem K14w_effT : K14w.effT = K14v.effT := rfl
@[go_sem] theorem K14w_fix : K14w.fix = K14v.fix := rfl
@[go_sem] theorem K14w_nf : K14w.nf = K14v.nf := rfl
@[go_sem] theorem K14w_ords {n : Nat} : K14w.ords n = K14v.ords n := rfl
@[go_sem] theorem K14w_hp : K14w.hp = K14v.hp := rfl
theorem K14w_vset_Less (v : List Known × List Known) (h : smallK v.1 ∧ smallK v.2) : K14w.f 25 [.slc (v.1.map Known.enc), .slc (v.2.map Known.enc)] = some (.slc ((opK 3 v.1 v.2).map Known.enc)) :=
  (Tab.add_eq : K14w.f 25 [.slc (v.1.map Known.enc), .slc (v.2.map Known.enc)] = (entry (fun (v : List Known × List Known) => [.slc (v.1.map Known.enc), .slc (v.2.map Known.enc)]) (fun v => smallK v.1 ∧ smallK v.2) (fun v => .slc ((opK 3 v.1 v.2).map Known.enc))) [.slc (v.1.map Known.enc), .slc (v.2.map Known.enc)]).trans (entry_eq (fun i j h => by first | (cases i; cases j; rfl; done) | simpa [Prod.ext_iff, and_assoc] using h | (simp at h; omega)) v h)
theorem k_vset_Of {s : List Known} (h : smallK s) : K14t.f 19 [.slc (s.map Known.enc)] = some (.slc ((ofK s).map Known.enc)) := K14t_vset_Of s h
theorem k_vset_Union {a b : List Known} (ha : smallK a) (hb : smallK b) : K14u.f 23 [.slc (a.map Known.enc), .slc (b.map Known.enc)] = some (.slc ((opK 1 a b).map Known.enc)) := K14u_vset_Union (a, b) ⟨ha, hb⟩
theorem k_vset_Meet {a b : List Known} (ha : smallK a) (hb : smallK b) : K14v.f 24 [.slc (a.map Known.enc), .slc (b.map Known.enc)] = some (.slc ((opK 2 a b).map Known.enc)) := K14v_vset_Meet (a, b) ⟨ha, hb⟩
theorem k_vset_Less {a b : List Known} (ha : smallK a) (hb : smallK b) : K14w.f 25 [.slc (a.map Known.enc), .slc (b.map Known.enc)] = some (.slc ((opK 3 a b).map Known.enc)) := K14w_vset_Less (a, b) ⟨ha, hb⟩
theorem ok_vset_Within : codeOK Try.prog K14w Try.f27.ntmps (Try.f27.body.getD .skip) = true := by kernel_rfl
theorem c_vset_Within (a b : List Known) (ha : smallK a) (hb : smallK b) : CallA Try.prog 27 [.slc (a.map Known.enc), .slc (b.map Known.enc)] (· = .bool ((opK 3 a b).length == 0)) := by
  refine callA_of_body K14w_ok mixed Try.func27 rfl (Nat.le_of_ble_eq_true rfl) ok_vset_Within ?_
  unfold Try.f27
  have h := k_vset_Less ha hb
  have e : (((opK 3 a b).length : Int) == 0) = ((opK 3 a b).length == 0) := by
    rw [Bool.eq_iff_iff, beq_iff_eq, beq_iff_eq]; omega
  simp -implicitDefEqProofs (maxSteps := 600000) (disch := (first | omega | decide)) only [go_sem, ↓reduceIte, Nat.reduceEqDiff, reduceCtorEq, Nat.reduceAdd, Nat.reduceSub, Nat.reduceMul, Nat.reduceLeDiff, Nat.reduceLT, Nat.reduceBEq, Nat.reduceBNe, Int.reduceLE, Int.reduceLT, Int.reduceBEq, Int.reduceBNe, Int.reduceEq, Int.reduceNe, Int.reduceAdd, Int.reduceSub, Int.reduceMul, Int.reduceNeg, Int.reduceToNat, h, e, List.length_map]
theorem ok_vset_Same : codeOK Try.prog K14w Try.f28.ntmps (Try.f28.body.getD .skip) = true := by kernel_rfl
theorem c_vset_Same (a b : List Known) (ha : smallK a) (hb : smallK b) (ha' : smallK (ofK a)) (hb' : smallK (ofK b)) : CallA Try.prog 28 [.slc (a.map Known.enc), .slc (b.map Known.enc)] (· = .bool (sameK (ofK a) (ofK b))) := by
  refine callA_of_body K14w_ok mixed Try.func28 rfl (Nat.le_of_ble_eq_true rfl) ok_vset_Same ?_
  unfold Try.f28
  have h1 := k_vset_Of ha
  have h2 := k_vset_Of hb
  have h3 := k_EqualFunc ha' hb'
  simp -implicitDefEqProofs (maxSteps := 600000) (disch := (first | omega | decide)) only [go_sem, ↓reduceIte, Nat.reduceEqDiff, reduceCtorEq, Nat.reduceAdd, Nat.reduceSub, Nat.reduceMul, Nat.reduceLeDiff, Nat.reduceLT, Nat.reduceBEq, Nat.reduceBNe, Int.reduceLE, Int.reduceLT, Int.reduceBEq, Int.reduceBNe, Int.reduceEq, Int.reduceNe, Int.reduceAdd, Int.reduceSub, Int.reduceMul, Int.reduceNeg, Int.reduceToNat, h1, h2, h3]
theorem c_ind {n : Int} (h : repOK n = true) : ((n - 1).toNat : Int) + 1 = n := by rw [repOK_iff] at h; omega
theorem ok_vset_Most : codeOK Try.prog K14w Try.f13.ntmps (Try.f13.body.getD .skip) = true := by kernel_rfl
theorem c_vset_Most (s : List Known) (n : Int) (hs : smallK s) : CallA Try.prog 13 [.slc (s.map Known.enc), .int .i64 n] (· = .int .i64 (if repOK n = true then mostR (setR (hasL13 (runsK s n))) else 0)) := by
  refine callA_of_body K14w_ok mixed Try.func13 rfl (Nat.le_of_ble_eq_true rfl) ok_vset_Most ?_
  unfold Try.f13
  cases h1 : repOK n with
  | false => simp -implicitDefEqProofs (maxSteps := 600000) (disch := (first | omega | decide)) only [go_sem, ↓reduceIte, Nat.reduceEqDiff, reduceCtorEq, Nat.reduceAdd, Nat.reduceSub, Nat.reduceMul, Nat.reduceLeDiff, Nat.reduceLT, Nat.reduceBEq, Nat.reduceBNe, Int.reduceLE, Int.reduceLT, Int.reduceBEq, Int.reduceBNe, Int.reduceEq, Int.reduceNe, Int.reduceAdd, Int.reduceSub, Int.reduceMul, Int.reduceNeg, Int.reduceToNat, h1]
  | true =>
    have h := repOK_iff.1 h1
    have h2 := k_vset_fill hs
    have g1 := tab_head (tabL_get s (i := (n - 1).toNat) (by omega))
    rw [c_ind h1] at g1
    have hl := runsK_len s n
    have hs' := hs.2
    have c1 : (0 : Int) ≤ n - 1 := by omega
    have c2 : n - 1 < 16 := by omega
    simp -implicitDefEqProofs (maxSteps := 600000) (disch := (first | omega | decide)) only [go_sem, ↓reduceIte, Nat.reduceEqDiff, reduceCtorEq, Nat.reduceAdd, Nat.reduceSub, Nat.reduceMul, Nat.reduceLeDiff, Nat.reduceLT, Nat.reduceBEq, Nat.reduceBNe, Int.reduceLE, Int.reduceLT, Int.reduceBEq, Int.reduceBNe, Int.reduceEq, Int.reduceNe, Int.reduceAdd, Int.reduceSub, Int.reduceMul, Int.reduceNeg, Int.reduceToNat, h1, h2, g1, c1, c2, wrap_i64, List.length_map]
def vecC (f : Nat → Int) (k : Nat) : List A := (List.range 16).map fun i => A.int .i64 (if i < k then f i else 0)
theorem vecC_len (f : Nat → Int) (k : Nat) : (vecC f k).length = 16 := by simp [vecC]
theorem vecC_step (f : Nat → Int) {k : Nat} (h : k < 16) : (vecC f k).set k (.int .i64 (f k)) = vecC f (k + 1) := by
  apply List.ext_getElem?
  intro i
  rw [List.getElem?_set, vecC_len]
  unfold vecC
  by_cases e : k = i
  · subst e; simp [h]
  · rw [if_neg e]
    rcases Nat.lt_or_ge i 16 with hi | hi
    · simp only [List.getElem?_map, List.getElem?_range hi, Option.map_some]
      by_cases e2 : i < k
      · rw [if_pos e2, if_pos (by omega)]
      · rw [if_neg e2, if_neg (by omega)]
    · rw [List.getElem?_eq_none (by simp; omega), List.getElem?_eq_none (by simp; omega)]
theorem vecC_get (f : Nat → Int) {i : Nat} (h : i < 16) : (vecC f 16)[i]? = some (.int .i64 (f i)) := by
  simp [vecC, h]
theorem vec_mem (n : Nat) (f : Nat → Int) (k : Nat) : A.mem.memL n (vecC f k) = false ∧ (vecC f k).map (scrubA n) = vecC f k ∧ A.under.underL n (vecC f k) = true := by
  unfold vecC
  generalize List.range 16 = L
  induction L with
  | nil => exact ⟨rfl, rfl, rfl⟩
  | cons i L ih =>
    simp only [List.map_cons, A.mem.memL, A.under.underL, ih.1, ih.2.1, ih.2.2, Bool.or_false, Bool.and_true]
    exact ⟨rfl, rfl, rfl⟩
theorem vec_view (H : List Go.Abs.Obj) (f : Nat → Int) (k : Nat) : view0L H (vecC f k) = some (vecC f k) := by
  unfold vecC
  generalize List.range 16 = L
  induction L with
  | nil => rfl
  | cons i L ih => simp only [List.map_cons, view0L, ih]; rfl
noncomputable def baseV (s : List Known) (i : Nat) : Int := baseR (setR (hasL13 (runsK s ((i : Int) + 1))))
theorem ok_vset_Vector : codeOK Try.prog K14w Try.f10.ntmps (Try.f10.body.getD .skip) = true := by kernel_rfl
theorem c_vset_Vector (s : List Known) (hs : smallK s) : CallA Try.prog 10 [.slc (s.map Known.enc)] (· = .agg (vecC (baseV s) 16)) := by
  refine callA_of_body K14w_ok mixed Try.func10 rfl (Nat.le_of_ble_eq_true rfl) ok_vset_Vector ?_
  unfold Try.f10
  have h2 := k_vset_fill hs
  have hs' := hs.2
  have hu := fun m => under_tab (m := m) (tabL s)
  have hle := fun m => leL_self (hu m)
  have hme := fun n => mem_tab (n := n) (tabL s)
  have hlv := fun m k => leL_self (vec_mem m (baseV s) k).2.2
  simp -implicitDefEqProofs (maxSteps := 600000) (disch := (first | omega | decide)) only [go_sem, ↓reduceIte, Nat.reduceEqDiff, reduceCtorEq, Nat.reduceAdd, Nat.reduceSub, Nat.reduceMul, Nat.reduceLeDiff, Nat.reduceLT, Nat.reduceBEq, Nat.reduceBNe, Int.reduceLE, Int.reduceLT, Int.reduceBEq, Int.reduceBNe, Int.reduceEq, Int.reduceNe, Int.reduceAdd, Int.reduceSub, Int.reduceMul, Int.reduceNeg, Int.reduceToNat, h2, hme]
  refine wpA_loop [0, 2, 3, 7] (ι := {k : Nat // k ≤ 16}) (fun p => [(8, .int .i64 p.1)]) (fun p => [(1, .box (vecC (baseV s) p.1))]) (fun p => 16 - p.1) ⟨0, by omega⟩ (Nat.zero_le _) ?_ ?_
  · simp -implicitDefEqProofs (maxSteps := 600000) (disch := (first | omega | decide)) only [go_sem, ↓reduceIte, Nat.reduceEqDiff, reduceCtorEq, Nat.reduceAdd, Nat.reduceSub, Nat.reduceMul, Nat.reduceLeDiff, Nat.reduceLT, Nat.reduceBEq, Nat.reduceBNe, Int.reduceLE, Int.reduceLT, Int.reduceBEq, Int.reduceBNe, Int.reduceEq, Int.reduceNe, Int.reduceAdd, Int.reduceSub, Int.reduceMul, Int.reduceNeg, Int.reduceToNat, hu, hle]
    exact hlv 2 0
  · rintro ⟨k, hk⟩
    simp only
    have tl := vecC_len (baseV s) k
    by_cases hlt : k < 16
    · have hlt' : (k : Int) < 16 := by omega
      have g1 := tab_head (tabL_get s hlt)
      have hl := runsK_len s ((k : Int) + 1)
      have c1 : (0 : Int) ≤ (k : Int) := by omega
      have sp : spliceA (vecC (baseV s) k) (k * 1) [.int .i64 (baseV s k)] = vecC (baseV s) (k + 1) := by
        rw [Nat.mul_one, splice_one (by rw [tl]; omega)]; exact vecC_step _ hlt
      have hb : baseR (setR (hasL13 (runsK s ((k : Int) + 1)))) = baseV s k := rfl
      simp -implicitDefEqProofs (maxSteps := 600000) (disch := (first | omega | decide)) only [go_sem, ↓reduceIte, Nat.reduceEqDiff, reduceCtorEq, Nat.reduceAdd, Nat.reduceSub, Nat.reduceMul, Nat.reduceLeDiff, Nat.reduceLT, Nat.reduceBEq, Nat.reduceBNe, Int.reduceLE, Int.reduceLT, Int.reduceBEq, Int.reduceBNe, Int.reduceEq, Int.reduceNe, Int.reduceAdd, Int.reduceSub, Int.reduceMul, Int.reduceNeg, Int.reduceToNat, hu, hle, hlt', c1, g1, hb, sp, tl, wrap_i64, List.length_map]
      exact ⟨by omega, ⟨k + 1, by omega⟩, ⟨by simp, hlv _ _⟩, by show 16 - (k + 1) < 16 - k; omega⟩
    · have hlt' : ¬ (k : Int) < 16 := by omega
      obtain rfl : k = 16 := by omega
      have tk : List.take 16 (vecC (baseV s) 16) = vecC (baseV s) 16 := List.take_of_length_le (Nat.le_of_eq tl)
      have hv := fun H => vec_view H (baseV s) 16
      have dn : List.drop 16 [A.int .i64 0, A.int .i64 0, A.int .i64 0, A.int .i64 0, A.int .i64 0, A.int .i64 0, A.int .i64 0, A.int .i64 0, A.int .i64 0, A.int .i64 0, A.int .i64 0, A.int .i64 0, A.int .i64 0, A.int .i64 0, A.int .i64 0, A.int .i64 0] = [] := rfl
      simp -implicitDefEqProofs (maxSteps := 600000) (disch := (first | omega | decide)) only [go_sem, ↓reduceIte, Nat.reduceEqDiff, reduceCtorEq, Nat.reduceAdd, Nat.reduceSub, Nat.reduceMul, Nat.reduceLeDiff, Nat.reduceLT, Nat.reduceBEq, Nat.reduceBNe, Int.reduceLE, Int.reduceLT, Int.reduceBEq, Int.reduceBNe, Int.reduceEq, Int.reduceNe, Int.reduceAdd, Int.reduceSub, Int.reduceMul, Int.reduceNeg, Int.reduceToNat, hlt', tl, tk, hv, dn, List.append_nil]
end Go.Proofs.Ytbnmicpgbcfooaa
namespace Go.Proofs.Ytbnmicpgbcfooaa
open Go.Abs
set_option linter.unusedSimpArgs false
set_option linter.unusedVariables false
set_option maxRecDepth 20000
set_option maxHeartbeats 8000000

/-- Does a table have what a set and some versions have? -/
def goodT (s : List Known) (l : List Ver) (k : Nat) (L : List (List Run)) : Prop :=
  L.length = 16 ∧ ∀ i : Nat, i < 16 → ∃ x, L[i]? = some x ∧ x.length ≤ sumK s + k ∧ ∀ c, hasL13 x c = hasL13 (runsK (s ++ oneS (l.take k)) ((i : Int) + 1)) c
theorem goodT_zero (s : List Known) (l : List Ver) : goodT s l 0 (tabL s) := ⟨tabL_len s, fun i hi => ⟨_, tabL_get s hi, runsK_len _ _, fun c => by simp [oneS]⟩⟩
theorem goodT_skip {s : List Known} {l : List Ver} {k : Nat} {L : List (List Run)} (h : goodT s l k L) (hk : k < l.length) (hr : rightV l[k] = false) : goodT s l (k + 1) L := ⟨h.1, fun i hi => by
  obtain ⟨x, h1, h2, h3⟩ := h.2 i hi
  refine ⟨x, h1, by omega, fun c => ?_⟩
  rw [oneS_snoc hk, hr, if_neg (by simp), List.append_nil]; exact h3 c⟩
theorem goodT_step {s : List Known} {l : List Ver} {k : Nat} {L : List (List Run)} (h : goodT s l k L) (hk : k < l.length) (hr : rightV l[k] = true) {x : List Run} (hx : L[(l[k].r - 1).toNat]? = some x) :
    goodT s l (k + 1) (L.set (l[k].r - 1).toNat (setR (hasL13 (x ++ oneL [l[k].c])))) := ⟨by rw [List.length_set]; exact h.1, fun i hi => by
  obtain ⟨y, h1, h2, h3⟩ := h.2 i hi
  have hrr : 1 ≤ l[k].r := by
    have := hr; simp [rightV] at this; omega
  rw [oneS_snoc hk, hr, if_pos rfl, ← List.append_assoc]
  rw [List.getElem?_set, h.1]
  by_cases e : (l[k].r - 1).toNat = i
  · rw [if_pos e, if_pos (by omega)]
    rw [e, h1] at hx
    obtain rfl := Option.some.inj hx
    refine ⟨_, rfl, ?_, fun c => ?_⟩
    · have := setR_has_len (y ++ oneL [l[k].c])
      simp only [oneL, List.length_append, List.length_map, List.length_cons, List.length_nil] at this
      simp only [oneL] at *
      omega
    · have e2 : l[k].r = (i : Int) + 1 := by omega
      rw [setR_has (isR_has _), has_append, h3, runsK_append (s ++ oneS (l.take k)), has_append (runsK (s ++ oneS (l.take k)) _)]
      congr 1
      simp only [runsK, e2, if_true, List.append_nil]; rfl
  · rw [if_neg e]
    refine ⟨y, h1, by omega, fun c => ?_⟩
    rw [h3, runsK_append _ [_], has_append]
    have e2 : ¬ l[k].r = (i : Int) + 1 := by omega
    simp only [runsK, e2, if_false, has_nil, Bool.or_false]⟩
theorem goodT_set {s : List Known} {l : List Ver} {L : List (List Run)} (h : goodT s l l.length L) : setL L = ofK (s ++ oneS l) := setT_congr fun n hn => by
  have hn' := repOK_iff.1 hn
  obtain ⟨x, h1, h2, h3⟩ := h.2 (n - 1).toNat (by omega)
  rw [List.take_length, c_ind hn] at h3
  have e : getL L n = x := by
    unfold getL; rw [List.getD_eq_getElem?_getD, h1]; rfl
  have e2 : hasL13 x = hasL13 (runsK (s ++ oneS l) n) := funext h3
  rw [e, e2]
theorem ok_vset_Add : codeOK Try.prog K14w Try.f21.ntmps (Try.f21.body.getD .skip) = true := by kernel_rfl
theorem c_vset_Add (s : List Known) (l : List Ver) (hs : smallK s) (hl : sumK s + l.length ≤ 1000000) : CallA Try.prog 21 [.slc (s.map Known.enc), .slc (l.map Ver.enc)] (· = .slc ((ofK (s ++ oneS l)).map Known.enc)) := by
  refine callA_of_body K14w_ok mixed Try.func21 rfl (Nat.le_of_ble_eq_true rfl) ok_vset_Add ?_
  unfold Try.f21
  have h2 := k_vset_fill hs
  have t16 := tabL_len s
  have pt := fun L => pure_tab L
  simp -implicitDefEqProofs (maxSteps := 600000) (disch := (first | omega | decide)) only [go_sem, ↓reduceIte, Nat.reduceEqDiff, reduceCtorEq, Nat.reduceAdd, Nat.reduceSub, Nat.reduceMul, Nat.reduceLeDiff, Nat.reduceLT, Nat.reduceBEq, Nat.reduceBNe, Int.reduceLE, Int.reduceLT, Int.reduceBEq, Int.reduceBNe, Int.reduceEq, Int.reduceNe, Int.reduceAdd, Int.reduceSub, Int.reduceMul, Int.reduceNeg, Int.reduceToNat, h2, t16, List.length_map, List.append_nil]
  have hs' := hs.2
  have hu := fun m (L : List (List Run)) => under_tab (m := m) L
  have hle := fun m (L : List (List Run)) => leL_self (hu m L)
  refine wpA_loop [0, 1, 4, 5, 10, 11] (ι := {p : Nat × List (List Run) // p.1 ≤ l.length ∧ goodT s l p.1 p.2}) (fun p => [(12, .int .i64 p.1.1)]) (fun p => [(0, .box (p.1.2.map slcR))]) (fun p => l.length - p.1.1) ⟨(0, tabL s), Nat.zero_le _, goodT_zero s l⟩ (Nat.zero_le _) ?_ ?_
  · simp -implicitDefEqProofs (maxSteps := 600000) (disch := (first | omega | decide)) only [go_sem, ↓reduceIte, Nat.reduceEqDiff, reduceCtorEq, Nat.reduceAdd, Nat.reduceSub, Nat.reduceMul, Nat.reduceLeDiff, Nat.reduceLT, Nat.reduceBEq, Nat.reduceBNe, Int.reduceLE, Int.reduceLT, Int.reduceBEq, Int.reduceBNe, Int.reduceEq, Int.reduceNe, Int.reduceAdd, Int.reduceSub, Int.reduceMul, Int.reduceNeg, Int.reduceToNat, hle]
  · rintro ⟨⟨k, L⟩, hk, hg⟩
    simp only at hk hg ⊢
    have tl : (L.map slcR).length = 16 := by rw [List.length_map, hg.1]
    by_cases hlt : k < l.length
    · have hlt' : (k : Int) < (l.length : Int) := by omega
      have e1 := ver_get hlt
      have hskip := goodT_skip hg hlt
      have hstep := fun hr x hx => goodT_step (x := x) hg hlt hr hx
      generalize hv : l[k] = v at *
      obtain ⟨r, c⟩ := v
      simp only at hskip hstep
      cases h1 : rightV ⟨r, c⟩ with
      | false =>
        simp -implicitDefEqProofs (maxSteps := 600000) (disch := (first | omega | decide)) only [go_sem, ↓reduceIte, Nat.reduceEqDiff, reduceCtorEq, Nat.reduceAdd, Nat.reduceSub, Nat.reduceMul, Nat.reduceLeDiff, Nat.reduceLT, Nat.reduceBEq, Nat.reduceBNe, Int.reduceLE, Int.reduceLT, Int.reduceBEq, Int.reduceBNe, Int.reduceEq, Int.reduceNe, Int.reduceAdd, Int.reduceSub, Int.reduceMul, Int.reduceNeg, Int.reduceToNat, hlt', e1, h1, hle, wrap_i64, List.length_map]
        exact ⟨⟨(k + 1, L), hlt, hskip h1⟩, ⟨by simp, hle _ _⟩, by show l.length - (k + 1) < l.length - k; omega⟩
      | true =>
        have hr : 1 ≤ r ∧ r ≤ 16 ∧ 1 ≤ c ∧ c ≤ 1099511627776 := by simpa [rightV, and_assoc] using h1
        obtain ⟨x, hx, hxl, _⟩ := hg.2 (r - 1).toNat (by omega)
        have g1 := tab_head hx
        have hA := l_counts_Add (a := x) (b := [c]) ⟨by omega, by simp⟩
        simp only [List.map_cons, List.map_nil] at hA
        have c1 : (0 : Int) ≤ r - 1 := by omega
        have c2 : r - 1 < 16 := by omega
        have sp : spliceA (L.map slcR) ((r - 1).toNat * 1) [.slc ((setR (hasL13 (x ++ oneL [c]))).map Run.enc)] = (L.set (r - 1).toNat (setR (hasL13 (x ++ oneL [c])))).map slcR := by
          rw [Nat.mul_one, splice_one (by rw [tl]; omega), List.map_set]; rfl
        simp -implicitDefEqProofs (maxSteps := 600000) (disch := (first | omega | decide)) only [go_sem, ↓reduceIte, Nat.reduceEqDiff, reduceCtorEq, Nat.reduceAdd, Nat.reduceSub, Nat.reduceMul, Nat.reduceLeDiff, Nat.reduceLT, Nat.reduceBEq, Nat.reduceBNe, Int.reduceLE, Int.reduceLT, Int.reduceBEq, Int.reduceBNe, Int.reduceEq, Int.reduceNe, Int.reduceAdd, Int.reduceSub, Int.reduceMul, Int.reduceNeg, Int.reduceToNat, hlt', e1, h1, c1, c2, g1, hA, sp, tl, hle, wrap_i64, List.length_map]
        exact ⟨by omega, ⟨(k + 1, _), hlt, hstep h1 x hx⟩, ⟨by simp, hle _ _⟩, by show l.length - (k + 1) < l.length - k; omega⟩
    · have hlt' : ¬ (k : Int) < (l.length : Int) := by omega
      obtain rfl : k = l.length := by omega
      have tk := take_tab hg.1
      have hst := k_table_set (L := L) hg.1 (fun x hx => by
        obtain ⟨i, hi, rfl⟩ := List.mem_iff_getElem.1 hx
        rw [hg.1] at hi
        obtain ⟨y, hy, hyl, _⟩ := hg.2 i hi
        rw [List.getElem?_eq_getElem (by rw [hg.1]; exact hi)] at hy
        rw [Option.some.inj hy]; omega)
      rw [goodT_set hg] at hst
      have pt := pure_tab L
      have hvt := fun H => view_tab (H := H) L
      have hml := fun n => mem_tab (n := n) L
      simp -implicitDefEqProofs (maxSteps := 600000) (disch := (first | omega | decide)) only [go_sem, ↓reduceIte, Nat.reduceEqDiff, reduceCtorEq, Nat.reduceAdd, Nat.reduceSub, Nat.reduceMul, Nat.reduceLeDiff, Nat.reduceLT, Nat.reduceBEq, Nat.reduceBNe, Int.reduceLE, Int.reduceLT, Int.reduceBEq, Int.reduceBNe, Int.reduceEq, Int.reduceNe, Int.reduceAdd, Int.reduceSub, Int.reduceMul, Int.reduceNeg, Int.reduceToNat, hlt', tl, tk, hst, pt, hvt, hml, List.length_map]
end Go.Proofs.Ytbnmicpgbcfooaa
