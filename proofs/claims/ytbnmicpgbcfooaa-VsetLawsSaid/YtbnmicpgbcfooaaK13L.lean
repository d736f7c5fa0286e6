/- Chapter 13: the example; the laws. -/
import Derived.Test.YtbnmicpgbcfooaaK13K
namespace Go.Proofs.Ytbnmicpgbcfooaa
open Go.Abs
set_option linter.unusedSimpArgs false
set_option linter.unusedVariables false
set_option maxRecDepth 20000
set_option maxHeartbeats 8000000

noncomputable def C13L0 : Tab := T13m.add 34 (entry (fun (l : List Run) => [.slc (l.map Run.enc)]) (fun l => l.length ≤ 4398046511104) (fun l => .bool (rightL l)))
theorem C13L0_ok : TabOK Try.prog C13L0 := T13m_ok.add (callable_of Try.func34 (by kernel_rfl) (by kernel_rfl)) (entry_ok fun l h => c_counts_Right l (by omega))
@[go_sem] theorem C13L0_old {g : FuncId} {xs : List A} (h : g ≠ 34) : C13L0.f g xs = T13m.f g xs := Tab.add_ne h
@[go_sem] theorem C13L0_eff {g : FuncId} : C13L0.eff g = T13m.eff g := rfl
@[go_sem] theorem C13L0_frz {g : FuncId} : C13L0.frz g = T13m.frz g := rfl
@[go_sem] theorem C13L0_effT : C13L0.effT = T13m.effT := rfl
@[go_sem] theorem C13L0_fix : C13L0.fix = T13m.fix := rfl
@[go_sem] theorem C13L0_nf : C13L0.nf = T13m.nf := rfl
@[go_sem] theorem C13L0_ords {n : Nat} : C13L0.ords n = T13m.ords n := rfl
@[go_sem] theorem C13L0_hp : C13L0.hp = T13m.hp := rfl
theorem C13L0_counts_Right (l : List Run) (h : l.length ≤ 4398046511104) : C13L0.f 34 [.slc (l.map Run.enc)] = some (.bool (rightL l)) :=
  (Tab.add_eq : C13L0.f 34 [.slc (l.map Run.enc)] = (entry (fun (l : List Run) => [.slc (l.map Run.enc)]) (fun l => l.length ≤ 4398046511104) (fun l => .bool (rightL l))) [.slc (l.map Run.enc)]).trans (entry_eq (fun i j h => by first | (cases i; cases j; rfl; done) | simpa [Prod.ext_iff, and_assoc] using h | (simp at h; omega)) l h)
@[go_sem] theorem l_counts_Right {l : List Run} (h : l.length ≤ 4398046511104) : C13L0.f 34 [.slc (l.map Run.enc)] = some (.bool (rightL l)) := C13L0_counts_Right l h
noncomputable def C13L1 : Tab := C13L0.add 35 (entry (fun (l : List Run) => [.slc (l.map Run.enc)]) (fun l => l.length ≤ 4398046511104) (fun l => .bool (rightL l)))
theorem C13L1_ok : TabOK Try.prog C13L1 := C13L0_ok.add (callable_of Try.func35 (by kernel_rfl) (by kernel_rfl)) (entry_ok fun l h => c_ref13_Right l (by omega))
@[go_sem] theorem C13L1_old {g : FuncId} {xs : List A} (h : g ≠ 35) : C13L1.f g xs = C13L0.f g xs := Tab.add_ne h
@[go_sem] theorem C13L1_eff {g : FuncId} : C13L1.eff g = C13L0.eff g := rfl
@[go_sem] theorem C13L1_frz {g : FuncId} : C13L1.frz g = C13L0.frz g := rfl
@[go_sem] theorem C13L1_effT : C13L1.effT = C13L0.effT := rfl
@[go_sem] theorem C13L1_fix : C13L1.fix = C13L0.fix := rfl
@[go_sem] theorem C13L1_nf : C13L1.nf = C13L0.nf := rfl
@[go_sem] theorem C13L1_ords {n : Nat} : C13L1.ords n = C13L0.ords n := rfl
@[go_sem] theorem C13L1_hp : C13L1.hp = C13L0.hp := rfl
theorem C13L1_ref13_Right (l : List Run) (h : l.length ≤ 4398046511104) : C13L1.f 35 [.slc (l.map Run.enc)] = some (.bool (rightL l)) :=
  (Tab.add_eq : C13L1.f 35 [.slc (l.map Run.enc)] = (entry (fun (l : List Run) => [.slc (l.map Run.enc)]) (fun l => l.length ≤ 4398046511104) (fun l => .bool (rightL l))) [.slc (l.map Run.enc)]).trans (entry_eq (fun i j h => by first | (cases i; cases j; rfl; done) | simpa [Prod.ext_iff, and_assoc] using h | (simp at h; omega)) l h)
@[go_sem] theorem l_ref13_Right {l : List Run} (h : l.length ≤ 4398046511104) : C13L1.f 35 [.slc (l.map Run.enc)] = some (.bool (rightL l)) := C13L1_ref13_Right l h
noncomputable def C13L2 : Tab := C13L1.add 37 (entry (fun (v : List Run × Int) => [.slc (v.1.map Run.enc), .int .i64 v.2]) (fun v => v.1.length ≤ 4398046511104) (fun v => .bool (hasL13 v.1 v.2)))
theorem C13L2_ok : TabOK Try.prog C13L2 := C13L1_ok.add (callable_of Try.func37 (by kernel_rfl) (by kernel_rfl)) (entry_ok fun v h => c_counts_Has v.1 v.2 (by omega))
@[go_sem] theorem C13L2_old {g : FuncId} {xs : List A} (h : g ≠ 37) : C13L2.f g xs = C13L1.f g xs := Tab.add_ne h
@[go_sem] theorem C13L2_eff {g : FuncId} : C13L2.eff g = C13L1.eff g := rfl
@[go_sem] theorem C13L2_frz {g : FuncId} : C13L2.frz g = C13L1.frz g := rfl
@[go_sem] theorem C13L2_effT : C13L2.effT = C13L1.effT := rfl
@[go_sem] theorem C13L2_fix : C13L2.fix = C13L1.fix := rfl
@[go_sem] theorem C13L2_nf : C13L2.nf = C13L1.nf := rfl
@[go_sem] theorem C13L2_ords {n : Nat} : C13L2.ords n = C13L1.ords n := rfl
@[go_sem] theorem C13L2_hp : C13L2.hp = C13L1.hp := rfl
theorem C13L2_counts_Has (v : List Run × Int) (h : v.1.length ≤ 4398046511104) : C13L2.f 37 [.slc (v.1.map Run.enc), .int .i64 v.2] = some (.bool (hasL13 v.1 v.2)) :=
  (Tab.add_eq : C13L2.f 37 [.slc (v.1.map Run.enc), .int .i64 v.2] = (entry (fun (v : List Run × Int) => [.slc (v.1.map Run.enc), .int .i64 v.2]) (fun v => v.1.length ≤ 4398046511104) (fun v => .bool (hasL13 v.1 v.2))) [.slc (v.1.map Run.enc), .int .i64 v.2]).trans (entry_eq (fun i j h => by first | (cases i; cases j; rfl; done) | simpa [Prod.ext_iff, and_assoc] using h | (simp at h; omega)) v h)
@[go_sem] theorem l_counts_Has {a : List Run} {b : Int} (h : a.length ≤ 4398046511104) : C13L2.f 37 [.slc (a.map Run.enc), .int .i64 b] = some (.bool (hasL13 a b)) := C13L2_counts_Has (a, b) h
noncomputable def C13L3 : Tab := C13L2.add 40 (entry (fun (v : List Run × List Run) => [.slc (v.1.map Run.enc), .slc (v.2.map Run.enc)]) (fun v => v.1.length ≤ 4398046511104 ∧ v.2.length ≤ 4398046511104) (fun v => .bool (sameL v.1 v.2)))
theorem C13L3_ok : TabOK Try.prog C13L3 := C13L2_ok.add (callable_of Try.func40 (by kernel_rfl) (by kernel_rfl)) (entry_ok fun v h => c_ref13_Same v.1 v.2 (by omega) (by omega))
@[go_sem] theorem C13L3_old {g : FuncId} {xs : List A} (h : g ≠ 40) : C13L3.f g xs = C13L2.f g xs := Tab.add_ne h
@[go_sem] theorem C13L3_eff {g : FuncId} : C13L3.eff g = C13L2.eff g := rfl
@[go_sem] theorem C13L3_frz {g : FuncId} : C13L3.frz g = C13L2.frz g := rfl
@[go_sem] theorem C13L3_effT : C13L3.effT = C13L2.effT := rfl
@[go_sem] theorem C13L3_fix : C13L3.fix = C13L2.fix := rfl
@[go_sem] theorem C13L3_nf : C13L3.nf = C13L2.nf := rfl
@[go_sem] theorem C13L3_ords {n : Nat} : C13L3.ords n = C13L2.ords n := rfl
@[go_sem] theorem C13L3_hp : C13L3.hp = C13L2.hp := rfl
theorem C13L3_ref13_Same (v : List Run × List Run) (h : v.1.length ≤ 4398046511104 ∧ v.2.length ≤ 4398046511104) : C13L3.f 40 [.slc (v.1.map Run.enc), .slc (v.2.map Run.enc)] = some (.bool (sameL v.1 v.2)) :=
  (Tab.add_eq : C13L3.f 40 [.slc (v.1.map Run.enc), .slc (v.2.map Run.enc)] = (entry (fun (v : List Run × List Run) => [.slc (v.1.map Run.enc), .slc (v.2.map Run.enc)]) (fun v => v.1.length ≤ 4398046511104 ∧ v.2.length ≤ 4398046511104) (fun v => .bool (sameL v.1 v.2))) [.slc (v.1.map Run.enc), .slc (v.2.map Run.enc)]).trans (entry_eq (fun i j h => by first | (cases i; cases j; rfl; done) | simpa [Prod.ext_iff, and_assoc] using h | (simp at h; omega)) v h)
@[go_sem] theorem l_ref13_Same {a : List Run} {b : List Run} (h : a.length ≤ 4398046511104 ∧ b.length ≤ 4398046511104) : C13L3.f 40 [.slc (a.map Run.enc), .slc (b.map Run.enc)] = some (.bool (sameL a b)) := C13L3_ref13_Same (a, b) h
noncomputable def C13L4 : Tab := C13L3.add 52 (entry (fun (l : List Run) => [.slc (l.map Run.enc)]) (fun l => l.length ≤ 4398046511104) (fun l => .slc ((setR (hasL13 l)).map Run.enc)))
theorem C13L4_ok : TabOK Try.prog C13L4 := C13L3_ok.add (callable_of Try.func52 (by kernel_rfl) (by kernel_rfl)) (entry_ok fun l h => c_counts_Of l h)
@[go_sem] theorem C13L4_old {g : FuncId} {xs : List A} (h : g ≠ 52) : C13L4.f g xs = C13L3.f g xs := Tab.add_ne h
@[go_sem] theorem C13L4_eff {g : FuncId} : C13L4.eff g = C13L3.eff g := rfl
@[go_sem] theorem C13L4_frz {g : FuncId} : C13L4.frz g = C13L3.frz g := rfl
@[go_sem] theorem C13L4_effT : C13L4.effT = C13L3.effT := rfl
@[go_sem] theorem C13L4_fix : C13L4.fix = C13L3.fix := rfl
@[go_sem] theorem C13L4_nf : C13L4.nf = C13L3.nf := rfl
@[go_sem] theorem C13L4_ords {n : Nat} : C13L4.ords n = C13L3.ords n := rfl
@[go_sem] theorem C13L4_hp : C13L4.hp = C13L3.hp := rfl
theorem C13L4_counts_Of (l : List Run) (h : l.length ≤ 4398046511104) : C13L4.f 52 [.slc (l.map Run.enc)] = some (.slc ((setR (hasL13 l)).map Run.enc)) :=
  (Tab.add_eq : C13L4.f 52 [.slc (l.map Run.enc)] = (entry (fun (l : List Run) => [.slc (l.map Run.enc)]) (fun l => l.length ≤ 4398046511104) (fun l => .slc ((setR (hasL13 l)).map Run.enc))) [.slc (l.map Run.enc)]).trans (entry_eq (fun i j h => by first | (cases i; cases j; rfl; done) | simpa [Prod.ext_iff, and_assoc] using h | (simp at h; omega)) l h)
@[go_sem] theorem l_counts_Of {l : List Run} (h : l.length ≤ 4398046511104) : C13L4.f 52 [.slc (l.map Run.enc)] = some (.slc ((setR (hasL13 l)).map Run.enc)) := C13L4_counts_Of l h
noncomputable def C13L5 : Tab := C13L4.add 11 (entry (fun (l : List Run) => [.slc (l.map Run.enc)]) (fun l => l.length ≤ 1000) (fun l => .slc ((setR (hasL13 l)).map Run.enc)))
theorem C13L5_ok : TabOK Try.prog C13L5 := C13L4_ok.add (callable_of Try.func11 (by kernel_rfl) (by kernel_rfl)) (entry_ok fun l h => c_ref13_Of l h)
@[go_sem] theorem C13L5_old {g : FuncId} {xs : List A} (h : g ≠ 11) : C13L5.f g xs = C13L4.f g xs := Tab.add_ne h
@[go_sem] theorem C13L5_eff {g : FuncId} : C13L5.eff g = C13L4.eff g := rfl
@[go_sem] theorem C13L5_frz {g : FuncId} : C13L5.frz g = C13L4.frz g := rfl
@[go_sem] theorem C13L5_effT : C13L5.effT = C13L4.effT := rfl
@[go_sem] theorem C13L5_fix : C13L5.fix = C13L4.fix := rfl
@[go_sem] theorem C13L5_nf : C13L5.nf = C13L4.nf := rfl
@[go_sem] theorem C13L5_ords {n : Nat} : C13L5.ords n = C13L4.ords n := rfl
@[go_sem] theorem C13L5_hp : C13L5.hp = C13L4.hp := rfl
theorem C13L5_ref13_Of (l : List Run) (h : l.length ≤ 1000) : C13L5.f 11 [.slc (l.map Run.enc)] = some (.slc ((setR (hasL13 l)).map Run.enc)) :=
  (Tab.add_eq : C13L5.f 11 [.slc (l.map Run.enc)] = (entry (fun (l : List Run) => [.slc (l.map Run.enc)]) (fun l => l.length ≤ 1000) (fun l => .slc ((setR (hasL13 l)).map Run.enc))) [.slc (l.map Run.enc)]).trans (entry_eq (fun i j h => by first | (cases i; cases j; rfl; done) | simpa [Prod.ext_iff, and_assoc] using h | (simp at h; omega)) l h)
@[go_sem] theorem l_ref13_Of {l : List Run} (h : l.length ≤ 1000) : C13L5.f 11 [.slc (l.map Run.enc)] = some (.slc ((setR (hasL13 l)).map Run.enc)) := C13L5_ref13_Of l h
noncomputable def C13L6 : Tab := C13L5.add 42 (entry (fun (v : List Run × List Int) => [.slc (v.1.map Run.enc), .slc (v.2.map (A.int .i64))]) (fun v => v.1.length ≤ 1000000 ∧ v.2.length ≤ 1000000) (fun v => .slc ((setR (hasL13 (v.1 ++ oneL v.2))).map Run.enc)))
theorem C13L6_ok : TabOK Try.prog C13L6 := C13L5_ok.add (callable_of Try.func42 (by kernel_rfl) (by kernel_rfl)) (entry_ok fun v h => c_counts_Add v.1 v.2 h.1 h.2)
@[go_sem] theorem C13L6_old {g : FuncId} {xs : List A} (h : g ≠ 42) : C13L6.f g xs = C13L5.f g xs := Tab.add_ne h
@[go_sem] theorem C13L6_eff {g : FuncId} : C13L6.eff g = C13L5.eff g := rfl
@[go_sem] theorem C13L6_frz {g : FuncId} : C13L6.frz g = C13L5.frz g := rfl
@[go_sem] theorem C13L6_effT : C13L6.effT = C13L5.effT := rfl
@[go_sem] theorem C13L6_fix : C13L6.fix = C13L5.fix := rfl
@[go_sem] theorem C13L6_nf : C13L6.nf = C13L5.nf := rfl
@[go_sem] theorem C13L6_ords {n : Nat} : C13L6.ords n = C13L5.ords n := rfl
@[go_sem] theorem C13L6_hp : C13L6.hp = C13L5.hp := rfl
theorem C13L6_counts_Add (v : List Run × List Int) (h : v.1.length ≤ 1000000 ∧ v.2.length ≤ 1000000) : C13L6.f 42 [.slc (v.1.map Run.enc), .slc (v.2.map (A.int .i64))] = some (.slc ((setR (hasL13 (v.1 ++ oneL v.2))).map Run.enc)) :=
  (Tab.add_eq : C13L6.f 42 [.slc (v.1.map Run.enc), .slc (v.2.map (A.int .i64))] = (entry (fun (v : List Run × List Int) => [.slc (v.1.map Run.enc), .slc (v.2.map (A.int .i64))]) (fun v => v.1.length ≤ 1000000 ∧ v.2.length ≤ 1000000) (fun v => .slc ((setR (hasL13 (v.1 ++ oneL v.2))).map Run.enc))) [.slc (v.1.map Run.enc), .slc (v.2.map (A.int .i64))]).trans (entry_eq (fun i j h => by first | (cases i; cases j; rfl; done) | simpa [Prod.ext_iff, and_assoc] using h | (simp at h; omega)) v h)
@[go_sem] theorem l_counts_Add {a : List Run} {b : List Int} (h : a.length ≤ 1000000 ∧ b.length ≤ 1000000) : C13L6.f 42 [.slc (a.map Run.enc), .slc (b.map (A.int .i64))] = some (.slc ((setR (hasL13 (a ++ oneL b))).map Run.enc)) := C13L6_counts_Add (a, b) h
noncomputable def C13L7 : Tab := C13L6.add 45 (entry (fun (v : List Run × List Run) => [.slc (v.1.map Run.enc), .slc (v.2.map Run.enc)]) (fun v => v.1.length ≤ 4398046511104 ∧ v.2.length ≤ 4398046511104) (fun v => .slc ((setR fun n => hasL13 v.1 n || hasL13 v.2 n).map Run.enc)))
theorem C13L7_ok : TabOK Try.prog C13L7 := C13L6_ok.add (callable_of Try.func45 (by kernel_rfl) (by kernel_rfl)) (entry_ok fun v h => c_counts_Union v.1 v.2 h.1 h.2)
@[go_sem] theorem C13L7_old {g : FuncId} {xs : List A} (h : g ≠ 45) : C13L7.f g xs = C13L6.f g xs := Tab.add_ne h
@[go_sem] theorem C13L7_eff {g : FuncId} : C13L7.eff g = C13L6.eff g := rfl
@[go_sem] theorem C13L7_frz {g : FuncId} : C13L7.frz g = C13L6.frz g := rfl
@[go_sem] theorem C13L7_effT : C13L7.effT = C13L6.effT := rfl
@[go_sem] theorem C13L7_fix : C13L7.fix = C13L6.fix := rfl
@[go_sem] theorem C13L7_nf : C13L7.nf = C13L6.nf := rfl
@[go_sem] theorem C13L7_ords {n : Nat} : C13L7.ords n = C13L6.ords n := rfl
@[go_sem] theorem C13L7_hp : C13L7.hp = C13L6.hp := rfl
theorem C13L7_counts_Union (v : List Run × List Run) (h : v.1.length ≤ 4398046511104 ∧ v.2.length ≤ 4398046511104) : C13L7.f 45 [.slc (v.1.map Run.enc), .slc (v.2.map Run.enc)] = some (.slc ((setR fun n => hasL13 v.1 n || hasL13 v.2 n).map Run.enc)) :=
  (Tab.add_eq : C13L7.f 45 [.slc (v.1.map Run.enc), .slc (v.2.map Run.enc)] = (entry (fun (v : List Run × List Run) => [.slc (v.1.map Run.enc), .slc (v.2.map Run.enc)]) (fun v => v.1.length ≤ 4398046511104 ∧ v.2.length ≤ 4398046511104) (fun v => .slc ((setR fun n => hasL13 v.1 n || hasL13 v.2 n).map Run.enc))) [.slc (v.1.map Run.enc), .slc (v.2.map Run.enc)]).trans (entry_eq (fun i j h => by first | (cases i; cases j; rfl; done) | simpa [Prod.ext_iff, and_assoc] using h | (simp at h; omega)) v h)
@[go_sem] theorem l_counts_Union {a : List Run} {b : List Run} (h : a.length ≤ 4398046511104 ∧ b.length ≤ 4398046511104) : C13L7.f 45 [.slc (a.map Run.enc), .slc (b.map Run.enc)] = some (.slc ((setR fun n => hasL13 a n || hasL13 b n).map Run.enc)) := C13L7_counts_Union (a, b) h
noncomputable def C13L8 : Tab := C13L7.add 46 (entry (fun (v : List Run × List Run) => [.slc (v.1.map Run.enc), .slc (v.2.map Run.enc)]) (fun v => v.1.length ≤ 4398046511104 ∧ v.2.length ≤ 4398046511104) (fun v => .slc ((setR fun n => hasL13 v.1 n && hasL13 v.2 n).map Run.enc)))
theorem C13L8_ok : TabOK Try.prog C13L8 := C13L7_ok.add (callable_of Try.func46 (by kernel_rfl) (by kernel_rfl)) (entry_ok fun v h => c_counts_Meet v.1 v.2 h.1 h.2)
@[go_sem] theorem C13L8_old {g : FuncId} {xs : List A} (h : g ≠ 46) : C13L8.f g xs = C13L7.f g xs := Tab.add_ne h
@[go_sem] theorem C13L8_eff {g : FuncId} : C13L8.eff g = C13L7.eff g := rfl
@[go_sem] theorem C13L8_frz {g : FuncId} : C13L8.frz g = C13L7.frz g := rfl
@[go_sem] theorem C13L8_effT : C13L8.effT = C13L7.effT := rfl
@[go_sem] theorem C13L8_fix : C13L8.fix = C13L7.fix := rfl
@[go_sem] theorem C13L8_nf : C13L8.nf = C13L7.nf := rfl
@[go_sem] theorem C13L8_ords {n : Nat} : C13L8.ords n = C13L7.ords n := rfl
@[go_sem] theorem C13L8_hp : C13L8.hp = C13L7.hp := rfl
theorem C13L8_counts_Meet (v : List Run × List Run) (h : v.1.length ≤ 4398046511104 ∧ v.2.length ≤ 4398046511104) : C13L8.f 46 [.slc (v.1.map Run.enc), .slc (v.2.map Run.enc)] = some (.slc ((setR fun n => hasL13 v.1 n && hasL13 v.2 n).map Run.enc)) :=
  (Tab.add_eq : C13L8.f 46 [.slc (v.1.map Run.enc), .slc (v.2.map Run.enc)] = (entry (fun (v : List Run × List Run) => [.slc (v.1.map Run.enc), .slc (v.2.map Run.enc)]) (fun v => v.1.length ≤ 4398046511104 ∧ v.2.length ≤ 4398046511104) (fun v => .slc ((setR fun n => hasL13 v.1 n && hasL13 v.2 n).map Run.enc))) [.slc (v.1.map Run.enc), .slc (v.2.map Run.enc)]).trans (entry_eq (fun i j h => by first | (cases i; cases j; rfl; done) | simpa [Prod.ext_iff, and_assoc] using h | (simp at h; omega)) v h)
@[go_sem] theorem l_counts_Meet {a : List Run} {b : List Run} (h : a.length ≤ 4398046511104 ∧ b.length ≤ 4398046511104) : C13L8.f 46 [.slc (a.map Run.enc), .slc (b.map Run.enc)] = some (.slc ((setR fun n => hasL13 a n && hasL13 b n).map Run.enc)) := C13L8_counts_Meet (a, b) h
noncomputable def C13L9 : Tab := C13L8.add 47 (entry (fun (v : List Run × List Run) => [.slc (v.1.map Run.enc), .slc (v.2.map Run.enc)]) (fun v => v.1.length ≤ 4398046511104 ∧ v.2.length ≤ 4398046511104) (fun v => .slc ((setR fun n => hasL13 v.1 n && !hasL13 v.2 n).map Run.enc)))
theorem C13L9_ok : TabOK Try.prog C13L9 := C13L8_ok.add (callable_of Try.func47 (by kernel_rfl) (by kernel_rfl)) (entry_ok fun v h => c_counts_Less v.1 v.2 h.1 h.2)
@[go_sem] theorem C13L9_old {g : FuncId} {xs : List A} (h : g ≠ 47) : C13L9.f g xs = C13L8.f g xs := Tab.add_ne h
@[go_sem] theorem C13L9_eff {g : FuncId} : C13L9.eff g = C13L8.eff g := rfl
@[go_sem] theorem C13L9_frz {g : FuncId} : C13L9.frz g = C13L8.frz g := rfl
@[go_sem] theorem C13L9_effT : C13L9.effT = C13L8.effT := rfl
@[go_sem] theorem C13L9_fix : C13L9.fix = C13L8.fix := rfl
@[go_sem] theorem C13L9_nf : C13L9.nf = C13L8.nf := rfl
@[go_sem] theorem C13L9_ords {n : Nat} : C13L9.ords n = C13L8.ords n := rfl
@[go_sem] theorem C13L9_hp : C13L9.hp = C13L8.hp := rfl
theorem C13L9_counts_Less (v : List Run × List Run) (h : v.1.length ≤ 4398046511104 ∧ v.2.length ≤ 4398046511104) : C13L9.f 47 [.slc (v.1.map Run.enc), .slc (v.2.map Run.enc)] = some (.slc ((setR fun n => hasL13 v.1 n && !hasL13 v.2 n).map Run.enc)) :=
  (Tab.add_eq : C13L9.f 47 [.slc (v.1.map Run.enc), .slc (v.2.map Run.enc)] = (entry (fun (v : List Run × List Run) => [.slc (v.1.map Run.enc), .slc (v.2.map Run.enc)]) (fun v => v.1.length ≤ 4398046511104 ∧ v.2.length ≤ 4398046511104) (fun v => .slc ((setR fun n => hasL13 v.1 n && !hasL13 v.2 n).map Run.enc))) [.slc (v.1.map Run.enc), .slc (v.2.map Run.enc)]).trans (entry_eq (fun i j h => by first | (cases i; cases j; rfl; done) | simpa [Prod.ext_iff, and_assoc] using h | (simp at h; omega)) v h)
@[go_sem] theorem l_counts_Less {a : List Run} {b : List Run} (h : a.length ≤ 4398046511104 ∧ b.length ≤ 4398046511104) : C13L9.f 47 [.slc (a.map Run.enc), .slc (b.map Run.enc)] = some (.slc ((setR fun n => hasL13 a n && !hasL13 b n).map Run.enc)) := C13L9_counts_Less (a, b) h
noncomputable def C13L10 : Tab := C13L9.add 30 (entry (fun (l : List Run) => [.slc (l.map Run.enc)]) (fun l => l.length ≤ 4398046511104) (fun l => .int .i64 (baseR (setR (hasL13 l)))))
theorem C13L10_ok : TabOK Try.prog C13L10 := C13L9_ok.add (callable_of Try.func30 (by kernel_rfl) (by kernel_rfl)) (entry_ok fun l h => c_counts_Base l h)
@[go_sem] theorem C13L10_old {g : FuncId} {xs : List A} (h : g ≠ 30) : C13L10.f g xs = C13L9.f g xs := Tab.add_ne h
@[go_sem] theorem C13L10_eff {g : FuncId} : C13L10.eff g = C13L9.eff g := rfl
@[go_sem] theorem C13L10_frz {g : FuncId} : C13L10.frz g = C13L9.frz g := rfl
@[go_sem] theorem C13L10_effT : C13L10.effT = C13L9.effT := rfl
@[go_sem] theorem C13L10_fix : C13L10.fix = C13L9.fix := rfl
@[go_sem] theorem C13L10_nf : C13L10.nf = C13L9.nf := rfl
@[go_sem] theorem C13L10_ords {n : Nat} : C13L10.ords n = C13L9.ords n := rfl
@[go_sem] theorem C13L10_hp : C13L10.hp = C13L9.hp := rfl
theorem C13L10_counts_Base (l : List Run) (h : l.length ≤ 4398046511104) : C13L10.f 30 [.slc (l.map Run.enc)] = some (.int .i64 (baseR (setR (hasL13 l)))) :=
  (Tab.add_eq : C13L10.f 30 [.slc (l.map Run.enc)] = (entry (fun (l : List Run) => [.slc (l.map Run.enc)]) (fun l => l.length ≤ 4398046511104) (fun l => .int .i64 (baseR (setR (hasL13 l))))) [.slc (l.map Run.enc)]).trans (entry_eq (fun i j h => by first | (cases i; cases j; rfl; done) | simpa [Prod.ext_iff, and_assoc] using h | (simp at h; omega)) l h)
@[go_sem] theorem l_counts_Base {l : List Run} (h : l.length ≤ 4398046511104) : C13L10.f 30 [.slc (l.map Run.enc)] = some (.int .i64 (baseR (setR (hasL13 l)))) := C13L10_counts_Base l h
noncomputable def C13L11 : Tab := C13L10.add 33 (entry (fun (l : List Run) => [.slc (l.map Run.enc)]) (fun l => l.length ≤ 4398046511104) (fun l => .int .i64 (mostR (setR (hasL13 l)))))
theorem C13L11_ok : TabOK Try.prog C13L11 := C13L10_ok.add (callable_of Try.func33 (by kernel_rfl) (by kernel_rfl)) (entry_ok fun l h => c_counts_Most l h)
@[go_sem] theorem C13L11_old {g : FuncId} {xs : List A} (h : g ≠ 33) : C13L11.f g xs = C13L10.f g xs := Tab.add_ne h
@[go_sem] theorem C13L11_eff {g : FuncId} : C13L11.eff g = C13L10.eff g := rfl
@[go_sem] theorem C13L11_frz {g : FuncId} : C13L11.frz g = C13L10.frz g := rfl
@[go_sem] theorem C13L11_effT : C13L11.effT = C13L10.effT := rfl
@[go_sem] theorem C13L11_fix : C13L11.fix = C13L10.fix := rfl
@[go_sem] theorem C13L11_nf : C13L11.nf = C13L10.nf := rfl
@[go_sem] theorem C13L11_ords {n : Nat} : C13L11.ords n = C13L10.ords n := rfl
@[go_sem] theorem C13L11_hp : C13L11.hp = C13L10.hp := rfl
theorem C13L11_counts_Most (l : List Run) (h : l.length ≤ 4398046511104) : C13L11.f 33 [.slc (l.map Run.enc)] = some (.int .i64 (mostR (setR (hasL13 l)))) :=
  (Tab.add_eq : C13L11.f 33 [.slc (l.map Run.enc)] = (entry (fun (l : List Run) => [.slc (l.map Run.enc)]) (fun l => l.length ≤ 4398046511104) (fun l => .int .i64 (mostR (setR (hasL13 l))))) [.slc (l.map Run.enc)]).trans (entry_eq (fun i j h => by first | (cases i; cases j; rfl; done) | simpa [Prod.ext_iff, and_assoc] using h | (simp at h; omega)) l h)
@[go_sem] theorem l_counts_Most {l : List Run} (h : l.length ≤ 4398046511104) : C13L11.f 33 [.slc (l.map Run.enc)] = some (.int .i64 (mostR (setR (hasL13 l)))) := C13L11_counts_Most l h
noncomputable def C13L12 : Tab := C13L11
theorem C13L12_ok : TabOK Try.prog C13L12 := C13L11_ok
@[go_sem] theorem C13L12_old {g : FuncId} {xs : List A} : C13L12.f g xs = C13L11.f g xs := rfl
@[go_sem] theorem C13L12_eff {g : FuncId} : C13L12.eff g = C13L11.eff g := rfl
@[go_sem] theorem C13L12_frz {g : FuncId} : C13L12.frz g = C13L11.frz g := rfl
@[go_sem] theorem C13L12_effT : C13L12.effT = C13L11.effT := rfl
@[go_sem] theorem C13L12_fix : C13L12.fix = C13L11.fix := rfl
@[go_sem] theorem C13L12_nf : C13L12.nf = C13L11.nf := rfl
@[go_sem] theorem C13L12_ords {n : Nat} : C13L12.ords n = C13L11.ords n := rfl
@[go_sem] theorem C13L12_hp : C13L12.hp = C13L11.hp := rfl
theorem awake_set : setR (hasL13 ([⟨8, 9⟩, ⟨1, 4⟩] ++ oneL [5])) = [⟨1, 5⟩, ⟨8, 9⟩] := (setR_eq (by decide) fun n => by
  rw [Bool.eq_iff_iff, has_iff, has_iff]
  simp [oneL, oneR]
  omega).symm
noncomputable def C13Lw : Tab := C13L12
theorem C13Lw_ok : TabOK Try.prog C13Lw := C13L12_ok
@[go_sem] theorem C13Lw_old {g : FuncId} {xs : List A} : C13Lw.f g xs = C13L12.f g xs := rfl
@[go_sem] theorem C13Lw_eff {g : FuncId} : C13Lw.eff g = C13L12.eff g := rfl
@[go_sem] theorem C13Lw_frz {g : FuncId} : C13Lw.frz g = C13L12.frz g := rfl
@[go_sem] theorem C13Lw_effT : C13Lw.effT = C13L12.effT := rfl
@[go_sem] theorem C13Lw_fix : C13Lw.fix = C13L12.fix := rfl
@[go_sem] theorem C13Lw_nf : C13Lw.nf = C13L12.nf := rfl
@[go_sem] theorem C13Lw_ords {n : Nat} : C13Lw.ords n = C13L12.ords n := rfl
@[go_sem] theorem C13Lw_hp : C13Lw.hp = C13L12.hp := rfl
theorem same_self (l : List Run) : sameL l l = true := by simp [sameL]
theorem set_len (p : Int → Bool) : (setR p).length ≤ 1099511627776 := of_len' (setR_right p)
theorem fits_int1 {x : A} (h : fits (.int .i64) x) : ∃ n : Int, x = .int .i64 n ∧ True := by
  simp only [fits] at h
  obtain ⟨n, rfl, _⟩ := h
  exact ⟨n, rfl, trivial⟩
theorem fits_run {x : List A} (h : fitsL [.int .i64, .int .i64] x) : ∃ f t : Int, x = [.int .i64 f, .int .i64 t] := by
  simp only [fitsL, fits] at h
  obtain ⟨y, zs, rfl, ⟨n, rfl, _⟩, y2, zs2, rfl, ⟨m, rfl, _⟩, rfl⟩ := h
  exact ⟨n, m, rfl⟩
theorem fits_runs {x : A} (h : fits (.rows [.int .i64, .int .i64]) x) : ∃ l : List Run, x = .slc (l.map Run.enc) ∧ l.length ≤ maxLen := by
  simp only [fits] at h
  obtain ⟨es, rfl, hl, he⟩ := h
  obtain ⟨l, rfl, _⟩ := list_of (f := Run.enc) (P := fun _ => True) (es := es) (fun e hx => by
    obtain ⟨ys, rfl, hy⟩ := he e hx
    obtain ⟨r, c, rfl⟩ := fits_run (by simpa only [fitsL, fits] using hy)
    exact ⟨⟨r, c⟩, rfl, trivial⟩)
  exact ⟨l, rfl, by simpa using hl⟩
theorem fits_ints {x : A} (h : fits (.list (.int .i64)) x) : ∃ l : List Int, x = .slc (l.map (A.int .i64)) ∧ l.length ≤ maxLen := by
  simp only [fits] at h
  obtain ⟨es, rfl, hl, he⟩ := h
  obtain ⟨l, rfl, _⟩ := list_of (f := A.int .i64) (P := fun _ => True) (es := es) (fun e hx => by
    obtain ⟨n, rfl, _⟩ := he e hx
    exact ⟨n, rfl, trivial⟩)
  exact ⟨l, rfl, by simpa using hl⟩
end Go.Proofs.Ytbnmicpgbcfooaa
