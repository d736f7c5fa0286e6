/- Chapter 13: the example; the laws. -/
import Derived.Test.YtfcjemfgdeoinaaK13K
namespace Go.Proofs.Ytfcjemfgdeoinaa
open Go.Abs
set_option linter.unusedSimpArgs false
set_option linter.unusedVariables false
set_option maxRecDepth 20000
set_option maxHeartbeats 8000000

noncomputable def TL0 : Tab := T13m.add 17 (entry (fun (l : List Run) => [.slc (l.map Run.enc)]) (fun l => l.length ≤ 4398046511104) (fun l => .bool (rightL l)))
theorem TL0_ok : TabOK Try.prog TL0 := T13m_ok.add (callable_of Try.func17 (by kernel_rfl) (by kernel_rfl)) (entry_ok fun l h => c_counts_Right l (by omega))
@[go_sem] theorem TL0_old {g : FuncId} {xs : List A} (h : g ≠ 17) : TL0.f g xs = T13m.f g xs := Tab.add_ne h
@[go_sem] theorem TL0_eff {g : FuncId} : TL0.eff g = T13m.eff g := rfl
@[go_sem] theorem TL0_frz {g : FuncId} : TL0.frz g = T13m.frz g := rfl
@[go_sem] theorem TL0_effT : TL0.effT = T13m.effT := rfl
@[go_sem] theorem TL0_fix : TL0.fix = T13m.fix := rfl
@[go_sem] theorem TL0_nf : TL0.nf = T13m.nf := rfl
@[go_sem] theorem TL0_hp : TL0.hp = T13m.hp := rfl
theorem TL0_counts_Right (l : List Run) (h : l.length ≤ 4398046511104) : TL0.f 17 [.slc (l.map Run.enc)] = some (.bool (rightL l)) :=
  (Tab.add_eq : TL0.f 17 [.slc (l.map Run.enc)] = (entry (fun (l : List Run) => [.slc (l.map Run.enc)]) (fun l => l.length ≤ 4398046511104) (fun l => .bool (rightL l))) [.slc (l.map Run.enc)]).trans (entry_eq (fun i j h => by first | (cases i; cases j; rfl; done) | simpa [Prod.ext_iff, and_assoc] using h | (simp at h; omega)) l h)
@[go_sem] theorem l_counts_Right {l : List Run} (h : l.length ≤ 4398046511104) : TL0.f 17 [.slc (l.map Run.enc)] = some (.bool (rightL l)) := TL0_counts_Right l h
noncomputable def TL1 : Tab := TL0.add 18 (entry (fun (l : List Run) => [.slc (l.map Run.enc)]) (fun l => l.length ≤ 4398046511104) (fun l => .bool (rightL l)))
theorem TL1_ok : TabOK Try.prog TL1 := TL0_ok.add (callable_of Try.func18 (by kernel_rfl) (by kernel_rfl)) (entry_ok fun l h => c_ref13_Right l (by omega))
@[go_sem] theorem TL1_old {g : FuncId} {xs : List A} (h : g ≠ 18) : TL1.f g xs = TL0.f g xs := Tab.add_ne h
@[go_sem] theorem TL1_eff {g : FuncId} : TL1.eff g = TL0.eff g := rfl
@[go_sem] theorem TL1_frz {g : FuncId} : TL1.frz g = TL0.frz g := rfl
@[go_sem] theorem TL1_effT : TL1.effT = TL0.effT := rfl
@[go_sem] theorem TL1_fix : TL1.fix = TL0.fix := rfl
@[go_sem] theorem TL1_nf : TL1.nf = TL0.nf := rfl
@[go_sem] theorem TL1_hp : TL1.hp = TL0.hp := rfl
theorem TL1_ref13_Right (l : List Run) (h : l.length ≤ 4398046511104) : TL1.f 18 [.slc (l.map Run.enc)] = some (.bool (rightL l)) :=
  (Tab.add_eq : TL1.f 18 [.slc (l.map Run.enc)] = (entry (fun (l : List Run) => [.slc (l.map Run.enc)]) (fun l => l.length ≤ 4398046511104) (fun l => .bool (rightL l))) [.slc (l.map Run.enc)]).trans (entry_eq (fun i j h => by first | (cases i; cases j; rfl; done) | simpa [Prod.ext_iff, and_assoc] using h | (simp at h; omega)) l h)
@[go_sem] theorem l_ref13_Right {l : List Run} (h : l.length ≤ 4398046511104) : TL1.f 18 [.slc (l.map Run.enc)] = some (.bool (rightL l)) := TL1_ref13_Right l h
noncomputable def TL2 : Tab := TL1.add 19 (entry (fun (v : List Run × Int) => [.slc (v.1.map Run.enc), .int .i64 v.2]) (fun v => v.1.length ≤ 4398046511104) (fun v => .bool (hasL13 v.1 v.2)))
theorem TL2_ok : TabOK Try.prog TL2 := TL1_ok.add (callable_of Try.func19 (by kernel_rfl) (by kernel_rfl)) (entry_ok fun v h => c_counts_Has v.1 v.2 (by omega))
@[go_sem] theorem TL2_old {g : FuncId} {xs : List A} (h : g ≠ 19) : TL2.f g xs = TL1.f g xs := Tab.add_ne h
@[go_sem] theorem TL2_eff {g : FuncId} : TL2.eff g = TL1.eff g := rfl
@[go_sem] theorem TL2_frz {g : FuncId} : TL2.frz g = TL1.frz g := rfl
@[go_sem] theorem TL2_effT : TL2.effT = TL1.effT := rfl
@[go_sem] theorem TL2_fix : TL2.fix = TL1.fix := rfl
@[go_sem] theorem TL2_nf : TL2.nf = TL1.nf := rfl
@[go_sem] theorem TL2_hp : TL2.hp = TL1.hp := rfl
theorem TL2_counts_Has (v : List Run × Int) (h : v.1.length ≤ 4398046511104) : TL2.f 19 [.slc (v.1.map Run.enc), .int .i64 v.2] = some (.bool (hasL13 v.1 v.2)) :=
  (Tab.add_eq : TL2.f 19 [.slc (v.1.map Run.enc), .int .i64 v.2] = (entry (fun (v : List Run × Int) => [.slc (v.1.map Run.enc), .int .i64 v.2]) (fun v => v.1.length ≤ 4398046511104) (fun v => .bool (hasL13 v.1 v.2))) [.slc (v.1.map Run.enc), .int .i64 v.2]).trans (entry_eq (fun i j h => by first | (cases i; cases j; rfl; done) | simpa [Prod.ext_iff, and_assoc] using h | (simp at h; omega)) v h)
@[go_sem] theorem l_counts_Has {a : List Run} {b : Int} (h : a.length ≤ 4398046511104) : TL2.f 19 [.slc (a.map Run.enc), .int .i64 b] = some (.bool (hasL13 a b)) := TL2_counts_Has (a, b) h
noncomputable def TL3 : Tab := TL2.add 20 (entry (fun (v : List Run × List Run) => [.slc (v.1.map Run.enc), .slc (v.2.map Run.enc)]) (fun v => v.1.length ≤ 4398046511104 ∧ v.2.length ≤ 4398046511104) (fun v => .bool (sameL v.1 v.2)))
theorem TL3_ok : TabOK Try.prog TL3 := TL2_ok.add (callable_of Try.func20 (by kernel_rfl) (by kernel_rfl)) (entry_ok fun v h => c_ref13_Same v.1 v.2 (by omega) (by omega))
@[go_sem] theorem TL3_old {g : FuncId} {xs : List A} (h : g ≠ 20) : TL3.f g xs = TL2.f g xs := Tab.add_ne h
@[go_sem] theorem TL3_eff {g : FuncId} : TL3.eff g = TL2.eff g := rfl
@[go_sem] theorem TL3_frz {g : FuncId} : TL3.frz g = TL2.frz g := rfl
@[go_sem] theorem TL3_effT : TL3.effT = TL2.effT := rfl
@[go_sem] theorem TL3_fix : TL3.fix = TL2.fix := rfl
@[go_sem] theorem TL3_nf : TL3.nf = TL2.nf := rfl
@[go_sem] theorem TL3_hp : TL3.hp = TL2.hp := rfl
theorem TL3_ref13_Same (v : List Run × List Run) (h : v.1.length ≤ 4398046511104 ∧ v.2.length ≤ 4398046511104) : TL3.f 20 [.slc (v.1.map Run.enc), .slc (v.2.map Run.enc)] = some (.bool (sameL v.1 v.2)) :=
  (Tab.add_eq : TL3.f 20 [.slc (v.1.map Run.enc), .slc (v.2.map Run.enc)] = (entry (fun (v : List Run × List Run) => [.slc (v.1.map Run.enc), .slc (v.2.map Run.enc)]) (fun v => v.1.length ≤ 4398046511104 ∧ v.2.length ≤ 4398046511104) (fun v => .bool (sameL v.1 v.2))) [.slc (v.1.map Run.enc), .slc (v.2.map Run.enc)]).trans (entry_eq (fun i j h => by first | (cases i; cases j; rfl; done) | simpa [Prod.ext_iff, and_assoc] using h | (simp at h; omega)) v h)
@[go_sem] theorem l_ref13_Same {a : List Run} {b : List Run} (h : a.length ≤ 4398046511104 ∧ b.length ≤ 4398046511104) : TL3.f 20 [.slc (a.map Run.enc), .slc (b.map Run.enc)] = some (.bool (sameL a b)) := TL3_ref13_Same (a, b) h
noncomputable def TL4 : Tab := TL3.add 21 (entry (fun (l : List Run) => [.slc (l.map Run.enc)]) (fun l => l.length ≤ 4398046511104) (fun l => .slc ((setR (hasL13 l)).map Run.enc)))
theorem TL4_ok : TabOK Try.prog TL4 := TL3_ok.add (callable_of Try.func21 (by kernel_rfl) (by kernel_rfl)) (entry_ok fun l h => c_counts_Of l h)
@[go_sem] theorem TL4_old {g : FuncId} {xs : List A} (h : g ≠ 21) : TL4.f g xs = TL3.f g xs := Tab.add_ne h
@[go_sem] theorem TL4_eff {g : FuncId} : TL4.eff g = TL3.eff g := rfl
@[go_sem] theorem TL4_frz {g : FuncId} : TL4.frz g = TL3.frz g := rfl
@[go_sem] theorem TL4_effT : TL4.effT = TL3.effT := rfl
@[go_sem] theorem TL4_fix : TL4.fix = TL3.fix := rfl
@[go_sem] theorem TL4_nf : TL4.nf = TL3.nf := rfl
@[go_sem] theorem TL4_hp : TL4.hp = TL3.hp := rfl
theorem TL4_counts_Of (l : List Run) (h : l.length ≤ 4398046511104) : TL4.f 21 [.slc (l.map Run.enc)] = some (.slc ((setR (hasL13 l)).map Run.enc)) :=
  (Tab.add_eq : TL4.f 21 [.slc (l.map Run.enc)] = (entry (fun (l : List Run) => [.slc (l.map Run.enc)]) (fun l => l.length ≤ 4398046511104) (fun l => .slc ((setR (hasL13 l)).map Run.enc))) [.slc (l.map Run.enc)]).trans (entry_eq (fun i j h => by first | (cases i; cases j; rfl; done) | simpa [Prod.ext_iff, and_assoc] using h | (simp at h; omega)) l h)
@[go_sem] theorem l_counts_Of {l : List Run} (h : l.length ≤ 4398046511104) : TL4.f 21 [.slc (l.map Run.enc)] = some (.slc ((setR (hasL13 l)).map Run.enc)) := TL4_counts_Of l h
noncomputable def TL5 : Tab := TL4.add 22 (entry (fun (l : List Run) => [.slc (l.map Run.enc)]) (fun l => l.length ≤ 1000) (fun l => .slc ((setR (hasL13 l)).map Run.enc)))
theorem TL5_ok : TabOK Try.prog TL5 := TL4_ok.add (callable_of Try.func22 (by kernel_rfl) (by kernel_rfl)) (entry_ok fun l h => c_ref13_Of l h)
@[go_sem] theorem TL5_old {g : FuncId} {xs : List A} (h : g ≠ 22) : TL5.f g xs = TL4.f g xs := Tab.add_ne h
@[go_sem] theorem TL5_eff {g : FuncId} : TL5.eff g = TL4.eff g := rfl
@[go_sem] theorem TL5_frz {g : FuncId} : TL5.frz g = TL4.frz g := rfl
@[go_sem] theorem TL5_effT : TL5.effT = TL4.effT := rfl
@[go_sem] theorem TL5_fix : TL5.fix = TL4.fix := rfl
@[go_sem] theorem TL5_nf : TL5.nf = TL4.nf := rfl
@[go_sem] theorem TL5_hp : TL5.hp = TL4.hp := rfl
theorem TL5_ref13_Of (l : List Run) (h : l.length ≤ 1000) : TL5.f 22 [.slc (l.map Run.enc)] = some (.slc ((setR (hasL13 l)).map Run.enc)) :=
  (Tab.add_eq : TL5.f 22 [.slc (l.map Run.enc)] = (entry (fun (l : List Run) => [.slc (l.map Run.enc)]) (fun l => l.length ≤ 1000) (fun l => .slc ((setR (hasL13 l)).map Run.enc))) [.slc (l.map Run.enc)]).trans (entry_eq (fun i j h => by first | (cases i; cases j; rfl; done) | simpa [Prod.ext_iff, and_assoc] using h | (simp at h; omega)) l h)
@[go_sem] theorem l_ref13_Of {l : List Run} (h : l.length ≤ 1000) : TL5.f 22 [.slc (l.map Run.enc)] = some (.slc ((setR (hasL13 l)).map Run.enc)) := TL5_ref13_Of l h
noncomputable def TL6 : Tab := TL5.add 16 (entry (fun (v : List Run × List Int) => [.slc (v.1.map Run.enc), .slc (v.2.map (A.int .i64))]) (fun v => v.1.length ≤ 1000000 ∧ v.2.length ≤ 1000000) (fun v => .slc ((setR (hasL13 (v.1 ++ oneL v.2))).map Run.enc)))
theorem TL6_ok : TabOK Try.prog TL6 := TL5_ok.add (callable_of Try.func16 (by kernel_rfl) (by kernel_rfl)) (entry_ok fun v h => c_counts_Add v.1 v.2 h.1 h.2)
@[go_sem] theorem TL6_old {g : FuncId} {xs : List A} (h : g ≠ 16) : TL6.f g xs = TL5.f g xs := Tab.add_ne h
@[go_sem] theorem TL6_eff {g : FuncId} : TL6.eff g = TL5.eff g := rfl
@[go_sem] theorem TL6_frz {g : FuncId} : TL6.frz g = TL5.frz g := rfl
@[go_sem] theorem TL6_effT : TL6.effT = TL5.effT := rfl
@[go_sem] theorem TL6_fix : TL6.fix = TL5.fix := rfl
@[go_sem] theorem TL6_nf : TL6.nf = TL5.nf := rfl
@[go_sem] theorem TL6_hp : TL6.hp = TL5.hp := rfl
theorem TL6_counts_Add (v : List Run × List Int) (h : v.1.length ≤ 1000000 ∧ v.2.length ≤ 1000000) : TL6.f 16 [.slc (v.1.map Run.enc), .slc (v.2.map (A.int .i64))] = some (.slc ((setR (hasL13 (v.1 ++ oneL v.2))).map Run.enc)) :=
  (Tab.add_eq : TL6.f 16 [.slc (v.1.map Run.enc), .slc (v.2.map (A.int .i64))] = (entry (fun (v : List Run × List Int) => [.slc (v.1.map Run.enc), .slc (v.2.map (A.int .i64))]) (fun v => v.1.length ≤ 1000000 ∧ v.2.length ≤ 1000000) (fun v => .slc ((setR (hasL13 (v.1 ++ oneL v.2))).map Run.enc))) [.slc (v.1.map Run.enc), .slc (v.2.map (A.int .i64))]).trans (entry_eq (fun i j h => by first | (cases i; cases j; rfl; done) | simpa [Prod.ext_iff, and_assoc] using h | (simp at h; omega)) v h)
@[go_sem] theorem l_counts_Add {a : List Run} {b : List Int} (h : a.length ≤ 1000000 ∧ b.length ≤ 1000000) : TL6.f 16 [.slc (a.map Run.enc), .slc (b.map (A.int .i64))] = some (.slc ((setR (hasL13 (a ++ oneL b))).map Run.enc)) := TL6_counts_Add (a, b) h
noncomputable def TL7 : Tab := TL6.add 33 (entry (fun (v : List Run × List Run) => [.slc (v.1.map Run.enc), .slc (v.2.map Run.enc)]) (fun v => v.1.length ≤ 4398046511104 ∧ v.2.length ≤ 4398046511104) (fun v => .slc ((setR fun n => hasL13 v.1 n || hasL13 v.2 n).map Run.enc)))
theorem TL7_ok : TabOK Try.prog TL7 := TL6_ok.add (callable_of Try.func33 (by kernel_rfl) (by kernel_rfl)) (entry_ok fun v h => c_counts_Union v.1 v.2 h.1 h.2)
@[go_sem] theorem TL7_old {g : FuncId} {xs : List A} (h : g ≠ 33) : TL7.f g xs = TL6.f g xs := Tab.add_ne h
@[go_sem] theorem TL7_eff {g : FuncId} : TL7.eff g = TL6.eff g := rfl
@[go_sem] theorem TL7_frz {g : FuncId} : TL7.frz g = TL6.frz g := rfl
@[go_sem] theorem TL7_effT : TL7.effT = TL6.effT := rfl
@[go_sem] theorem TL7_fix : TL7.fix = TL6.fix := rfl
@[go_sem] theorem TL7_nf : TL7.nf = TL6.nf := rfl
@[go_sem] theorem TL7_hp : TL7.hp = TL6.hp := rfl
theorem TL7_counts_Union (v : List Run × List Run) (h : v.1.length ≤ 4398046511104 ∧ v.2.length ≤ 4398046511104) : TL7.f 33 [.slc (v.1.map Run.enc), .slc (v.2.map Run.enc)] = some (.slc ((setR fun n => hasL13 v.1 n || hasL13 v.2 n).map Run.enc)) :=
  (Tab.add_eq : TL7.f 33 [.slc (v.1.map Run.enc), .slc (v.2.map Run.enc)] = (entry (fun (v : List Run × List Run) => [.slc (v.1.map Run.enc), .slc (v.2.map Run.enc)]) (fun v => v.1.length ≤ 4398046511104 ∧ v.2.length ≤ 4398046511104) (fun v => .slc ((setR fun n => hasL13 v.1 n || hasL13 v.2 n).map Run.enc))) [.slc (v.1.map Run.enc), .slc (v.2.map Run.enc)]).trans (entry_eq (fun i j h => by first | (cases i; cases j; rfl; done) | simpa [Prod.ext_iff, and_assoc] using h | (simp at h; omega)) v h)
@[go_sem] theorem l_counts_Union {a : List Run} {b : List Run} (h : a.length ≤ 4398046511104 ∧ b.length ≤ 4398046511104) : TL7.f 33 [.slc (a.map Run.enc), .slc (b.map Run.enc)] = some (.slc ((setR fun n => hasL13 a n || hasL13 b n).map Run.enc)) := TL7_counts_Union (a, b) h
noncomputable def TL8 : Tab := TL7.add 34 (entry (fun (v : List Run × List Run) => [.slc (v.1.map Run.enc), .slc (v.2.map Run.enc)]) (fun v => v.1.length ≤ 4398046511104 ∧ v.2.length ≤ 4398046511104) (fun v => .slc ((setR fun n => hasL13 v.1 n && hasL13 v.2 n).map Run.enc)))
theorem TL8_ok : TabOK Try.prog TL8 := TL7_ok.add (callable_of Try.func34 (by kernel_rfl) (by kernel_rfl)) (entry_ok fun v h => c_counts_Meet v.1 v.2 h.1 h.2)
@[go_sem] theorem TL8_old {g : FuncId} {xs : List A} (h : g ≠ 34) : TL8.f g xs = TL7.f g xs := Tab.add_ne h
@[go_sem] theorem TL8_eff {g : FuncId} : TL8.eff g = TL7.eff g := rfl
@[go_sem] theorem TL8_frz {g : FuncId} : TL8.frz g = TL7.frz g := rfl
@[go_sem] theorem TL8_effT : TL8.effT = TL7.effT := rfl
@[go_sem] theorem TL8_fix : TL8.fix = TL7.fix := rfl
@[go_sem] theorem TL8_nf : TL8.nf = TL7.nf := rfl
@[go_sem] theorem TL8_hp : TL8.hp = TL7.hp := rfl
theorem TL8_counts_Meet (v : List Run × List Run) (h : v.1.length ≤ 4398046511104 ∧ v.2.length ≤ 4398046511104) : TL8.f 34 [.slc (v.1.map Run.enc), .slc (v.2.map Run.enc)] = some (.slc ((setR fun n => hasL13 v.1 n && hasL13 v.2 n).map Run.enc)) :=
  (Tab.add_eq : TL8.f 34 [.slc (v.1.map Run.enc), .slc (v.2.map Run.enc)] = (entry (fun (v : List Run × List Run) => [.slc (v.1.map Run.enc), .slc (v.2.map Run.enc)]) (fun v => v.1.length ≤ 4398046511104 ∧ v.2.length ≤ 4398046511104) (fun v => .slc ((setR fun n => hasL13 v.1 n && hasL13 v.2 n).map Run.enc))) [.slc (v.1.map Run.enc), .slc (v.2.map Run.enc)]).trans (entry_eq (fun i j h => by first | (cases i; cases j; rfl; done) | simpa [Prod.ext_iff, and_assoc] using h | (simp at h; omega)) v h)
@[go_sem] theorem l_counts_Meet {a : List Run} {b : List Run} (h : a.length ≤ 4398046511104 ∧ b.length ≤ 4398046511104) : TL8.f 34 [.slc (a.map Run.enc), .slc (b.map Run.enc)] = some (.slc ((setR fun n => hasL13 a n && hasL13 b n).map Run.enc)) := TL8_counts_Meet (a, b) h
noncomputable def TL9 : Tab := TL8.add 35 (entry (fun (v : List Run × List Run) => [.slc (v.1.map Run.enc), .slc (v.2.map Run.enc)]) (fun v => v.1.length ≤ 4398046511104 ∧ v.2.length ≤ 4398046511104) (fun v => .slc ((setR fun n => hasL13 v.1 n && !hasL13 v.2 n).map Run.enc)))
theorem TL9_ok : TabOK Try.prog TL9 := TL8_ok.add (callable_of Try.func35 (by kernel_rfl) (by kernel_rfl)) (entry_ok fun v h => c_counts_Less v.1 v.2 h.1 h.2)
@[go_sem] theorem TL9_old {g : FuncId} {xs : List A} (h : g ≠ 35) : TL9.f g xs = TL8.f g xs := Tab.add_ne h
@[go_sem] theorem TL9_eff {g : FuncId} : TL9.eff g = TL8.eff g := rfl
@[go_sem] theorem TL9_frz {g : FuncId} : TL9.frz g = TL8.frz g := rfl
@[go_sem] theorem TL9_effT : TL9.effT = TL8.effT := rfl
@[go_sem] theorem TL9_fix : TL9.fix = TL8.fix := rfl
@[go_sem] theorem TL9_nf : TL9.nf = TL8.nf := rfl
@[go_sem] theorem TL9_hp : TL9.hp = TL8.hp := rfl
theorem TL9_counts_Less (v : List Run × List Run) (h : v.1.length ≤ 4398046511104 ∧ v.2.length ≤ 4398046511104) : TL9.f 35 [.slc (v.1.map Run.enc), .slc (v.2.map Run.enc)] = some (.slc ((setR fun n => hasL13 v.1 n && !hasL13 v.2 n).map Run.enc)) :=
  (Tab.add_eq : TL9.f 35 [.slc (v.1.map Run.enc), .slc (v.2.map Run.enc)] = (entry (fun (v : List Run × List Run) => [.slc (v.1.map Run.enc), .slc (v.2.map Run.enc)]) (fun v => v.1.length ≤ 4398046511104 ∧ v.2.length ≤ 4398046511104) (fun v => .slc ((setR fun n => hasL13 v.1 n && !hasL13 v.2 n).map Run.enc))) [.slc (v.1.map Run.enc), .slc (v.2.map Run.enc)]).trans (entry_eq (fun i j h => by first | (cases i; cases j; rfl; done) | simpa [Prod.ext_iff, and_assoc] using h | (simp at h; omega)) v h)
@[go_sem] theorem l_counts_Less {a : List Run} {b : List Run} (h : a.length ≤ 4398046511104 ∧ b.length ≤ 4398046511104) : TL9.f 35 [.slc (a.map Run.enc), .slc (b.map Run.enc)] = some (.slc ((setR fun n => hasL13 a n && !hasL13 b n).map Run.enc)) := TL9_counts_Less (a, b) h
noncomputable def TL10 : Tab := TL9.add 12 (entry (fun (l : List Run) => [.slc (l.map Run.enc)]) (fun l => l.length ≤ 4398046511104) (fun l => .int .i64 (baseR (setR (hasL13 l)))))
theorem TL10_ok : TabOK Try.prog TL10 := TL9_ok.add (callable_of Try.func12 (by kernel_rfl) (by kernel_rfl)) (entry_ok fun l h => c_counts_Base l h)
@[go_sem] theorem TL10_old {g : FuncId} {xs : List A} (h : g ≠ 12) : TL10.f g xs = TL9.f g xs := Tab.add_ne h
@[go_sem] theorem TL10_eff {g : FuncId} : TL10.eff g = TL9.eff g := rfl
@[go_sem] theorem TL10_frz {g : FuncId} : TL10.frz g = TL9.frz g := rfl
@[go_sem] theorem TL10_effT : TL10.effT = TL9.effT := rfl
@[go_sem] theorem TL10_fix : TL10.fix = TL9.fix := rfl
@[go_sem] theorem TL10_nf : TL10.nf = TL9.nf := rfl
@[go_sem] theorem TL10_hp : TL10.hp = TL9.hp := rfl
theorem TL10_counts_Base (l : List Run) (h : l.length ≤ 4398046511104) : TL10.f 12 [.slc (l.map Run.enc)] = some (.int .i64 (baseR (setR (hasL13 l)))) :=
  (Tab.add_eq : TL10.f 12 [.slc (l.map Run.enc)] = (entry (fun (l : List Run) => [.slc (l.map Run.enc)]) (fun l => l.length ≤ 4398046511104) (fun l => .int .i64 (baseR (setR (hasL13 l))))) [.slc (l.map Run.enc)]).trans (entry_eq (fun i j h => by first | (cases i; cases j; rfl; done) | simpa [Prod.ext_iff, and_assoc] using h | (simp at h; omega)) l h)
@[go_sem] theorem l_counts_Base {l : List Run} (h : l.length ≤ 4398046511104) : TL10.f 12 [.slc (l.map Run.enc)] = some (.int .i64 (baseR (setR (hasL13 l)))) := TL10_counts_Base l h
noncomputable def TL11 : Tab := TL10.add 13 (entry (fun (l : List Run) => [.slc (l.map Run.enc)]) (fun l => l.length ≤ 4398046511104) (fun l => .int .i64 (mostR (setR (hasL13 l)))))
theorem TL11_ok : TabOK Try.prog TL11 := TL10_ok.add (callable_of Try.func13 (by kernel_rfl) (by kernel_rfl)) (entry_ok fun l h => c_counts_Most l h)
@[go_sem] theorem TL11_old {g : FuncId} {xs : List A} (h : g ≠ 13) : TL11.f g xs = TL10.f g xs := Tab.add_ne h
@[go_sem] theorem TL11_eff {g : FuncId} : TL11.eff g = TL10.eff g := rfl
@[go_sem] theorem TL11_frz {g : FuncId} : TL11.frz g = TL10.frz g := rfl
@[go_sem] theorem TL11_effT : TL11.effT = TL10.effT := rfl
@[go_sem] theorem TL11_fix : TL11.fix = TL10.fix := rfl
@[go_sem] theorem TL11_nf : TL11.nf = TL10.nf := rfl
@[go_sem] theorem TL11_hp : TL11.hp = TL10.hp := rfl
theorem TL11_counts_Most (l : List Run) (h : l.length ≤ 4398046511104) : TL11.f 13 [.slc (l.map Run.enc)] = some (.int .i64 (mostR (setR (hasL13 l)))) :=
  (Tab.add_eq : TL11.f 13 [.slc (l.map Run.enc)] = (entry (fun (l : List Run) => [.slc (l.map Run.enc)]) (fun l => l.length ≤ 4398046511104) (fun l => .int .i64 (mostR (setR (hasL13 l))))) [.slc (l.map Run.enc)]).trans (entry_eq (fun i j h => by first | (cases i; cases j; rfl; done) | simpa [Prod.ext_iff, and_assoc] using h | (simp at h; omega)) l h)
@[go_sem] theorem l_counts_Most {l : List Run} (h : l.length ≤ 4398046511104) : TL11.f 13 [.slc (l.map Run.enc)] = some (.int .i64 (mostR (setR (hasL13 l)))) := TL11_counts_Most l h
noncomputable def TL12 : Tab := TL11.add 14 (entry (fun (l : List Run) => [.slc (l.map Run.enc)]) (fun l => l.length ≤ 4398046511104) (fun l => .int .i64 (manyR (setR (hasL13 l)))))
theorem TL12_ok : TabOK Try.prog TL12 := TL11_ok.add (callable_of Try.func14 (by kernel_rfl) (by kernel_rfl)) (entry_ok fun l h => c_counts_Many l h)
@[go_sem] theorem TL12_old {g : FuncId} {xs : List A} (h : g ≠ 14) : TL12.f g xs = TL11.f g xs := Tab.add_ne h
@[go_sem] theorem TL12_eff {g : FuncId} : TL12.eff g = TL11.eff g := rfl
@[go_sem] theorem TL12_frz {g : FuncId} : TL12.frz g = TL11.frz g := rfl
@[go_sem] theorem TL12_effT : TL12.effT = TL11.effT := rfl
@[go_sem] theorem TL12_fix : TL12.fix = TL11.fix := rfl
@[go_sem] theorem TL12_nf : TL12.nf = TL11.nf := rfl
@[go_sem] theorem TL12_hp : TL12.hp = TL11.hp := rfl
theorem TL12_counts_Many (l : List Run) (h : l.length ≤ 4398046511104) : TL12.f 14 [.slc (l.map Run.enc)] = some (.int .i64 (manyR (setR (hasL13 l)))) :=
  (Tab.add_eq : TL12.f 14 [.slc (l.map Run.enc)] = (entry (fun (l : List Run) => [.slc (l.map Run.enc)]) (fun l => l.length ≤ 4398046511104) (fun l => .int .i64 (manyR (setR (hasL13 l))))) [.slc (l.map Run.enc)]).trans (entry_eq (fun i j h => by first | (cases i; cases j; rfl; done) | simpa [Prod.ext_iff, and_assoc] using h | (simp at h; omega)) l h)
@[go_sem] theorem l_counts_Many {l : List Run} (h : l.length ≤ 4398046511104) : TL12.f 14 [.slc (l.map Run.enc)] = some (.int .i64 (manyR (setR (hasL13 l)))) := TL12_counts_Many l h

theorem awake_set : setR (hasL13 ([⟨8, 9⟩, ⟨1, 4⟩] ++ oneL [5])) = [⟨1, 5⟩, ⟨8, 9⟩] := (setR_eq (by decide) fun n => by
  rw [Bool.eq_iff_iff, has_iff, has_iff]
  simp [oneL, oneR]
  omega).symm
theorem ok_law13_awake : codeOK Try.prog TL12 Try.f11.ntmps (Try.f11.body.getD .skip) = true := by kernel_rfl
theorem c_law13_awake : CallA Try.prog 11 [] (· = .bool true) := by
  refine callA_of_body TL12_ok mixed Try.func11 rfl (Nat.le_of_ble_eq_true rfl) ok_law13_awake ?_
  unfold Try.f11
  have h1 := l_counts_Add (a := [⟨8, 9⟩, ⟨1, 4⟩]) (b := [5]) (by simp)
  rw [awake_set] at h1
  have es := setR_eq (l := [⟨1, 5⟩, ⟨8, 9⟩]) (by decide) (fun _ => rfl)
  have h2 := l_counts_Base (l := [⟨1, 5⟩, ⟨8, 9⟩]) (by simp)
  have h3 := l_counts_Most (l := [⟨1, 5⟩, ⟨8, 9⟩]) (by simp)
  have h4 := l_counts_Many (l := [⟨1, 5⟩, ⟨8, 9⟩]) (by simp)
  rw [← es] at h2 h3 h4
  have b1 : baseR [⟨1, 5⟩, ⟨8, 9⟩] = 5 := by decide
  have b2 : mostR [⟨1, 5⟩, ⟨8, 9⟩] = 9 := by decide
  have b3 : manyR [⟨1, 5⟩, ⟨8, 9⟩] = 7 := by decide
  rw [b1] at h2; rw [b2] at h3; rw [b3] at h4
  simp only [List.map_cons, List.map_nil, Run.enc, Run.cells] at h1 h2 h3 h4
  simp -implicitDefEqProofs (maxSteps := 600000) (disch := (first | omega | decide)) only [go_sem, ↓reduceIte, Nat.reduceEqDiff, reduceCtorEq, Nat.reduceAdd, Nat.reduceSub, Nat.reduceMul, Nat.reduceLeDiff, Nat.reduceLT, Nat.reduceBEq, Nat.reduceBNe, Int.reduceLE, Int.reduceLT, Int.reduceBEq, Int.reduceBNe, Int.reduceEq, Int.reduceNe, Int.reduceAdd, Int.reduceSub, Int.reduceMul, Int.reduceNeg, Int.reduceToNat, h1, h2, h3, h4]
noncomputable def TLw : Tab := TL12.add 11 (entry (fun (u : Unit) => []) (fun u => True) (fun u => .bool true))
theorem TLw_ok : TabOK Try.prog TLw := TL12_ok.add (callable_of Try.func11 (by kernel_rfl) (by kernel_rfl)) (entry_ok fun u h => c_law13_awake)
@[go_sem] theorem TLw_old {g : FuncId} {xs : List A} (h : g ≠ 11) : TLw.f g xs = TL12.f g xs := Tab.add_ne h
@[go_sem] theorem TLw_eff {g : FuncId} : TLw.eff g = TL12.eff g := rfl
@[go_sem] theorem TLw_frz {g : FuncId} : TLw.frz g = TL12.frz g := rfl
@[go_sem] theorem TLw_effT : TLw.effT = TL12.effT := rfl
@[go_sem] theorem TLw_fix : TLw.fix = TL12.fix := rfl
@[go_sem] theorem TLw_nf : TLw.nf = TL12.nf := rfl
@[go_sem] theorem TLw_hp : TLw.hp = TL12.hp := rfl
theorem TLw_law13_awake (u : Unit) (h : True) : TLw.f 11 [] = some (.bool true) :=
  (Tab.add_eq : TLw.f 11 [] = (entry (fun (u : Unit) => []) (fun u => True) (fun u => .bool true)) []).trans (entry_eq (fun i j h => by first | (cases i; cases j; rfl; done) | simpa [Prod.ext_iff, and_assoc] using h | (simp at h; omega)) u h)
@[go_sem] theorem l_awake : TLw.f 11 [] = some (.bool true) := TLw_law13_awake () trivial
theorem same_self (l : List Run) : sameL l l = true := by simp [sameL]
theorem set_len (p : Int → Bool) : (setR p).length ≤ 1099511627776 := of_len' (setR_right p)
theorem fits_int1 {x : A} (h : fits (.int .i64) x) : ∃ n : Int, x = .int .i64 n ∧ True := by
  simp only [fits] at h
  obtain ⟨n, rfl, _⟩ := h
  exact ⟨n, rfl, trivial⟩
theorem fits_run {x : List A} (h : fitsL [.int .i64, .int .i64] x) : ∃ f t : Int, x = [.int .i64 f, .int .i64 t] := by
  simp only [fitsL, fits] at h
  obtain ⟨y, zs, rfl, ⟨n, rfl, _⟩, y2, zs2, rfl, ⟨m, rfl, _⟩, rfl⟩ := h
  exact ⟨n, m, rfl⟩
theorem fits_runs {x : A} (h : fits (.rows [.int .i64, .int .i64]) x) : ∃ l : List Run, x = .slc (l.map Run.enc) ∧ l.length ≤ maxLen := by
  simp only [fits] at h
  obtain ⟨es, rfl, hl, he⟩ := h
  obtain ⟨l, rfl, _⟩ := list_of (f := Run.enc) (P := fun _ => True) (es := es) (fun e hx => by
    obtain ⟨ys, rfl, hy⟩ := he e hx
    obtain ⟨r, c, rfl⟩ := fits_run (by simpa only [fitsL, fits] using hy)
    exact ⟨⟨r, c⟩, rfl, trivial⟩)
  exact ⟨l, rfl, by simpa using hl⟩
theorem fits_ints {x : A} (h : fits (.list (.int .i64)) x) : ∃ l : List Int, x = .slc (l.map (A.int .i64)) ∧ l.length ≤ maxLen := by
  simp only [fits] at h
  obtain ⟨es, rfl, hl, he⟩ := h
  obtain ⟨l, rfl, _⟩ := list_of (f := A.int .i64) (P := fun _ => True) (es := es) (fun e hx => by
    obtain ⟨n, rfl, _⟩ := he e hx
    exact ⟨n, rfl, trivial⟩)
  exact ⟨l, rfl, by simpa using hl⟩
end Go.Proofs.Ytfcjemfgdeoinaa
