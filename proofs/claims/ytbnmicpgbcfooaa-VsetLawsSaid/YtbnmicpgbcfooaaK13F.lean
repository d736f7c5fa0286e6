/- Chapter 13: runs cloned and sorted. -/
import Derived.Test.YtbnmicpgbcfooaaK13Q
import Derived.Test.YtbnmicpgbcfooaaAbsW
import Derived.Test.YtbnmicpgbcfooaaAbsZ
import Derived.Test.YtbnmicpgbcfooaaSortRun
namespace Go.Proofs.Ytbnmicpgbcfooaa
open Go.Abs
set_option linter.unusedSimpArgs false
set_option linter.unusedVariables false
set_option maxRecDepth 20000
set_option maxHeartbeats 4000000

def C13Cl : Tab := { T13z with nf := 0 }
theorem C13Cl_ok : TabOK Try.prog C13Cl := ⟨T13z_ok.f, T13z_ok.hp⟩
theorem ok_CloneH : codeOK Try.prog T13z Try.f51.ntmps (Try.f51.body.getD .skip) = true := by kernel_rfl
theorem h_Clone_Run (l : List Run) (hl : l.length ≤ 4398046511104) : CallH Try.prog 51 [.slc (l.map Run.enc)] [] (.row 0 0 2 l.length false) [.row 2 (l.map Run.enc)] [] := by
  cases l with
  | nil =>
    refine callH_emp (callH_nil 2 ?_) ?_
    · refine callH_of_body T13z_ok mixed Try.func51 rfl (Nat.le_of_ble_eq_true rfl) (by simp) (by simp) (Nat.le_refl _) ok_CloneH ?_
      unfold Try.f51
      simp -implicitDefEqProofs (maxSteps := 600000) (disch := (first | omega | decide)) only [go_sem, ↓reduceIte, Nat.reduceEqDiff, reduceCtorEq, Nat.reduceAdd, Nat.reduceSub, Nat.reduceMul, Nat.reduceLeDiff, Nat.reduceLT, Nat.reduceBEq, Nat.reduceBNe, Int.reduceLE, Int.reduceLT, Int.reduceBEq, Int.reduceBNe, Int.reduceEq, Int.reduceNe, Int.reduceAdd, Int.reduceSub, Int.reduceMul, Int.reduceNeg, Int.reduceToNat]
    · refine callH_of_body T13z_ok mixed Try.func51 rfl (Nat.le_of_ble_eq_true rfl) (by simp) (by simp) (Nat.zero_le _) ok_CloneH ?_
      unfold Try.f51
      simp -implicitDefEqProofs (maxSteps := 600000) (disch := (first | omega | decide)) only [go_sem, ↓reduceIte, Nat.reduceEqDiff, reduceCtorEq, Nat.reduceAdd, Nat.reduceSub, Nat.reduceMul, Nat.reduceLeDiff, Nat.reduceLT, Nat.reduceBEq, Nat.reduceBNe, Int.reduceLE, Int.reduceLT, Int.reduceBEq, Int.reduceBNe, Int.reduceEq, Int.reduceNe, Int.reduceAdd, Int.reduceSub, Int.reduceMul, Int.reduceNeg, Int.reduceToNat]
  | cons r l =>
    refine callH_of_body T13z_ok mixed Try.func51 rfl (Nat.le_of_ble_eq_true rfl) (by simp) (by simp) (Nat.zero_le _) ok_CloneH ?_
    unfold Try.f51
    obtain ⟨f, t⟩ := r
    simp only [List.length_cons] at hl
    simp -implicitDefEqProofs (maxSteps := 600000) (disch := (first | omega | decide)) only [go_sem, ↓reduceIte, Nat.reduceEqDiff, reduceCtorEq, Nat.reduceAdd, Nat.reduceSub, Nat.reduceMul, Nat.reduceLeDiff, Nat.reduceLT, Nat.reduceBEq, Nat.reduceBNe, Int.reduceLE, Int.reduceLT, Int.reduceBEq, Int.reduceBNe, Int.reduceEq, Int.reduceNe, Int.reduceAdd, Int.reduceSub, Int.reduceMul, Int.reduceNeg, Int.reduceToNat, List.length_map]
    omega
theorem ok_counts_Of_1 : codeOK Try.prog T13z Try.f61.ntmps (Try.f61.body.getD .skip) = true := by kernel_rfl
theorem c_Of1 (f t f' t' : Int) (h : 0 ≤ f ∧ f ≤ 1099511627776 ∧ 0 ≤ f' ∧ f' ≤ 1099511627776) : CallA Try.prog 61 [.agg [.int .i64 f, .int .i64 t], .agg [.int .i64 f', .int .i64 t']] (· = .int .i64 (f - f')) := by
  refine callA_of_body T13z_ok mixed Try.func61 rfl (Nat.le_of_ble_eq_true rfl) ok_counts_Of_1 ?_
  unfold Try.f61
  simp -implicitDefEqProofs (maxSteps := 600000) (disch := (first | omega | decide)) only [go_sem, ↓reduceIte, Nat.reduceEqDiff, reduceCtorEq, Nat.reduceAdd, Nat.reduceSub, Nat.reduceMul, Nat.reduceLeDiff, Nat.reduceLT, Nat.reduceBEq, Nat.reduceBNe, Int.reduceLE, Int.reduceLT, Int.reduceBEq, Int.reduceBNe, Int.reduceEq, Int.reduceNe, Int.reduceAdd, Int.reduceSub, Int.reduceMul, Int.reduceNeg, Int.reduceToNat, wrap_i64]

abbrev RunB := {r : Run // oneR r = true}
instance : Inhabited RunB := ⟨⟨⟨1, 1⟩, by decide⟩⟩
def cfB (a b : RunB) : Int := a.1.f - b.1.f
def RunB.cells (r : RunB) : List A := r.1.cells
theorem swoB : Go.Sort.SWO (Go.Proofs.ltOf cfB) := by
  have hl : ∀ a b, Go.Proofs.ltOf cfB a b = decide (a.1.f < b.1.f) := fun a b => by
    unfold Go.Proofs.ltOf cfB
    by_cases h : a.1.f < b.1.f
    · have : a.1.f - b.1.f < 0 := by omega
      simp [this, h]
    · have : ¬ a.1.f - b.1.f < 0 := by omega
      simp [this, h]
  refine ⟨fun x => ?_, fun x y z h1 h2 => ?_, fun x y z h1 h2 => ?_⟩
  · rw [hl]; simp
  · rw [hl] at *
    rw [decide_eq_true_iff] at *; omega
  · rw [hl] at *
    rw [decide_eq_false_iff_not] at *; omega
theorem c_SortFunc_Run (l : List RunB) (hl : l.length < 4611686018427387904) : CallH Try.prog 60 [.row 0 0 2 l.length false, .fn 61 []] [.row 2 (l.map fun x => .agg x.cells)]
    (.tup []) [.row 2 ((sortL cfB l).map fun x => .agg x.cells)] [] :=
  sort_struct Go.Proofs.Ytbnmicpgbcfooaa.sortRun (by omega) Try.isAgg31 Try.sizeOf31 RunB.cells (fun _ => rfl) (fun x a ha => by
    simp only [RunB.cells, Run.cells, List.mem_cons, List.not_mem_nil, or_false] at ha
    rcases ha with rfl | rfl <;> rfl) cfB swoB (callable_of Try.func61 (by kernel_rfl) (by kernel_rfl)) (fun x y => by
      have h1 := oneR_iff.1 x.2
      have h2 := oneR_iff.1 y.2
      exact c_Of1 x.1.f x.1.t y.1.f y.1.t (by omega)) l hl false
def pickB (l : List Run) : List RunB := (l.filter oneR).attach.map fun x => ⟨x.1, (List.mem_filter.1 x.2).2⟩
theorem pickB_val (l : List Run) : (pickB l).map (·.1) = l.filter oneR := by
  unfold pickB
  rw [List.map_map]
  exact List.attach_map_subtype_val _
theorem pickB_cells (l : List Run) : (pickB l).map (fun x => A.agg x.cells) = (l.filter oneR).map Run.enc := by
  rw [← pickB_val, List.map_map]; rfl
/-- Right runs, by their beginnings. -/
noncomputable def srtL (l : List Run) : List Run := (sortL cfB (pickB l)).map (·.1)
theorem srtL_cells (l : List Run) : (sortL cfB (pickB l)).map (fun x => A.agg x.cells) = (srtL l).map Run.enc := by
  unfold srtL; rw [List.map_map]; rfl
theorem srtL_perm (l : List Run) : (srtL l).Perm (l.filter oneR) := by
  rw [← pickB_val]; exact (sortL_spec swoB (pickB l)).1.map _
theorem srtL_one (l : List Run) : ∀ r ∈ srtL l, oneR r = true := fun r hr => by
  unfold srtL at hr
  obtain ⟨x, _, rfl⟩ := List.mem_map.1 hr
  exact x.2
theorem srtL_up (l : List Run) : (srtL l).Pairwise (fun x y => x.f ≤ y.f) := by
  unfold srtL
  rw [List.pairwise_map]
  exact (sortL_spec swoB (pickB l)).2.imp fun {x y} h => by unfold cfB at h; omega
theorem srtL_has (l : List Run) (n : Int) : hasL13 (srtL l) n = hasL13 l n := by
  rw [has_perm (srtL_perm l), has_filter]
theorem srtL_all (l : List Run) : ((srtL l).foldl pushJ []).reverse = setR (hasL13 l) := by
  rw [fold_push_all (srtL_one l) (srtL_up l)]
  congr 1; funext n; exact srtL_has l n

def srE (l : List RunB) : List A := [.row 0 0 2 l.length false, .fn 61 []]
def srO (l : List RunB) : List Go.Abs.Obj := [.row 2 (l.map fun x => .agg x.cells)]
def srK (l : List RunB) : Prop := l.length < 4611686018427387904
noncomputable def srR (l : List RunB) : A × List Go.Abs.Obj × List Nat := (.tup [], [.row 2 ((sortL cfB l).map fun x => .agg x.cells)], [])
theorem runB_inj (x y : RunB) (h : A.agg x.cells = A.agg y.cells) : x = y := Subtype.ext (Run.enc_inj _ _ h)
theorem srO_inj (i j : List RunB) (h : srO i = srO j) : i = j := by
  simp only [srO, List.cons.injEq, Go.Abs.Obj.row.injEq, true_and, and_true] at h
  rwa [map_inj runB_inj] at h
noncomputable def T13f : Tab := T13b.add 34 (entry (fun (l : List Run) => [.slc (l.map Run.enc)]) (fun l => l.length ≤ 4611686018427387904) (fun l => .bool (rightL l)))
theorem T13f_ok : TabOK Try.prog T13f := T13b_ok.add (callable_of Try.func34 (by kernel_rfl) (by kernel_rfl)) (entry_ok fun l h => c_counts_Right l h)
@[go_sem] theorem T13f_old {g : FuncId} {xs : List A} (h : g ≠ 34) : T13f.f g xs = T13b.f g xs := Tab.add_ne h
@[go_sem] theorem T13f_eff {g : FuncId} : T13f.eff g = T13b.eff g := rfl
@[go_sem] theorem T13f_frz {g : FuncId} : T13f.frz g = T13b.frz g := rfl
@[go_sem] theorem T13f_effT : T13f.effT = T13b.effT := rfl
@[go_sem] theorem T13f_fix : T13f.fix = T13b.fix := rfl
@[go_sem] theorem T13f_nf : T13f.nf = T13b.nf := rfl
@[go_sem] theorem T13f_ords {n : Nat} : T13f.ords n = T13b.ords n := rfl
@[go_sem] theorem T13f_hp : T13f.hp = T13b.hp := rfl
theorem T13f_counts_Right (l : List Run) (h : l.length ≤ 4611686018427387904) : T13f.f 34 [.slc (l.map Run.enc)] = some (.bool (rightL l)) :=
  (Tab.add_eq : T13f.f 34 [.slc (l.map Run.enc)] = (entry (fun (l : List Run) => [.slc (l.map Run.enc)]) (fun l => l.length ≤ 4611686018427387904) (fun l => .bool (rightL l))) [.slc (l.map Run.enc)]).trans (entry_eq (fun i j h => by first | (cases i; cases j; rfl; done) | simpa [Prod.ext_iff, and_assoc] using h | (simp at h; omega)) l h)
noncomputable def T13g : Tab := T13f.add 51 (entry (fun (l : List Run) => [.slc (l.map Run.enc)]) (fun l => l.length ≤ 4398046511104) (fun l => .slc (l.map Run.enc)))
theorem T13g_ok : TabOK Try.prog T13g := T13f_ok.add (callable_of Try.func51 (by kernel_rfl) (by kernel_rfl)) (entry_ok fun l h => c_Clone_Run l h)
@[go_sem] theorem T13g_old {g : FuncId} {xs : List A} (h : g ≠ 51) : T13g.f g xs = T13f.f g xs := Tab.add_ne h
@[go_sem] theorem T13g_eff {g : FuncId} : T13g.eff g = T13f.eff g := rfl
@[go_sem] theorem T13g_frz {g : FuncId} : T13g.frz g = T13f.frz g := rfl
@[go_sem] theorem T13g_effT : T13g.effT = T13f.effT := rfl
@[go_sem] theorem T13g_fix : T13g.fix = T13f.fix := rfl
@[go_sem] theorem T13g_nf : T13g.nf = T13f.nf := rfl
@[go_sem] theorem T13g_ords {n : Nat} : T13g.ords n = T13f.ords n := rfl
@[go_sem] theorem T13g_hp : T13g.hp = T13f.hp := rfl
theorem T13g_slices_Clone_winnower_api_Run_winnower_api_Run (l : List Run) (h : l.length ≤ 4398046511104) : T13g.f 51 [.slc (l.map Run.enc)] = some (.slc (l.map Run.enc)) :=
  (Tab.add_eq : T13g.f 51 [.slc (l.map Run.enc)] = (entry (fun (l : List Run) => [.slc (l.map Run.enc)]) (fun l => l.length ≤ 4398046511104) (fun l => .slc (l.map Run.enc))) [.slc (l.map Run.enc)]).trans (entry_eq (fun i j h => by first | (cases i; cases j; rfl; done) | simpa [Prod.ext_iff, and_assoc] using h | (simp at h; omega)) l h)
@[go_sem] theorem t_counts_Right {l : List Run} (h : l.length ≤ 4611686018427387904) : T13f.f 34 [.slc (l.map Run.enc)] = some (.bool (rightL l)) := T13f_counts_Right l h
@[go_sem] theorem t_Clone_Run {l : List Run} (h : l.length ≤ 4398046511104) : T13g.f 51 [.slc (l.map Run.enc)] = some (.slc (l.map Run.enc)) := T13g_slices_Clone_winnower_api_Run_winnower_api_Run l h
noncomputable def C13Sa : Tab := T13g.addH 60 (entryH srE srO srK srR)
noncomputable def C13S : Tab := { C13Sa with eff := fun f => f == 60 }
theorem C13Sa_ok : TabOK Try.prog C13Sa := T13g_ok.addH (callable_of Try.func60 (by kernel_rfl) (by kernel_rfl)) (entryH_ok fun l h => c_SortFunc_Run l h)
theorem C13S_ok : TabOK Try.prog C13S := ⟨C13Sa_ok.f, C13Sa_ok.hp⟩
@[go_sem] theorem C13S_f : C13S.f = T13g.f := rfl
@[go_sem] theorem C13S_eff {g : FuncId} : C13S.eff g = (g == 60) := rfl
@[go_sem] theorem C13S_effT : C13S.effT = false := rfl
@[go_sem] theorem C13S_frz {g : FuncId} : C13S.frz g = false := rfl
@[go_sem] theorem C13S_fix {n : Nat} : C13S.fix n = false := rfl
@[go_sem] theorem C13S_nf : C13S.nf = 0 := rfl
@[go_sem] theorem C13S_ords {n : Nat} : C13S.ords n = [] := rfl
theorem C13S_sort {l : List Run} {n : Nat} (hn : n = (l.filter oneR).length) (h : l.length < 4611686018427387904) : C13S.hp 60 [.row 0 0 2 n false, .fn 61 []] [.row 2 ((l.filter oneR).map Run.enc)] = some (.tup [], [.row 2 ((srtL l).map Run.enc)], []) := by
  subst hn
  have hlen : (pickB l).length = (l.filter oneR).length := by rw [← pickB_val]; simp
  have h0 : C13Sa.hp 60 (srE (pickB l)) (srO (pickB l)) = entryH srE srO srK srR (srE (pickB l)) (srO (pickB l)) := Tab.addH_eq
  have h1 : C13S.hp 60 (srE (pickB l)) (srO (pickB l)) = entryH srE srO srK srR (srE (pickB l)) (srO (pickB l)) := h0
  have h2 := h1.trans (entryH_eq (fun i j _ h => srO_inj i j h) (pickB l) (show (pickB l).length < 4611686018427387904 by rw [hlen]; exact Nat.lt_of_le_of_lt (List.length_filter_le _ _) h))
  simp only [srE, srO, srR, hlen, pickB_cells, srtL_cells] at h2
  exact h2
end Go.Proofs.Ytbnmicpgbcfooaa
