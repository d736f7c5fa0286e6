/- Chapter 12: what the functions of 'version' and of its reference compute, on pure data. -/
import Derived.Test.YtfcjemfgdeoinaaTy
namespace Go.Proofs.Ytfcjemfgdeoinaa
open Go.Abs
set_option linter.unusedSimpArgs false
set_option linter.unusedVariables false
set_option maxRecDepth 20000
set_option maxHeartbeats 4000000

def T0 : Tab := tab0
theorem T0_ok : TabOK Try.prog T0 := tab0_ok _
@[go_sem] theorem T0_eq : T0 = tab0 := rfl

/-- A version. -/
structure Ver where
  r : Int
  c : Int
  deriving DecidableEq, Inhabited
def Ver.cells (v : Ver) : List A := [.int .i64 v.r, .int .i64 v.c]
def Ver.enc (v : Ver) : A := .agg v.cells
@[go_sem] theorem Ver.cells_eq {a b : Int} : Ver.cells ⟨a, b⟩ = [.int .i64 a, .int .i64 b] := rfl
@[go_sem] theorem Ver.enc_eq {a b : Int} : Ver.enc ⟨a, b⟩ = .agg [.int .i64 a, .int .i64 b] := rfl
theorem Ver.enc_inj (v w : Ver) (h : v.enc = w.enc) : v = w := by
  cases v; cases w; simpa [Ver.enc, Ver.cells] using h
@[simp] theorem map_ver_inj {l m : List Ver} : (l.map Ver.enc = m.map Ver.enc) = (l = m) := map_inj Ver.enc_inj
def rightV (v : Ver) : Bool := decide (1 ≤ v.r) && decide (v.r ≤ 16) && decide (1 ≤ v.c) && decide (v.c ≤ 1099511627776)
def ltV (a b : Ver) : Bool := decide (a.r < b.r) || (a.r == b.r) && decide (a.c < b.c)
def cmpV (a b : Ver) : Int := if a = b then 0 else if ltV a b then -1 else 1

theorem ok_version_Right : codeOK Try.prog T0 Try.f25.ntmps (Try.f25.body.getD .skip) = true := by kernel_rfl
theorem c_version_Right (r c : Int) : CallA Try.prog 25 [.agg [.int .i64 r, .int .i64 c]] (· = .bool (rightV ⟨r, c⟩)) := by
  refine callA_of_body T0_ok mixed Try.func25 rfl (Nat.le_of_ble_eq_true rfl) ok_version_Right ?_
  unfold Try.f25
  by_cases h1 : 1 ≤ r
  · by_cases h2 : r ≤ 16
    · by_cases h3 : 1 ≤ c
      · simp -implicitDefEqProofs (maxSteps := 600000) (disch := (first | omega | decide)) only [go_sem, ↓reduceIte, Nat.reduceEqDiff, reduceCtorEq, Nat.reduceAdd, Nat.reduceSub, Nat.reduceMul, Nat.reduceLeDiff, Nat.reduceLT, Nat.reduceBEq, Nat.reduceBNe, Int.reduceLE, Int.reduceLT, Int.reduceBEq, Int.reduceBNe, Int.reduceEq, Int.reduceNe, Int.reduceAdd, Int.reduceSub, Int.reduceMul, Int.reduceNeg, Int.reduceToNat, h1, h2, h3, rightV]
      · simp -implicitDefEqProofs (maxSteps := 600000) (disch := (first | omega | decide)) only [go_sem, ↓reduceIte, Nat.reduceEqDiff, reduceCtorEq, Nat.reduceAdd, Nat.reduceSub, Nat.reduceMul, Nat.reduceLeDiff, Nat.reduceLT, Nat.reduceBEq, Nat.reduceBNe, Int.reduceLE, Int.reduceLT, Int.reduceBEq, Int.reduceBNe, Int.reduceEq, Int.reduceNe, Int.reduceAdd, Int.reduceSub, Int.reduceMul, Int.reduceNeg, Int.reduceToNat, h1, h2, h3, rightV]
    · simp -implicitDefEqProofs (maxSteps := 600000) (disch := (first | omega | decide)) only [go_sem, ↓reduceIte, Nat.reduceEqDiff, reduceCtorEq, Nat.reduceAdd, Nat.reduceSub, Nat.reduceMul, Nat.reduceLeDiff, Nat.reduceLT, Nat.reduceBEq, Nat.reduceBNe, Int.reduceLE, Int.reduceLT, Int.reduceBEq, Int.reduceBNe, Int.reduceEq, Int.reduceNe, Int.reduceAdd, Int.reduceSub, Int.reduceMul, Int.reduceNeg, Int.reduceToNat, h1, h2, rightV]
  · simp -implicitDefEqProofs (maxSteps := 600000) (disch := (first | omega | decide)) only [go_sem, ↓reduceIte, Nat.reduceEqDiff, reduceCtorEq, Nat.reduceAdd, Nat.reduceSub, Nat.reduceMul, Nat.reduceLeDiff, Nat.reduceLT, Nat.reduceBEq, Nat.reduceBNe, Int.reduceLE, Int.reduceLT, Int.reduceBEq, Int.reduceBNe, Int.reduceEq, Int.reduceNe, Int.reduceAdd, Int.reduceSub, Int.reduceMul, Int.reduceNeg, Int.reduceToNat, h1, rightV]
theorem ok_ref12_Right : codeOK Try.prog T0 Try.f26.ntmps (Try.f26.body.getD .skip) = true := by kernel_rfl
theorem c_ref12_Right (r c : Int) : CallA Try.prog 26 [.agg [.int .i64 r, .int .i64 c]] (· = .bool (rightV ⟨r, c⟩)) := by
  refine callA_of_body T0_ok mixed Try.func26 rfl (Nat.le_of_ble_eq_true rfl) ok_ref12_Right ?_
  unfold Try.f26
  by_cases h1 : 1 ≤ r
  · by_cases h2 : r ≤ 16
    · by_cases h3 : 1 ≤ c
      · simp -implicitDefEqProofs (maxSteps := 600000) (disch := (first | omega | decide)) only [go_sem, ↓reduceIte, Nat.reduceEqDiff, reduceCtorEq, Nat.reduceAdd, Nat.reduceSub, Nat.reduceMul, Nat.reduceLeDiff, Nat.reduceLT, Nat.reduceBEq, Nat.reduceBNe, Int.reduceLE, Int.reduceLT, Int.reduceBEq, Int.reduceBNe, Int.reduceEq, Int.reduceNe, Int.reduceAdd, Int.reduceSub, Int.reduceMul, Int.reduceNeg, Int.reduceToNat, h1, h2, h3, rightV]
      · simp -implicitDefEqProofs (maxSteps := 600000) (disch := (first | omega | decide)) only [go_sem, ↓reduceIte, Nat.reduceEqDiff, reduceCtorEq, Nat.reduceAdd, Nat.reduceSub, Nat.reduceMul, Nat.reduceLeDiff, Nat.reduceLT, Nat.reduceBEq, Nat.reduceBNe, Int.reduceLE, Int.reduceLT, Int.reduceBEq, Int.reduceBNe, Int.reduceEq, Int.reduceNe, Int.reduceAdd, Int.reduceSub, Int.reduceMul, Int.reduceNeg, Int.reduceToNat, h1, h2, h3, rightV]
    · simp -implicitDefEqProofs (maxSteps := 600000) (disch := (first | omega | decide)) only [go_sem, ↓reduceIte, Nat.reduceEqDiff, reduceCtorEq, Nat.reduceAdd, Nat.reduceSub, Nat.reduceMul, Nat.reduceLeDiff, Nat.reduceLT, Nat.reduceBEq, Nat.reduceBNe, Int.reduceLE, Int.reduceLT, Int.reduceBEq, Int.reduceBNe, Int.reduceEq, Int.reduceNe, Int.reduceAdd, Int.reduceSub, Int.reduceMul, Int.reduceNeg, Int.reduceToNat, h1, h2, rightV]
  · simp -implicitDefEqProofs (maxSteps := 600000) (disch := (first | omega | decide)) only [go_sem, ↓reduceIte, Nat.reduceEqDiff, reduceCtorEq, Nat.reduceAdd, Nat.reduceSub, Nat.reduceMul, Nat.reduceLeDiff, Nat.reduceLT, Nat.reduceBEq, Nat.reduceBNe, Int.reduceLE, Int.reduceLT, Int.reduceBEq, Int.reduceBNe, Int.reduceEq, Int.reduceNe, Int.reduceAdd, Int.reduceSub, Int.reduceMul, Int.reduceNeg, Int.reduceToNat, h1, rightV]
theorem ok_version_Cmp : codeOK Try.prog T0 Try.f27.ntmps (Try.f27.body.getD .skip) = true := by kernel_rfl
theorem c_version_Cmp (a b : Ver) : CallA Try.prog 27 [.agg [.int .i64 a.r, .int .i64 a.c], .agg [.int .i64 b.r, .int .i64 b.c]] (· = .int .i64 (cmpV a b)) := by
  refine callA_of_body T0_ok mixed Try.func27 rfl (Nat.le_of_ble_eq_true rfl) ok_version_Cmp ?_
  unfold Try.f27
  obtain ⟨r, c⟩ := a
  obtain ⟨r', c'⟩ := b
  by_cases h1 : r = r'
  · subst h1
    by_cases h2 : c = c'
    · subst h2
      have e : cmpV ⟨r, c⟩ ⟨r, c⟩ = 0 := by simp [cmpV]
      have e1 : (r == r) = true := by simp
      have e2 : (c == c) = true := by simp
      simp -implicitDefEqProofs (maxSteps := 600000) (disch := (first | omega | decide)) only [go_sem, ↓reduceIte, Nat.reduceEqDiff, reduceCtorEq, Nat.reduceAdd, Nat.reduceSub, Nat.reduceMul, Nat.reduceLeDiff, Nat.reduceLT, Nat.reduceBEq, Nat.reduceBNe, Int.reduceLE, Int.reduceLT, Int.reduceBEq, Int.reduceBNe, Int.reduceEq, Int.reduceNe, Int.reduceAdd, Int.reduceSub, Int.reduceMul, Int.reduceNeg, Int.reduceToNat, e, e1, e2]
    · have h3 : (c == c') = false := by simpa using h2
      have e1 : (r == r) = true := by simp
      have h4 : ¬ r < r := by omega
      by_cases h5 : c < c'
      · have e : cmpV ⟨r, c⟩ ⟨r, c'⟩ = -1 := by simp [cmpV, ltV, h2, h5]
        simp -implicitDefEqProofs (maxSteps := 600000) (disch := (first | omega | decide)) only [go_sem, ↓reduceIte, Nat.reduceEqDiff, reduceCtorEq, Nat.reduceAdd, Nat.reduceSub, Nat.reduceMul, Nat.reduceLeDiff, Nat.reduceLT, Nat.reduceBEq, Nat.reduceBNe, Int.reduceLE, Int.reduceLT, Int.reduceBEq, Int.reduceBNe, Int.reduceEq, Int.reduceNe, Int.reduceAdd, Int.reduceSub, Int.reduceMul, Int.reduceNeg, Int.reduceToNat, e, e1, h3, h4, h5]
      · have e : cmpV ⟨r, c⟩ ⟨r, c'⟩ = 1 := by simp [cmpV, ltV, h2, h5]
        simp -implicitDefEqProofs (maxSteps := 600000) (disch := (first | omega | decide)) only [go_sem, ↓reduceIte, Nat.reduceEqDiff, reduceCtorEq, Nat.reduceAdd, Nat.reduceSub, Nat.reduceMul, Nat.reduceLeDiff, Nat.reduceLT, Nat.reduceBEq, Nat.reduceBNe, Int.reduceLE, Int.reduceLT, Int.reduceBEq, Int.reduceBNe, Int.reduceEq, Int.reduceNe, Int.reduceAdd, Int.reduceSub, Int.reduceMul, Int.reduceNeg, Int.reduceToNat, e, e1, h3, h4, h5]
  · have h3 : (r == r') = false := by simpa using h1
    by_cases h4 : r < r'
    · have e : cmpV ⟨r, c⟩ ⟨r', c'⟩ = -1 := by simp [cmpV, ltV, h1, h4]
      simp -implicitDefEqProofs (maxSteps := 600000) (disch := (first | omega | decide)) only [go_sem, ↓reduceIte, Nat.reduceEqDiff, reduceCtorEq, Nat.reduceAdd, Nat.reduceSub, Nat.reduceMul, Nat.reduceLeDiff, Nat.reduceLT, Nat.reduceBEq, Nat.reduceBNe, Int.reduceLE, Int.reduceLT, Int.reduceBEq, Int.reduceBNe, Int.reduceEq, Int.reduceNe, Int.reduceAdd, Int.reduceSub, Int.reduceMul, Int.reduceNeg, Int.reduceToNat, e, h3, h4]
    · have e : cmpV ⟨r, c⟩ ⟨r', c'⟩ = 1 := by simp [cmpV, ltV, h1, h4]
      simp -implicitDefEqProofs (maxSteps := 600000) (disch := (first | omega | decide)) only [go_sem, ↓reduceIte, Nat.reduceEqDiff, reduceCtorEq, Nat.reduceAdd, Nat.reduceSub, Nat.reduceMul, Nat.reduceLeDiff, Nat.reduceLT, Nat.reduceBEq, Nat.reduceBNe, Int.reduceLE, Int.reduceLT, Int.reduceBEq, Int.reduceBNe, Int.reduceEq, Int.reduceNe, Int.reduceAdd, Int.reduceSub, Int.reduceMul, Int.reduceNeg, Int.reduceToNat, e, h3, h4]
theorem ok_ref12_Less : codeOK Try.prog T0 Try.f24.ntmps (Try.f24.body.getD .skip) = true := by kernel_rfl
theorem c_ref12_Less (a b : Ver) : CallA Try.prog 24 [.agg [.int .i64 a.r, .int .i64 a.c], .agg [.int .i64 b.r, .int .i64 b.c]] (· = .bool (ltV a b)) := by
  refine callA_of_body T0_ok mixed Try.func24 rfl (Nat.le_of_ble_eq_true rfl) ok_ref12_Less ?_
  unfold Try.f24
  obtain ⟨r, c⟩ := a
  obtain ⟨r', c'⟩ := b
  by_cases h4 : r < r'
  · simp -implicitDefEqProofs (maxSteps := 600000) (disch := (first | omega | decide)) only [go_sem, ↓reduceIte, Nat.reduceEqDiff, reduceCtorEq, Nat.reduceAdd, Nat.reduceSub, Nat.reduceMul, Nat.reduceLeDiff, Nat.reduceLT, Nat.reduceBEq, Nat.reduceBNe, Int.reduceLE, Int.reduceLT, Int.reduceBEq, Int.reduceBNe, Int.reduceEq, Int.reduceNe, Int.reduceAdd, Int.reduceSub, Int.reduceMul, Int.reduceNeg, Int.reduceToNat, h4, ltV]
  · cases h3 : r == r' <;> simp -implicitDefEqProofs (maxSteps := 600000) (disch := (first | omega | decide)) only [go_sem, ↓reduceIte, Nat.reduceEqDiff, reduceCtorEq, Nat.reduceAdd, Nat.reduceSub, Nat.reduceMul, Nat.reduceLeDiff, Nat.reduceLT, Nat.reduceBEq, Nat.reduceBNe, Int.reduceLE, Int.reduceLT, Int.reduceBEq, Int.reduceBNe, Int.reduceEq, Int.reduceNe, Int.reduceAdd, Int.reduceSub, Int.reduceMul, Int.reduceNeg, Int.reduceToNat, h3, h4, ltV]
noncomputable def T12a : Tab := T0.add 25 (entry (fun (v : Int × Int) => [.agg [.int .i64 v.1, .int .i64 v.2]]) (fun v => True) (fun v => .bool (rightV ⟨v.1, v.2⟩)))
theorem T12a_ok : TabOK Try.prog T12a := T0_ok.add (callable_of Try.func25 (by kernel_rfl) (by kernel_rfl)) (entry_ok fun v h => c_version_Right v.1 v.2)
@[go_sem] theorem T12a_old {g : FuncId} {xs : List A} (h : g ≠ 25) : T12a.f g xs = T0.f g xs := Tab.add_ne h
@[go_sem] theorem T12a_eff {g : FuncId} : T12a.eff g = T0.eff g := rfl
@[go_sem] theorem T12a_frz {g : FuncId} : T12a.frz g = T0.frz g := rfl
@[go_sem] theorem T12a_effT : T12a.effT = T0.effT := rfl
@[go_sem] theorem T12a_fix : T12a.fix = T0.fix := rfl
@[go_sem] theorem T12a_nf : T12a.nf = T0.nf := rfl
@[go_sem] theorem T12a_hp : T12a.hp = T0.hp := rfl
theorem T12a_version_Right (v : Int × Int) (h : True) : T12a.f 25 [.agg [.int .i64 v.1, .int .i64 v.2]] = some (.bool (rightV ⟨v.1, v.2⟩)) :=
  (Tab.add_eq : T12a.f 25 [.agg [.int .i64 v.1, .int .i64 v.2]] = (entry (fun (v : Int × Int) => [.agg [.int .i64 v.1, .int .i64 v.2]]) (fun v => True) (fun v => .bool (rightV ⟨v.1, v.2⟩))) [.agg [.int .i64 v.1, .int .i64 v.2]]).trans (entry_eq (fun i j h => by first | (cases i; cases j; rfl; done) | simpa [Prod.ext_iff, and_assoc] using h | (simp at h; omega)) v h)
noncomputable def T12b : Tab := T12a.add 26 (entry (fun (v : Int × Int) => [.agg [.int .i64 v.1, .int .i64 v.2]]) (fun v => True) (fun v => .bool (rightV ⟨v.1, v.2⟩)))
theorem T12b_ok : TabOK Try.prog T12b := T12a_ok.add (callable_of Try.func26 (by kernel_rfl) (by kernel_rfl)) (entry_ok fun v h => c_ref12_Right v.1 v.2)
@[go_sem] theorem T12b_old {g : FuncId} {xs : List A} (h : g ≠ 26) : T12b.f g xs = T12a.f g xs := Tab.add_ne h
@[go_sem] theorem T12b_eff {g : FuncId} : T12b.eff g = T12a.eff g := rfl
@[go_sem] theorem T12b_frz {g : FuncId} : T12b.frz g = T12a.frz g := rfl
@[go_sem] theorem T12b_effT : T12b.effT = T12a.effT := rfl
@[go_sem] theorem T12b_fix : T12b.fix = T12a.fix := rfl
@[go_sem] theorem T12b_nf : T12b.nf = T12a.nf := rfl
@[go_sem] theorem T12b_hp : T12b.hp = T12a.hp := rfl
theorem T12b_ref12_Right (v : Int × Int) (h : True) : T12b.f 26 [.agg [.int .i64 v.1, .int .i64 v.2]] = some (.bool (rightV ⟨v.1, v.2⟩)) :=
  (Tab.add_eq : T12b.f 26 [.agg [.int .i64 v.1, .int .i64 v.2]] = (entry (fun (v : Int × Int) => [.agg [.int .i64 v.1, .int .i64 v.2]]) (fun v => True) (fun v => .bool (rightV ⟨v.1, v.2⟩))) [.agg [.int .i64 v.1, .int .i64 v.2]]).trans (entry_eq (fun i j h => by first | (cases i; cases j; rfl; done) | simpa [Prod.ext_iff, and_assoc] using h | (simp at h; omega)) v h)
noncomputable def T12c : Tab := T12b.add 27 (entry (fun (v : (Int × Int) × (Int × Int)) => [.agg [.int .i64 v.1.1, .int .i64 v.1.2], .agg [.int .i64 v.2.1, .int .i64 v.2.2]]) (fun v => True) (fun v => .int .i64 (cmpV ⟨v.1.1, v.1.2⟩ ⟨v.2.1, v.2.2⟩)))
theorem T12c_ok : TabOK Try.prog T12c := T12b_ok.add (callable_of Try.func27 (by kernel_rfl) (by kernel_rfl)) (entry_ok fun v h => c_version_Cmp ⟨v.1.1, v.1.2⟩ ⟨v.2.1, v.2.2⟩)
@[go_sem] theorem T12c_old {g : FuncId} {xs : List A} (h : g ≠ 27) : T12c.f g xs = T12b.f g xs := Tab.add_ne h
@[go_sem] theorem T12c_eff {g : FuncId} : T12c.eff g = T12b.eff g := rfl
@[go_sem] theorem T12c_frz {g : FuncId} : T12c.frz g = T12b.frz g := rfl
@[go_sem] theorem T12c_effT : T12c.effT = T12b.effT := rfl
@[go_sem] theorem T12c_fix : T12c.fix = T12b.fix := rfl
@[go_sem] theorem T12c_nf : T12c.nf = T12b.nf := rfl
@[go_sem] theorem T12c_hp : T12c.hp = T12b.hp := rfl
theorem T12c_version_Cmp (v : (Int × Int) × (Int × Int)) (h : True) : T12c.f 27 [.agg [.int .i64 v.1.1, .int .i64 v.1.2], .agg [.int .i64 v.2.1, .int .i64 v.2.2]] = some (.int .i64 (cmpV ⟨v.1.1, v.1.2⟩ ⟨v.2.1, v.2.2⟩)) :=
  (Tab.add_eq : T12c.f 27 [.agg [.int .i64 v.1.1, .int .i64 v.1.2], .agg [.int .i64 v.2.1, .int .i64 v.2.2]] = (entry (fun (v : (Int × Int) × (Int × Int)) => [.agg [.int .i64 v.1.1, .int .i64 v.1.2], .agg [.int .i64 v.2.1, .int .i64 v.2.2]]) (fun v => True) (fun v => .int .i64 (cmpV ⟨v.1.1, v.1.2⟩ ⟨v.2.1, v.2.2⟩))) [.agg [.int .i64 v.1.1, .int .i64 v.1.2], .agg [.int .i64 v.2.1, .int .i64 v.2.2]]).trans (entry_eq (fun i j h => by first | (cases i; cases j; rfl; done) | simpa [Prod.ext_iff, and_assoc] using h | (simp at h; omega)) v h)
noncomputable def T12d : Tab := T12c.add 24 (entry (fun (v : (Int × Int) × (Int × Int)) => [.agg [.int .i64 v.1.1, .int .i64 v.1.2], .agg [.int .i64 v.2.1, .int .i64 v.2.2]]) (fun v => True) (fun v => .bool (ltV ⟨v.1.1, v.1.2⟩ ⟨v.2.1, v.2.2⟩)))
theorem T12d_ok : TabOK Try.prog T12d := T12c_ok.add (callable_of Try.func24 (by kernel_rfl) (by kernel_rfl)) (entry_ok fun v h => c_ref12_Less ⟨v.1.1, v.1.2⟩ ⟨v.2.1, v.2.2⟩)
@[go_sem] theorem T12d_old {g : FuncId} {xs : List A} (h : g ≠ 24) : T12d.f g xs = T12c.f g xs := Tab.add_ne h
@[go_sem] theorem T12d_eff {g : FuncId} : T12d.eff g = T12c.eff g := rfl
@[go_sem] theorem T12d_frz {g : FuncId} : T12d.frz g = T12c.frz g := rfl
@[go_sem] theorem T12d_effT : T12d.effT = T12c.effT := rfl
@[go_sem] theorem T12d_fix : T12d.fix = T12c.fix := rfl
@[go_sem] theorem T12d_nf : T12d.nf = T12c.nf := rfl
@[go_sem] theorem T12d_hp : T12d.hp = T12c.hp := rfl
theorem T12d_ref12_Less (v : (Int × Int) × (Int × Int)) (h : True) : T12d.f 24 [.agg [.int .i64 v.1.1, .int .i64 v.1.2], .agg [.int .i64 v.2.1, .int .i64 v.2.2]] = some (.bool (ltV ⟨v.1.1, v.1.2⟩ ⟨v.2.1, v.2.2⟩)) :=
  (Tab.add_eq : T12d.f 24 [.agg [.int .i64 v.1.1, .int .i64 v.1.2], .agg [.int .i64 v.2.1, .int .i64 v.2.2]] = (entry (fun (v : (Int × Int) × (Int × Int)) => [.agg [.int .i64 v.1.1, .int .i64 v.1.2], .agg [.int .i64 v.2.1, .int .i64 v.2.2]]) (fun v => True) (fun v => .bool (ltV ⟨v.1.1, v.1.2⟩ ⟨v.2.1, v.2.2⟩))) [.agg [.int .i64 v.1.1, .int .i64 v.1.2], .agg [.int .i64 v.2.1, .int .i64 v.2.2]]).trans (entry_eq (fun i j h => by first | (cases i; cases j; rfl; done) | simpa [Prod.ext_iff, and_assoc] using h | (simp at h; omega)) v h)
@[go_sem] theorem t_version_Right {r c : Int} : T12a.f 25 [.agg [.int .i64 r, .int .i64 c]] = some (.bool (rightV ⟨r, c⟩)) := T12a_version_Right (r, c) trivial
@[go_sem] theorem t_ref12_Right {r c : Int} : T12b.f 26 [.agg [.int .i64 r, .int .i64 c]] = some (.bool (rightV ⟨r, c⟩)) := T12b_ref12_Right (r, c) trivial
@[go_sem] theorem t_version_Cmp {r c r' c' : Int} : T12c.f 27 [.agg [.int .i64 r, .int .i64 c], .agg [.int .i64 r', .int .i64 c']] = some (.int .i64 (cmpV ⟨r, c⟩ ⟨r', c'⟩)) := T12c_version_Cmp ((r, c), r', c') trivial
@[go_sem] theorem t_ref12_Less {r c r' c' : Int} : T12d.f 24 [.agg [.int .i64 r, .int .i64 c], .agg [.int .i64 r', .int .i64 c']] = some (.bool (ltV ⟨r, c⟩ ⟨r', c'⟩)) := T12d_ref12_Less ((r, c), r', c') trivial

/-- Decimal digits. -/
def digD (n : Nat) : UInt8 := UInt8.ofNat (48 + n % 10)
def digN (n : Nat) : List UInt8 := if h : n < 10 then [digD n] else digN (n / 10) ++ [digD n]
termination_by n
decreasing_by omega
theorem digN_small {n : Nat} (h : n < 10) : digN n = [digD n] := by rw [digN, dif_pos h]
theorem digN_step {n : Nat} (h : ¬ n < 10) : digN n = digN (n / 10) ++ [digD n] := by rw [digN, dif_neg h]
theorem digN_len (n : Nat) : (digN n).length ≤ n + 1 := by
  induction n using Nat.strongRecOn with
  | _ n ih =>
    by_cases h : n < 10
    · rw [digN_small h]; simp
    · rw [digN_step h, List.length_append]
      have := ih (n / 10) (by omega)
      simp; omega
theorem digD_val {n : Nat} : ((digD n).toNat : Int) = 48 + (n % 10 : Nat) := by
  unfold digD
  rw [UInt8.toNat_ofNat']
  omega
noncomputable def TD (n : Nat) : Tab := T12d.add 42 (entry (fun m : Nat => [.int .i64 m]) (fun m => m < n) (fun m => .str (digN m)))
theorem TD_get {n m : Nat} (h : m < n) : (TD n).f 42 [.int .i64 (m : Int)] = some (.str (digN m)) :=
  Tab.add_eq.trans (entry_eq (enc := fun m : Nat => [A.int .i64 (m : Int)]) (fun i j h => by simp at h; omega) m h)
theorem ok_version_digits : codeOK Try.prog T12d Try.f42.ntmps (Try.f42.body.getD .skip) = true := by kernel_rfl
theorem c_version_digits (n : Nat) (hn : n ≤ 4611686018427387904) : CallA Try.prog 42 [.int .i64 n] (· = .str (digN n)) := by
  induction n using Nat.strongRecOn with
  | _ n ih =>
    have hT : TabOK Try.prog (TD n) := T12d_ok.add (callable_of Try.func42 (by kernel_rfl) (by kernel_rfl)) (entry_ok fun m h => ih m h (by omega))
    refine callA_of_body hT mixed Try.func42 rfl (Nat.le_of_ble_eq_true rfl) ok_version_digits ?_
    unfold Try.f42
    have hf : (TD n).eff = T12d.eff := rfl
    have hone := bytesOfA_bytesA [digD n]
    simp only [bytesA, List.map_cons, List.map_nil, encU8, digD_val] at hone
    by_cases h : (n : Int) < 10
    · have hw : IntKind.u8.wrap (48 + (n : Int)) = 48 + ((n % 10 : Nat) : Int) := by rw [wrap_u8 (by omega)]; omega
      simp -implicitDefEqProofs (maxSteps := 600000) (disch := (first | omega | decide)) only [go_sem, ↓reduceIte, Nat.reduceEqDiff, reduceCtorEq, Nat.reduceAdd, Nat.reduceSub, Nat.reduceMul, Nat.reduceLeDiff, Nat.reduceLT, Nat.reduceBEq, Nat.reduceBNe, Int.reduceLE, Int.reduceLT, Int.reduceBEq, Int.reduceBNe, Int.reduceEq, Int.reduceNe, Int.reduceAdd, Int.reduceSub, Int.reduceMul, Int.reduceNeg, Int.reduceToNat, h, hf, hw, hone, convB, wrap_i64, digN_small (show n < 10 by omega)]
    · have hd : ((n : Int).tdiv 10) = ((n / 10 : Nat) : Int) := by rw [Int.tdiv_eq_ediv_of_nonneg (by omega)]; omega
      have hm : ((n : Int).tmod 10) = ((n % 10 : Nat) : Int) := by rw [Int.tmod_eq_emod_of_nonneg (by omega)]; omega
      have g1 := TD_get (n := n) (m := n / 10) (by omega)
      have g2 := TD_get (n := n) (m := n % 10) (by omega)
      have l1 := digN_len (n / 10)
      have e2 : digN (n % 10) = [digD n] := by rw [digN_small (by omega)]; unfold digD; rw [Nat.mod_mod]
      rw [e2] at g2
      have z10 : ¬ ((10 : Int) = 0) := by omega
      simp -implicitDefEqProofs (maxSteps := 600000) (disch := (first | omega | decide)) only [go_sem, ↓reduceIte, Nat.reduceEqDiff, reduceCtorEq, Nat.reduceAdd, Nat.reduceSub, Nat.reduceMul, Nat.reduceLeDiff, Nat.reduceLT, Nat.reduceBEq, Nat.reduceBNe, Int.reduceLE, Int.reduceLT, Int.reduceBEq, Int.reduceBNe, Int.reduceEq, Int.reduceNe, Int.reduceAdd, Int.reduceSub, Int.reduceMul, Int.reduceNeg, Int.reduceToNat, h, hf, hd, hm, g1, g2, z10, wrap_i64, digN_step (show ¬ n < 10 by omega)]
      omega
noncomputable def T12e : Tab := T12d.add 42 (entry (fun (m : Nat) => [.int .i64 (m : Int)]) (fun m => m ≤ 4611686018427387904) (fun m => .str (digN m)))
theorem T12e_ok : TabOK Try.prog T12e := T12d_ok.add (callable_of Try.func42 (by kernel_rfl) (by kernel_rfl)) (entry_ok fun m h => c_version_digits m h)
@[go_sem] theorem T12e_old {g : FuncId} {xs : List A} (h : g ≠ 42) : T12e.f g xs = T12d.f g xs := Tab.add_ne h
@[go_sem] theorem T12e_eff {g : FuncId} : T12e.eff g = T12d.eff g := rfl
@[go_sem] theorem T12e_frz {g : FuncId} : T12e.frz g = T12d.frz g := rfl
@[go_sem] theorem T12e_effT : T12e.effT = T12d.effT := rfl
@[go_sem] theorem T12e_fix : T12e.fix = T12d.fix := rfl
@[go_sem] theorem T12e_nf : T12e.nf = T12d.nf := rfl
@[go_sem] theorem T12e_hp : T12e.hp = T12d.hp := rfl
theorem T12e_version_digits (m : Nat) (h : m ≤ 4611686018427387904) : T12e.f 42 [.int .i64 (m : Int)] = some (.str (digN m)) :=
  (Tab.add_eq : T12e.f 42 [.int .i64 (m : Int)] = (entry (fun (m : Nat) => [.int .i64 (m : Int)]) (fun m => m ≤ 4611686018427387904) (fun m => .str (digN m))) [.int .i64 (m : Int)]).trans (entry_eq (fun i j h => by first | (cases i; cases j; rfl; done) | simpa [Prod.ext_iff, and_assoc] using h | (simp at h; omega)) m h)
@[go_sem] theorem t_version_digits {n : Nat} (h : n ≤ 4611686018427387904) : T12e.f 42 [.int .i64 (n : Int)] = some (.str (digN n)) := T12e_version_digits n h
end Go.Proofs.Ytfcjemfgdeoinaa
