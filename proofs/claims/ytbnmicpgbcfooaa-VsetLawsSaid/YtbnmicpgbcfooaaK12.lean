/- Chapter 12: what the functions of 'version' and of its reference compute, on pure data. -/
import Derived.Test.YtbnmicpgbcfooaaTy
import Derived.Test.YtbnmicpgbcfooaaAbsY
namespace Go.Proofs.Ytbnmicpgbcfooaa
open Go.Abs
set_option linter.unusedSimpArgs false
set_option linter.unusedVariables false
set_option maxRecDepth 20000
set_option maxHeartbeats 4000000

def T12z : Tab := tab0
theorem T12z_ok : TabOK Try.prog T12z := tab0_ok _
@[go_sem] theorem T12z_eq : T12z = tab0 := rfl

/-- A version. -/
structure Ver where
  r : Int
  c : Int
  deriving DecidableEq, Inhabited
def Ver.cells (v : Ver) : List A := [.int .i64 v.r, .int .i64 v.c]
def Ver.enc (v : Ver) : A := .agg v.cells
@[go_sem] theorem Ver.cells_eq {a b : Int} : Ver.cells ⟨a, b⟩ = [.int .i64 a, .int .i64 b] := rfl
@[go_sem] theorem Ver.enc_eq {a b : Int} : Ver.enc ⟨a, b⟩ = .agg [.int .i64 a, .int .i64 b] := rfl
theorem Ver.enc_inj (v w : Ver) (h : v.enc = w.enc) : v = w := by
  cases v; cases w; simpa [Ver.enc, Ver.cells] using h
@[simp] theorem map_ver_inj {l m : List Ver} : (l.map Ver.enc = m.map Ver.enc) = (l = m) := map_inj Ver.enc_inj
def rightV (v : Ver) : Bool := decide (1 ≤ v.r) && decide (v.r ≤ 16) && decide (1 ≤ v.c) && decide (v.c ≤ 1099511627776)
def ltV (a b : Ver) : Bool := decide (a.r < b.r) || (a.r == b.r) && decide (a.c < b.c)
def cmpV (a b : Ver) : Int := if a = b then 0 else if ltV a b then -1 else 1

theorem ok_version_Right : codeOK Try.prog T12z Try.f36.ntmps (Try.f36.body.getD .skip) = true := by kernel_rfl
theorem c_version_Right (r c : Int) : CallA Try.prog 36 [.agg [.int .i64 r, .int .i64 c]] (· = .bool (rightV ⟨r, c⟩)) := by
  refine callA_of_body T12z_ok mixed Try.func36 rfl (Nat.le_of_ble_eq_true rfl) ok_version_Right ?_
  unfold Try.f36
  by_cases h1 : 1 ≤ r
  · by_cases h2 : r ≤ 16
    · by_cases h3 : 1 ≤ c
      · simp -implicitDefEqProofs (maxSteps := 600000) (disch := (first | omega | decide)) only [go_sem, ↓reduceIte, Nat.reduceEqDiff, reduceCtorEq, Nat.reduceAdd, Nat.reduceSub, Nat.reduceMul, Nat.reduceLeDiff, Nat.reduceLT, Nat.reduceBEq, Nat.reduceBNe, Int.reduceLE, Int.reduceLT, Int.reduceBEq, Int.reduceBNe, Int.reduceEq, Int.reduceNe, Int.reduceAdd, Int.reduceSub, Int.reduceMul, Int.reduceNeg, Int.reduceToNat, h1, h2, h3, rightV]
      · simp -implicitDefEqProofs (maxSteps := 600000) (disch := (first | omega | decide)) only [go_sem, ↓reduceIte, Nat.reduceEqDiff, reduceCtorEq, Nat.reduceAdd, Nat.reduceSub, Nat.reduceMul, Nat.reduceLeDiff, Nat.reduceLT, Nat.reduceBEq, Nat.reduceBNe, Int.reduceLE, Int.reduceLT, Int.reduceBEq, Int.reduceBNe, Int.reduceEq, Int.reduceNe, Int.reduceAdd, Int.reduceSub, Int.reduceMul, Int.reduceNeg, Int.reduceToNat, h1, h2, h3, rightV]
    · simp -implicitDefEqProofs (maxSteps := 600000) (disch := (first | omega | decide)) only [go_sem, ↓reduceIte, Nat.reduceEqDiff, reduceCtorEq, Nat.reduceAdd, Nat.reduceSub, Nat.reduceMul, Nat.reduceLeDiff, Nat.reduceLT, Nat.reduceBEq, Nat.reduceBNe, Int.reduceLE, Int.reduceLT, Int.reduceBEq, Int.reduceBNe, Int.reduceEq, Int.reduceNe, Int.reduceAdd, Int.reduceSub, Int.reduceMul, Int.reduceNeg, Int.reduceToNat, h1, h2, rightV]
  · simp -implicitDefEqProofs (maxSteps := 600000) (disch := (first | omega | decide)) only [go_sem, ↓reduceIte, Nat.reduceEqDiff, reduceCtorEq, Nat.reduceAdd, Nat.reduceSub, Nat.reduceMul, Nat.reduceLeDiff, Nat.reduceLT, Nat.reduceBEq, Nat.reduceBNe, Int.reduceLE, Int.reduceLT, Int.reduceBEq, Int.reduceBNe, Int.reduceEq, Int.reduceNe, Int.reduceAdd, Int.reduceSub, Int.reduceMul, Int.reduceNeg, Int.reduceToNat, h1, rightV]
theorem ok_ref12_Right : codeOK Try.prog T12z Try.f38.ntmps (Try.f38.body.getD .skip) = true := by kernel_rfl
theorem c_ref12_Right (r c : Int) : CallA Try.prog 38 [.agg [.int .i64 r, .int .i64 c]] (· = .bool (rightV ⟨r, c⟩)) := by
  refine callA_of_body T12z_ok mixed Try.func38 rfl (Nat.le_of_ble_eq_true rfl) ok_ref12_Right ?_
  unfold Try.f38
  by_cases h1 : 1 ≤ r
  · by_cases h2 : r ≤ 16
    · by_cases h3 : 1 ≤ c
      · simp -implicitDefEqProofs (maxSteps := 600000) (disch := (first | omega | decide)) only [go_sem, ↓reduceIte, Nat.reduceEqDiff, reduceCtorEq, Nat.reduceAdd, Nat.reduceSub, Nat.reduceMul, Nat.reduceLeDiff, Nat.reduceLT, Nat.reduceBEq, Nat.reduceBNe, Int.reduceLE, Int.reduceLT, Int.reduceBEq, Int.reduceBNe, Int.reduceEq, Int.reduceNe, Int.reduceAdd, Int.reduceSub, Int.reduceMul, Int.reduceNeg, Int.reduceToNat, h1, h2, h3, rightV]
      · simp -implicitDefEqProofs (maxSteps := 600000) (disch := (first | omega | decide)) only [go_sem, ↓reduceIte, Nat.reduceEqDiff, reduceCtorEq, Nat.reduceAdd, Nat.reduceSub, Nat.reduceMul, Nat.reduceLeDiff, Nat.reduceLT, Nat.reduceBEq, Nat.reduceBNe, Int.reduceLE, Int.reduceLT, Int.reduceBEq, Int.reduceBNe, Int.reduceEq, Int.reduceNe, Int.reduceAdd, Int.reduceSub, Int.reduceMul, Int.reduceNeg, Int.reduceToNat, h1, h2, h3, rightV]
    · simp -implicitDefEqProofs (maxSteps := 600000) (disch := (first | omega | decide)) only [go_sem, ↓reduceIte, Nat.reduceEqDiff, reduceCtorEq, Nat.reduceAdd, Nat.reduceSub, Nat.reduceMul, Nat.reduceLeDiff, Nat.reduceLT, Nat.reduceBEq, Nat.reduceBNe, Int.reduceLE, Int.reduceLT, Int.reduceBEq, Int.reduceBNe, Int.reduceEq, Int.reduceNe, Int.reduceAdd, Int.reduceSub, Int.reduceMul, Int.reduceNeg, Int.reduceToNat, h1, h2, rightV]
  · simp -implicitDefEqProofs (maxSteps := 600000) (disch := (first | omega | decide)) only [go_sem, ↓reduceIte, Nat.reduceEqDiff, reduceCtorEq, Nat.reduceAdd, Nat.reduceSub, Nat.reduceMul, Nat.reduceLeDiff, Nat.reduceLT, Nat.reduceBEq, Nat.reduceBNe, Int.reduceLE, Int.reduceLT, Int.reduceBEq, Int.reduceBNe, Int.reduceEq, Int.reduceNe, Int.reduceAdd, Int.reduceSub, Int.reduceMul, Int.reduceNeg, Int.reduceToNat, h1, rightV]
noncomputable def T12a : Tab := T12z.add 36 (entry (fun (v : Int × Int) => [.agg [.int .i64 v.1, .int .i64 v.2]]) (fun v => True) (fun v => .bool (rightV ⟨v.1, v.2⟩)))
theorem T12a_ok : TabOK Try.prog T12a := T12z_ok.add (callable_of Try.func36 (by kernel_rfl) (by kernel_rfl)) (entry_ok fun v h => c_version_Right v.1 v.2)
@[go_sem] theorem T12a_old {g : FuncId} {xs : List A} (h : g ≠ 36) : T12a.f g xs = T12z.f g xs := Tab.add_ne h
@[go_sem] theorem T12a_eff {g : FuncId} : T12a.eff g = T12z.eff g := rfl
@[go_sem] theorem T12a_frz {g : FuncId} : T12a.frz g = T12z.frz g := rfl
@[go_sem] theorem T12a_effT : T12a.effT = T12z.effT := rfl
@[go_sem] theorem T12a_fix : T12a.fix = T12z.fix := rfl
@[go_sem] theorem T12a_nf : T12a.nf = T12z.nf := rfl
@[go_sem] theorem T12a_ords {n : Nat} : T12a.ords n = T12z.ords n := rfl
@[go_sem] theorem T12a_hp : T12a.hp = T12z.hp := rfl
theorem T12a_version_Right (v : Int × Int) (h : True) : T12a.f 36 [.agg [.int .i64 v.1, .int .i64 v.2]] = some (.bool (rightV ⟨v.1, v.2⟩)) :=
  (Tab.add_eq : T12a.f 36 [.agg [.int .i64 v.1, .int .i64 v.2]] = (entry (fun (v : Int × Int) => [.agg [.int .i64 v.1, .int .i64 v.2]]) (fun v => True) (fun v => .bool (rightV ⟨v.1, v.2⟩))) [.agg [.int .i64 v.1, .int .i64 v.2]]).trans (entry_eq (fun i j h => by first | (cases i; cases j; rfl; done) | simpa [Prod.ext_iff, and_assoc] using h | (simp at h; omega)) v h)
noncomputable def T12b : Tab := T12a.add 38 (entry (fun (v : Int × Int) => [.agg [.int .i64 v.1, .int .i64 v.2]]) (fun v => True) (fun v => .bool (rightV ⟨v.1, v.2⟩)))
theorem T12b_ok : TabOK Try.prog T12b := T12a_ok.add (callable_of Try.func38 (by kernel_rfl) (by kernel_rfl)) (entry_ok fun v h => c_ref12_Right v.1 v.2)
@[go_sem] theorem T12b_old {g : FuncId} {xs : List A} (h : g ≠ 38) : T12b.f g xs = T12a.f g xs := Tab.add_ne h
@[go_sem] theorem T12b_eff {g : FuncId} : T12b.eff g = T12a.eff g := rfl
@[go_sem] theorem T12b_frz {g : FuncId} : T12b.frz g = T12a.frz g := rfl
@[go_sem] theorem T12b_effT : T12b.effT = T12a.effT := rfl
@[go_sem] theorem T12b_fix : T12b.fix = T12a.fix := rfl
@[go_sem] theorem T12b_nf : T12b.nf = T12a.nf := rfl
@[go_sem] theorem T12b_ords {n : Nat} : T12b.ords n = T12a.ords n := rfl
@[go_sem] theorem T12b_hp : T12b.hp = T12a.hp := rfl
theorem T12b_ref12_Right (v : Int × Int) (h : True) : T12b.f 38 [.agg [.int .i64 v.1, .int .i64 v.2]] = some (.bool (rightV ⟨v.1, v.2⟩)) :=
  (Tab.add_eq : T12b.f 38 [.agg [.int .i64 v.1, .int .i64 v.2]] = (entry (fun (v : Int × Int) => [.agg [.int .i64 v.1, .int .i64 v.2]]) (fun v => True) (fun v => .bool (rightV ⟨v.1, v.2⟩))) [.agg [.int .i64 v.1, .int .i64 v.2]]).trans (entry_eq (fun i j h => by first | (cases i; cases j; rfl; done) | simpa [Prod.ext_iff, and_assoc] using h | (simp at h; omega)) v h)
noncomputable def T12c : Tab := T12b
theorem T12c_ok : TabOK Try.prog T12c := T12b_ok
@[go_sem] theorem T12c_old {g : FuncId} {xs : List A} : T12c.f g xs = T12b.f g xs := rfl
@[go_sem] theorem T12c_eff {g : FuncId} : T12c.eff g = T12b.eff g := rfl
@[go_sem] theorem T12c_frz {g : FuncId} : T12c.frz g = T12b.frz g := rfl
@[go_sem] theorem T12c_effT : T12c.effT = T12b.effT := rfl
@[go_sem] theorem T12c_fix : T12c.fix = T12b.fix := rfl
@[go_sem] theorem T12c_nf : T12c.nf = T12b.nf := rfl
@[go_sem] theorem T12c_ords {n : Nat} : T12c.ords n = T12b.ords n := rfl
@[go_sem] theorem T12c_hp : T12c.hp = T12b.hp := rfl
noncomputable def T12d : Tab := T12c
theorem T12d_ok : TabOK Try.prog T12d := T12c_ok
@[go_sem] theorem T12d_old {g : FuncId} {xs : List A} : T12d.f g xs = T12c.f g xs := rfl
@[go_sem] theorem T12d_eff {g : FuncId} : T12d.eff g = T12c.eff g := rfl
@[go_sem] theorem T12d_frz {g : FuncId} : T12d.frz g = T12c.frz g := rfl
@[go_sem] theorem T12d_effT : T12d.effT = T12c.effT := rfl
@[go_sem] theorem T12d_fix : T12d.fix = T12c.fix := rfl
@[go_sem] theorem T12d_nf : T12d.nf = T12c.nf := rfl
@[go_sem] theorem T12d_ords {n : Nat} : T12d.ords n = T12c.ords n := rfl
@[go_sem] theorem T12d_hp : T12d.hp = T12c.hp := rfl
@[go_sem] theorem t_version_Right {r c : Int} : T12a.f 36 [.agg [.int .i64 r, .int .i64 c]] = some (.bool (rightV ⟨r, c⟩)) := T12a_version_Right (r, c) trivial
@[go_sem] theorem t_ref12_Right {r c : Int} : T12b.f 38 [.agg [.int .i64 r, .int .i64 c]] = some (.bool (rightV ⟨r, c⟩)) := T12b_ref12_Right (r, c) trivial
/-- Decimal digits. -/
def digD (n : Nat) : UInt8 := UInt8.ofNat (48 + n % 10)
def digN (n : Nat) : List UInt8 := if h : n < 10 then [digD n] else digN (n / 10) ++ [digD n]
termination_by n
decreasing_by omega
theorem digN_small {n : Nat} (h : n < 10) : digN n = [digD n] := by rw [digN, dif_pos h]
theorem digN_step {n : Nat} (h : ¬ n < 10) : digN n = digN (n / 10) ++ [digD n] := by rw [digN, dif_neg h]
theorem digN_len (n : Nat) : (digN n).length ≤ n + 1 := by
  induction n using Nat.strongRecOn with
  | _ n ih =>
    by_cases h : n < 10
    · rw [digN_small h]; simp
    · rw [digN_step h, List.length_append]
      have := ih (n / 10) (by omega)
      simp; omega
theorem digD_val {n : Nat} : ((digD n).toNat : Int) = 48 + (n % 10 : Nat) := by
  unfold digD
  rw [UInt8.toNat_ofNat']
  omega
noncomputable def T12e : Tab := T12d
theorem T12e_ok : TabOK Try.prog T12e := T12d_ok
@[go_sem] theorem T12e_old {g : FuncId} {xs : List A} : T12e.f g xs = T12d.f g xs := rfl
@[go_sem] theorem T12e_eff {g : FuncId} : T12e.eff g = T12d.eff g := rfl
@[go_sem] theorem T12e_frz {g : FuncId} : T12e.frz g = T12d.frz g := rfl
@[go_sem] theorem T12e_effT : T12e.effT = T12d.effT := rfl
@[go_sem] theorem T12e_fix : T12e.fix = T12d.fix := rfl
@[go_sem] theorem T12e_nf : T12e.nf = T12d.nf := rfl
@[go_sem] theorem T12e_ords {n : Nat} : T12e.ords n = T12d.ords n := rfl
@[go_sem] theorem T12e_hp : T12e.hp = T12d.hp := rfl
end Go.Proofs.Ytbnmicpgbcfooaa
