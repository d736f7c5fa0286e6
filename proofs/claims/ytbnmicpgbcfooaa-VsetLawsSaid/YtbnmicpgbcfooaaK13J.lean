/- Chapter 13: how many counts; base and greatest; some counts more. -/
import Derived.Test.YtbnmicpgbcfooaaK13G
import Derived.Test.YtbnmicpgbcfooaaK13S
namespace Go.Proofs.Ytbnmicpgbcfooaa
open Go.Abs
set_option linter.unusedSimpArgs false
set_option linter.unusedVariables false
set_option maxRecDepth 20000
set_option maxHeartbeats 8000000

noncomputable def T13u : Tab := T13g.add 52 (entry (fun (l : List Run) => [.slc (l.map Run.enc)]) (fun l => l.length ≤ 4398046511104) (fun l => .slc ((setR (hasL13 l)).map Run.enc)))
theorem T13u_ok : TabOK Try.prog T13u := T13g_ok.add (callable_of Try.func52 (by kernel_rfl) (by kernel_rfl)) (entry_ok fun l h => c_counts_Of l h)
@[go_sem] theorem T13u_old {g : FuncId} {xs : List A} (h : g ≠ 52) : T13u.f g xs = T13g.f g xs := Tab.add_ne h
@[go_sem] theorem T13u_eff {g : FuncId} : T13u.eff g = T13g.eff g := rfl
@[go_sem] theorem T13u_frz {g : FuncId} : T13u.frz g = T13g.frz g := rfl
@[go_sem] theorem T13u_effT : T13u.effT = T13g.effT := rfl
@[go_sem] theorem T13u_fix : T13u.fix = T13g.fix := rfl
@[go_sem] theorem T13u_nf : T13u.nf = T13g.nf := rfl
@[go_sem] theorem T13u_ords {n : Nat} : T13u.ords n = T13g.ords n := rfl
@[go_sem] theorem T13u_hp : T13u.hp = T13g.hp := rfl
theorem T13u_counts_Of (l : List Run) (h : l.length ≤ 4398046511104) : T13u.f 52 [.slc (l.map Run.enc)] = some (.slc ((setR (hasL13 l)).map Run.enc)) :=
  (Tab.add_eq : T13u.f 52 [.slc (l.map Run.enc)] = (entry (fun (l : List Run) => [.slc (l.map Run.enc)]) (fun l => l.length ≤ 4398046511104) (fun l => .slc ((setR (hasL13 l)).map Run.enc))) [.slc (l.map Run.enc)]).trans (entry_eq (fun i j h => by first | (cases i; cases j; rfl; done) | simpa [Prod.ext_iff, and_assoc] using h | (simp at h; omega)) l h)
@[go_sem] theorem u_counts_Of {l : List Run} (h : l.length ≤ 4398046511104) : T13u.f 52 [.slc (l.map Run.enc)] = some (.slc ((setR (hasL13 l)).map Run.enc)) := T13u_counts_Of l h
def baseR (l : List Run) : Int := match l with | [] => 0 | r :: _ => if r.f = 1 then r.t else 0
def mostR (l : List Run) : Int := match l.getLast? with | none => 0 | some r => r.t
theorem ok_counts_Base : codeOK Try.prog T13u Try.f30.ntmps (Try.f30.body.getD .skip) = true := by kernel_rfl
theorem c_counts_Base (l : List Run) (hl : l.length ≤ 4398046511104) : CallA Try.prog 30 [.slc (l.map Run.enc)] (· = .int .i64 (baseR (setR (hasL13 l)))) := by
  refine callA_of_body T13u_ok mixed Try.func30 rfl (Nat.le_of_ble_eq_true rfl) ok_counts_Base ?_
  unfold Try.f30
  have hu := @u_counts_Of l hl
  have hr := setR_right (hasL13 l)
  generalize setR (hasL13 l) = s at *
  cases s with
  | nil => simp -implicitDefEqProofs (maxSteps := 600000) (disch := (first | omega | decide)) only [go_sem, ↓reduceIte, Nat.reduceEqDiff, reduceCtorEq, Nat.reduceAdd, Nat.reduceSub, Nat.reduceMul, Nat.reduceLeDiff, Nat.reduceLT, Nat.reduceBEq, Nat.reduceBNe, Int.reduceLE, Int.reduceLT, Int.reduceBEq, Int.reduceBNe, Int.reduceEq, Int.reduceNe, Int.reduceAdd, Int.reduceSub, Int.reduceMul, Int.reduceNeg, Int.reduceToNat, hu, baseR, List.length_map]
  | cons r rs =>
    obtain ⟨f, t⟩ := r
    have c0 : (0 : Int) < ((rs.length + 1 : Nat) : Int) := by omega
    cases h : (f == 1) with
    | true =>
      have h' : f = 1 := by simpa using h
      subst h'
      simp -implicitDefEqProofs (maxSteps := 600000) (disch := (first | omega | decide)) only [go_sem, ↓reduceIte, Nat.reduceEqDiff, reduceCtorEq, Nat.reduceAdd, Nat.reduceSub, Nat.reduceMul, Nat.reduceLeDiff, Nat.reduceLT, Nat.reduceBEq, Nat.reduceBNe, Int.reduceLE, Int.reduceLT, Int.reduceBEq, Int.reduceBNe, Int.reduceEq, Int.reduceNe, Int.reduceAdd, Int.reduceSub, Int.reduceMul, Int.reduceNeg, Int.reduceToNat, hu, baseR, c0, List.length_map]
    | false =>
      have h' : f ≠ 1 := by simpa using h
      simp -implicitDefEqProofs (maxSteps := 600000) (disch := (first | omega | decide)) only [go_sem, ↓reduceIte, Nat.reduceEqDiff, reduceCtorEq, Nat.reduceAdd, Nat.reduceSub, Nat.reduceMul, Nat.reduceLeDiff, Nat.reduceLT, Nat.reduceBEq, Nat.reduceBNe, Int.reduceLE, Int.reduceLT, Int.reduceBEq, Int.reduceBNe, Int.reduceEq, Int.reduceNe, Int.reduceAdd, Int.reduceSub, Int.reduceMul, Int.reduceNeg, Int.reduceToNat, hu, baseR, c0, h, h', List.length_map]
theorem ok_counts_Most : codeOK Try.prog T13u Try.f33.ntmps (Try.f33.body.getD .skip) = true := by kernel_rfl
theorem c_counts_Most (l : List Run) (hl : l.length ≤ 4398046511104) : CallA Try.prog 33 [.slc (l.map Run.enc)] (· = .int .i64 (mostR (setR (hasL13 l)))) := by
  refine callA_of_body T13u_ok mixed Try.func33 rfl (Nat.le_of_ble_eq_true rfl) ok_counts_Most ?_
  unfold Try.f33
  have hu := @u_counts_Of l hl
  have hn : (setR (hasL13 l)).length ≤ 1099511627776 := of_len' (setR_right (hasL13 l))
  generalize setR (hasL13 l) = s at *
  rcases List.eq_nil_or_concat s with rfl | ⟨rs, r, rfl⟩
  · simp -implicitDefEqProofs (maxSteps := 600000) (disch := (first | omega | decide)) only [go_sem, ↓reduceIte, Nat.reduceEqDiff, reduceCtorEq, Nat.reduceAdd, Nat.reduceSub, Nat.reduceMul, Nat.reduceLeDiff, Nat.reduceLT, Nat.reduceBEq, Nat.reduceBNe, Int.reduceLE, Int.reduceLT, Int.reduceBEq, Int.reduceBNe, Int.reduceEq, Int.reduceNe, Int.reduceAdd, Int.reduceSub, Int.reduceMul, Int.reduceNeg, Int.reduceToNat, hu, mostR, List.length_map, List.getLast?_nil]
  · rw [List.concat_eq_append] at *
    obtain ⟨f, t⟩ := r
    have hm : (rs ++ [(⟨f, t⟩ : Run)]).map Run.enc = rs.map Run.enc ++ [.agg [.int .i64 f, .int .i64 t]] := by simp [Run.enc, Run.cells]
    have hl1 : (rs.map Run.enc ++ [A.agg [.int .i64 f, .int .i64 t]]).length = rs.length + 1 := by simp
    have hv : mostR (rs ++ [⟨f, t⟩]) = t := by simp [mostR]
    rw [hm] at hu
    rw [hv]
    have c0 : (0 : Int) < ((rs.length + 1 : Nat) : Int) := by omega
    have c1 : (((rs.length + 1 : Nat) : Int) - 1).toNat = rs.length := by omega
    have c2 : (0 : Int) ≤ ((rs.length + 1 : Nat) : Int) - 1 := by omega
    have g1 : (rs.map Run.enc ++ [A.agg [.int .i64 f, .int .i64 t]])[rs.length]? = some (.agg [.int .i64 f, .int .i64 t]) := by
      have := get_last (x := A.agg [.int .i64 f, .int .i64 t]) (l := rs.map Run.enc)
      rwa [List.length_map] at this
    simp only [List.length_append, List.length_singleton] at hn
    simp -implicitDefEqProofs (maxSteps := 600000) (disch := (first | omega | decide)) only [go_sem, ↓reduceIte, Nat.reduceEqDiff, reduceCtorEq, Nat.reduceAdd, Nat.reduceSub, Nat.reduceMul, Nat.reduceLeDiff, Nat.reduceLT, Nat.reduceBEq, Nat.reduceBNe, Int.reduceLE, Int.reduceLT, Int.reduceBEq, Int.reduceBNe, Int.reduceEq, Int.reduceNe, Int.reduceAdd, Int.reduceSub, Int.reduceMul, Int.reduceNeg, Int.reduceToNat, hu, hl1, c0, c1, c2, g1, wrap_i64, List.length_map]
end Go.Proofs.Ytbnmicpgbcfooaa
