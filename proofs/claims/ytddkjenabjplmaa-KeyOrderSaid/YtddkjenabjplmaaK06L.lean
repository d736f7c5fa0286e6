/- Chapter 06: the laws' own first test, and the laws. -/
import Derived.Test.YtddkjenabjplmaaK06C
namespace Go.Proofs.Ytddkjenabjplmaa
open Go.Abs
set_option linter.unusedSimpArgs false
set_option linter.unusedVariables false
set_option maxRecDepth 20000
set_option maxHeartbeats 40000000

theorem ok_law06_awake : codeOK Try.prog T06e Try.f10.ntmps (Try.f10.body.getD .skip) = true := by kernel_rfl
theorem c_law06_awake : CallA Try.prog 10 [] (· = .bool true) := by
  refine callA_of_body T06e_ok mixed Try.func10 rfl (Nat.le_of_ble_eq_true rfl) ok_law06_awake ?_
  unfold Try.f10
  have e0 : endB [97, 255] = some [98] := by rfl
  have e3 : cmpB [97] [97, 98] = -1 := rfl
  simp -implicitDefEqProofs (maxSteps := 600000) (disch := (first | omega | decide)) only [go_sem, ↓reduceIte, Nat.reduceEqDiff, reduceCtorEq, Nat.reduceAdd, Nat.reduceSub, Nat.reduceMul, Nat.reduceLeDiff, Nat.reduceLT, Nat.reduceBEq, Nat.reduceBNe, Int.reduceLE, Int.reduceLT, Int.reduceBEq, Int.reduceBNe, Int.reduceEq, Int.reduceNe, Int.reduceAdd, Int.reduceSub, Int.reduceMul, Int.reduceNeg, Int.reduceToNat, e0, endA, e3, List.length_cons, List.length_nil, List.cons_append, List.nil_append, decide_eq_true_eq, List.beq_cons_cons]
noncomputable def T06 : Tab := T06l.add 10 (entry (fun (u : Unit) => []) (fun u => True) (fun u => .bool true))
theorem T06_ok : TabOK Try.prog T06 := T06l_ok.add (callable_of Try.func10 (by kernel_rfl) (by kernel_rfl)) (entry_ok fun u h => c_law06_awake)
@[go_sem] theorem T06_old {g : FuncId} {xs : List A} (h : g ≠ 10) : T06.f g xs = T06l.f g xs := Tab.add_ne h
@[go_sem] theorem T06_eff {g : FuncId} : T06.eff g = T06l.eff g := rfl
@[go_sem] theorem T06_frz {g : FuncId} : T06.frz g = T06l.frz g := rfl
@[go_sem] theorem T06_effT : T06.effT = T06l.effT := rfl
@[go_sem] theorem T06_fix : T06.fix = T06l.fix := rfl
@[go_sem] theorem T06_nf : T06.nf = T06l.nf := rfl
@[go_sem] theorem T06_hp : T06.hp = T06l.hp := rfl
theorem T06_law06_awake (u : Unit) (h : True) : T06.f 10 [] = some (.bool true) :=
  (Tab.add_eq : T06.f 10 [] = (entry (fun (u : Unit) => []) (fun u => True) (fun u => .bool true)) []).trans (entry_eq (fun i j h => by first | (cases i; cases j; rfl; done) | simpa [Prod.ext_iff, and_assoc] using h) u h)
@[go_sem] theorem t_law06_awake : T06.f 10 [] = some (.bool true) := T06_law06_awake () trivial

theorem ok_law06_KeyTotal : codeOK Try.prog T06 Try.f4.ntmps (Try.f4.body.getD .skip) = true := by kernel_rfl
theorem c_law06_KeyTotal (a b c : List UInt8) (ha : a.length ≤ 9223372036854775807) (hb : b.length ≤ 9223372036854775807) (hc : c.length ≤ 9223372036854775807) : CallA Try.prog 4 [.str a, .str b, .str c] (· = .bool true) := by
  refine callA_of_body T06_ok mixed Try.func4 rfl (Nat.le_of_ble_eq_true rfl) ok_law06_KeyTotal ?_
  unfold Try.f4
  by_cases h1 : (300 : Int) < a.length
  · simp -implicitDefEqProofs (maxSteps := 600000) (disch := (first | omega | decide)) only [go_sem, ↓reduceIte, Nat.reduceEqDiff, reduceCtorEq, Nat.reduceAdd, Nat.reduceSub, Nat.reduceMul, Nat.reduceLeDiff, Nat.reduceLT, Nat.reduceBEq, Nat.reduceBNe, Int.reduceLE, Int.reduceLT, Int.reduceBEq, Int.reduceBNe, Int.reduceEq, Int.reduceNe, Int.reduceAdd, Int.reduceSub, Int.reduceMul, Int.reduceNeg, Int.reduceToNat, h1]
  by_cases h2 : (300 : Int) < b.length
  · simp -implicitDefEqProofs (maxSteps := 600000) (disch := (first | omega | decide)) only [go_sem, ↓reduceIte, Nat.reduceEqDiff, reduceCtorEq, Nat.reduceAdd, Nat.reduceSub, Nat.reduceMul, Nat.reduceLeDiff, Nat.reduceLT, Nat.reduceBEq, Nat.reduceBNe, Int.reduceLE, Int.reduceLT, Int.reduceBEq, Int.reduceBNe, Int.reduceEq, Int.reduceNe, Int.reduceAdd, Int.reduceSub, Int.reduceMul, Int.reduceNeg, Int.reduceToNat, h1, h2]
  by_cases h3 : (300 : Int) < c.length
  · simp -implicitDefEqProofs (maxSteps := 600000) (disch := (first | omega | decide)) only [go_sem, ↓reduceIte, Nat.reduceEqDiff, reduceCtorEq, Nat.reduceAdd, Nat.reduceSub, Nat.reduceMul, Nat.reduceLeDiff, Nat.reduceLT, Nat.reduceBEq, Nat.reduceBNe, Int.reduceLE, Int.reduceLT, Int.reduceBEq, Int.reduceBNe, Int.reduceEq, Int.reduceNe, Int.reduceAdd, Int.reduceSub, Int.reduceMul, Int.reduceNeg, Int.reduceToNat, h1, h2, h3]
  have good := cmp3 a b c
  rcases cmp_cases a b with hx | hx | hx <;> rcases cmp_cases b c with hy | hy | hy <;> rcases cmp_cases a c with hz | hz | hz <;> rw [hx, hy, hz] at good <;> first
    | (exfalso; revert good; decide)
    | simp -implicitDefEqProofs (maxSteps := 600000) (disch := (first | omega | decide)) only [go_sem, ↓reduceIte, Nat.reduceEqDiff, reduceCtorEq, Nat.reduceAdd, Nat.reduceSub, Nat.reduceMul, Nat.reduceLeDiff, Nat.reduceLT, Nat.reduceBEq, Nat.reduceBNe, Int.reduceLE, Int.reduceLT, Int.reduceBEq, Int.reduceBNe, Int.reduceEq, Int.reduceNe, Int.reduceAdd, Int.reduceSub, Int.reduceMul, Int.reduceNeg, Int.reduceToNat, h1, h2, h3, hx, hy, hz, wrap_i64]

theorem ok_law06_KeyOrder : codeOK Try.prog T06 Try.f5.ntmps (Try.f5.body.getD .skip) = true := by kernel_rfl
theorem c_law06_KeyOrder (a b : List UInt8) (ha : a.length ≤ 9223372036854775807) (hb : b.length ≤ 9223372036854775807) : CallA Try.prog 5 [.str a, .str b] (· = .bool true) := by
  refine callA_of_body T06_ok mixed Try.func5 rfl (Nat.le_of_ble_eq_true rfl) ok_law06_KeyOrder ?_
  unfold Try.f5
  by_cases h1 : (300 : Int) < a.length
  · simp -implicitDefEqProofs (maxSteps := 600000) (disch := (first | omega | decide)) only [go_sem, ↓reduceIte, Nat.reduceEqDiff, reduceCtorEq, Nat.reduceAdd, Nat.reduceSub, Nat.reduceMul, Nat.reduceLeDiff, Nat.reduceLT, Nat.reduceBEq, Nat.reduceBNe, Int.reduceLE, Int.reduceLT, Int.reduceBEq, Int.reduceBNe, Int.reduceEq, Int.reduceNe, Int.reduceAdd, Int.reduceSub, Int.reduceMul, Int.reduceNeg, Int.reduceToNat, h1]
  by_cases h2 : (300 : Int) < b.length
  · simp -implicitDefEqProofs (maxSteps := 600000) (disch := (first | omega | decide)) only [go_sem, ↓reduceIte, Nat.reduceEqDiff, reduceCtorEq, Nat.reduceAdd, Nat.reduceSub, Nat.reduceMul, Nat.reduceLeDiff, Nat.reduceLT, Nat.reduceBEq, Nat.reduceBNe, Int.reduceLE, Int.reduceLT, Int.reduceBEq, Int.reduceBNe, Int.reduceEq, Int.reduceNe, Int.reduceAdd, Int.reduceSub, Int.reduceMul, Int.reduceNeg, Int.reduceToNat, h1, h2]
  have hn := cmp_neg a b
  have h17 : (decide (a.length ≤ 17) == decide ((a.length : Int) ≤ 17)) = true := by
    rw [beq_iff_eq]; apply decide_eq_decide.2; omega
  rcases lt_tri a b with h | h | h
  · have e1 := cmp_of_lt h
    have e2 : cmpB b a = 1 := by rw [hn, e1]; rfl
    have e3 : (a == b) = false := by
      rw [beq_eq_false_iff_ne]; intro e; subst e; rw [cmp_self] at e1; cases e1
    simp -implicitDefEqProofs (maxSteps := 600000) (disch := (first | omega | decide)) only [go_sem, ↓reduceIte, Nat.reduceEqDiff, reduceCtorEq, Nat.reduceAdd, Nat.reduceSub, Nat.reduceMul, Nat.reduceLeDiff, Nat.reduceLT, Nat.reduceBEq, Nat.reduceBNe, Int.reduceLE, Int.reduceLT, Int.reduceBEq, Int.reduceBNe, Int.reduceEq, Int.reduceNe, Int.reduceAdd, Int.reduceSub, Int.reduceMul, Int.reduceNeg, Int.reduceToNat, h1, h2, e1, e2, e3, h17, wrap_i64]
  · subst h
    have e1 := cmp_self a
    simp -implicitDefEqProofs (maxSteps := 600000) (disch := (first | omega | decide)) only [go_sem, ↓reduceIte, Nat.reduceEqDiff, reduceCtorEq, Nat.reduceAdd, Nat.reduceSub, Nat.reduceMul, Nat.reduceLeDiff, Nat.reduceLT, Nat.reduceBEq, Nat.reduceBNe, Int.reduceLE, Int.reduceLT, Int.reduceBEq, Int.reduceBNe, Int.reduceEq, Int.reduceNe, Int.reduceAdd, Int.reduceSub, Int.reduceMul, Int.reduceNeg, Int.reduceToNat, h1, h2, e1, h17, wrap_i64]
  · have e2 := cmp_of_lt h
    have e1 := cmp_of_gt h
    have e3 : (a == b) = false := by
      rw [beq_eq_false_iff_ne]; intro e; subst e; rw [cmp_self] at e1; cases e1
    simp -implicitDefEqProofs (maxSteps := 600000) (disch := (first | omega | decide)) only [go_sem, ↓reduceIte, Nat.reduceEqDiff, reduceCtorEq, Nat.reduceAdd, Nat.reduceSub, Nat.reduceMul, Nat.reduceLeDiff, Nat.reduceLT, Nat.reduceBEq, Nat.reduceBNe, Int.reduceLE, Int.reduceLT, Int.reduceBEq, Int.reduceBNe, Int.reduceEq, Int.reduceNe, Int.reduceAdd, Int.reduceSub, Int.reduceMul, Int.reduceNeg, Int.reduceToNat, h1, h2, e1, e2, e3, h17, wrap_i64]

theorem ok_law06_KeyNext : codeOK Try.prog T06 Try.f3.ntmps (Try.f3.body.getD .skip) = true := by kernel_rfl
theorem c_law06_KeyNext (s t : List UInt8) (hs : s.length ≤ 9223372036854775807) (ht : t.length ≤ 9223372036854775807) : CallA Try.prog 3 [.str s, .str t] (· = .bool true) := by
  refine callA_of_body T06_ok mixed Try.func3 rfl (Nat.le_of_ble_eq_true rfl) ok_law06_KeyNext ?_
  unfold Try.f3
  by_cases h1 : (300 : Int) < s.length
  · simp -implicitDefEqProofs (maxSteps := 600000) (disch := (first | omega | decide)) only [go_sem, ↓reduceIte, Nat.reduceEqDiff, reduceCtorEq, Nat.reduceAdd, Nat.reduceSub, Nat.reduceMul, Nat.reduceLeDiff, Nat.reduceLT, Nat.reduceBEq, Nat.reduceBNe, Int.reduceLE, Int.reduceLT, Int.reduceBEq, Int.reduceBNe, Int.reduceEq, Int.reduceNe, Int.reduceAdd, Int.reduceSub, Int.reduceMul, Int.reduceNeg, Int.reduceToNat, h1]
  by_cases h2 : (300 : Int) < t.length
  · simp -implicitDefEqProofs (maxSteps := 600000) (disch := (first | omega | decide)) only [go_sem, ↓reduceIte, Nat.reduceEqDiff, reduceCtorEq, Nat.reduceAdd, Nat.reduceSub, Nat.reduceMul, Nat.reduceLeDiff, Nat.reduceLT, Nat.reduceBEq, Nat.reduceBNe, Int.reduceLE, Int.reduceLT, Int.reduceBEq, Int.reduceBNe, Int.reduceEq, Int.reduceNe, Int.reduceAdd, Int.reduceSub, Int.reduceMul, Int.reduceNeg, Int.reduceToNat, h1, h2]
  have e1 : (cmpB s (s ++ [0]) == -1) = true := lt_next s
  have hl : (s ++ [0]).length ≤ 9223372036854775807 := by simp; omega
  have hin := end_in s t
  rw [← endB_eq] at hin
  have helen : ∀ e, endB s = some e → e.length ≤ 9223372036854775807 := fun e he => by
    unfold endB at he
    split at he
    · cases he
    · obtain rfl := Option.some.inj he
      rw [List.length_append, List.length_take]; simp; omega
  have key : ∀ (x : Bool), (cmpB s t == -1) = x → (x = true → (cmpB t (s ++ [0]) == -1) = false) := fun x hx h => by
    subst h; exact next_least hx
  cases he : endB s with
  | none =>
    rw [he] at hin
    cases hb : beginsB t s <;> rw [hb] at hin <;> cases hlt : (cmpB s t == -1) <;> cases hts : (cmpB t s == -1) <;> first
      | (exfalso; rw [show ltB t s = (cmpB t s == -1) from rfl, hts] at hin; simp at hin; done)
      | (have hk := key _ hlt rfl
         simp -implicitDefEqProofs (maxSteps := 600000) (disch := (first | omega | decide)) only [go_sem, ↓reduceIte, Nat.reduceEqDiff, reduceCtorEq, Nat.reduceAdd, Nat.reduceSub, Nat.reduceMul, Nat.reduceLeDiff, Nat.reduceLT, Nat.reduceBEq, Nat.reduceBNe, Int.reduceLE, Int.reduceLT, Int.reduceBEq, Int.reduceBNe, Int.reduceEq, Int.reduceNe, Int.reduceAdd, Int.reduceSub, Int.reduceMul, Int.reduceNeg, Int.reduceToNat, h1, h2, e1, hl, hlt, hk, hts, hb, he, endA, wrap_i64])
      | simp -implicitDefEqProofs (maxSteps := 600000) (disch := (first | omega | decide)) only [go_sem, ↓reduceIte, Nat.reduceEqDiff, reduceCtorEq, Nat.reduceAdd, Nat.reduceSub, Nat.reduceMul, Nat.reduceLeDiff, Nat.reduceLT, Nat.reduceBEq, Nat.reduceBNe, Int.reduceLE, Int.reduceLT, Int.reduceBEq, Int.reduceBNe, Int.reduceEq, Int.reduceNe, Int.reduceAdd, Int.reduceSub, Int.reduceMul, Int.reduceNeg, Int.reduceToNat, h1, h2, e1, hl, hlt, hts, hb, he, endA, wrap_i64]
  | some e =>
    rw [he] at hin
    have hel := helen e he
    simp only [Option.isNone_some, Bool.false_or, Option.getD_some] at hin
    rw [show ltB t s = (cmpB t s == -1) from rfl, show ltB t e = (cmpB t e == -1) from rfl] at hin
    have hee : (e != e) = false := by simp
    cases hb : beginsB t s <;> rw [hb] at hin <;> cases hlt : (cmpB s t == -1) <;> cases hts : (cmpB t s == -1) <;> rw [hts] at hin <;> cases hte : (cmpB t e == -1) <;> rw [hte] at hin <;> first
      | (exfalso; simp at hin; done)
      | (have hk := key _ hlt rfl
         simp -implicitDefEqProofs (maxSteps := 600000) (disch := (first | omega | decide)) only [go_sem, ↓reduceIte, Nat.reduceEqDiff, reduceCtorEq, Nat.reduceAdd, Nat.reduceSub, Nat.reduceMul, Nat.reduceLeDiff, Nat.reduceLT, Nat.reduceBEq, Nat.reduceBNe, Int.reduceLE, Int.reduceLT, Int.reduceBEq, Int.reduceBNe, Int.reduceEq, Int.reduceNe, Int.reduceAdd, Int.reduceSub, Int.reduceMul, Int.reduceNeg, Int.reduceToNat, h1, h2, e1, hl, hel, hlt, hk, hts, hte, hb, he, hee, endA, wrap_i64])
      | simp -implicitDefEqProofs (maxSteps := 600000) (disch := (first | omega | decide)) only [go_sem, ↓reduceIte, Nat.reduceEqDiff, reduceCtorEq, Nat.reduceAdd, Nat.reduceSub, Nat.reduceMul, Nat.reduceLeDiff, Nat.reduceLT, Nat.reduceBEq, Nat.reduceBNe, Int.reduceLE, Int.reduceLT, Int.reduceBEq, Int.reduceBNe, Int.reduceEq, Int.reduceNe, Int.reduceAdd, Int.reduceSub, Int.reduceMul, Int.reduceNeg, Int.reduceToNat, h1, h2, e1, hl, hel, hlt, hts, hte, hb, he, hee, endA, wrap_i64]
end Go.Proofs.Ytddkjenabjplmaa
