/- Chapter 06: the laws' own first test, and KeyTotal. -/
import Derived.Test.YtddkjenabjplmaaKA
namespace Go.Proofs.Ytddkjenabjplmaa
open Go.Abs
set_option linter.unusedSimpArgs false
set_option linter.unusedVariables false
set_option maxRecDepth 20000
set_option maxHeartbeats 40000000

theorem end_awake : endB [97, 255] = .tup [.str [98], .bool true] := by rfl
theorem ok10 : codeOK Try.prog Try.f10.ntmps (Try.f10.body.getD .skip) = true := by kernel_rfl
theorem c10 : CallA Try.prog 10 [] (· = .bool true) := by
  refine callA_of_body tab1 mixed Try.func10 rfl (Nat.le_of_ble_eq_true rfl) ok10 ?_
  unfold Try.f10
  have e1 : (([97] ++ [0] : List UInt8) == [97, 0]) = true := rfl
  have e2 : (([98] : List UInt8) == [98]) = true := rfl
  have e3 : cmpB [97] [97, 98] = -1 := rfl
  have e4 : (-1 : Int) == -1 := rfl
  have l1 : ([97] : List UInt8).length < 9223372036854775807 := by decide
  have l2 : ([97, 255] : List UInt8).length ≤ 9223372036854775807 := by decide
  have l3 : ([107] : List UInt8).length < 9223372036854775807 := by decide
  have l4 : ([] : List UInt8).length < 9223372036854775807 := by decide
  have l5 : ([97] : List UInt8).length ≤ 9223372036854775807 := by decide
  have l6 : ([97, 98] : List UInt8).length ≤ 9223372036854775807 := by decide
  have r1 : decide (1 ≤ ([107] : List UInt8).length ∧ ([107] : List UInt8).length ≤ 16) = true := by decide
  have r2 : decide (1 ≤ ([] : List UInt8).length ∧ ([] : List UInt8).length ≤ 16) = false := by decide
  simp (maxSteps := 2000000) (disch := omega) only [go_sem, ↓reduceIte, Nat.reduceEqDiff, reduceCtorEq, Nat.reduceAdd, Nat.reduceSub, Nat.reduceLeDiff, Nat.reduceLT, Int.reduceLE, Int.reduceLT, Int.reduceBEq, Int.reduceBNe, Int.reduceAdd, Int.reduceSub, Int.reduceNeg, decide_true, decide_false, ne_eq, Nat.succ_ne_self, Nat.one_ne_zero, beq_true, beq_false, Nat.zero_add, Int.toNat_zero, List.drop_zero, Bool.not_true, Bool.not_false, Bool.false_eq_true, true_implies, false_implies, implies_true, not_true_eq_false, not_false_eq_true, and_true, true_and, and_self, ty9, Option.getD, end_awake, T1_11 l1, T1_13 l2, T1_17 l3, T1_17 l4, T1_16 l5 l6, e1, e2, e3, e4, r1, r2]

def T2 : Tab := fun f xs =>
  match f, xs with
  | 10, [] => some (.bool true)
  | f, xs => T1 f xs
theorem can10 : Callable Try.prog 10 := ⟨Try.f10, Try.func10, by kernel_rfl, by kernel_rfl⟩
theorem tab2 : TabOK Try.prog T2 := fun f xs r h => by
  unfold T2 at h
  split at h
  · obtain rfl := Option.some.inj h; exact ⟨can10, c10⟩
  · exact tab1 _ _ _ h
theorem T2_10 : T2 10 [] = some (.bool true) := rfl
theorem T2_16 {a b : List UInt8} (h : a.length ≤ 9223372036854775807) (h' : b.length ≤ 9223372036854775807) : T2 16 [.str a, .str b] = some (.int .i64 (cmpB a b)) := by simp [T2, T1_16 h h']

theorem cmp_cases : ∀ a b : List UInt8, cmpB a b = -1 ∨ cmpB a b = 0 ∨ cmpB a b = 1
  | [], [] => .inr (.inl rfl)
  | [], _ :: _ => .inl rfl
  | _ :: _, [] => .inr (.inr rfl)
  | a :: x, b :: y => by
    simp only [cmpB]
    split
    · exact .inl rfl
    · split
      · exact .inr (.inr rfl)
      · exact cmp_cases x y
/-- What the law says of three answers. -/
def good3 (x y z : Int) : Bool := !(decide (x ≤ 0) && decide (y ≤ 0) && decide (0 < z) || decide (0 ≤ x) && decide (0 ≤ y) && decide (z < 0)) &&
  ((decide (x < 0) || decide (y < 0) || z == 0 || decide (0 < x + y)) && (x != 0 || y == z))
theorem cmp3 : ∀ a b c : List UInt8, good3 (cmpB a b) (cmpB b c) (cmpB a c) = true
  | [], [], [] => rfl
  | [], [], _ :: _ => rfl
  | [], _ :: _, [] => rfl
  | [], b :: y, c :: z => by
    simp only [cmpB]
    split
    · rfl
    · split
      · rfl
      · rcases cmp_cases y z with h | h | h <;> rw [h] <;> rfl
  | _ :: _, [], [] => rfl
  | a :: x, [], c :: z => by
    simp only [cmpB]
    split
    · rfl
    · split
      · rfl
      · rcases cmp_cases x z with h | h | h <;> rw [h] <;> rfl
  | a :: x, b :: y, [] => by
    simp only [cmpB]
    split
    · rfl
    · split
      · rfl
      · rcases cmp_cases x y with h | h | h <;> rw [h] <;> rfl
  | a :: x, b :: y, c :: z => by
    simp only [cmpB]
    have ih := cmp3 x y z
    have t : ∀ u v : UInt8, (u < v) = (u.toNat < v.toNat) := fun u v => rfl
    simp only [t]
    by_cases h1 : a.toNat < b.toNat
    · by_cases h2 : b.toNat < c.toNat
      · rw [if_pos h1, if_pos h2, if_pos (by omega)]; rfl
      · rw [if_pos h1, if_neg h2]
        by_cases h3 : c.toNat < b.toNat
        · rw [if_pos h3]
          by_cases h4 : a.toNat < c.toNat
          · rw [if_pos h4]; rfl
          · rw [if_neg h4]
            by_cases h5 : c.toNat < a.toNat
            · rw [if_pos h5]; rfl
            · rw [if_neg h5]
              rcases cmp_cases x z with h | h | h <;> rw [h] <;> rfl
        · rw [if_neg h3, if_pos (by omega)]
          rcases cmp_cases y z with h | h | h <;> rw [h] <;> rfl
    · rw [if_neg h1]
      by_cases h1' : b.toNat < a.toNat
      · rw [if_pos h1']
        by_cases h2 : b.toNat < c.toNat
        · rw [if_pos h2]
          by_cases h4 : a.toNat < c.toNat
          · rw [if_pos h4]; rfl
          · rw [if_neg h4]
            by_cases h5 : c.toNat < a.toNat
            · rw [if_pos h5]; rfl
            · rw [if_neg h5]
              rcases cmp_cases x z with h | h | h <;> rw [h] <;> rfl
        · rw [if_neg h2]
          by_cases h3 : c.toNat < b.toNat
          · rw [if_pos h3, if_neg (by omega), if_pos (by omega)]; rfl
          · rw [if_neg h3, if_neg (by omega), if_pos (by omega)]
            rcases cmp_cases y z with h | h | h <;> rw [h] <;> rfl
      · rw [if_neg h1']
        by_cases h2 : b.toNat < c.toNat
        · rw [if_pos h2, if_pos (by omega)]
          rcases cmp_cases x y with h | h | h <;> rw [h] <;> rfl
        · rw [if_neg h2]
          by_cases h3 : c.toNat < b.toNat
          · rw [if_pos h3, if_neg (by omega), if_pos (by omega)]
            rcases cmp_cases x y with h | h | h <;> rw [h] <;> rfl
          · rw [if_neg h3, if_neg (by omega), if_neg (by omega)]
            exact ih

theorem ok4 : codeOK Try.prog Try.f4.ntmps (Try.f4.body.getD .skip) = true := by kernel_rfl
theorem c4 (a b c : List UInt8) (ha : a.length ≤ 9223372036854775807) (hb : b.length ≤ 9223372036854775807) (hc : c.length ≤ 9223372036854775807) : CallA Try.prog 4 [.str a, .str b, .str c] (· = .bool true) := by
  refine callA_of_body tab2 mixed Try.func4 rfl (Nat.le_of_ble_eq_true rfl) ok4 ?_
  unfold Try.f4
  by_cases h1 : (300 : Int) < a.length
  · simp (maxSteps := 2000000) (disch := omega) only [go_sem, ↓reduceIte, Nat.reduceEqDiff, reduceCtorEq, Nat.reduceAdd, Nat.reduceSub, Nat.reduceLeDiff, Nat.reduceLT, Int.reduceLE, Int.reduceLT, Int.reduceBEq, Int.reduceBNe, Int.reduceAdd, Int.reduceSub, Int.reduceNeg, decide_true, decide_false, ne_eq, Nat.succ_ne_self, Nat.one_ne_zero, beq_true, beq_false, Nat.zero_add, Int.toNat_zero, List.drop_zero, Bool.not_true, Bool.not_false, Bool.false_eq_true, true_implies, false_implies, implies_true, not_true_eq_false, not_false_eq_true, and_true, true_and, and_self, ty9, Option.getD, T2_10, h1]
  by_cases h2 : (300 : Int) < b.length
  · simp (maxSteps := 2000000) (disch := omega) only [go_sem, ↓reduceIte, Nat.reduceEqDiff, reduceCtorEq, Nat.reduceAdd, Nat.reduceSub, Nat.reduceLeDiff, Nat.reduceLT, Int.reduceLE, Int.reduceLT, Int.reduceBEq, Int.reduceBNe, Int.reduceAdd, Int.reduceSub, Int.reduceNeg, decide_true, decide_false, ne_eq, Nat.succ_ne_self, Nat.one_ne_zero, beq_true, beq_false, Nat.zero_add, Int.toNat_zero, List.drop_zero, Bool.not_true, Bool.not_false, Bool.false_eq_true, true_implies, false_implies, implies_true, not_true_eq_false, not_false_eq_true, and_true, true_and, and_self, ty9, Option.getD, T2_10, h1, h2]
  by_cases h3 : (300 : Int) < c.length
  · simp (maxSteps := 2000000) (disch := omega) only [go_sem, ↓reduceIte, Nat.reduceEqDiff, reduceCtorEq, Nat.reduceAdd, Nat.reduceSub, Nat.reduceLeDiff, Nat.reduceLT, Int.reduceLE, Int.reduceLT, Int.reduceBEq, Int.reduceBNe, Int.reduceAdd, Int.reduceSub, Int.reduceNeg, decide_true, decide_false, ne_eq, Nat.succ_ne_self, Nat.one_ne_zero, beq_true, beq_false, Nat.zero_add, Int.toNat_zero, List.drop_zero, Bool.not_true, Bool.not_false, Bool.false_eq_true, true_implies, false_implies, implies_true, not_true_eq_false, not_false_eq_true, and_true, true_and, and_self, ty9, Option.getD, T2_10, h1, h2, h3]
  have t1 := T2_16 ha hb
  have t2 := T2_16 hb hc
  have t3 := T2_16 ha hc
  have good := cmp3 a b c
  rcases cmp_cases a b with hx | hx | hx <;> rcases cmp_cases b c with hy | hy | hy <;> rcases cmp_cases a c with hz | hz | hz <;> rw [hx, hy, hz] at good <;> first
    | (exfalso; revert good; decide)
    | simp (maxSteps := 2000000) (disch := omega) only [go_sem, ↓reduceIte, Nat.reduceEqDiff, reduceCtorEq, Nat.reduceAdd, Nat.reduceSub, Nat.reduceLeDiff, Nat.reduceLT, Int.reduceLE, Int.reduceLT, Int.reduceBEq, Int.reduceBNe, Int.reduceAdd, Int.reduceSub, Int.reduceNeg, decide_true, decide_false, ne_eq, Nat.succ_ne_self, Nat.one_ne_zero, beq_true, beq_false, Nat.zero_add, Int.toNat_zero, List.drop_zero, Bool.not_true, Bool.not_false, Bool.false_eq_true, true_implies, false_implies, implies_true, not_true_eq_false, not_false_eq_true, and_true, true_and, and_self, ty9, Option.getD, T2_10, h1, h2, h3, t1, t2, t3, hx, hy, hz, wrap_i64]
end Go.Proofs.Ytddkjenabjplmaa
