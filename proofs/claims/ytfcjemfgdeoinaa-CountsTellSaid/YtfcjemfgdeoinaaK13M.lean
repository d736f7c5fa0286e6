/- Chapter 13: the laws' walks. -/
import Derived.Test.YtfcjemfgdeoinaaK13L
namespace Go.Proofs.Ytfcjemfgdeoinaa
open Go.Abs
set_option linter.unusedSimpArgs false
set_option linter.unusedVariables false
set_option maxRecDepth 20000
set_option maxHeartbeats 8000000

theorem ok_law13_CountsSets : codeOK Try.prog C13Lw Try.f9.ntmps (Try.f9.body.getD .skip) = true := by kernel_rfl
theorem c_law13_CountsSets (a b : List Run) (n : Int) (ha : a.length ≤ maxLen) (hb : b.length ≤ maxLen) : CallA Try.prog 9 [.slc (a.map Run.enc), .slc (b.map Run.enc), .int .i64 n] (· = .bool true) := by
  refine callA_of_body C13Lw_ok mixed Try.func9 rfl (Nat.le_of_ble_eq_true rfl) ok_law13_CountsSets ?_
  unfold Try.f9
  have ml := maxLen_le
  by_cases h1 : (40 : Int) < (a.length : Int)
  · simp -implicitDefEqProofs (maxSteps := 600000) (disch := (first | omega | decide)) only [go_sem, ↓reduceIte, Nat.reduceEqDiff, reduceCtorEq, Nat.reduceAdd, Nat.reduceSub, Nat.reduceMul, Nat.reduceLeDiff, Nat.reduceLT, Nat.reduceBEq, Nat.reduceBNe, Int.reduceLE, Int.reduceLT, Int.reduceBEq, Int.reduceBNe, Int.reduceEq, Int.reduceNe, Int.reduceAdd, Int.reduceSub, Int.reduceMul, Int.reduceNeg, Int.reduceToNat, h1, List.length_map]
  · by_cases h2 : (40 : Int) < (b.length : Int)
    · simp -implicitDefEqProofs (maxSteps := 600000) (disch := (first | omega | decide)) only [go_sem, ↓reduceIte, Nat.reduceEqDiff, reduceCtorEq, Nat.reduceAdd, Nat.reduceSub, Nat.reduceMul, Nat.reduceLeDiff, Nat.reduceLT, Nat.reduceBEq, Nat.reduceBNe, Int.reduceLE, Int.reduceLT, Int.reduceBEq, Int.reduceBNe, Int.reduceEq, Int.reduceNe, Int.reduceAdd, Int.reduceSub, Int.reduceMul, Int.reduceNeg, Int.reduceToNat, h1, h2, List.length_map]
    · have l1 : a.length ≤ 40 := by omega
      have l2 : b.length ≤ 40 := by omega
      have s1 := set_len fun n => hasL13 a n || hasL13 b n
      have s2 := set_len fun n => hasL13 a n && hasL13 b n
      have s3 := set_len fun n => hasL13 a n && !hasL13 b n
      have e1 := setR_has (isR_op 1 a b) n
      have e2 := setR_has (isR_op 2 a b) n
      have e3 := setR_has (isR_op 3 a b) n
      rw [op1] at e1; rw [op2] at e2; rw [op3] at e3
      cases hx : hasL13 a n <;> cases hy : hasL13 b n <;> simp only [hx, hy, Bool.true_and, Bool.and_true, Bool.false_and, Bool.and_false, Bool.or_true, Bool.true_or, Bool.or_false, Bool.false_or, Bool.not_true, Bool.not_false] at e1 e2 e3 <;> simp -implicitDefEqProofs (maxSteps := 600000) (disch := (first | omega | decide)) only [go_sem, ↓reduceIte, Nat.reduceEqDiff, reduceCtorEq, Nat.reduceAdd, Nat.reduceSub, Nat.reduceMul, Nat.reduceLeDiff, Nat.reduceLT, Nat.reduceBEq, Nat.reduceBNe, Int.reduceLE, Int.reduceLT, Int.reduceBEq, Int.reduceBNe, Int.reduceEq, Int.reduceNe, Int.reduceAdd, Int.reduceSub, Int.reduceMul, Int.reduceNeg, Int.reduceToNat, h1, h2, e1, e2, e3, hx, hy, same_self, List.length_map]
theorem ok_law13_CountsTell : codeOK Try.prog C13Lw Try.f3.ntmps (Try.f3.body.getD .skip) = true := by kernel_rfl
theorem c_law13_CountsTell (l : List Run) (n : Int) (hl : l.length ≤ maxLen) : CallA Try.prog 3 [.slc (l.map Run.enc), .int .i64 n] (· = .bool true) := by
  refine callA_of_body C13Lw_ok mixed Try.func3 rfl (Nat.le_of_ble_eq_true rfl) ok_law13_CountsTell ?_
  unfold Try.f3
  have ml := maxLen_le
  by_cases h1 : (40 : Int) < (l.length : Int)
  · simp -implicitDefEqProofs (maxSteps := 600000) (disch := (first | omega | decide)) only [go_sem, ↓reduceIte, Nat.reduceEqDiff, reduceCtorEq, Nat.reduceAdd, Nat.reduceSub, Nat.reduceMul, Nat.reduceLeDiff, Nat.reduceLT, Nat.reduceBEq, Nat.reduceBNe, Int.reduceLE, Int.reduceLT, Int.reduceBEq, Int.reduceBNe, Int.reduceEq, Int.reduceNe, Int.reduceAdd, Int.reduceSub, Int.reduceMul, Int.reduceNeg, Int.reduceToNat, h1, List.length_map]
  · have l1 : l.length ≤ 40 := by omega
    have s1 := set_len (hasL13 (l ++ oneL [n]))
    obtain ⟨t1, t2, t3, t4, t5, t6⟩ := tell l
    obtain ⟨b0, b1, b2, b3⟩ := base_spec (setR_right (hasL13 l))
    obtain ⟨m0, m1, m2, m3⟩ := most_spec (setR_right (hasL13 l))
    have hs : hasL13 (setR (hasL13 l)) = hasL13 l := funext (has_set l)
    rw [hs] at b2 b3 m2 m3
    have ha := many_add l n
    have e5 := l_counts_Add (a := l) (b := [n]) ⟨by omega, by simp⟩
    have e6 := l_counts_Many (l := setR (hasL13 (l ++ oneL [n]))) (by omega)
    have e7 : setR (hasL13 (setR (hasL13 (l ++ oneL [n])))) = setR (hasL13 (l ++ oneL [n])) := (setR_eq (setR_right _) (fun _ => rfl)).symm
    have e8 : oneL [n] = [⟨n, n⟩] := rfl
    rw [e7] at e6
    rw [e8] at e5 e6 s1
    rw [ha] at e6
    have e9 : [n].map (A.int .i64) = [A.int .i64 n] := rfl
    rw [e9] at e5
    have c1 := l_counts_Base (l := l) (by omega)
    have c2 := l_counts_Most (l := l) (by omega)
    have c3 := l_counts_Many (l := l) (by omega)
    generalize baseR (setR (hasL13 l)) = b at *
    generalize mostR (setR (hasL13 l)) = m at *
    generalize manyR (setR (hasL13 l)) = k at *
    have q1 : ¬ b < 0 := by omega
    have q2 : ¬ m < b := by omega
    have q3 : ¬ 1099511627776 < m := by omega
    have q4 : ¬ k < b := by omega
    have q5 : ¬ m < k := by omega
    have q6 : (k == b) = (b == m) := by rw [Bool.eq_iff_iff]; simpa using t6
    have q7 : 0 < m ∨ ¬ 0 < m := by omega
    have w1 : ∀ x : Int, (x == x) = true := fun x => by simp
    have w2 : ∀ x : Bool, (x == x) = true := fun x => by simp
    have finish : True := trivial
    by_cases n1 : 1 ≤ n
    · by_cases n2 : n ≤ b
      · have x1 := b2 n n1 n2
        have n3 : n ≤ 1099511627776 := by omega
        have n4 : ¬ m < n := by omega
        rw [x1] at e6
        simp only [Bool.not_true, Bool.and_false, Bool.false_eq_true, if_false] at e6
        rcases q7 with q7 | q7
        · have x2 := m2 q7
          first | (exfalso; omega) | simp -implicitDefEqProofs (maxSteps := 600000) (disch := (first | omega | decide)) only [go_sem, ↓reduceIte, Nat.reduceEqDiff, reduceCtorEq, Nat.reduceAdd, Nat.reduceSub, Nat.reduceMul, Nat.reduceLeDiff, Nat.reduceLT, Nat.reduceBEq, Nat.reduceBNe, Int.reduceLE, Int.reduceLT, Int.reduceBEq, Int.reduceBNe, Int.reduceEq, Int.reduceNe, Int.reduceAdd, Int.reduceSub, Int.reduceMul, Int.reduceNeg, Int.reduceToNat, h1, c1, c2, c3, e5, e6, q1, q2, q3, q4, q5, q6, q7, w1, w2, n1, n2, n3, n4, x1, x2, b3, wrap_i64, List.length_map]
        · first | (exfalso; omega) | simp -implicitDefEqProofs (maxSteps := 600000) (disch := (first | omega | decide)) only [go_sem, ↓reduceIte, Nat.reduceEqDiff, reduceCtorEq, Nat.reduceAdd, Nat.reduceSub, Nat.reduceMul, Nat.reduceLeDiff, Nat.reduceLT, Nat.reduceBEq, Nat.reduceBNe, Int.reduceLE, Int.reduceLT, Int.reduceBEq, Int.reduceBNe, Int.reduceEq, Int.reduceNe, Int.reduceAdd, Int.reduceSub, Int.reduceMul, Int.reduceNeg, Int.reduceToNat, h1, c1, c2, c3, e5, e6, q1, q2, q3, q4, q5, q6, q7, w1, w2, n1, n2, n3, n4, x1, b3, wrap_i64, List.length_map]
      · cases x1 : hasL13 l n with
        | true =>
          have n4 : ¬ m < n := by have := m3 n x1; omega
          have n3 : n ≤ 1099511627776 := by omega
          rw [x1] at e6
          simp only [Bool.not_true, Bool.and_false, Bool.false_eq_true, if_false] at e6
          rcases q7 with q7 | q7
          · have x2 := m2 q7
            first | (exfalso; omega) | simp -implicitDefEqProofs (maxSteps := 600000) (disch := (first | omega | decide)) only [go_sem, ↓reduceIte, Nat.reduceEqDiff, reduceCtorEq, Nat.reduceAdd, Nat.reduceSub, Nat.reduceMul, Nat.reduceLeDiff, Nat.reduceLT, Nat.reduceBEq, Nat.reduceBNe, Int.reduceLE, Int.reduceLT, Int.reduceBEq, Int.reduceBNe, Int.reduceEq, Int.reduceNe, Int.reduceAdd, Int.reduceSub, Int.reduceMul, Int.reduceNeg, Int.reduceToNat, h1, c1, c2, c3, e5, e6, q1, q2, q3, q4, q5, q6, q7, w1, w2, n1, n2, n3, n4, x1, x2, b3, wrap_i64, List.length_map]
          · first | (exfalso; omega) | simp -implicitDefEqProofs (maxSteps := 600000) (disch := (first | omega | decide)) only [go_sem, ↓reduceIte, Nat.reduceEqDiff, reduceCtorEq, Nat.reduceAdd, Nat.reduceSub, Nat.reduceMul, Nat.reduceLeDiff, Nat.reduceLT, Nat.reduceBEq, Nat.reduceBNe, Int.reduceLE, Int.reduceLT, Int.reduceBEq, Int.reduceBNe, Int.reduceEq, Int.reduceNe, Int.reduceAdd, Int.reduceSub, Int.reduceMul, Int.reduceNeg, Int.reduceToNat, h1, c1, c2, c3, e5, e6, q1, q2, q3, q4, q5, q6, q7, w1, w2, n1, n2, n3, n4, x1, b3, wrap_i64, List.length_map]
        | false =>
          rw [x1] at e6
          by_cases n3 : n ≤ 1099511627776
          · simp only [n1, n3, decide_true, Bool.not_false, Bool.and_true, if_true] at e6
            by_cases n4 : m < n <;> rcases q7 with q7 | q7 <;> (try have x2 := m2 q7) <;> first | (exfalso; omega) | simp -implicitDefEqProofs (maxSteps := 600000) (disch := (first | omega | decide)) only [go_sem, ↓reduceIte, Nat.reduceEqDiff, reduceCtorEq, Nat.reduceAdd, Nat.reduceSub, Nat.reduceMul, Nat.reduceLeDiff, Nat.reduceLT, Nat.reduceBEq, Nat.reduceBNe, Int.reduceLE, Int.reduceLT, Int.reduceBEq, Int.reduceBNe, Int.reduceEq, Int.reduceNe, Int.reduceAdd, Int.reduceSub, Int.reduceMul, Int.reduceNeg, Int.reduceToNat, h1, c1, c2, c3, e5, e6, q1, q2, q3, q4, q5, q6, q7, w1, w2, n1, n2, n3, n4, x1, m2, b3, wrap_i64, List.length_map]
          · simp only [n1, n3, decide_true, decide_false, Bool.not_false, Bool.and_true, Bool.and_false, Bool.false_and, Bool.false_eq_true, if_false] at e6
            have n4 : m < n := by omega
            rcases q7 with q7 | q7 <;> (try have x2 := m2 q7) <;> first | (exfalso; omega) | simp -implicitDefEqProofs (maxSteps := 600000) (disch := (first | omega | decide)) only [go_sem, ↓reduceIte, Nat.reduceEqDiff, reduceCtorEq, Nat.reduceAdd, Nat.reduceSub, Nat.reduceMul, Nat.reduceLeDiff, Nat.reduceLT, Nat.reduceBEq, Nat.reduceBNe, Int.reduceLE, Int.reduceLT, Int.reduceBEq, Int.reduceBNe, Int.reduceEq, Int.reduceNe, Int.reduceAdd, Int.reduceSub, Int.reduceMul, Int.reduceNeg, Int.reduceToNat, h1, c1, c2, c3, e5, e6, q1, q2, q3, q4, q5, q6, q7, w1, w2, n1, n2, n3, n4, x1, m2, b3, wrap_i64, List.length_map]
    · have n5 : ¬ n ≥ 1 := by omega
      simp only [n1, decide_false, Bool.false_and, Bool.false_eq_true, if_false] at e6
      have n4 : ¬ m < n := by omega
      rcases q7 with q7 | q7
      · have x2 := m2 q7
        first | (exfalso; omega) | simp -implicitDefEqProofs (maxSteps := 600000) (disch := (first | omega | decide)) only [go_sem, ↓reduceIte, Nat.reduceEqDiff, reduceCtorEq, Nat.reduceAdd, Nat.reduceSub, Nat.reduceMul, Nat.reduceLeDiff, Nat.reduceLT, Nat.reduceBEq, Nat.reduceBNe, Int.reduceLE, Int.reduceLT, Int.reduceBEq, Int.reduceBNe, Int.reduceEq, Int.reduceNe, Int.reduceAdd, Int.reduceSub, Int.reduceMul, Int.reduceNeg, Int.reduceToNat, h1, c1, c2, c3, e5, e6, q1, q2, q3, q4, q5, q6, q7, w1, w2, n1, n4, x2, b3, wrap_i64, List.length_map]
      · first | (exfalso; omega) | simp -implicitDefEqProofs (maxSteps := 600000) (disch := (first | omega | decide)) only [go_sem, ↓reduceIte, Nat.reduceEqDiff, reduceCtorEq, Nat.reduceAdd, Nat.reduceSub, Nat.reduceMul, Nat.reduceLeDiff, Nat.reduceLT, Nat.reduceBEq, Nat.reduceBNe, Int.reduceLE, Int.reduceLT, Int.reduceBEq, Int.reduceBNe, Int.reduceEq, Int.reduceNe, Int.reduceAdd, Int.reduceSub, Int.reduceMul, Int.reduceNeg, Int.reduceToNat, h1, c1, c2, c3, e5, e6, q1, q2, q3, q4, q5, q6, q7, w1, w2, n1, n4, b3, wrap_i64, List.length_map]
end Go.Proofs.Ytfcjemfgdeoinaa
