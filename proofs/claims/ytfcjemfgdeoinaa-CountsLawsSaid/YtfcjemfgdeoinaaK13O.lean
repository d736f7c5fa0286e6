/- Chapter 13: the laws' walks, continued. -/
import Derived.Test.YtfcjemfgdeoinaaK13L
namespace Go.Proofs.Ytfcjemfgdeoinaa
open Go.Abs
set_option linter.unusedSimpArgs false
set_option linter.unusedVariables false
set_option maxRecDepth 20000
set_option maxHeartbeats 1000000

theorem set_set (p : Int → Bool) : setR (hasL13 (setR p)) = setR p := (setR_eq (setR_right _) (fun _ => rfl)).symm
theorem laws_many (a b : List Run) : manyR (setR fun n => hasL13 a n || hasL13 b n) = manyR (setR (hasL13 a)) + manyR (setR (hasL13 b)) - manyR (setR fun n => hasL13 a n && hasL13 b n) ∧ manyR (setR fun n => hasL13 a n && !hasL13 b n) = manyR (setR (hasL13 a)) - manyR (setR fun n => hasL13 a n && hasL13 b n) := by
  rw [← op1, ← op2, ← op3, many_cnt (isR_op 1 a b), many_cnt (isR_op 2 a b), many_cnt (isR_op 3 a b), many_cnt (isR_has a), many_cnt (isR_has b)]
  have m6 := cnt_or (hasL13 a) (hasL13 b) Mx
  have m7 := cnt_minus (hasL13 a) (hasL13 b) Mx
  rw [op1, op2, op3]
  generalize Mx = N at *
  constructor <;> omega
theorem laws_most (a b : List Run) : mostR (setR fun n => hasL13 a n || hasL13 b n) = if mostR (setR (hasL13 b)) > mostR (setR (hasL13 a)) then mostR (setR (hasL13 b)) else mostR (setR (hasL13 a)) := by
  have iu : IsR (fun n => hasL13 a n || hasL13 b n) := isR_op 1 a b
  obtain ⟨a0, a1, a2, a3⟩ := most_spec (setR_right (hasL13 a))
  obtain ⟨b0, b1, b2, b3⟩ := most_spec (setR_right (hasL13 b))
  rw [show hasL13 (setR (hasL13 a)) = hasL13 a from funext (has_set a)] at a2 a3
  rw [show hasL13 (setR (hasL13 b)) = hasL13 b from funext (has_set b)] at b2 b3
  refine most_eq (setR_right _) (by split <;> omega) (fun h => ?_) (fun n hn => ?_)
  · rw [setR_has iu]
    split
    · rename_i hh; rw [b2 (by omega)]; simp
    · rename_i hh; rw [a2 (by rw [if_neg hh] at h; exact h)]; simp
  · rw [setR_has iu, Bool.or_eq_true] at hn
    rcases hn with hn | hn
    · have := a3 n hn; split <;> omega
    · have := b3 n hn; split <;> omega
theorem ok_law13_CountsLaws : codeOK Try.prog C13Lw Try.f10.ntmps (Try.f10.body.getD .skip) = true := by kernel_rfl
theorem c_law13_CountsLaws (a b : List Run) (ha : a.length ≤ maxLen) (hb : b.length ≤ maxLen) : CallA Try.prog 10 [.slc (a.map Run.enc), .slc (b.map Run.enc)] (· = .bool true) := by
  refine callA_of_body C13Lw_ok mixed Try.func10 rfl (Nat.le_of_ble_eq_true rfl) ok_law13_CountsLaws ?_
  unfold Try.f10
  have ml := maxLen_le
  by_cases h1 : (30 : Int) < (a.length : Int)
  · simp -implicitDefEqProofs (maxSteps := 600000) (disch := (first | omega | decide)) only [go_sem, ↓reduceIte, Nat.reduceEqDiff, reduceCtorEq, Nat.reduceAdd, Nat.reduceSub, Nat.reduceMul, Nat.reduceLeDiff, Nat.reduceLT, Nat.reduceBEq, Nat.reduceBNe, Int.reduceLE, Int.reduceLT, Int.reduceBEq, Int.reduceBNe, Int.reduceEq, Int.reduceNe, Int.reduceAdd, Int.reduceSub, Int.reduceMul, Int.reduceNeg, Int.reduceToNat, h1, List.length_map]
  · by_cases h2 : (30 : Int) < (b.length : Int)
    · simp -implicitDefEqProofs (maxSteps := 600000) (disch := (first | omega | decide)) only [go_sem, ↓reduceIte, Nat.reduceEqDiff, reduceCtorEq, Nat.reduceAdd, Nat.reduceSub, Nat.reduceMul, Nat.reduceLeDiff, Nat.reduceLT, Nat.reduceBEq, Nat.reduceBNe, Int.reduceLE, Int.reduceLT, Int.reduceBEq, Int.reduceBNe, Int.reduceEq, Int.reduceNe, Int.reduceAdd, Int.reduceSub, Int.reduceMul, Int.reduceNeg, Int.reduceToNat, h1, h2, List.length_map]
    · have l1 : a.length ≤ 40 := by omega
      have l2 : b.length ≤ 40 := by omega
      have s1 := set_len fun n => hasL13 a n || hasL13 b n
      have s2 := set_len fun n => hasL13 a n && hasL13 b n
      have s3 := set_len fun n => hasL13 a n && !hasL13 b n
      have k0 := set_len (hasL13 a)
      have k1 := set_len (fun n => hasL13 b n || hasL13 a n)
      have k2 := set_len (fun n => hasL13 b n && hasL13 a n)
      have iu : IsR (fun n => hasL13 a n || hasL13 b n) := isR_op 1 a b
      have im : IsR (fun n => hasL13 a n && hasL13 b n) := isR_op 2 a b
      have id' : IsR (fun n => hasL13 a n && !hasL13 b n) := isR_op 3 a b
      have e1 : (setR fun n => hasL13 b n || hasL13 a n) = setR fun n => hasL13 a n || hasL13 b n := by congr 1; funext n; rw [Bool.or_comm]
      have e2 : (setR fun n => hasL13 b n && hasL13 a n) = setR fun n => hasL13 a n && hasL13 b n := by congr 1; funext n; rw [Bool.and_comm]
      have e3 : (setR fun n => hasL13 (setR fun n => hasL13 a n && !hasL13 b n) n || hasL13 (setR fun n => hasL13 a n && hasL13 b n) n) = setR (hasL13 a) := by
        congr 1; funext n
        rw [setR_has id', setR_has im]
        cases hasL13 a n <;> cases hasL13 b n <;> rfl
      have e4 : (setR fun n => hasL13 (setR fun n => hasL13 a n && !hasL13 b n) n || hasL13 b n) = setR fun n => hasL13 a n || hasL13 b n := by
        congr 1; funext n
        rw [setR_has id']
        cases hasL13 a n <;> cases hasL13 b n <;> rfl
      have e5 : (setR fun n => hasL13 (setR fun n => hasL13 a n && !hasL13 b n) n && hasL13 b n) = [] := (setR_eq (l := []) rfl fun n => by
        rw [setR_has id', has_nil]
        cases hasL13 a n <;> cases hasL13 b n <;> rfl).symm
      obtain ⟨q1', q2'⟩ := laws_many a b
      have q1 : (manyR (setR fun n => hasL13 a n || hasL13 b n) == manyR (setR (hasL13 a)) + manyR (setR (hasL13 b)) - manyR (setR fun n => hasL13 a n && hasL13 b n)) = true := by
        rw [beq_iff_eq]; exact q1'
      have q2 : (manyR (setR fun n => hasL13 a n && !hasL13 b n) == manyR (setR (hasL13 a)) - manyR (setR fun n => hasL13 a n && hasL13 b n)) = true := by
        rw [beq_iff_eq]; exact q2'
      have q3 : (mostR (setR fun n => hasL13 a n || hasL13 b n) == if mostR (setR (hasL13 b)) > mostR (setR (hasL13 a)) then mostR (setR (hasL13 b)) else mostR (setR (hasL13 a))) = true := by
        rw [beq_iff_eq]; exact laws_most a b
      have r2 := many_right (setR_right fun n => hasL13 a n && hasL13 b n)
      have r4 := many_right (setR_right (hasL13 a))
      have r5 := many_right (setR_right (hasL13 b))
      clear iu im id' q1' q2'
      simp -implicitDefEqProofs (maxSteps := 600000) (disch := (first | omega | decide)) only [go_sem, ↓reduceIte, Nat.reduceEqDiff, reduceCtorEq, Nat.reduceAdd, Nat.reduceSub, Nat.reduceMul, Nat.reduceLeDiff, Nat.reduceLT, Nat.reduceBEq, Nat.reduceBNe, Int.reduceLE, Int.reduceLT, Int.reduceBEq, Int.reduceBNe, Int.reduceEq, Int.reduceNe, Int.reduceAdd, Int.reduceSub, Int.reduceMul, Int.reduceNeg, Int.reduceToNat, h1, h2, e1, e2, e3, e4, e5, q1, q2, q3, set_set, same_self, wrap_i64, List.length_map]
end Go.Proofs.Ytfcjemfgdeoinaa
