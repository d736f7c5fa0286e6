/- Chapter 13: edges. -/
import Derived.Test.YtbnmicpgbcfooaaK13Q
namespace Go.Proofs.Ytbnmicpgbcfooaa
open Go.Abs
set_option linter.unusedSimpArgs false
set_option linter.unusedVariables false
set_option maxRecDepth 20000
set_option maxHeartbeats 4000000

theorem strI {q : IntKind} (l : List Int) : ((l.map (A.int q)).isEmpty || strideOf (l.map (A.int q)) == 1) = true := by
  cases l <;> rfl
theorem put_close {l : List Int} {n : Int} {k : Nat} (hk : k ≤ l.length) (hd : putI l n = l.take k ++ n :: l.drop k) : k + 1 ≤ ((l.take k).map (A.int .i64) ++ [A.int .i64 n]).length ∧ k + 1 + (l.length - k) ≤ (((l.take k).map (A.int .i64) ++ [A.int .i64 n]).take (k + 1) ++ (l.drop k).map (A.int .i64)).length ∧
    (((l.take k).map (A.int .i64) ++ [A.int .i64 n]).take (k + 1) ++ (l.drop k).map (A.int .i64)).take (k + 1 + (l.length - k)) = (putI l n).map (A.int .i64) := by
  have e : ((l.take k).map (A.int .i64) ++ [A.int .i64 n]).length = k + 1 := by simp; omega
  rw [List.take_of_length_le (Nat.le_of_eq e)]
  have e2 : ((l.take k).map (A.int .i64) ++ [A.int .i64 n] ++ (l.drop k).map (A.int .i64)).length = k + 1 + (l.length - k) := by
    rw [List.length_append, e, List.length_map, List.length_drop]
  rw [List.take_of_length_le (Nat.le_of_eq e2)]
  exact ⟨by omega, by omega, by rw [hd]; simp⟩
theorem ok_ref13_put : codeOK Try.prog T13b Try.f62.ntmps (Try.f62.body.getD .skip) = true := by kernel_rfl
theorem c_ref13_put (l : List Int) (n : Int) (hl : l.length ≤ 1000000) : CallA Try.prog 62 [.slc (l.map (A.int .i64)), .int .i64 n] (· = .slc ((putI l n).map (A.int .i64))) := by
  refine callA_of_body T13b_ok mixed Try.func62 rfl (Nat.le_of_ble_eq_true rfl) ok_ref13_put ?_
  unfold Try.f62
  simp -implicitDefEqProofs (maxSteps := 600000) (disch := (first | omega | decide)) only [go_sem, ↓reduceIte, Nat.reduceEqDiff, reduceCtorEq, Nat.reduceAdd, Nat.reduceSub, Nat.reduceMul, Nat.reduceLeDiff, Nat.reduceLT, Nat.reduceBEq, Nat.reduceBNe, Int.reduceLE, Int.reduceLT, Int.reduceBEq, Int.reduceBNe, Int.reduceEq, Int.reduceNe, Int.reduceAdd, Int.reduceSub, Int.reduceMul, Int.reduceNeg, Int.reduceToNat, List.length_map]
  refine wpA_loop [0, 1, 4] (ι := {k : Nat // k ≤ l.length ∧ putI l n = l.take k ++ putI (l.drop k) n}) (fun p => [(5, .int .i64 p.1)]) (fun _ => []) (fun p => l.length - p.1) ⟨0, by omega, rfl⟩ (Nat.zero_le _) ?_ ?_
  · simp -implicitDefEqProofs (maxSteps := 600000) (disch := (first | omega | decide)) only [go_sem, ↓reduceIte, Nat.reduceEqDiff, reduceCtorEq, Nat.reduceAdd, Nat.reduceSub, Nat.reduceMul, Nat.reduceLeDiff, Nat.reduceLT, Nat.reduceBEq, Nat.reduceBNe, Int.reduceLE, Int.reduceLT, Int.reduceBEq, Int.reduceBNe, Int.reduceEq, Int.reduceNe, Int.reduceAdd, Int.reduceSub, Int.reduceMul, Int.reduceNeg, Int.reduceToNat]
  · rintro ⟨k, hk, hd⟩
    simp only
    by_cases hlt : k < l.length
    · have hlt' : (k : Int) < (l.length : Int) := by omega
      have e1 : (l.map (A.int .i64))[k]? = some (.int .i64 l[k]) := by
        rw [List.getElem?_map, List.getElem?_eq_getElem hlt]; rfl
      have tk : (l.take k).length = k := by rw [List.length_take]; omega
      have t1 := (List.take_append_getElem hlt).symm
      rw [List.drop_eq_getElem_cons hlt] at hd
      generalize hx : l[k] = x at *
      simp only [putI] at hd
      by_cases h1 : x < n
      · rw [if_pos h1] at hd
        simp -implicitDefEqProofs (maxSteps := 600000) (disch := (first | omega | decide)) only [go_sem, ↓reduceIte, Nat.reduceEqDiff, reduceCtorEq, Nat.reduceAdd, Nat.reduceSub, Nat.reduceMul, Nat.reduceLeDiff, Nat.reduceLT, Nat.reduceBEq, Nat.reduceBNe, Int.reduceLE, Int.reduceLT, Int.reduceBEq, Int.reduceBNe, Int.reduceEq, Int.reduceNe, Int.reduceAdd, Int.reduceSub, Int.reduceMul, Int.reduceNeg, Int.reduceToNat, hlt', e1, h1, wrap_i64, List.length_map]
        exact ⟨⟨k + 1, hlt, by rw [hd, t1, List.append_assoc]; rfl⟩, by simp, by show l.length - (k + 1) < l.length - k; omega⟩
      · rw [if_neg h1] at hd
        cases h2 : x == n with
        | true =>
          simp -implicitDefEqProofs (maxSteps := 600000) (disch := (first | omega | decide)) only [go_sem, ↓reduceIte, Nat.reduceEqDiff, reduceCtorEq, Nat.reduceAdd, Nat.reduceSub, Nat.reduceMul, Nat.reduceLeDiff, Nat.reduceLT, Nat.reduceBEq, Nat.reduceBNe, Int.reduceLE, Int.reduceLT, Int.reduceBEq, Int.reduceBNe, Int.reduceEq, Int.reduceNe, Int.reduceAdd, Int.reduceSub, Int.reduceMul, Int.reduceNeg, Int.reduceToNat, hlt', e1, h1, h2, wrap_i64, List.length_map]
          have hxn : x = n := by simpa using h2
          rw [if_pos hxn, ← hx, ← List.drop_eq_getElem_cons hlt, List.take_append_drop] at hd
          rw [hd]
        | false =>
          have hxn : x ≠ n := by simpa using h2
          have l1 : (l.take k).length = k := tk
          have l2 : (l.drop k).length = l.length - k := List.length_drop ..
          simp -implicitDefEqProofs (maxSteps := 600000) (disch := (first | omega | decide)) only [go_sem, ↓reduceIte, Nat.reduceEqDiff, reduceCtorEq, Nat.reduceAdd, Nat.reduceSub, Nat.reduceMul, Nat.reduceLeDiff, Nat.reduceLT, Nat.reduceBEq, Nat.reduceBNe, Int.reduceLE, Int.reduceLT, Int.reduceBEq, Int.reduceBNe, Int.reduceEq, Int.reduceNe, Int.reduceAdd, Int.reduceSub, Int.reduceMul, Int.reduceNeg, Int.reduceToNat, hlt', e1, h1, h2, wrap_i64, ← List.map_take, ← List.map_drop, strI, List.length_map, List.take_length, l1, l2]
          obtain ⟨c1, c2, c3⟩ := put_close hk (by rw [hd, if_neg hxn, ← hx, ← List.drop_eq_getElem_cons hlt])
          exact ⟨by omega, by omega, ⟨by omega, by omega⟩, ⟨by omega, by omega⟩, ⟨c1, by omega⟩, c2, c3⟩
    · have hlt' : ¬ (k : Int) < (l.length : Int) := by omega
      have l1 : (l.take k).length = k := by rw [List.length_take]; omega
      have l2 : (l.drop k).length = l.length - k := List.length_drop ..
      have l3 : l.drop k = [] := List.drop_of_length_le (by omega)
      obtain ⟨c1, c2, c3⟩ := put_close hk (by rw [hd, l3]; rfl)
      simp -implicitDefEqProofs (maxSteps := 600000) (disch := (first | omega | decide)) only [go_sem, ↓reduceIte, Nat.reduceEqDiff, reduceCtorEq, Nat.reduceAdd, Nat.reduceSub, Nat.reduceMul, Nat.reduceLeDiff, Nat.reduceLT, Nat.reduceBEq, Nat.reduceBNe, Int.reduceLE, Int.reduceLT, Int.reduceBEq, Int.reduceBNe, Int.reduceEq, Int.reduceNe, Int.reduceAdd, Int.reduceSub, Int.reduceMul, Int.reduceNeg, Int.reduceToNat, hlt', wrap_i64, ← List.map_take, ← List.map_drop, strI, List.length_map, List.take_length, l1, l2]
      exact ⟨by omega, by omega, ⟨by omega, by omega⟩, ⟨by omega, by omega⟩, ⟨c1, by omega⟩, c2, c3⟩
end Go.Proofs.Ytbnmicpgbcfooaa
