/- Chapter 13: right lists. -/
import Derived.Test.YtbnmicpgbcfooaaK13
namespace Go.Proofs.Ytbnmicpgbcfooaa
open Go.Abs
set_option linter.unusedSimpArgs false
set_option linter.unusedVariables false
set_option maxRecDepth 20000
set_option maxHeartbeats 4000000

/-- The end of the run ahead of place k. -/
def prevT (l : List Run) (k : Nat) : Option Int := if k = 0 then none else (l[k - 1]?).map Run.t
theorem ok_counts_Right : codeOK Try.prog T13b Try.f34.ntmps (Try.f34.body.getD .skip) = true := by kernel_rfl
theorem c_counts_Right (l : List Run) (hl : l.length ≤ 4611686018427387904) : CallA Try.prog 34 [.slc (l.map Run.enc)] (· = .bool (rightL l)) := by
  refine callA_of_body T13b_ok mixed Try.func34 rfl (Nat.le_of_ble_eq_true rfl) ok_counts_Right ?_
  unfold Try.f34
  simp -implicitDefEqProofs (maxSteps := 600000) (disch := (first | omega | decide)) only [go_sem, ↓reduceIte, Nat.reduceEqDiff, reduceCtorEq, Nat.reduceAdd, Nat.reduceSub, Nat.reduceMul, Nat.reduceLeDiff, Nat.reduceLT, Nat.reduceBEq, Nat.reduceBNe, Int.reduceLE, Int.reduceLT, Int.reduceBEq, Int.reduceBNe, Int.reduceEq, Int.reduceNe, Int.reduceAdd, Int.reduceSub, Int.reduceMul, Int.reduceNeg, Int.reduceToNat, List.length_map]
  refine wpA_loop [0, 5, 6] (ι := {k : Nat // k ≤ l.length ∧ rightL l = goR (prevT l k) (l.drop k) ∧ ∀ h : k - 1 < l.length, 0 < k → oneR l[k - 1] = true}) (fun p => [(7, .int .i64 p.1), (2, .bool false)]) (fun _ => []) (fun p => l.length - p.1) ⟨0, by omega, rfl, fun _ h => absurd h (by omega)⟩ (Nat.zero_le _) ?_ ?_
  · simp -implicitDefEqProofs (maxSteps := 600000) (disch := (first | omega | decide)) only [go_sem, ↓reduceIte, Nat.reduceEqDiff, reduceCtorEq, Nat.reduceAdd, Nat.reduceSub, Nat.reduceMul, Nat.reduceLeDiff, Nat.reduceLT, Nat.reduceBEq, Nat.reduceBNe, Int.reduceLE, Int.reduceLT, Int.reduceBEq, Int.reduceBNe, Int.reduceEq, Int.reduceNe, Int.reduceAdd, Int.reduceSub, Int.reduceMul, Int.reduceNeg, Int.reduceToNat]
  · rintro ⟨k, hk, hd, hp⟩
    simp only
    by_cases hlt : k < l.length
    · have hlt' : (k : Int) < (l.length : Int) := by omega
      have e1 := run_get hlt
      have hprev : prevT l (k + 1) = some l[k].t := by
        unfold prevT; rw [if_neg (by omega), show k + 1 - 1 = k by omega, List.getElem?_eq_getElem hlt]; rfl
      rw [List.drop_eq_getElem_cons hlt] at hd
      simp only [goR] at hd
      have next : rightL l = goR (some l[k].t) (l.drop (k + 1)) → oneR l[k] = true → ∃ j : {k : Nat // k ≤ l.length ∧ rightL l = goR (prevT l k) (l.drop k) ∧ ∀ h : k - 1 < l.length, 0 < k → oneR l[k - 1] = true}, (k : Int) + 1 = (j.1 : Int) ∧ l.length - j.1 < l.length - k := fun h h' => ⟨⟨k + 1, hlt, by rw [hprev]; exact h, fun _ _ => h'⟩, by simp, by show l.length - (k + 1) < l.length - k; omega⟩
      generalize hx : l[k] = x at *
      obtain ⟨f, t⟩ := x
      cases h1 : oneR ⟨f, t⟩ with
      | false =>
        have hh : rightL l = false := by rw [hd, h1]; rfl
        simp -implicitDefEqProofs (maxSteps := 600000) (disch := (first | omega | decide)) only [go_sem, ↓reduceIte, Nat.reduceEqDiff, reduceCtorEq, Nat.reduceAdd, Nat.reduceSub, Nat.reduceMul, Nat.reduceLeDiff, Nat.reduceLT, Nat.reduceBEq, Nat.reduceBNe, Int.reduceLE, Int.reduceLT, Int.reduceBEq, Int.reduceBNe, Int.reduceEq, Int.reduceNe, Int.reduceAdd, Int.reduceSub, Int.reduceMul, Int.reduceNeg, Int.reduceToNat, hlt', e1, h1, hh, wrap_i64, List.length_map]
      | true =>
        obtain ⟨o1, o2, o3⟩ := one_parts h1
        simp only at o1 o2 o3
        by_cases h0 : 0 < k
        · have h0' : (0 : Int) < (k : Int) := by omega
          have hk1 : k - 1 < l.length := by omega
          have e0 := run_get hk1
          have hpo := hp hk1 h0
          have hpt : prevT l k = some l[k - 1].t := by
            unfold prevT; rw [if_neg (by omega), List.getElem?_eq_getElem hk1]; rfl
          have t0 : ((k : Int) - 1).toNat = k - 1 := by omega
          have b0 : (0 : Int) ≤ (k : Int) - 1 := by omega
          have b1 : (k : Int) - 1 < (l.length : Int) := by omega
          rw [hpt] at hd
          generalize hy : l[k - 1] = y at *
          obtain ⟨f', t'⟩ := y
          obtain ⟨p1, p2, p3⟩ := one_parts hpo
          simp only at p1 p2 p3 hd
          by_cases h2 : f - t' < 2
          · have hh : rightL l = false := by
              rw [hd]; have : ¬ t' + 2 ≤ f := by omega
              simp [this]
            simp -implicitDefEqProofs (maxSteps := 600000) (disch := (first | omega | decide)) only [go_sem, ↓reduceIte, Nat.reduceEqDiff, reduceCtorEq, Nat.reduceAdd, Nat.reduceSub, Nat.reduceMul, Nat.reduceLeDiff, Nat.reduceLT, Nat.reduceBEq, Nat.reduceBNe, Int.reduceLE, Int.reduceLT, Int.reduceBEq, Int.reduceBNe, Int.reduceEq, Int.reduceNe, Int.reduceAdd, Int.reduceSub, Int.reduceMul, Int.reduceNeg, Int.reduceToNat, hlt', e1, e0, h1, h0', t0, b0, b1, h2, hh, wrap_i64, List.length_map]
          · simp -implicitDefEqProofs (maxSteps := 600000) (disch := (first | omega | decide)) only [go_sem, ↓reduceIte, Nat.reduceEqDiff, reduceCtorEq, Nat.reduceAdd, Nat.reduceSub, Nat.reduceMul, Nat.reduceLeDiff, Nat.reduceLT, Nat.reduceBEq, Nat.reduceBNe, Int.reduceLE, Int.reduceLT, Int.reduceBEq, Int.reduceBNe, Int.reduceEq, Int.reduceNe, Int.reduceAdd, Int.reduceSub, Int.reduceMul, Int.reduceNeg, Int.reduceToNat, hlt', e1, e0, h1, h0', t0, b0, b1, h2, wrap_i64, List.length_map]
            have h3 : t' + 2 ≤ f := by omega
            exact next (by rw [hd, h1]; simp [h3]) h1
        · have h0' : ¬ (0 : Int) < (k : Int) := by omega
          simp -implicitDefEqProofs (maxSteps := 600000) (disch := (first | omega | decide)) only [go_sem, ↓reduceIte, Nat.reduceEqDiff, reduceCtorEq, Nat.reduceAdd, Nat.reduceSub, Nat.reduceMul, Nat.reduceLeDiff, Nat.reduceLT, Nat.reduceBEq, Nat.reduceBNe, Int.reduceLE, Int.reduceLT, Int.reduceBEq, Int.reduceBNe, Int.reduceEq, Int.reduceNe, Int.reduceAdd, Int.reduceSub, Int.reduceMul, Int.reduceNeg, Int.reduceToNat, hlt', e1, h1, h0', wrap_i64, List.length_map]
          have hk0 : k = 0 := by omega
          exact next (by rw [hd, h1]; simp [prevT, hk0]) h1
    · have hlt' : ¬ (k : Int) < (l.length : Int) := by omega
      have hh : rightL l = true := by
        rw [hd, List.drop_of_length_le (by omega)]; cases prevT l k <;> rfl
      simp -implicitDefEqProofs (maxSteps := 600000) (disch := (first | omega | decide)) only [go_sem, ↓reduceIte, Nat.reduceEqDiff, reduceCtorEq, Nat.reduceAdd, Nat.reduceSub, Nat.reduceMul, Nat.reduceLeDiff, Nat.reduceLT, Nat.reduceBEq, Nat.reduceBNe, Int.reduceLE, Int.reduceLT, Int.reduceBEq, Int.reduceBNe, Int.reduceEq, Int.reduceNe, Int.reduceAdd, Int.reduceSub, Int.reduceMul, Int.reduceNeg, Int.reduceToNat, hlt', hh, List.length_map]
theorem ok_ref13_Right : codeOK Try.prog T13b Try.f35.ntmps (Try.f35.body.getD .skip) = true := by kernel_rfl
theorem c_ref13_Right (l : List Run) (hl : l.length ≤ 4611686018427387904) : CallA Try.prog 35 [.slc (l.map Run.enc)] (· = .bool (rightL l)) := by
  refine callA_of_body T13b_ok mixed Try.func35 rfl (Nat.le_of_ble_eq_true rfl) ok_ref13_Right ?_
  unfold Try.f35
  simp -implicitDefEqProofs (maxSteps := 600000) (disch := (first | omega | decide)) only [go_sem, ↓reduceIte, Nat.reduceEqDiff, reduceCtorEq, Nat.reduceAdd, Nat.reduceSub, Nat.reduceMul, Nat.reduceLeDiff, Nat.reduceLT, Nat.reduceBEq, Nat.reduceBNe, Int.reduceLE, Int.reduceLT, Int.reduceBEq, Int.reduceBNe, Int.reduceEq, Int.reduceNe, Int.reduceAdd, Int.reduceSub, Int.reduceMul, Int.reduceNeg, Int.reduceToNat, List.length_map]
  refine wpA_loop [0] (ι := {k : Nat // k ≤ l.length ∧ rightL l = goR (prevT l k) (l.drop k) ∧ ∀ h : k - 1 < l.length, 0 < k → oneR l[k - 1] = true}) (fun p => [(3, .int .i64 p.1), (2, .bool false)]) (fun _ => []) (fun p => l.length - p.1) ⟨0, by omega, rfl, fun _ h => absurd h (by omega)⟩ (Nat.zero_le _) ?_ ?_
  · simp -implicitDefEqProofs (maxSteps := 600000) (disch := (first | omega | decide)) only [go_sem, ↓reduceIte, Nat.reduceEqDiff, reduceCtorEq, Nat.reduceAdd, Nat.reduceSub, Nat.reduceMul, Nat.reduceLeDiff, Nat.reduceLT, Nat.reduceBEq, Nat.reduceBNe, Int.reduceLE, Int.reduceLT, Int.reduceBEq, Int.reduceBNe, Int.reduceEq, Int.reduceNe, Int.reduceAdd, Int.reduceSub, Int.reduceMul, Int.reduceNeg, Int.reduceToNat]
  · rintro ⟨k, hk, hd, hp⟩
    simp only
    by_cases hlt : k < l.length
    · have hlt' : (k : Int) < (l.length : Int) := by omega
      have e1 := run_get hlt
      have hprev : prevT l (k + 1) = some l[k].t := by
        unfold prevT; rw [if_neg (by omega), show k + 1 - 1 = k by omega, List.getElem?_eq_getElem hlt]; rfl
      rw [List.drop_eq_getElem_cons hlt] at hd
      simp only [goR] at hd
      have next : rightL l = goR (some l[k].t) (l.drop (k + 1)) → oneR l[k] = true → ∃ j : {k : Nat // k ≤ l.length ∧ rightL l = goR (prevT l k) (l.drop k) ∧ ∀ h : k - 1 < l.length, 0 < k → oneR l[k - 1] = true}, (k : Int) + 1 = (j.1 : Int) ∧ l.length - j.1 < l.length - k := fun h h' => ⟨⟨k + 1, hlt, by rw [hprev]; exact h, fun _ _ => h'⟩, by simp, by show l.length - (k + 1) < l.length - k; omega⟩
      generalize hx : l[k] = x at *
      obtain ⟨f, t⟩ := x
      cases h1 : oneR ⟨f, t⟩ with
      | false =>
        have hh : rightL l = false := by rw [hd, h1]; rfl
        simp -implicitDefEqProofs (maxSteps := 600000) (disch := (first | omega | decide)) only [go_sem, ↓reduceIte, Nat.reduceEqDiff, reduceCtorEq, Nat.reduceAdd, Nat.reduceSub, Nat.reduceMul, Nat.reduceLeDiff, Nat.reduceLT, Nat.reduceBEq, Nat.reduceBNe, Int.reduceLE, Int.reduceLT, Int.reduceBEq, Int.reduceBNe, Int.reduceEq, Int.reduceNe, Int.reduceAdd, Int.reduceSub, Int.reduceMul, Int.reduceNeg, Int.reduceToNat, hlt', e1, h1, hh, wrap_i64, List.length_map]
      | true =>
        obtain ⟨o1, o2, o3⟩ := one_parts h1
        simp only at o1 o2 o3
        by_cases h0 : 0 < k
        · have h0' : (0 : Int) < (k : Int) := by omega
          have hk1 : k - 1 < l.length := by omega
          have e0 := run_get hk1
          have hpo := hp hk1 h0
          have hpt : prevT l k = some l[k - 1].t := by
            unfold prevT; rw [if_neg (by omega), List.getElem?_eq_getElem hk1]; rfl
          have t0 : ((k : Int) - 1).toNat = k - 1 := by omega
          have b0 : (0 : Int) ≤ (k : Int) - 1 := by omega
          have b1 : (k : Int) - 1 < (l.length : Int) := by omega
          rw [hpt] at hd
          generalize hy : l[k - 1] = y at *
          obtain ⟨f', t'⟩ := y
          obtain ⟨p1, p2, p3⟩ := one_parts hpo
          simp only at p1 p2 p3 hd
          by_cases h2 : f < t' + 2
          · have hh : rightL l = false := by
              rw [hd]; have : ¬ t' + 2 ≤ f := by omega
              simp [this]
            simp -implicitDefEqProofs (maxSteps := 600000) (disch := (first | omega | decide)) only [go_sem, ↓reduceIte, Nat.reduceEqDiff, reduceCtorEq, Nat.reduceAdd, Nat.reduceSub, Nat.reduceMul, Nat.reduceLeDiff, Nat.reduceLT, Nat.reduceBEq, Nat.reduceBNe, Int.reduceLE, Int.reduceLT, Int.reduceBEq, Int.reduceBNe, Int.reduceEq, Int.reduceNe, Int.reduceAdd, Int.reduceSub, Int.reduceMul, Int.reduceNeg, Int.reduceToNat, hlt', e1, e0, h1, h0', t0, b0, b1, h2, hh, wrap_i64, List.length_map]
          · simp -implicitDefEqProofs (maxSteps := 600000) (disch := (first | omega | decide)) only [go_sem, ↓reduceIte, Nat.reduceEqDiff, reduceCtorEq, Nat.reduceAdd, Nat.reduceSub, Nat.reduceMul, Nat.reduceLeDiff, Nat.reduceLT, Nat.reduceBEq, Nat.reduceBNe, Int.reduceLE, Int.reduceLT, Int.reduceBEq, Int.reduceBNe, Int.reduceEq, Int.reduceNe, Int.reduceAdd, Int.reduceSub, Int.reduceMul, Int.reduceNeg, Int.reduceToNat, hlt', e1, e0, h1, h0', t0, b0, b1, h2, wrap_i64, List.length_map]
            have h3 : t' + 2 ≤ f := by omega
            exact next (by rw [hd, h1]; simp [h3]) h1
        · have h0' : ¬ (0 : Int) < (k : Int) := by omega
          simp -implicitDefEqProofs (maxSteps := 600000) (disch := (first | omega | decide)) only [go_sem, ↓reduceIte, Nat.reduceEqDiff, reduceCtorEq, Nat.reduceAdd, Nat.reduceSub, Nat.reduceMul, Nat.reduceLeDiff, Nat.reduceLT, Nat.reduceBEq, Nat.reduceBNe, Int.reduceLE, Int.reduceLT, Int.reduceBEq, Int.reduceBNe, Int.reduceEq, Int.reduceNe, Int.reduceAdd, Int.reduceSub, Int.reduceMul, Int.reduceNeg, Int.reduceToNat, hlt', e1, h1, h0', wrap_i64, List.length_map]
          have hk0 : k = 0 := by omega
          exact next (by rw [hd, h1]; simp [prevT, hk0]) h1
    · have hlt' : ¬ (k : Int) < (l.length : Int) := by omega
      have hh : rightL l = true := by
        rw [hd, List.drop_of_length_le (by omega)]; cases prevT l k <;> rfl
      simp -implicitDefEqProofs (maxSteps := 600000) (disch := (first | omega | decide)) only [go_sem, ↓reduceIte, Nat.reduceEqDiff, reduceCtorEq, Nat.reduceAdd, Nat.reduceSub, Nat.reduceMul, Nat.reduceLeDiff, Nat.reduceLT, Nat.reduceBEq, Nat.reduceBNe, Int.reduceLE, Int.reduceLT, Int.reduceBEq, Int.reduceBNe, Int.reduceEq, Int.reduceNe, Int.reduceAdd, Int.reduceSub, Int.reduceMul, Int.reduceNeg, Int.reduceToNat, hlt', hh, List.length_map]
theorem ok_ref13_Has : codeOK Try.prog T13b Try.f39.ntmps (Try.f39.body.getD .skip) = true := by kernel_rfl
theorem c_ref13_Has (l : List Run) (n : Int) (hl : l.length ≤ 4611686018427387904) : CallA Try.prog 39 [.slc (l.map Run.enc), .int .i64 n] (· = .bool (hasL13 l n)) := by
  refine callA_of_body T13b_ok mixed Try.func39 rfl (Nat.le_of_ble_eq_true rfl) ok_ref13_Has ?_
  unfold Try.f39
  simp -implicitDefEqProofs (maxSteps := 600000) (disch := (first | omega | decide)) only [go_sem, ↓reduceIte, Nat.reduceEqDiff, reduceCtorEq, Nat.reduceAdd, Nat.reduceSub, Nat.reduceMul, Nat.reduceLeDiff, Nat.reduceLT, Nat.reduceBEq, Nat.reduceBNe, Int.reduceLE, Int.reduceLT, Int.reduceBEq, Int.reduceBNe, Int.reduceEq, Int.reduceNe, Int.reduceAdd, Int.reduceSub, Int.reduceMul, Int.reduceNeg, Int.reduceToNat, List.length_map]
  refine wpA_loop [0, 1] (ι := {k : Nat // k ≤ l.length ∧ hasL13 l n = hasL13 (l.drop k) n}) (fun p => [(5, .int .i64 p.1), (4, .bool false)]) (fun _ => []) (fun p => l.length - p.1) ⟨0, by omega, rfl⟩ (Nat.zero_le _) ?_ ?_
  · simp -implicitDefEqProofs (maxSteps := 600000) (disch := (first | omega | decide)) only [go_sem, ↓reduceIte, Nat.reduceEqDiff, reduceCtorEq, Nat.reduceAdd, Nat.reduceSub, Nat.reduceMul, Nat.reduceLeDiff, Nat.reduceLT, Nat.reduceBEq, Nat.reduceBNe, Int.reduceLE, Int.reduceLT, Int.reduceBEq, Int.reduceBNe, Int.reduceEq, Int.reduceNe, Int.reduceAdd, Int.reduceSub, Int.reduceMul, Int.reduceNeg, Int.reduceToNat]
  · rintro ⟨k, hk, hd⟩
    simp only
    by_cases hlt : k < l.length
    · have hlt' : (k : Int) < (l.length : Int) := by omega
      have e1 := run_get hlt
      rw [List.drop_eq_getElem_cons hlt] at hd
      generalize hx : l[k] = x at *
      obtain ⟨f, t⟩ := x
      simp only [hasL13, List.any_cons] at hd
      have next : hasL13 l n = hasL13 (l.drop (k + 1)) n → ∃ j : {k : Nat // k ≤ l.length ∧ hasL13 l n = hasL13 (l.drop k) n}, (k : Int) + 1 = (j.1 : Int) ∧ l.length - j.1 < l.length - k := fun h => ⟨⟨k + 1, hlt, h⟩, by simp, by show l.length - (k + 1) < l.length - k; omega⟩
      cases h1 : oneR ⟨f, t⟩ with
      | false =>
        simp -implicitDefEqProofs (maxSteps := 600000) (disch := (first | omega | decide)) only [go_sem, ↓reduceIte, Nat.reduceEqDiff, reduceCtorEq, Nat.reduceAdd, Nat.reduceSub, Nat.reduceMul, Nat.reduceLeDiff, Nat.reduceLT, Nat.reduceBEq, Nat.reduceBNe, Int.reduceLE, Int.reduceLT, Int.reduceBEq, Int.reduceBNe, Int.reduceEq, Int.reduceNe, Int.reduceAdd, Int.reduceSub, Int.reduceMul, Int.reduceNeg, Int.reduceToNat, hlt', e1, h1, wrap_i64, List.length_map]
        exact next (by rw [h1] at hd; simpa [hasL13] using hd)
      | true =>
        by_cases h2 : f ≤ n
        · by_cases h3 : n ≤ t
          · have hh : hasL13 l n = true := by unfold hasL13; rw [hd]; simp [h1, h2, h3]
            simp -implicitDefEqProofs (maxSteps := 600000) (disch := (first | omega | decide)) only [go_sem, ↓reduceIte, Nat.reduceEqDiff, reduceCtorEq, Nat.reduceAdd, Nat.reduceSub, Nat.reduceMul, Nat.reduceLeDiff, Nat.reduceLT, Nat.reduceBEq, Nat.reduceBNe, Int.reduceLE, Int.reduceLT, Int.reduceBEq, Int.reduceBNe, Int.reduceEq, Int.reduceNe, Int.reduceAdd, Int.reduceSub, Int.reduceMul, Int.reduceNeg, Int.reduceToNat, hlt', e1, h1, h2, h3, hh, wrap_i64, List.length_map]
          · simp -implicitDefEqProofs (maxSteps := 600000) (disch := (first | omega | decide)) only [go_sem, ↓reduceIte, Nat.reduceEqDiff, reduceCtorEq, Nat.reduceAdd, Nat.reduceSub, Nat.reduceMul, Nat.reduceLeDiff, Nat.reduceLT, Nat.reduceBEq, Nat.reduceBNe, Int.reduceLE, Int.reduceLT, Int.reduceBEq, Int.reduceBNe, Int.reduceEq, Int.reduceNe, Int.reduceAdd, Int.reduceSub, Int.reduceMul, Int.reduceNeg, Int.reduceToNat, hlt', e1, h1, h2, h3, wrap_i64, List.length_map]
            exact next (by rw [h1] at hd; simpa [hasL13, h2, h3] using hd)
        · simp -implicitDefEqProofs (maxSteps := 600000) (disch := (first | omega | decide)) only [go_sem, ↓reduceIte, Nat.reduceEqDiff, reduceCtorEq, Nat.reduceAdd, Nat.reduceSub, Nat.reduceMul, Nat.reduceLeDiff, Nat.reduceLT, Nat.reduceBEq, Nat.reduceBNe, Int.reduceLE, Int.reduceLT, Int.reduceBEq, Int.reduceBNe, Int.reduceEq, Int.reduceNe, Int.reduceAdd, Int.reduceSub, Int.reduceMul, Int.reduceNeg, Int.reduceToNat, hlt', e1, h1, h2, wrap_i64, List.length_map]
          exact next (by rw [h1] at hd; simpa [hasL13, h2] using hd)
    · have hlt' : ¬ (k : Int) < (l.length : Int) := by omega
      have hh : hasL13 l n = false := by rw [hd, List.drop_of_length_le (by omega)]; rfl
      simp -implicitDefEqProofs (maxSteps := 600000) (disch := (first | omega | decide)) only [go_sem, ↓reduceIte, Nat.reduceEqDiff, reduceCtorEq, Nat.reduceAdd, Nat.reduceSub, Nat.reduceMul, Nat.reduceLeDiff, Nat.reduceLT, Nat.reduceBEq, Nat.reduceBNe, Int.reduceLE, Int.reduceLT, Int.reduceBEq, Int.reduceBNe, Int.reduceEq, Int.reduceNe, Int.reduceAdd, Int.reduceSub, Int.reduceMul, Int.reduceNeg, Int.reduceToNat, hlt', hh, List.length_map]
end Go.Proofs.Ytbnmicpgbcfooaa
