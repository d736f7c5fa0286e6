/- Chapter 08: what is right; what a list has; searching. -/
import Derived.Test.YtnmkojglcgaobaaK08Q
namespace Go.Proofs.Ytnmkojglcgaobaa
open Go.Abs
set_option linter.unusedSimpArgs false
set_option linter.unusedVariables false
set_option maxRecDepth 20000
set_option maxHeartbeats 4000000

def okL (l : List Rng) : Prop := ∀ r ∈ l, r.ok
theorem rng_get {l : List Rng} {k : Nat} (h : k < l.length) : (l.map Rng.enc)[k]? = some (.agg [.str l[k].lo, .str l[k].hi, .bool l[k].op]) := by
  rw [List.getElem?_map, List.getElem?_eq_getElem h]; rfl
theorem okL_get {l : List Rng} {k : Nat} (h : okL l) (hk : k < l.length) : l[k].lo.length ≤ 9223372036854775807 ∧ l[k].hi.length ≤ 9223372036854775807 := h _ (List.getElem_mem hk)
@[simp] theorem map_rng_inj {l m : List Rng} : (l.map Rng.enc = m.map Rng.enc) = (l = m) := map_inj Rng.enc_inj
/-- The range ahead of place k. -/
def prevR (l : List Rng) (k : Nat) : Option Rng := if k = 0 then none else l[k - 1]?
theorem prevR_succ {l : List Rng} {k : Nat} (h : k < l.length) : prevR l (k + 1) = some l[k] := by
  unfold prevR; rw [if_neg (by omega), show k + 1 - 1 = k by omega, List.getElem?_eq_getElem h]
theorem ok_ranges_Right : codeOK Try.prog T07 Try.f37.ntmps (Try.f37.body.getD .skip) = true := by kernel_rfl
theorem c_ranges_Right (l : List Rng) (hl : l.length ≤ 4611686018427387904) (hok : okL l) : CallA Try.prog 37 [.slc (l.map Rng.enc)] (· = .bool (rightRs l)) := by
  refine callA_of_body T07_ok mixed Try.func37 rfl (Nat.le_of_ble_eq_true rfl) ok_ranges_Right ?_
  unfold Try.f37
  simp -implicitDefEqProofs (maxSteps := 600000) (disch := (first | omega | decide)) only [go_sem, ↓reduceIte, Nat.reduceEqDiff, reduceCtorEq, Nat.reduceAdd, Nat.reduceSub, Nat.reduceMul, Nat.reduceLeDiff, Nat.reduceLT, Nat.reduceBEq, Nat.reduceBNe, Int.reduceLE, Int.reduceLT, Int.reduceBEq, Int.reduceBNe, Int.reduceEq, Int.reduceNe, Int.reduceAdd, Int.reduceSub, Int.reduceMul, Int.reduceNeg, Int.reduceToNat, List.length_map]
  refine wpA_loop [0, 5, 6] (ι := {k : Nat // k ≤ l.length ∧ rightRs l = goRs (prevR l k) (l.drop k)}) (fun p => [(7, .int .i64 p.1), (2, .bool false)]) (fun _ => []) (fun p => l.length - p.1) ⟨0, by omega, rfl⟩ (Nat.zero_le _) ?_ ?_
  · simp -implicitDefEqProofs (maxSteps := 600000) (disch := (first | omega | decide)) only [go_sem, ↓reduceIte, Nat.reduceEqDiff, reduceCtorEq, Nat.reduceAdd, Nat.reduceSub, Nat.reduceMul, Nat.reduceLeDiff, Nat.reduceLT, Nat.reduceBEq, Nat.reduceBNe, Int.reduceLE, Int.reduceLT, Int.reduceBEq, Int.reduceBNe, Int.reduceEq, Int.reduceNe, Int.reduceAdd, Int.reduceSub, Int.reduceMul, Int.reduceNeg, Int.reduceToNat]
  · rintro ⟨k, hk, hd⟩
    simp only
    by_cases hlt : k < l.length
    · have hlt' : (k : Int) < (l.length : Int) := by omega
      have e1 := rng_get hlt
      have ok1 := okL_get hok hlt
      have hprev := prevR_succ hlt
      rw [List.drop_eq_getElem_cons hlt] at hd
      simp only [goRs] at hd
      have next : rightRs l = goRs (some l[k]) (l.drop (k + 1)) → ∃ j : {k : Nat // k ≤ l.length ∧ rightRs l = goRs (prevR l k) (l.drop k)}, (k : Int) + 1 = (j.1 : Int) ∧ l.length - j.1 < l.length - k := fun h => ⟨⟨k + 1, hlt, by rw [hprev]; exact h⟩, by simp, by show l.length - (k + 1) < l.length - k; omega⟩
      generalize hx : l[k] = x at *
      obtain ⟨lo, hi, op⟩ := x
      simp only at ok1
      cases h1 : rightR ⟨lo, hi, op⟩ with
      | false =>
        have hh : rightRs l = false := by rw [hd, h1]; rfl
        simp -implicitDefEqProofs (maxSteps := 600000) (disch := (first | omega | decide)) only [go_sem, ↓reduceIte, Nat.reduceEqDiff, reduceCtorEq, Nat.reduceAdd, Nat.reduceSub, Nat.reduceMul, Nat.reduceLeDiff, Nat.reduceLT, Nat.reduceBEq, Nat.reduceBNe, Int.reduceLE, Int.reduceLT, Int.reduceBEq, Int.reduceBNe, Int.reduceEq, Int.reduceNe, Int.reduceAdd, Int.reduceSub, Int.reduceMul, Int.reduceNeg, Int.reduceToNat, hlt', e1, ok1, h1, hh, wrap_i64, List.length_map]
      | true =>
        by_cases h0 : 0 < k
        · have h0' : (0 : Int) < (k : Int) := by omega
          have hk1 : k - 1 < l.length := by omega
          have e0 := rng_get hk1
          have ok0 := okL_get hok hk1
          have hpt : prevR l k = some l[k - 1] := by
            unfold prevR; rw [if_neg (by omega), List.getElem?_eq_getElem hk1]
          have t0 : ((k : Int) - 1).toNat = k - 1 := by omega
          have b0 : (0 : Int) ≤ (k : Int) - 1 := by omega
          have b1 : (k : Int) - 1 < (l.length : Int) := by omega
          rw [hpt] at hd
          generalize hy : l[k - 1] = y at *
          obtain ⟨lo', hi', op'⟩ := y
          simp only at ok0 hd
          cases h2 : op' with
          | true =>
            subst h2
            have hh : rightRs l = false := by rw [hd]; simp
            simp -implicitDefEqProofs (maxSteps := 600000) (disch := (first | omega | decide)) only [go_sem, ↓reduceIte, Nat.reduceEqDiff, reduceCtorEq, Nat.reduceAdd, Nat.reduceSub, Nat.reduceMul, Nat.reduceLeDiff, Nat.reduceLT, Nat.reduceBEq, Nat.reduceBNe, Int.reduceLE, Int.reduceLT, Int.reduceBEq, Int.reduceBNe, Int.reduceEq, Int.reduceNe, Int.reduceAdd, Int.reduceSub, Int.reduceMul, Int.reduceNeg, Int.reduceToNat, hlt', e1, e0, ok0, ok1, h1, h0', t0, b0, b1, hh, wrap_i64, List.length_map]
          | false =>
            subst h2
            cases h3 : ltB hi' lo with
            | false =>
              have hh : rightRs l = false := by rw [hd, h3]; simp
              simp -implicitDefEqProofs (maxSteps := 600000) (disch := (first | omega | decide)) only [go_sem, ↓reduceIte, Nat.reduceEqDiff, reduceCtorEq, Nat.reduceAdd, Nat.reduceSub, Nat.reduceMul, Nat.reduceLeDiff, Nat.reduceLT, Nat.reduceBEq, Nat.reduceBNe, Int.reduceLE, Int.reduceLT, Int.reduceBEq, Int.reduceBNe, Int.reduceEq, Int.reduceNe, Int.reduceAdd, Int.reduceSub, Int.reduceMul, Int.reduceNeg, Int.reduceToNat, hlt', e1, e0, ok0, ok1, h1, h3, h0', t0, b0, b1, hh, wrap_i64, List.length_map]
            | true =>
              simp -implicitDefEqProofs (maxSteps := 600000) (disch := (first | omega | decide)) only [go_sem, ↓reduceIte, Nat.reduceEqDiff, reduceCtorEq, Nat.reduceAdd, Nat.reduceSub, Nat.reduceMul, Nat.reduceLeDiff, Nat.reduceLT, Nat.reduceBEq, Nat.reduceBNe, Int.reduceLE, Int.reduceLT, Int.reduceBEq, Int.reduceBNe, Int.reduceEq, Int.reduceNe, Int.reduceAdd, Int.reduceSub, Int.reduceMul, Int.reduceNeg, Int.reduceToNat, hlt', e1, e0, ok0, ok1, h1, h3, h0', t0, b0, b1, wrap_i64, List.length_map]
              exact next (by rw [hd, h1, h3]; simp)
        · have h0' : ¬ (0 : Int) < (k : Int) := by omega
          simp -implicitDefEqProofs (maxSteps := 600000) (disch := (first | omega | decide)) only [go_sem, ↓reduceIte, Nat.reduceEqDiff, reduceCtorEq, Nat.reduceAdd, Nat.reduceSub, Nat.reduceMul, Nat.reduceLeDiff, Nat.reduceLT, Nat.reduceBEq, Nat.reduceBNe, Int.reduceLE, Int.reduceLT, Int.reduceBEq, Int.reduceBNe, Int.reduceEq, Int.reduceNe, Int.reduceAdd, Int.reduceSub, Int.reduceMul, Int.reduceNeg, Int.reduceToNat, hlt', e1, ok1, h1, h0', wrap_i64, List.length_map]
          have hk0 : k = 0 := by omega
          exact next (by rw [hd, h1]; simp [prevR, hk0])
    · have hlt' : ¬ (k : Int) < (l.length : Int) := by omega
      have hh : rightRs l = true := by
        rw [hd, List.drop_of_length_le (by omega)]; cases prevR l k <;> rfl
      simp -implicitDefEqProofs (maxSteps := 600000) (disch := (first | omega | decide)) only [go_sem, ↓reduceIte, Nat.reduceEqDiff, reduceCtorEq, Nat.reduceAdd, Nat.reduceSub, Nat.reduceMul, Nat.reduceLeDiff, Nat.reduceLT, Nat.reduceBEq, Nat.reduceBNe, Int.reduceLE, Int.reduceLT, Int.reduceBEq, Int.reduceBNe, Int.reduceEq, Int.reduceNe, Int.reduceAdd, Int.reduceSub, Int.reduceMul, Int.reduceNeg, Int.reduceToNat, hlt', hh, List.length_map]
theorem ok_ref08_Right : codeOK Try.prog T07 Try.f38.ntmps (Try.f38.body.getD .skip) = true := by kernel_rfl
theorem c_ref08_Right (l : List Rng) (hl : l.length ≤ 4611686018427387904) (hok : okL l) : CallA Try.prog 38 [.slc (l.map Rng.enc)] (· = .bool (rightRs l)) := by
  refine callA_of_body T07_ok mixed Try.func38 rfl (Nat.le_of_ble_eq_true rfl) ok_ref08_Right ?_
  unfold Try.f38
  simp -implicitDefEqProofs (maxSteps := 600000) (disch := (first | omega | decide)) only [go_sem, ↓reduceIte, Nat.reduceEqDiff, reduceCtorEq, Nat.reduceAdd, Nat.reduceSub, Nat.reduceMul, Nat.reduceLeDiff, Nat.reduceLT, Nat.reduceBEq, Nat.reduceBNe, Int.reduceLE, Int.reduceLT, Int.reduceBEq, Int.reduceBNe, Int.reduceEq, Int.reduceNe, Int.reduceAdd, Int.reduceSub, Int.reduceMul, Int.reduceNeg, Int.reduceToNat, List.length_map]
  refine wpA_loop [0] (ι := {k : Nat // k ≤ l.length ∧ rightRs l = goRs (prevR l k) (l.drop k)}) (fun p => [(3, .int .i64 p.1), (2, .bool false)]) (fun _ => []) (fun p => l.length - p.1) ⟨0, by omega, rfl⟩ (Nat.zero_le _) ?_ ?_
  · simp -implicitDefEqProofs (maxSteps := 600000) (disch := (first | omega | decide)) only [go_sem, ↓reduceIte, Nat.reduceEqDiff, reduceCtorEq, Nat.reduceAdd, Nat.reduceSub, Nat.reduceMul, Nat.reduceLeDiff, Nat.reduceLT, Nat.reduceBEq, Nat.reduceBNe, Int.reduceLE, Int.reduceLT, Int.reduceBEq, Int.reduceBNe, Int.reduceEq, Int.reduceNe, Int.reduceAdd, Int.reduceSub, Int.reduceMul, Int.reduceNeg, Int.reduceToNat]
  · rintro ⟨k, hk, hd⟩
    simp only
    by_cases hlt : k < l.length
    · have hlt' : (k : Int) < (l.length : Int) := by omega
      have e1 := rng_get hlt
      have ok1 := okL_get hok hlt
      have hprev := prevR_succ hlt
      rw [List.drop_eq_getElem_cons hlt] at hd
      simp only [goRs] at hd
      have next : rightRs l = goRs (some l[k]) (l.drop (k + 1)) → ∃ j : {k : Nat // k ≤ l.length ∧ rightRs l = goRs (prevR l k) (l.drop k)}, (k : Int) + 1 = (j.1 : Int) ∧ l.length - j.1 < l.length - k := fun h => ⟨⟨k + 1, hlt, by rw [hprev]; exact h⟩, by simp, by show l.length - (k + 1) < l.length - k; omega⟩
      generalize hx : l[k] = x at *
      obtain ⟨lo, hi, op⟩ := x
      simp only at ok1
      cases h1 : rightR ⟨lo, hi, op⟩ with
      | false =>
        have hh : rightRs l = false := by rw [hd, h1]; rfl
        simp -implicitDefEqProofs (maxSteps := 600000) (disch := (first | omega | decide)) only [go_sem, ↓reduceIte, Nat.reduceEqDiff, reduceCtorEq, Nat.reduceAdd, Nat.reduceSub, Nat.reduceMul, Nat.reduceLeDiff, Nat.reduceLT, Nat.reduceBEq, Nat.reduceBNe, Int.reduceLE, Int.reduceLT, Int.reduceBEq, Int.reduceBNe, Int.reduceEq, Int.reduceNe, Int.reduceAdd, Int.reduceSub, Int.reduceMul, Int.reduceNeg, Int.reduceToNat, hlt', e1, ok1, h1, hh, wrap_i64, List.length_map]
      | true =>
        by_cases h0 : 0 < k
        · have h0' : (0 : Int) < (k : Int) := by omega
          have hk1 : k - 1 < l.length := by omega
          have e0 := rng_get hk1
          have ok0 := okL_get hok hk1
          have hpt : prevR l k = some l[k - 1] := by
            unfold prevR; rw [if_neg (by omega), List.getElem?_eq_getElem hk1]
          have t0 : ((k : Int) - 1).toNat = k - 1 := by omega
          have b0 : (0 : Int) ≤ (k : Int) - 1 := by omega
          have b1 : (k : Int) - 1 < (l.length : Int) := by omega
          rw [hpt] at hd
          generalize hy : l[k - 1] = y at *
          obtain ⟨lo', hi', op'⟩ := y
          simp only at ok0 hd
          cases h2 : op' with
          | true =>
            subst h2
            have hh : rightRs l = false := by rw [hd]; simp
            simp -implicitDefEqProofs (maxSteps := 600000) (disch := (first | omega | decide)) only [go_sem, ↓reduceIte, Nat.reduceEqDiff, reduceCtorEq, Nat.reduceAdd, Nat.reduceSub, Nat.reduceMul, Nat.reduceLeDiff, Nat.reduceLT, Nat.reduceBEq, Nat.reduceBNe, Int.reduceLE, Int.reduceLT, Int.reduceBEq, Int.reduceBNe, Int.reduceEq, Int.reduceNe, Int.reduceAdd, Int.reduceSub, Int.reduceMul, Int.reduceNeg, Int.reduceToNat, hlt', e1, e0, ok0, ok1, h1, h0', t0, b0, b1, hh, wrap_i64, List.length_map]
          | false =>
            subst h2
            cases h3 : ltB hi' lo with
            | false =>
              have hh : rightRs l = false := by rw [hd, h3]; simp
              simp -implicitDefEqProofs (maxSteps := 600000) (disch := (first | omega | decide)) only [go_sem, ↓reduceIte, Nat.reduceEqDiff, reduceCtorEq, Nat.reduceAdd, Nat.reduceSub, Nat.reduceMul, Nat.reduceLeDiff, Nat.reduceLT, Nat.reduceBEq, Nat.reduceBNe, Int.reduceLE, Int.reduceLT, Int.reduceBEq, Int.reduceBNe, Int.reduceEq, Int.reduceNe, Int.reduceAdd, Int.reduceSub, Int.reduceMul, Int.reduceNeg, Int.reduceToNat, hlt', e1, e0, ok0, ok1, h1, h3, h0', t0, b0, b1, hh, wrap_i64, List.length_map]
            | true =>
              simp -implicitDefEqProofs (maxSteps := 600000) (disch := (first | omega | decide)) only [go_sem, ↓reduceIte, Nat.reduceEqDiff, reduceCtorEq, Nat.reduceAdd, Nat.reduceSub, Nat.reduceMul, Nat.reduceLeDiff, Nat.reduceLT, Nat.reduceBEq, Nat.reduceBNe, Int.reduceLE, Int.reduceLT, Int.reduceBEq, Int.reduceBNe, Int.reduceEq, Int.reduceNe, Int.reduceAdd, Int.reduceSub, Int.reduceMul, Int.reduceNeg, Int.reduceToNat, hlt', e1, e0, ok0, ok1, h1, h3, h0', t0, b0, b1, wrap_i64, List.length_map]
              exact next (by rw [hd, h1, h3]; simp)
        · have h0' : ¬ (0 : Int) < (k : Int) := by omega
          simp -implicitDefEqProofs (maxSteps := 600000) (disch := (first | omega | decide)) only [go_sem, ↓reduceIte, Nat.reduceEqDiff, reduceCtorEq, Nat.reduceAdd, Nat.reduceSub, Nat.reduceMul, Nat.reduceLeDiff, Nat.reduceLT, Nat.reduceBEq, Nat.reduceBNe, Int.reduceLE, Int.reduceLT, Int.reduceBEq, Int.reduceBNe, Int.reduceEq, Int.reduceNe, Int.reduceAdd, Int.reduceSub, Int.reduceMul, Int.reduceNeg, Int.reduceToNat, hlt', e1, ok1, h1, h0', wrap_i64, List.length_map]
          have hk0 : k = 0 := by omega
          exact next (by rw [hd, h1]; simp [prevR, hk0])
    · have hlt' : ¬ (k : Int) < (l.length : Int) := by omega
      have hh : rightRs l = true := by
        rw [hd, List.drop_of_length_le (by omega)]; cases prevR l k <;> rfl
      simp -implicitDefEqProofs (maxSteps := 600000) (disch := (first | omega | decide)) only [go_sem, ↓reduceIte, Nat.reduceEqDiff, reduceCtorEq, Nat.reduceAdd, Nat.reduceSub, Nat.reduceMul, Nat.reduceLeDiff, Nat.reduceLT, Nat.reduceBEq, Nat.reduceBNe, Int.reduceLE, Int.reduceLT, Int.reduceBEq, Int.reduceBNe, Int.reduceEq, Int.reduceNe, Int.reduceAdd, Int.reduceSub, Int.reduceMul, Int.reduceNeg, Int.reduceToNat, hlt', hh, List.length_map]
theorem ok_ref08_Has : codeOK Try.prog T07 Try.f35.ntmps (Try.f35.body.getD .skip) = true := by kernel_rfl
theorem c_ref08_Has (l : List Rng) (s : List UInt8) (hl : l.length ≤ 4611686018427387904) (hok : okL l) (hs : s.length ≤ 9223372036854775807) : CallA Try.prog 35 [.slc (l.map Rng.enc), .str s] (· = .bool (hasRs l s)) := by
  refine callA_of_body T07_ok mixed Try.func35 rfl (Nat.le_of_ble_eq_true rfl) ok_ref08_Has ?_
  unfold Try.f35
  simp -implicitDefEqProofs (maxSteps := 600000) (disch := (first | omega | decide)) only [go_sem, ↓reduceIte, Nat.reduceEqDiff, reduceCtorEq, Nat.reduceAdd, Nat.reduceSub, Nat.reduceMul, Nat.reduceLeDiff, Nat.reduceLT, Nat.reduceBEq, Nat.reduceBNe, Int.reduceLE, Int.reduceLT, Int.reduceBEq, Int.reduceBNe, Int.reduceEq, Int.reduceNe, Int.reduceAdd, Int.reduceSub, Int.reduceMul, Int.reduceNeg, Int.reduceToNat, List.length_map]
  refine wpA_loop [0, 1] (ι := {k : Nat // k ≤ l.length ∧ hasRs l s = hasRs (l.drop k) s}) (fun p => [(5, .int .i64 p.1), (4, .bool false)]) (fun _ => []) (fun p => l.length - p.1) ⟨0, by omega, rfl⟩ (Nat.zero_le _) ?_ ?_
  · simp -implicitDefEqProofs (maxSteps := 600000) (disch := (first | omega | decide)) only [go_sem, ↓reduceIte, Nat.reduceEqDiff, reduceCtorEq, Nat.reduceAdd, Nat.reduceSub, Nat.reduceMul, Nat.reduceLeDiff, Nat.reduceLT, Nat.reduceBEq, Nat.reduceBNe, Int.reduceLE, Int.reduceLT, Int.reduceBEq, Int.reduceBNe, Int.reduceEq, Int.reduceNe, Int.reduceAdd, Int.reduceSub, Int.reduceMul, Int.reduceNeg, Int.reduceToNat]
  · rintro ⟨k, hk, hd⟩
    simp only
    by_cases hlt : k < l.length
    · have hlt' : (k : Int) < (l.length : Int) := by omega
      have e1 := rng_get hlt
      have ok1 := okL_get hok hlt
      rw [List.drop_eq_getElem_cons hlt, hasRs_cons] at hd
      generalize hx : l[k] = x at *
      obtain ⟨lo, hi, op⟩ := x
      simp only at ok1
      cases h1 : hasR ⟨lo, hi, op⟩ s with
      | true =>
        have hh : hasRs l s = true := by rw [hd, h1]; rfl
        simp -implicitDefEqProofs (maxSteps := 600000) (disch := (first | omega | decide)) only [go_sem, ↓reduceIte, Nat.reduceEqDiff, reduceCtorEq, Nat.reduceAdd, Nat.reduceSub, Nat.reduceMul, Nat.reduceLeDiff, Nat.reduceLT, Nat.reduceBEq, Nat.reduceBNe, Int.reduceLE, Int.reduceLT, Int.reduceBEq, Int.reduceBNe, Int.reduceEq, Int.reduceNe, Int.reduceAdd, Int.reduceSub, Int.reduceMul, Int.reduceNeg, Int.reduceToNat, hlt', e1, ok1, h1, hh, wrap_i64, List.length_map]
      | false =>
        simp -implicitDefEqProofs (maxSteps := 600000) (disch := (first | omega | decide)) only [go_sem, ↓reduceIte, Nat.reduceEqDiff, reduceCtorEq, Nat.reduceAdd, Nat.reduceSub, Nat.reduceMul, Nat.reduceLeDiff, Nat.reduceLT, Nat.reduceBEq, Nat.reduceBNe, Int.reduceLE, Int.reduceLT, Int.reduceBEq, Int.reduceBNe, Int.reduceEq, Int.reduceNe, Int.reduceAdd, Int.reduceSub, Int.reduceMul, Int.reduceNeg, Int.reduceToNat, hlt', e1, ok1, h1, wrap_i64, List.length_map]
        exact ⟨⟨k + 1, hlt, by rw [hd, h1]; rfl⟩, by simp, by show l.length - (k + 1) < l.length - k; omega⟩
    · have hlt' : ¬ (k : Int) < (l.length : Int) := by omega
      have hh : hasRs l s = false := by rw [hd, List.drop_of_length_le (by omega)]; rfl
      simp -implicitDefEqProofs (maxSteps := 600000) (disch := (first | omega | decide)) only [go_sem, ↓reduceIte, Nat.reduceEqDiff, reduceCtorEq, Nat.reduceAdd, Nat.reduceSub, Nat.reduceMul, Nat.reduceLeDiff, Nat.reduceLT, Nat.reduceBEq, Nat.reduceBNe, Int.reduceLE, Int.reduceLT, Int.reduceBEq, Int.reduceBNe, Int.reduceEq, Int.reduceNe, Int.reduceAdd, Int.reduceSub, Int.reduceMul, Int.reduceNeg, Int.reduceToNat, hlt', hh, List.length_map]
def longRs (l : List Rng) (m : Int) : Bool := decide (m < (l.length : Int)) || l.any fun r => decide (40 < r.lo.length) || decide (40 < r.hi.length)
theorem ok_ref08_Long : codeOK Try.prog T07 Try.f28.ntmps (Try.f28.body.getD .skip) = true := by kernel_rfl
theorem c_ref08_Long (l : List Rng) (m : Int) (hl : l.length ≤ 4611686018427387904) : CallA Try.prog 28 [.slc (l.map Rng.enc), .int .i64 m] (· = .bool (longRs l m)) := by
  refine callA_of_body T07_ok mixed Try.func28 rfl (Nat.le_of_ble_eq_true rfl) ok_ref08_Long ?_
  unfold Try.f28
  by_cases h0 : m < (l.length : Int)
  · have hh : longRs l m = true := by simp [longRs, h0]
    simp -implicitDefEqProofs (maxSteps := 600000) (disch := (first | omega | decide)) only [go_sem, ↓reduceIte, Nat.reduceEqDiff, reduceCtorEq, Nat.reduceAdd, Nat.reduceSub, Nat.reduceMul, Nat.reduceLeDiff, Nat.reduceLT, Nat.reduceBEq, Nat.reduceBNe, Int.reduceLE, Int.reduceLT, Int.reduceBEq, Int.reduceBNe, Int.reduceEq, Int.reduceNe, Int.reduceAdd, Int.reduceSub, Int.reduceMul, Int.reduceNeg, Int.reduceToNat, h0, hh, List.length_map]
  · have hh : longRs l m = l.any fun r => decide (40 < r.lo.length) || decide (40 < r.hi.length) := by simp [longRs, h0]
    simp -implicitDefEqProofs (maxSteps := 600000) (disch := (first | omega | decide)) only [go_sem, ↓reduceIte, Nat.reduceEqDiff, reduceCtorEq, Nat.reduceAdd, Nat.reduceSub, Nat.reduceMul, Nat.reduceLeDiff, Nat.reduceLT, Nat.reduceBEq, Nat.reduceBNe, Int.reduceLE, Int.reduceLT, Int.reduceBEq, Int.reduceBNe, Int.reduceEq, Int.reduceNe, Int.reduceAdd, Int.reduceSub, Int.reduceMul, Int.reduceNeg, Int.reduceToNat, h0, List.length_map]
    rw [hh]
    refine wpA_loop [0] (ι := {k : Nat // k ≤ l.length ∧ (l.any fun r => decide (40 < r.lo.length) || decide (40 < r.hi.length)) = ((l.drop k).any fun r => decide (40 < r.lo.length) || decide (40 < r.hi.length))}) (fun p => [(5, .int .i64 p.1), (4, .bool false)]) (fun _ => []) (fun p => l.length - p.1) ⟨0, by omega, rfl⟩ (Nat.zero_le _) ?_ ?_
    · simp -implicitDefEqProofs (maxSteps := 600000) (disch := (first | omega | decide)) only [go_sem, ↓reduceIte, Nat.reduceEqDiff, reduceCtorEq, Nat.reduceAdd, Nat.reduceSub, Nat.reduceMul, Nat.reduceLeDiff, Nat.reduceLT, Nat.reduceBEq, Nat.reduceBNe, Int.reduceLE, Int.reduceLT, Int.reduceBEq, Int.reduceBNe, Int.reduceEq, Int.reduceNe, Int.reduceAdd, Int.reduceSub, Int.reduceMul, Int.reduceNeg, Int.reduceToNat]
    · rintro ⟨k, hk, hd⟩
      simp only
      by_cases hlt : k < l.length
      · have hlt' : (k : Int) < (l.length : Int) := by omega
        have e1 := rng_get hlt
        rw [List.drop_eq_getElem_cons hlt, List.any_cons] at hd
        generalize hx : l[k] = x at *
        obtain ⟨lo, hi, op⟩ := x
        simp only at hd
        by_cases h1 : 40 < lo.length
        · have h1' : (40 : Int) < (lo.length : Int) := by omega
          rw [decide_eq_true h1, Bool.true_or, Bool.true_or] at hd
          simp -implicitDefEqProofs (maxSteps := 600000) (disch := (first | omega | decide)) only [go_sem, ↓reduceIte, Nat.reduceEqDiff, reduceCtorEq, Nat.reduceAdd, Nat.reduceSub, Nat.reduceMul, Nat.reduceLeDiff, Nat.reduceLT, Nat.reduceBEq, Nat.reduceBNe, Int.reduceLE, Int.reduceLT, Int.reduceBEq, Int.reduceBNe, Int.reduceEq, Int.reduceNe, Int.reduceAdd, Int.reduceSub, Int.reduceMul, Int.reduceNeg, Int.reduceToNat, hlt', e1, h1', hd, wrap_i64, List.length_map]
        · have h1' : ¬ (40 : Int) < (lo.length : Int) := by omega
          by_cases h2 : 40 < hi.length
          · have h2' : (40 : Int) < (hi.length : Int) := by omega
            rw [decide_eq_true h2, Bool.or_true, Bool.true_or] at hd
            simp -implicitDefEqProofs (maxSteps := 600000) (disch := (first | omega | decide)) only [go_sem, ↓reduceIte, Nat.reduceEqDiff, reduceCtorEq, Nat.reduceAdd, Nat.reduceSub, Nat.reduceMul, Nat.reduceLeDiff, Nat.reduceLT, Nat.reduceBEq, Nat.reduceBNe, Int.reduceLE, Int.reduceLT, Int.reduceBEq, Int.reduceBNe, Int.reduceEq, Int.reduceNe, Int.reduceAdd, Int.reduceSub, Int.reduceMul, Int.reduceNeg, Int.reduceToNat, hlt', e1, h1', h2', hd, wrap_i64, List.length_map]
          · have h2' : ¬ (40 : Int) < (hi.length : Int) := by omega
            rw [decide_eq_false h1, decide_eq_false h2, Bool.or_false, Bool.false_or] at hd
            simp -implicitDefEqProofs (maxSteps := 600000) (disch := (first | omega | decide)) only [go_sem, ↓reduceIte, Nat.reduceEqDiff, reduceCtorEq, Nat.reduceAdd, Nat.reduceSub, Nat.reduceMul, Nat.reduceLeDiff, Nat.reduceLT, Nat.reduceBEq, Nat.reduceBNe, Int.reduceLE, Int.reduceLT, Int.reduceBEq, Int.reduceBNe, Int.reduceEq, Int.reduceNe, Int.reduceAdd, Int.reduceSub, Int.reduceMul, Int.reduceNeg, Int.reduceToNat, hlt', e1, h1', h2', wrap_i64, List.length_map]
            exact ⟨⟨k + 1, hlt, hd⟩, by simp, by show l.length - (k + 1) < l.length - k; omega⟩
      · have hlt' : ¬ (k : Int) < (l.length : Int) := by omega
        rw [List.drop_of_length_le (by omega)] at hd
        simp -implicitDefEqProofs (maxSteps := 600000) (disch := (first | omega | decide)) only [go_sem, ↓reduceIte, Nat.reduceEqDiff, reduceCtorEq, Nat.reduceAdd, Nat.reduceSub, Nat.reduceMul, Nat.reduceLeDiff, Nat.reduceLT, Nat.reduceBEq, Nat.reduceBNe, Int.reduceLE, Int.reduceLT, Int.reduceBEq, Int.reduceBNe, Int.reduceEq, Int.reduceNe, Int.reduceAdd, Int.reduceSub, Int.reduceMul, Int.reduceNeg, Int.reduceToNat, hlt', hd, List.length_map]
def sameRs (a b : List Rng) : Bool := decide (a = b)
theorem ok_ref08_Same : codeOK Try.prog T07 Try.f33.ntmps (Try.f33.body.getD .skip) = true := by kernel_rfl
theorem c_ref08_Same (a b : List Rng) (hl : a.length ≤ 4611686018427387904) (hb : b.length ≤ 4611686018427387904) : CallA Try.prog 33 [.slc (a.map Rng.enc), .slc (b.map Rng.enc)] (· = .bool (sameRs a b)) := by
  refine callA_of_body T07_ok mixed Try.func33 rfl (Nat.le_of_ble_eq_true rfl) ok_ref08_Same ?_
  unfold Try.f33
  cases h0 : ((a.length : Int) == (b.length : Int)) with
  | false =>
    have hne : a.length ≠ b.length := by
      have : (a.length : Int) ≠ (b.length : Int) := by simpa using h0
      omega
    have hh : sameRs a b = false := by unfold sameRs; simp; intro e; exact hne (by rw [e])
    simp -implicitDefEqProofs (maxSteps := 600000) (disch := (first | omega | decide)) only [go_sem, ↓reduceIte, Nat.reduceEqDiff, reduceCtorEq, Nat.reduceAdd, Nat.reduceSub, Nat.reduceMul, Nat.reduceLeDiff, Nat.reduceLT, Nat.reduceBEq, Nat.reduceBNe, Int.reduceLE, Int.reduceLT, Int.reduceBEq, Int.reduceBNe, Int.reduceEq, Int.reduceNe, Int.reduceAdd, Int.reduceSub, Int.reduceMul, Int.reduceNeg, Int.reduceToNat, h0, hh, List.length_map]
  | true =>
    have he : a.length = b.length := by
      have : (a.length : Int) = (b.length : Int) := by simpa using h0
      omega
    simp -implicitDefEqProofs (maxSteps := 600000) (disch := (first | omega | decide)) only [go_sem, ↓reduceIte, Nat.reduceEqDiff, reduceCtorEq, Nat.reduceAdd, Nat.reduceSub, Nat.reduceMul, Nat.reduceLeDiff, Nat.reduceLT, Nat.reduceBEq, Nat.reduceBNe, Int.reduceLE, Int.reduceLT, Int.reduceBEq, Int.reduceBNe, Int.reduceEq, Int.reduceNe, Int.reduceAdd, Int.reduceSub, Int.reduceMul, Int.reduceNeg, Int.reduceToNat, h0, List.length_map]
    refine wpA_loop [0, 1] (ι := {k : Nat // k ≤ a.length ∧ a.take k = b.take k}) (fun p => [(5, .int .i64 p.1)]) (fun _ => []) (fun p => a.length - p.1) ⟨0, by omega, rfl⟩ (Nat.zero_le _) ?_ ?_
    · simp -implicitDefEqProofs (maxSteps := 600000) (disch := (first | omega | decide)) only [go_sem, ↓reduceIte, Nat.reduceEqDiff, reduceCtorEq, Nat.reduceAdd, Nat.reduceSub, Nat.reduceMul, Nat.reduceLeDiff, Nat.reduceLT, Nat.reduceBEq, Nat.reduceBNe, Int.reduceLE, Int.reduceLT, Int.reduceBEq, Int.reduceBNe, Int.reduceEq, Int.reduceNe, Int.reduceAdd, Int.reduceSub, Int.reduceMul, Int.reduceNeg, Int.reduceToNat]
    · rintro ⟨k, hk, hd⟩
      simp only
      by_cases hlt : k < a.length
      · have hlt' : (k : Int) < (a.length : Int) := by omega
        have hlt2 : (k : Int) < (b.length : Int) := by omega
        have hltb : k < b.length := by omega
        have e1 := rng_get hlt
        have e2 := rng_get hltb
        have t1 := (List.take_append_getElem hlt).symm
        have t2 := (List.take_append_getElem hltb).symm
        have hno : a[k] ≠ b[k] → sameRs a b = false := fun h => by
          unfold sameRs; simp; intro e; subst e; exact h rfl
        generalize hx : a[k] = x at *
        generalize hy : b[k] = y at *
        obtain ⟨f, t, o⟩ := x
        obtain ⟨f', t', o'⟩ := y
        cases h1 : f == f' with
        | false =>
          have hh := hno (by have : f ≠ f' := by simpa using h1
                             simp [this])
          simp -implicitDefEqProofs (maxSteps := 600000) (disch := (first | omega | decide)) only [go_sem, ↓reduceIte, Nat.reduceEqDiff, reduceCtorEq, Nat.reduceAdd, Nat.reduceSub, Nat.reduceMul, Nat.reduceLeDiff, Nat.reduceLT, Nat.reduceBEq, Nat.reduceBNe, Int.reduceLE, Int.reduceLT, Int.reduceBEq, Int.reduceBNe, Int.reduceEq, Int.reduceNe, Int.reduceAdd, Int.reduceSub, Int.reduceMul, Int.reduceNeg, Int.reduceToNat, hlt', hlt2, e1, e2, h1, hh, List.length_map]
        | true =>
          cases h2 : t == t' with
          | false =>
            have hh := hno (by have : t ≠ t' := by simpa using h2
                               simp [this])
            simp -implicitDefEqProofs (maxSteps := 600000) (disch := (first | omega | decide)) only [go_sem, ↓reduceIte, Nat.reduceEqDiff, reduceCtorEq, Nat.reduceAdd, Nat.reduceSub, Nat.reduceMul, Nat.reduceLeDiff, Nat.reduceLT, Nat.reduceBEq, Nat.reduceBNe, Int.reduceLE, Int.reduceLT, Int.reduceBEq, Int.reduceBNe, Int.reduceEq, Int.reduceNe, Int.reduceAdd, Int.reduceSub, Int.reduceMul, Int.reduceNeg, Int.reduceToNat, hlt', hlt2, e1, e2, h1, h2, hh, List.length_map]
          | true =>
            cases h3 : o == o' with
            | false =>
              have hh := hno (by have : o ≠ o' := by simpa using h3
                                 simp [this])
              simp -implicitDefEqProofs (maxSteps := 600000) (disch := (first | omega | decide)) only [go_sem, ↓reduceIte, Nat.reduceEqDiff, reduceCtorEq, Nat.reduceAdd, Nat.reduceSub, Nat.reduceMul, Nat.reduceLeDiff, Nat.reduceLT, Nat.reduceBEq, Nat.reduceBNe, Int.reduceLE, Int.reduceLT, Int.reduceBEq, Int.reduceBNe, Int.reduceEq, Int.reduceNe, Int.reduceAdd, Int.reduceSub, Int.reduceMul, Int.reduceNeg, Int.reduceToNat, hlt', hlt2, e1, e2, h1, h2, h3, hh, List.length_map]
            | true =>
              obtain rfl : f = f' := by simpa using h1
              obtain rfl : t = t' := by simpa using h2
              obtain rfl : o = o' := by simpa using h3
              simp -implicitDefEqProofs (maxSteps := 600000) (disch := (first | omega | decide)) only [go_sem, ↓reduceIte, Nat.reduceEqDiff, reduceCtorEq, Nat.reduceAdd, Nat.reduceSub, Nat.reduceMul, Nat.reduceLeDiff, Nat.reduceLT, Nat.reduceBEq, Nat.reduceBNe, Int.reduceLE, Int.reduceLT, Int.reduceBEq, Int.reduceBNe, Int.reduceEq, Int.reduceNe, Int.reduceAdd, Int.reduceSub, Int.reduceMul, Int.reduceNeg, Int.reduceToNat, hlt', hlt2, e1, e2, h1, h2, h3, wrap_i64, List.length_map]
              exact ⟨⟨k + 1, hlt, by rw [t1, t2, hd]⟩, by simp, by show a.length - (k + 1) < a.length - k; omega⟩
      · have hlt' : ¬ (k : Int) < (a.length : Int) := by omega
        have hh : sameRs a b = true := by
          rw [List.take_of_length_le (by omega), List.take_of_length_le (by omega)] at hd
          simp [sameRs, hd]
        simp -implicitDefEqProofs (maxSteps := 600000) (disch := (first | omega | decide)) only [go_sem, ↓reduceIte, Nat.reduceEqDiff, reduceCtorEq, Nat.reduceAdd, Nat.reduceSub, Nat.reduceMul, Nat.reduceLeDiff, Nat.reduceLT, Nat.reduceBEq, Nat.reduceBNe, Int.reduceLE, Int.reduceLT, Int.reduceBEq, Int.reduceBNe, Int.reduceEq, Int.reduceNe, Int.reduceAdd, Int.reduceSub, Int.reduceMul, Int.reduceNeg, Int.reduceToNat, hlt', hh, List.length_map]
end Go.Proofs.Ytnmkojglcgaobaa
