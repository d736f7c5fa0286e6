/- Chapter 08: lists held against one another; searching. -/
import Derived.Test.YtnmkojglcgaobaaK08A
namespace Go.Proofs.Ytnmkojglcgaobaa
open Go.Abs
set_option linter.unusedSimpArgs false
set_option linter.unusedVariables false
set_option maxRecDepth 20000
set_option maxHeartbeats 4000000

theorem ok_slices_Equal_winnower_api_Range_winnower_api_Range : codeOK Try.prog T07 Try.f82.ntmps (Try.f82.body.getD .skip) = true := by kernel_rfl
theorem c_Equal_Range (a b : List Rng) (hl : a.length ≤ 4611686018427387904) (hb : b.length ≤ 4611686018427387904) : CallA Try.prog 82 [.slc (a.map Rng.enc), .slc (b.map Rng.enc)] (· = .bool (sameRs a b)) := by
  refine callA_of_body T07_ok mixed Try.func82 rfl (Nat.le_of_ble_eq_true rfl) ok_slices_Equal_winnower_api_Range_winnower_api_Range ?_
  unfold Try.f82
  cases h0 : ((a.length : Int) == (b.length : Int)) with
  | false =>
    have hne : a.length ≠ b.length := by
      have : (a.length : Int) ≠ (b.length : Int) := by simpa using h0
      omega
    have hh : sameRs a b = false := by unfold sameRs; simp; intro e; exact hne (by rw [e])
    simp -implicitDefEqProofs (maxSteps := 600000) (disch := (first | omega | decide)) only [go_sem, ↓reduceIte, Nat.reduceEqDiff, reduceCtorEq, Nat.reduceAdd, Nat.reduceSub, Nat.reduceMul, Nat.reduceLeDiff, Nat.reduceLT, Nat.reduceBEq, Nat.reduceBNe, Int.reduceLE, Int.reduceLT, Int.reduceBEq, Int.reduceBNe, Int.reduceEq, Int.reduceNe, Int.reduceAdd, Int.reduceSub, Int.reduceMul, Int.reduceNeg, Int.reduceToNat, h0, hh, List.length_map]
  | true =>
    have he : a.length = b.length := by
      have : (a.length : Int) = (b.length : Int) := by simpa using h0
      omega
    simp -implicitDefEqProofs (maxSteps := 600000) (disch := (first | omega | decide)) only [go_sem, ↓reduceIte, Nat.reduceEqDiff, reduceCtorEq, Nat.reduceAdd, Nat.reduceSub, Nat.reduceMul, Nat.reduceLeDiff, Nat.reduceLT, Nat.reduceBEq, Nat.reduceBNe, Int.reduceLE, Int.reduceLT, Int.reduceBEq, Int.reduceBNe, Int.reduceEq, Int.reduceNe, Int.reduceAdd, Int.reduceSub, Int.reduceMul, Int.reduceNeg, Int.reduceToNat, h0, List.length_map]
    refine wpA_loop [0, 1, 12] (ι := {k : Nat // k ≤ a.length ∧ a.take k = b.take k}) (fun p => [(13, .int .i64 p.1)]) (fun _ => []) (fun p => a.length - p.1) ⟨0, by omega, rfl⟩ (Nat.zero_le _) ?_ ?_
    · simp -implicitDefEqProofs (maxSteps := 600000) (disch := (first | omega | decide)) only [go_sem, ↓reduceIte, Nat.reduceEqDiff, reduceCtorEq, Nat.reduceAdd, Nat.reduceSub, Nat.reduceMul, Nat.reduceLeDiff, Nat.reduceLT, Nat.reduceBEq, Nat.reduceBNe, Int.reduceLE, Int.reduceLT, Int.reduceBEq, Int.reduceBNe, Int.reduceEq, Int.reduceNe, Int.reduceAdd, Int.reduceSub, Int.reduceMul, Int.reduceNeg, Int.reduceToNat]
    · rintro ⟨k, hk, hd⟩
      simp only
      by_cases hlt : k < a.length
      · have hlt' : (k : Int) < (a.length : Int) := by omega
        have hlt3 : (k : Int) < (b.length : Int) := by omega
        have hltb : k < b.length := by omega
        have e1 := rng_get hlt
        have e2 := rng_get hltb
        have t1 := (List.take_append_getElem hlt).symm
        have t2 := (List.take_append_getElem hltb).symm
        have hno : a[k] ≠ b[k] → sameRs a b = false := fun h => by
          unfold sameRs; simp; intro e; subst e; exact h rfl
        generalize hx : a[k] = x at *
        generalize hy : b[k] = y at *
        obtain ⟨f, t, o⟩ := x
        obtain ⟨f', t', o'⟩ := y
        cases h1 : f == f' with
        | false =>
          have hh := hno (by have : f ≠ f' := by simpa using h1
                             simp [this])
          simp -implicitDefEqProofs (maxSteps := 600000) (disch := (first | omega | decide)) only [go_sem, ↓reduceIte, Nat.reduceEqDiff, reduceCtorEq, Nat.reduceAdd, Nat.reduceSub, Nat.reduceMul, Nat.reduceLeDiff, Nat.reduceLT, Nat.reduceBEq, Nat.reduceBNe, Int.reduceLE, Int.reduceLT, Int.reduceBEq, Int.reduceBNe, Int.reduceEq, Int.reduceNe, Int.reduceAdd, Int.reduceSub, Int.reduceMul, Int.reduceNeg, Int.reduceToNat, hlt', hlt3, e1, e2, h1, hh, List.length_map]
        | true =>
          cases h2 : t == t' with
          | false =>
            have hh := hno (by have : t ≠ t' := by simpa using h2
                               simp [this])
            simp -implicitDefEqProofs (maxSteps := 600000) (disch := (first | omega | decide)) only [go_sem, ↓reduceIte, Nat.reduceEqDiff, reduceCtorEq, Nat.reduceAdd, Nat.reduceSub, Nat.reduceMul, Nat.reduceLeDiff, Nat.reduceLT, Nat.reduceBEq, Nat.reduceBNe, Int.reduceLE, Int.reduceLT, Int.reduceBEq, Int.reduceBNe, Int.reduceEq, Int.reduceNe, Int.reduceAdd, Int.reduceSub, Int.reduceMul, Int.reduceNeg, Int.reduceToNat, hlt', hlt3, e1, e2, h1, h2, hh, List.length_map]
          | true =>
            cases h3 : o == o' with
            | false =>
              have hh := hno (by have : o ≠ o' := by simpa using h3
                                 simp [this])
              simp -implicitDefEqProofs (maxSteps := 600000) (disch := (first | omega | decide)) only [go_sem, ↓reduceIte, Nat.reduceEqDiff, reduceCtorEq, Nat.reduceAdd, Nat.reduceSub, Nat.reduceMul, Nat.reduceLeDiff, Nat.reduceLT, Nat.reduceBEq, Nat.reduceBNe, Int.reduceLE, Int.reduceLT, Int.reduceBEq, Int.reduceBNe, Int.reduceEq, Int.reduceNe, Int.reduceAdd, Int.reduceSub, Int.reduceMul, Int.reduceNeg, Int.reduceToNat, hlt', hlt3, e1, e2, h1, h2, h3, hh, List.length_map]
            | true =>
              obtain rfl : f = f' := by simpa using h1
              obtain rfl : t = t' := by simpa using h2
              obtain rfl : o = o' := by simpa using h3
              simp -implicitDefEqProofs (maxSteps := 600000) (disch := (first | omega | decide)) only [go_sem, ↓reduceIte, Nat.reduceEqDiff, reduceCtorEq, Nat.reduceAdd, Nat.reduceSub, Nat.reduceMul, Nat.reduceLeDiff, Nat.reduceLT, Nat.reduceBEq, Nat.reduceBNe, Int.reduceLE, Int.reduceLT, Int.reduceBEq, Int.reduceBNe, Int.reduceEq, Int.reduceNe, Int.reduceAdd, Int.reduceSub, Int.reduceMul, Int.reduceNeg, Int.reduceToNat, hlt', hlt3, e1, e2, h1, h2, h3, wrap_i64, List.length_map]
              exact ⟨⟨k + 1, hlt, by rw [t1, t2, hd]⟩, by simp, by show a.length - (k + 1) < a.length - k; omega⟩
      · have hlt' : ¬ (k : Int) < (a.length : Int) := by omega
        have hh : sameRs a b = true := by
          rw [List.take_of_length_le (by omega), List.take_of_length_le (by omega)] at hd
          simp [sameRs, hd]
        simp -implicitDefEqProofs (maxSteps := 600000) (disch := (first | omega | decide)) only [go_sem, ↓reduceIte, Nat.reduceEqDiff, reduceCtorEq, Nat.reduceAdd, Nat.reduceSub, Nat.reduceMul, Nat.reduceLeDiff, Nat.reduceLT, Nat.reduceBEq, Nat.reduceBNe, Int.reduceLE, Int.reduceLT, Int.reduceBEq, Int.reduceBNe, Int.reduceEq, Int.reduceNe, Int.reduceAdd, Int.reduceSub, Int.reduceMul, Int.reduceNeg, Int.reduceToNat, hlt', hh, List.length_map]
/-- Where the first range stands that does not end ahead of a text, or at it. -/
def findS : List Rng → List UInt8 → Nat
  | [], _ => 0
  | r :: l, s => if r.op || ltB s r.hi then 0 else findS l s + 1
theorem findS_le : ∀ (l : List Rng) (s : List UInt8), findS l s ≤ l.length
  | [], _ => Nat.le_refl _
  | r :: l, s => by
    have := findS_le l s
    simp only [findS, List.length_cons]; split <;> omega
theorem findS_lt : ∀ (l : List Rng) (s : List UInt8) (i : Nat) (h : i < l.length), i < findS l s → l[i].op = false ∧ ltB s l[i].hi = false
  | r :: l, s, i, h, hi => by
    simp only [findS] at hi
    split at hi
    · omega
    · rename_i hc
      cases i with
      | zero => simpa using hc
      | succ i => exact findS_lt l s i (by simpa using h) (by omega)
theorem findS_at : ∀ (l : List Rng) (s : List UInt8) (h : findS l s < l.length), (l[findS l s].op || ltB s l[findS l s].hi) = true
  | r :: l, s, h => by
    by_cases hc : (r.op || ltB s r.hi) = true
    · have e : findS (r :: l) s = 0 := by simp only [findS]; rw [if_pos hc]
      simp only [e]; exact hc
    · have e : findS (r :: l) s = findS l s + 1 := by simp only [findS]; rw [if_neg hc]
      simp only [e] at h ⊢
      exact findS_at l s (by simpa using h)
/-- In a right list all behind a range that does not end ahead do not, either. -/
theorem right_later {l : List Rng} (h : rightRs l = true) {s : List UInt8} : ∀ (i j : Nat) (hi : i < l.length) (hj : j < l.length), i ≤ j → (l[i].op || ltB s l[i].hi) = true → (l[j].op || ltB s l[j].hi) = true := by
  intro i j hi hj hij hc
  obtain ⟨h1, h2⟩ := rightRs_can.1 h
  induction j with
  | zero => have : i = 0 := by omega
            subst this; exact hc
  | succ j ih =>
    rcases Nat.lt_or_eq_of_le hij with hlt | heq
    · have hj' : j < l.length := by omega
      have ih := ih hj' (by omega)
      -- neighbours
      have key : ∀ (l : List Rng), (∀ r ∈ l, rightR r = true) → Iv.Can ltB (l.map ivR) → ∀ (j : Nat) (h : j + 1 < l.length), l[j].op = false ∧ ltB l[j].hi l[j + 1].lo = true := by
        intro l
        induction l with
        | nil => intro _ _ j h; simp at h
        | cons r l ih2 =>
          intro g1 g2 j hj
          cases j with
          | zero =>
            cases l with
            | nil => simp at hj
            | cons q l =>
              obtain ⟨_, ⟨x, k1, k2⟩, _⟩ := g2
              simp only [ivR] at k1
              cases ho : r.op with
              | true => rw [ho] at k1; simp at k1
              | false =>
                rw [ho] at k1
                simp at k1
                subst k1
                exact ⟨ho, k2⟩
          | succ j => exact ih2 (fun q hq => g1 q (by simp [hq])) (Iv.can_tail linB g2) j (by simpa using hj)
      obtain ⟨k1, k2⟩ := key l h1 h2 j hj
      rw [k1, Bool.false_or] at ih
      have hr := h1 _ (List.getElem_mem hj)
      cases ho : l[j + 1].op with
      | true => rfl
      | false =>
        rw [Bool.false_or]
        exact lt_trans' (lt_trans' ih k2) ((right_parts hr).2.2.2 ho)
    · subst heq; exact hc
theorem findS_split {l : List Rng} (h : rightRs l = true) {s : List UInt8} {i : Nat} (hi : i < l.length) : (l[i].op || ltB s l[i].hi) = decide (findS l s ≤ i) := by
  by_cases hc : findS l s ≤ i
  · rw [decide_eq_true hc]
    exact right_later h _ _ (by omega) hi hc (findS_at l s (by omega))
  · rw [decide_eq_false hc]
    obtain ⟨h1, h2⟩ := findS_lt l s i hi (by omega)
    rw [h1, h2]; rfl
theorem find_has {l : List Rng} (h : rightRs l = true) (s : List UInt8) : hasRs l s = (if h : findS l s < l.length then !ltB s l[findS l s].lo else false) := by
  obtain ⟨h1, h2⟩ := rightRs_can.1 h
  split
  · rename_i hlt
    have hat := findS_at l s hlt
    have hr := h1 _ (List.getElem_mem hlt)
    cases hc : ltB s l[findS l s].lo with
    | false =>
      rw [Bool.not_false, hasRs_iff]
      refine ⟨_, List.getElem_mem hlt, ?_⟩
      rw [hasR_eq, hr, hc]
      unfold upTo
      rw [hat]; rfl
    | true =>
      rw [Bool.not_true, ← Bool.not_eq_true, hasRs_iff]
      rintro ⟨r, hr', hh⟩
      obtain ⟨j, hj, rfl⟩ := List.mem_iff_getElem.1 hr'
      rw [hasR_eq] at hh
      simp only [Bool.and_eq_true, Bool.not_eq_true'] at hh
      obtain ⟨g1, g2, g3⟩ := hh
      have g3' : (l[j].op || ltB s l[j].hi) = true := g3
      rw [findS_split h hj, decide_eq_true_iff] at g3'
      rcases Nat.lt_or_eq_of_le g3' with g | g
      · -- a later one begins above
        have key : ∀ (l : List Rng), (∀ r ∈ l, rightR r = true) → Iv.Can ltB (l.map ivR) → ∀ (i j : Nat) (hi : i < l.length) (hj : j < l.length), i < j → ltB l[i].lo l[j].lo = true := by
          intro l
          induction l with
          | nil => intro _ _ i j hi; simp at hi
          | cons r l ih =>
            intro a1 a2 i j hi hj hij
            cases j with
            | zero => omega
            | succ j =>
              have hj' : j < l.length := by simpa using hj
              have hmem : Iv.mem ltB (l.map ivR) (l[j]'hj').lo = true := by
                have : hasRs l (l[j]'hj').lo = true := hasRs_iff.2 ⟨l[j]'hj', List.getElem_mem _, right_has_lo (a1 _ (by simp))⟩
                rwa [hasRs_iv, filter_right (fun q hq => a1 q (by simp [hq]))] at this
              cases i with
              | zero =>
                cases l with
                | nil => simp at hj
                | cons q l =>
                  have low := Iv.can_low linB (Iv.can_tail linB a2) hmem
                  obtain ⟨b1, ⟨x, k1, k2⟩, _⟩ := a2
                  have b1' : ltB r.lo x = true := by rw [k1] at b1; exact b1
                  exact lt_of_lt_not (lt_trans' b1' k2) low
              | succ i => exact ih (fun q hq => a1 q (by simp [hq])) (Iv.can_tail linB a2) i j (by simpa using hi) (by simpa using hj) (by omega)
        have := key l h1 h2 _ j hlt hj g
        have := lt_trans' hc this
        rw [this] at g2; cases g2
      · have e : l[j] = l[findS l s] := by congr 1; exact g.symm
        rw [e, hc] at g2; cases g2
  · rename_i hge
    rw [← Bool.not_eq_true, hasRs_iff]
    rintro ⟨r, hr', hh⟩
    obtain ⟨j, hj, rfl⟩ := List.mem_iff_getElem.1 hr'
    rw [hasR_eq] at hh
    simp only [Bool.and_eq_true] at hh
    have g3' : (l[j].op || ltB s l[j].hi) = true := hh.2.2
    rw [findS_split h hj, decide_eq_true_iff] at g3'
    omega
theorem ok_ranges_find : codeOK Try.prog T07 Try.f80.ntmps (Try.f80.body.getD .skip) = true := by kernel_rfl
theorem c_ranges_find (l : List Rng) (s : List UInt8) (hl : l.length ≤ 4611686018427387903) (hok : okL l) (hs : s.length ≤ 9223372036854775807) (hr : rightRs l = true) : CallA Try.prog 80 [.slc (l.map Rng.enc), .str s] (· = .int .i64 (findS l s)) := by
  refine callA_of_body T07_ok mixed Try.func80 rfl (Nat.le_of_ble_eq_true rfl) ok_ranges_find ?_
  unfold Try.f80
  simp -implicitDefEqProofs (maxSteps := 600000) (disch := (first | omega | decide)) only [go_sem, ↓reduceIte, Nat.reduceEqDiff, reduceCtorEq, Nat.reduceAdd, Nat.reduceSub, Nat.reduceMul, Nat.reduceLeDiff, Nat.reduceLT, Nat.reduceBEq, Nat.reduceBNe, Int.reduceLE, Int.reduceLT, Int.reduceBEq, Int.reduceBNe, Int.reduceEq, Int.reduceNe, Int.reduceAdd, Int.reduceSub, Int.reduceMul, Int.reduceNeg, Int.reduceToNat, List.length_map]
  have hfl := findS_le l s
  refine wpA_loop [0, 1, 4] (ι := {p : Nat × Nat // p.1 ≤ findS l s ∧ findS l s ≤ p.2 ∧ p.2 ≤ l.length}) (fun p => [(5, .int .i64 p.1.1), (6, .int .i64 p.1.2)]) (fun _ => []) (fun p => p.1.2 - p.1.1) ⟨(0, l.length), Nat.zero_le _, hfl, Nat.le_refl _⟩ (Nat.zero_le _) ?_ ?_
  · simp -implicitDefEqProofs (maxSteps := 600000) (disch := (first | omega | decide)) only [go_sem, ↓reduceIte, Nat.reduceEqDiff, reduceCtorEq, Nat.reduceAdd, Nat.reduceSub, Nat.reduceMul, Nat.reduceLeDiff, Nat.reduceLT, Nat.reduceBEq, Nat.reduceBNe, Int.reduceLE, Int.reduceLT, Int.reduceBEq, Int.reduceBNe, Int.reduceEq, Int.reduceNe, Int.reduceAdd, Int.reduceSub, Int.reduceMul, Int.reduceNeg, Int.reduceToNat]
  · rintro ⟨⟨a, b⟩, h1, h2, h3⟩
    simp only at h1 h2 h3 ⊢
    by_cases hab : a < b
    · have c1 : (a : Int) < (b : Int) := by omega
      have hm : (a : Int) + ((b : Int) - (a : Int)).tdiv 2 = ((a + (b - a) / 2 : Nat) : Int) := by
        have : ((b : Int) - (a : Int)) = ((b - a : Nat) : Int) := by omega
        rw [this]
        have e : ((b - a : Nat) : Int).tdiv 2 = (((b - a) / 2 : Nat) : Int) := rfl
        rw [e]; omega
      have hw : IntKind.i64.wrap (((b : Int) - (a : Int)).tdiv 2) = ((b : Int) - (a : Int)).tdiv 2 := by
        have : ((b : Int) - (a : Int)) = ((b - a : Nat) : Int) := by omega
        rw [this]
        have e : ((b - a : Nat) : Int).tdiv 2 = (((b - a) / 2 : Nat) : Int) := rfl
        rw [e]
        exact wrap_i64 (by omega)
      have hmb : a + (b - a) / 2 < b := by omega
      have hma : a ≤ a + (b - a) / 2 := by omega
      generalize a + (b - a) / 2 = m at *
      have hlt : m < l.length := by omega
      have hlt' : (m : Int) < (l.length : Int) := by omega
      have e1 := rng_get hlt
      have ok1 := okL_get hok hlt
      have hsp := findS_split hr (s := s) hlt
      have hw2 : IntKind.i64.wrap ((m : Nat) : Int) = (m : Int) := wrap_i64 (by omega)
      have z2 : ¬ (2 : Int) = 0 := by omega
      generalize hx : l[m] = x at *
      obtain ⟨lo, hi, op⟩ := x
      simp only at ok1 hsp
      have left : findS l s ≤ m → ∃ j : {p : Nat × Nat // p.1 ≤ findS l s ∧ findS l s ≤ p.2 ∧ p.2 ≤ l.length}, ((a : Int) = (j.1.1 : Int) ∧ (m : Int) = (j.1.2 : Int)) ∧ j.1.2 - j.1.1 < b - a := fun h => ⟨⟨(a, m), h1, h, by omega⟩, ⟨rfl, rfl⟩, by show m - a < b - a; omega⟩
      have rightw : ¬ findS l s ≤ m → ∃ j : {p : Nat × Nat // p.1 ≤ findS l s ∧ findS l s ≤ p.2 ∧ p.2 ≤ l.length}, ((m : Int) + 1 = (j.1.1 : Int) ∧ (b : Int) = (j.1.2 : Int)) ∧ j.1.2 - j.1.1 < b - a := fun h => ⟨⟨(m + 1, b), by show m + 1 ≤ _; omega, h2, h3⟩, ⟨by simp, rfl⟩, by show b - (m + 1) < b - a; omega⟩
      cases op with
      | true =>
        have hle : findS l s ≤ m := by simpa using hsp
        simp -implicitDefEqProofs (maxSteps := 600000) (disch := (first | omega | decide)) only [go_sem, ↓reduceIte, Nat.reduceEqDiff, reduceCtorEq, Nat.reduceAdd, Nat.reduceSub, Nat.reduceMul, Nat.reduceLeDiff, Nat.reduceLT, Nat.reduceBEq, Nat.reduceBNe, Int.reduceLE, Int.reduceLT, Int.reduceBEq, Int.reduceBNe, Int.reduceEq, Int.reduceNe, Int.reduceAdd, Int.reduceSub, Int.reduceMul, Int.reduceNeg, Int.reduceToNat, c1, hm, hw, hw2, hlt', e1, ok1, z2, wrap_i64, List.length_map]
        exact left hle
      | false =>
        cases h4 : ltB s hi with
        | true =>
          rw [h4] at hsp
          have hle : findS l s ≤ m := by simpa using hsp
          simp -implicitDefEqProofs (maxSteps := 600000) (disch := (first | omega | decide)) only [go_sem, ↓reduceIte, Nat.reduceEqDiff, reduceCtorEq, Nat.reduceAdd, Nat.reduceSub, Nat.reduceMul, Nat.reduceLeDiff, Nat.reduceLT, Nat.reduceBEq, Nat.reduceBNe, Int.reduceLE, Int.reduceLT, Int.reduceBEq, Int.reduceBNe, Int.reduceEq, Int.reduceNe, Int.reduceAdd, Int.reduceSub, Int.reduceMul, Int.reduceNeg, Int.reduceToNat, c1, hm, hw, hw2, hlt', e1, ok1, h4, z2, wrap_i64, List.length_map]
          exact left hle
        | false =>
          rw [h4] at hsp
          have hle : ¬ findS l s ≤ m := by simpa using hsp
          simp -implicitDefEqProofs (maxSteps := 600000) (disch := (first | omega | decide)) only [go_sem, ↓reduceIte, Nat.reduceEqDiff, reduceCtorEq, Nat.reduceAdd, Nat.reduceSub, Nat.reduceMul, Nat.reduceLeDiff, Nat.reduceLT, Nat.reduceBEq, Nat.reduceBNe, Int.reduceLE, Int.reduceLT, Int.reduceBEq, Int.reduceBNe, Int.reduceEq, Int.reduceNe, Int.reduceAdd, Int.reduceSub, Int.reduceMul, Int.reduceNeg, Int.reduceToNat, c1, hm, hw, hw2, hlt', e1, ok1, h4, z2, wrap_i64, List.length_map]
          exact rightw hle
    · have e : a = findS l s := by omega
      subst e
      have c1 : ¬ ((findS l s : Nat) : Int) < (b : Int) := by omega
      simp -implicitDefEqProofs (maxSteps := 600000) (disch := (first | omega | decide)) only [go_sem, ↓reduceIte, Nat.reduceEqDiff, reduceCtorEq, Nat.reduceAdd, Nat.reduceSub, Nat.reduceMul, Nat.reduceLeDiff, Nat.reduceLT, Nat.reduceBEq, Nat.reduceBNe, Int.reduceLE, Int.reduceLT, Int.reduceBEq, Int.reduceBNe, Int.reduceEq, Int.reduceNe, Int.reduceAdd, Int.reduceSub, Int.reduceMul, Int.reduceNeg, Int.reduceToNat, c1, List.length_map]
end Go.Proofs.Ytnmkojglcgaobaa
