/- Chapter 13: how many counts right runs have. Plain Lean. -/
import Derived.Test.YtbnmicpgbcfooaaK13Q
namespace Go.Proofs.Ytbnmicpgbcfooaa
open Go.Abs
set_option linter.unusedSimpArgs false
set_option linter.unusedVariables false

theorem rr_pw' : ∀ {l : List Run}, RR l ↔ l.Pairwise (fun r q => q.t + 2 ≤ r.f) ∧ ∀ r ∈ l, oneR r = true
  | [] => by simp [RR]
  | r :: l => by
    constructor
    · intro h
      obtain ⟨h1, h2⟩ := rr_pw'.1 (rr_tail h)
      exact ⟨List.pairwise_cons.2 ⟨rr_below h, h1⟩, rr_all h⟩
    · rintro ⟨h1, h2⟩
      rw [List.pairwise_cons] at h1
      have ih := rr_pw'.2 ⟨h1.2, fun q hq => h2 q (by simp [hq])⟩
      cases l with
      | nil => exact h2 r (by simp)
      | cons q l => exact ⟨h2 r (by simp), h1.1 q (by simp), ih⟩
theorem right_pw' {l : List Run} : rightL l = true ↔ l.Pairwise (fun r q => r.t + 2 ≤ q.f) ∧ ∀ r ∈ l, oneR r = true := by
  rw [right_iff, rr_pw', List.pairwise_reverse]
  simp
def manyR (l : List Run) : Int := (l.map fun r => r.t - r.f + 1).sum
/-- What stands from the k-th run on begins behind as many counts. -/
theorem many_le : ∀ {l : List Run} {p : Int}, l.Pairwise (fun r q => r.t + 2 ≤ q.f) → (∀ r ∈ l, oneR r = true) → (∀ r ∈ l, p ≤ r.f) → 1 ≤ p → 0 ≤ manyR l ∧ (l.length : Int) ≤ manyR l ∧ manyR l ≤ 1099511627777 - p ∨ l = []
  | [], _, _, _, _, _ => .inr rfl
  | r :: l, p, h, ho, hp, h1 => by
    rw [List.pairwise_cons] at h
    have o := oneR_iff.1 (ho r (by simp))
    have hf := hp r (by simp)
    have e : manyR (r :: l) = (r.t - r.f + 1) + manyR l := by simp [manyR]
    rcases many_le (l := l) (p := r.t + 2) h.2 (fun q hq => ho q (by simp [hq])) h.1 (by omega) with ⟨g1, g2, g3⟩ | rfl
    · refine .inl ⟨by omega, ?_, by omega⟩
      rw [e]; simp only [List.length_cons]; omega
    · have e0 : manyR [] = 0 := rfl
      rw [e0] at e
      refine .inl ⟨by omega, ?_, by omega⟩
      rw [e]; simp only [List.length_cons, List.length_nil]; omega
theorem many_right {l : List Run} (h : rightL l = true) : 0 ≤ manyR l ∧ (l.length : Int) ≤ manyR l ∧ manyR l ≤ 1099511627776 := by
  obtain ⟨h1, h2⟩ := right_pw'.1 h
  rcases many_le (p := 1) h1 h2 (fun r hr => (oneR_iff.1 (h2 r hr)).1) (Int.le_refl _) with g | rfl
  · omega
  · simp [manyR]
theorem of_len' {l : List Run} (h : rightL l = true) : l.length ≤ 1099511627776 := by
  have := many_right h
  omega
theorem many_bound {l : List Run} (h : rightL l = true) : ∀ k, k ≤ l.length → 0 ≤ manyR (l.take k) ∧ manyR (l.take k) ≤ 1099511627776 := fun k _ => by
  obtain ⟨h1, h2⟩ := right_pw'.1 h
  have := many_right (l := l.take k) (right_pw'.2 ⟨h1.sublist (List.take_sublist _ _), fun r hr => h2 r (List.mem_of_mem_take hr)⟩)
  omega
end Go.Proofs.Ytbnmicpgbcfooaa
