/- Neighbours that are one, once. Plain Lean. -/
import Derived.Test.YtnmkojglcgaobaaAbsA
namespace Go.Proofs.Ytnmkojglcgaobaa
set_option linter.unusedSimpArgs false
set_option linter.unusedVariables false

/-- Neighbours that are one, once. -/
def compL {α : Type} [DecidableEq α] : List α → List α
  | [] => []
  | [x] => [x]
  | x :: y :: l => if x = y then compL (y :: l) else x :: compL (y :: l)
section
variable {α : Type} [DecidableEq α]
theorem compL_snoc : ∀ (l : List α) (x y : α), compL (l ++ [x, y]) = if x = y then compL (l ++ [x]) else compL (l ++ [x]) ++ [y]
  | [], x, y => by by_cases h : x = y <;> simp [compL, h]
  | [z], x, y => by
    by_cases h : x = y
    · by_cases h2 : z = x <;> simp [compL, h, h2]
    · by_cases h2 : z = x <;> simp [compL, h, h2]
  | z :: w :: l, x, y => by
    have ih := compL_snoc (w :: l) x y
    simp only [List.cons_append, compL] at ih ⊢
    by_cases h2 : z = w
    · rw [if_pos h2, if_pos h2]; exact ih
    · rw [if_neg h2, if_neg h2, ih]
      by_cases h : x = y <;> simp [h]
theorem compL_len : ∀ l : List α, (compL l).length ≤ l.length
  | [] => by simp [compL]
  | [x] => by simp [compL]
  | x :: y :: l => by
    have := compL_len (y :: l)
    simp only [compL]
    split <;> simp at * <;> omega
theorem compL_mem : ∀ {l : List α} {z : α}, z ∈ compL l ↔ z ∈ l
  | [], z => by simp [compL]
  | [x], z => by simp [compL]
  | x :: y :: l, z => by
    have ih := @compL_mem (y :: l) z
    simp only [compL]
    split
    · rename_i h; subst h; rw [ih]; simp
    · rw [List.mem_cons, ih, List.mem_cons (l := y :: l)]
theorem compL_sub : ∀ l : List α, (compL l).Sublist l
  | [] => by simp [compL]
  | [x] => by simp [compL]
  | x :: y :: l => by
    have ih := compL_sub (y :: l)
    simp only [compL]
    split
    · exact ih.cons x
    · exact ih.cons_cons x
theorem compL_head : ∀ (x : α) (l : List α), ∃ m, compL (x :: l) = x :: m
  | x, [] => ⟨[], rfl⟩
  | x, y :: l => by
    simp only [compL]
    split
    · rename_i h; subst h; exact compL_head _ l
    · exact ⟨_, rfl⟩
theorem compL_ne : ∀ (l : List α) (i : Nat) (h : i + 1 < (compL l).length), (compL l)[i] ≠ (compL l)[i + 1]
  | [], i, h => by simp [compL] at h
  | [x], i, h => by simp [compL] at h
  | x :: y :: l, i, h => by
    have ih := compL_ne (y :: l)
    by_cases e : x = y
    · have hc : compL (x :: y :: l) = compL (y :: l) := by simp only [compL]; rw [if_pos e]
      simp only [hc] at h ⊢
      exact ih i h
    · have hc : compL (x :: y :: l) = x :: compL (y :: l) := by simp only [compL]; rw [if_neg e]
      simp only [hc] at h ⊢
      cases i with
      | zero =>
        obtain ⟨m, hm⟩ := compL_head y l
        simp only [hm]
        simpa using e
      | succ i => exact ih i (by simpa using h)
end

theorem compL_step {α : Type} [DecidableEq α] {l : List α} {k : Nat} (h1 : 1 ≤ k) (h : k < l.length) : compL (l.take (k + 1)) = if l[k - 1] = l[k] then compL (l.take k) else compL (l.take k) ++ [l[k]] := by
  have e1 : l.take k = l.take (k - 1) ++ [l[k - 1]] := by
    have := List.take_append_getElem (l := l) (i := k - 1) (by omega)
    rw [show k - 1 + 1 = k by omega] at this
    exact this.symm
  have e2 : l.take (k + 1) = l.take (k - 1) ++ [l[k - 1], l[k]] := by
    rw [← List.take_append_getElem h, e1, List.append_assoc]; rfl
  rw [e2, compL_snoc, ← e1]
end Go.Proofs.Ytnmkojglcgaobaa
