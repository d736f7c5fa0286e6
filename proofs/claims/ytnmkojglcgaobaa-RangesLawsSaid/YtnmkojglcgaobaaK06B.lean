/- Chapter 06: laws on texts, no program in sight. -/
import Derived.Test.YtnmkojglcgaobaaK06R
namespace Go.Proofs.Ytnmkojglcgaobaa
open Go.Abs
set_option linter.unusedSimpArgs false
set_option linter.unusedVariables false

theorem u8lt (u v : UInt8) : (u < v) = (u.toNat < v.toNat) := rfl
theorem cmpB_cons (a b : UInt8) (x y : List UInt8) : cmpB (a :: x) (b :: y) = if a.toNat < b.toNat then -1 else if b.toNat < a.toNat then 1 else cmpB x y := by
  simp only [cmpB]
  by_cases h1 : a.toNat < b.toNat
  · rw [if_pos h1, if_pos (show a < b from h1)]
  · rw [if_neg h1, if_neg (show ¬ a < b from h1)]
    by_cases h2 : b.toNat < a.toNat
    · rw [if_pos h2, if_pos (show b < a from h2)]
    · rw [if_neg h2, if_neg (show ¬ b < a from h2)]
theorem cmp_cases : ∀ a b : List UInt8, cmpB a b = -1 ∨ cmpB a b = 0 ∨ cmpB a b = 1
  | [], [] => .inr (.inl rfl)
  | [], _ :: _ => .inl rfl
  | _ :: _, [] => .inr (.inr rfl)
  | a :: x, b :: y => by
    simp only [cmpB]
    split
    · exact .inl rfl
    · split
      · exact .inr (.inr rfl)
      · exact cmp_cases x y
theorem cmp_neg : ∀ a b : List UInt8, cmpB b a = - cmpB a b
  | [], [] => rfl
  | [], _ :: _ => rfl
  | _ :: _, [] => rfl
  | a :: x, b :: y => by
    have ih := cmp_neg x y
    simp only [cmpB_cons]
    by_cases h1 : a.toNat < b.toNat
    · rw [if_neg (by omega), if_pos h1, if_pos h1]; rfl
    · by_cases h2 : b.toNat < a.toNat
      · rw [if_pos h2, if_neg h1, if_pos h2]
      · rw [if_neg h2, if_neg h1, if_neg h1, if_neg h2]; exact ih
theorem cmp_zero : ∀ {a b : List UInt8}, cmpB a b = 0 ↔ a = b
  | [], [] => by simp [cmpB]
  | [], _ :: _ => by simp [cmpB]
  | _ :: _, [] => by simp [cmpB]
  | a :: x, b :: y => by
    have ih := cmp_zero (a := x) (b := y)
    simp only [cmpB_cons]
    by_cases h1 : a.toNat < b.toNat
    · rw [if_pos h1]
      have : a ≠ b := fun e => by subst e; omega
      simp [this]
    · by_cases h2 : b.toNat < a.toNat
      · rw [if_neg h1, if_pos h2]
        have : a ≠ b := fun e => by subst e; omega
        simp [this]
      · rw [if_neg h1, if_neg h2, ih]
        have : a = b := UInt8.toNat_inj.1 (by omega)
        simp [this]
theorem cmp_self (a : List UInt8) : cmpB a a = 0 := cmp_zero.2 rfl
/-- What the law says of three answers. -/
def good3 (x y z : Int) : Bool := !(decide (x ≤ 0) && decide (y ≤ 0) && decide (0 < z) || decide (0 ≤ x) && decide (0 ≤ y) && decide (z < 0)) &&
  ((decide (x < 0) || decide (y < 0) || z == 0 || decide (0 < x + y)) && (x != 0 || y == z))
theorem cmp_trans : ∀ {a b c : List UInt8}, cmpB a b = -1 → cmpB b c = -1 → cmpB a c = -1
  | [], [], _, h, _ => by simp [cmpB] at h
  | [], _ :: _, [], _, h => by simp [cmpB] at h
  | [], _ :: _, _ :: _, _, _ => rfl
  | _ :: _, [], _, h, _ => by simp [cmpB] at h
  | _ :: _, _ :: _, [], _, h => by simp [cmpB] at h
  | a :: x, b :: y, c :: z, h1, h2 => by
    have ih := @cmp_trans x y z
    simp only [cmpB_cons] at h1 h2 ⊢
    split at h1
    · split at h2
      · rw [if_pos (by omega)]
      · split at h2
        · simp at h2
        · rw [if_pos (by omega)]
    · split at h1
      · simp at h1
      · split at h2
        · rw [if_pos (by omega)]
        · split at h2
          · simp at h2
          · rw [if_neg (by omega), if_neg (by omega)]
            exact ih h1 h2
theorem cmp3 (a b c : List UInt8) : good3 (cmpB a b) (cmpB b c) (cmpB a c) = true := by
  have hn := cmp_neg
  rcases cmp_cases a b with h1 | h1 | h1
  · rcases cmp_cases b c with h2 | h2 | h2
    · rw [h1, h2, cmp_trans h1 h2]; rfl
    · obtain rfl := cmp_zero.1 h2; rw [h1, h2]; rfl
    · rw [h1, h2]; rcases cmp_cases a c with h | h | h <;> rw [h] <;> rfl
  · obtain rfl := cmp_zero.1 h1
    rw [h1]; rcases cmp_cases a c with h | h | h <;> rw [h] <;> rfl
  · rcases cmp_cases b c with h2 | h2 | h2
    · rw [h1, h2]; rcases cmp_cases a c with h | h | h <;> rw [h] <;> rfl
    · obtain rfl := cmp_zero.1 h2; rw [h1, h2]; rfl
    · have h3 : cmpB c a = -1 := cmp_trans (by rw [hn, h2]) (by rw [hn, h1])
      have h4 : cmpB a c = 1 := by rw [hn, h3]; rfl
      rw [h1, h2, h4]; rfl
/-- Stands ahead of. -/
def ltB (a b : List UInt8) : Bool := cmpB a b == -1
theorem lt_irrefl (a : List UInt8) : ltB a a = false := by simp [ltB, cmp_self]
theorem lt_trans' {a b c : List UInt8} (h1 : ltB a b = true) (h2 : ltB b c = true) : ltB a c = true := by
  simp only [ltB, beq_iff_eq] at *; exact cmp_trans h1 h2
theorem lt_asymm' {a b : List UInt8} (h1 : ltB a b = true) : ltB b a = false := by
  simp only [ltB, beq_iff_eq] at h1
  simp [ltB, cmp_neg a b, h1]
theorem lt_tri (a b : List UInt8) : ltB a b = true ∨ a = b ∨ ltB b a = true := by
  rcases cmp_cases a b with h | h | h
  · exact .inl (by simp [ltB, h])
  · exact .inr (.inl (cmp_zero.1 h))
  · exact .inr (.inr (by simp [ltB, cmp_neg a b, h]))
theorem cmp_of_lt {a b : List UInt8} (h : ltB a b = true) : cmpB a b = -1 := by simpa [ltB] using h
theorem cmp_of_gt {a b : List UInt8} (h : ltB b a = true) : cmpB a b = 1 := by rw [cmp_neg, cmp_of_lt h]; rfl

theorem lt_next : ∀ s : List UInt8, ltB s (s ++ [0]) = true
  | [] => rfl
  | c :: s => by
    have := lt_next s
    simp only [ltB, beq_iff_eq] at this ⊢
    simp only [List.cons_append, cmpB_cons]
    rw [if_neg (by omega), if_neg (by omega)]; exact this
theorem next_least : ∀ {s t : List UInt8}, ltB s t = true → ltB t (s ++ [0]) = false
  | [], [], h => by simp [ltB, cmpB] at h
  | [], c :: t, _ => by
    simp only [ltB, List.nil_append, cmpB_cons]
    have h0 : (0 : UInt8).toNat = 0 := rfl
    rw [h0, if_neg (by omega)]
    split
    · rfl
    · cases t <;> rfl
  | _ :: _, [], h => by simp [ltB, cmpB] at h
  | c :: s, d :: t, h => by
    have ih := @next_least s t
    simp only [ltB, List.cons_append, cmpB_cons] at h ih ⊢
    split at h
    · rw [if_neg (by omega), if_pos (by omega)]; rfl
    · split at h
      · simp at h
      · rw [if_neg (by omega), if_neg (by omega)]; exact ih h

/-- The end, from the front. -/
def endR : List UInt8 → Option (List UInt8)
  | [] => none
  | c :: p => match endR p with
    | some e => some (c :: e)
    | none => if c = 255 then none else some [c + 1]
theorem cut_le (p : List UInt8) : ∀ n, cut p n ≤ n
  | 0 => Nat.le_refl _
  | n + 1 => by
    simp only [cut]
    split
    · exact Nat.le_succ_of_le (cut_le p n)
    · exact Nat.le_refl _
theorem cut_cons (c : UInt8) (p : List UInt8) : ∀ n, cut (c :: p) (n + 1) = if cut p n = 0 then (if c = 255 then 0 else 1) else cut p n + 1
  | 0 => by simp [cut]
  | n + 1 => by
    have ih := cut_cons c p n
    rw [cut]
    simp only [List.getD_cons_succ]
    rw [ih]
    by_cases h : p.getD n 0 = 255
    · rw [if_pos h]
      simp only [cut, if_pos h]
    · rw [if_neg h]
      simp only [cut, if_neg h]
      rw [if_neg (by omega)]
theorem endB_eq : ∀ p : List UInt8, endB p = endR p
  | [] => rfl
  | c :: p => by
    have ih := endB_eq p
    have hc := cut_cons c p p.length
    have hle := cut_le p p.length
    simp only [endR, ← ih]
    unfold endB
    rw [List.length_cons, hc]
    by_cases h0 : cut p p.length = 0
    · rw [if_pos h0]
      simp only [h0, if_true]
      by_cases h : c = 255
      · simp [h]
      · simp [h]
    · rw [if_neg h0]
      simp only [if_neg h0]
      rw [if_neg (by omega)]
      have e : cut p p.length + 1 - 1 = (cut p p.length - 1) + 1 := by omega
      rw [e]
      simp
theorem begins_nil (s : List UInt8) : beginsB s [] = true := by simp [beginsB]
theorem begins_cons_nil (c : UInt8) (p : List UInt8) : beginsB [] (c :: p) = false := by simp [beginsB]
theorem begins_cons (d c : UInt8) (u p : List UInt8) : beginsB (d :: u) (c :: p) = (d == c && beginsB u p) := by
  simp only [beginsB, List.length_cons, List.take_succ_cons, Nat.add_le_add_iff_right]
  rw [Bool.eq_iff_iff]; simp
  constructor <;> (rintro ⟨h1, h2, h3⟩; exact ⟨h2, h1, h3⟩)
theorem end_in : ∀ s t : List UInt8, (!ltB t s && ((endR s).isNone || ltB t ((endR s).getD []))) = beginsB t s
  | [], t => by
    rw [begins_nil]
    have : ltB t [] = false := by cases t <;> rfl
    simp [endR, this]
  | c :: p, [] => by
    rw [begins_cons_nil]
    have : ltB [] (c :: p) = true := rfl
    simp [this]
  | c :: p, d :: u => by
    have ih := end_in p u
    rw [begins_cons, ← ih]
    have hd := d.toNat_lt
    have hcl := c.toNat_lt
    have hlt : ltB (d :: u) (c :: p) = if d.toNat < c.toNat then true else if c.toNat < d.toNat then false else ltB u p := by
      simp only [ltB, cmpB_cons]; split
      · rfl
      · split <;> rfl
    rw [hlt]
    have hbeq : (d == c) = decide (d.toNat = c.toNat) := by
      rw [Bool.eq_iff_iff]; simp [UInt8.toNat_inj]
    rw [hbeq]
    by_cases h1 : d.toNat < c.toNat
    · rw [if_pos h1, decide_eq_false (by omega)]; simp
    · rw [if_neg h1]
      simp only [endR]
      cases he : endR p with
      | some e =>
        simp only [Option.isNone_some, Bool.false_or, Option.getD_some]
        have hlt' : ltB (d :: u) (c :: e) = if d.toNat < c.toNat then true else if c.toNat < d.toNat then false else ltB u e := by
          simp only [ltB, cmpB_cons]; split
          · rfl
          · split <;> rfl
        rw [hlt', if_neg h1]
        by_cases h2 : c.toNat < d.toNat
        · rw [if_pos h2, if_pos h2, decide_eq_false (by omega)]; simp
        · rw [if_neg h2, if_neg h2, decide_eq_true (by omega)]; simp
      | none =>
        by_cases h255 : c = 255
        · rw [if_pos h255]
          have : c.toNat = 255 := by rw [h255]; rfl
          rw [if_neg (by omega), decide_eq_true (by omega)]; simp
        · rw [if_neg h255]
          have hc2 : c.toNat ≠ 255 := fun e => h255 (UInt8.toNat_inj.1 (by rw [e]; rfl))
          have hs : (c + 1).toNat = c.toNat + 1 := by
            rw [UInt8.toNat_add]
            have : (1 : UInt8).toNat = 1 := rfl
            rw [this]; omega
          simp only [Option.isNone_some, Bool.false_or, Option.getD_some, Option.isNone_none, Bool.true_or, Bool.and_true]
          have hlt' : ltB (d :: u) [c + 1] = decide (d.toNat < c.toNat + 1) := by
            simp only [ltB, cmpB_cons, hs]
            split
            · rename_i h; simp [h]
            · rename_i h
              rw [decide_eq_false h]
              split
              · rfl
              · cases u <;> rfl
          rw [hlt']
          by_cases h2 : c.toNat < d.toNat
          · rw [if_pos h2, decide_eq_false (by omega), decide_eq_false (by omega)]; simp
          · rw [if_neg h2, decide_eq_true (by omega), decide_eq_true (by omega)]; simp

/-- With how much of a text another one begins. -/
def decP (l0 s : List UInt8) : Nat → Nat
  | 0 => 0
  | n + 1 => if beginsB s (l0.take (n + 1)) = true then n + 1 else decP l0 s n
def comP (l0 : List UInt8) : List (List UInt8) → Nat → Nat
  | [], n => n
  | s :: r, n => comP l0 r (decP l0 s n)
theorem decP_le (l0 s : List UInt8) : ∀ n, decP l0 s n ≤ n
  | 0 => Nat.le_refl _
  | n + 1 => by
    simp only [decP]; split
    · exact Nat.le_refl _
    · exact Nat.le_succ_of_le (decP_le l0 s n)
theorem comP_le (l0 : List UInt8) : ∀ l n, comP l0 l n ≤ n
  | [], n => Nat.le_refl _
  | s :: r, n => Nat.le_trans (comP_le l0 r _) (decP_le l0 s n)
theorem begins_take {s p : List UInt8} (h : beginsB s p = true) (m : Nat) : beginsB s (p.take m) = true := by
  simp only [beginsB, Bool.and_eq_true, decide_eq_true_eq, beq_iff_eq] at h ⊢
  obtain ⟨h1, h2⟩ := h
  refine ⟨by rw [List.length_take]; omega, ?_⟩
  rw [List.length_take]
  have : p.take m = (s.take p.length).take m := by rw [h2]
  rw [this, List.take_take]
theorem decP_begins (l0 s : List UInt8) : ∀ n, beginsB s (l0.take (decP l0 s n)) = true
  | 0 => by simp [decP, begins_nil]
  | n + 1 => by
    simp only [decP]; split
    · assumption
    · exact decP_begins l0 s n
theorem decP_not (l0 s : List UInt8) : ∀ n, decP l0 s n < n → beginsB s (l0.take (decP l0 s n + 1)) = false
  | 0, h => by omega
  | n + 1, h => by
    simp only [decP] at h ⊢
    split at h
    · omega
    · rename_i hb
      rw [if_neg hb]
      by_cases h2 : decP l0 s n < n
      · exact decP_not l0 s n h2
      · have : decP l0 s n = n := by have := decP_le l0 s n; omega
        rw [this]; simpa using hb
theorem comP_begins (l0 : List UInt8) : ∀ l n, ∀ s ∈ l, beginsB s (l0.take (comP l0 l n)) = true
  | [], _, s, h => by simp at h
  | t :: r, n, s, h => by
    rcases List.mem_cons.1 h with rfl | h
    · simp only [comP]
      have h1 := decP_begins l0 s n
      have h2 := comP_le l0 r (decP l0 s n)
      have := begins_take h1 (comP l0 r (decP l0 s n))
      rwa [List.take_take, Nat.min_eq_left h2] at this
    · exact comP_begins l0 r _ s h
theorem comP_not (l0 : List UInt8) : ∀ l n, comP l0 l n < n → ∃ s ∈ l, beginsB s (l0.take (comP l0 l n + 1)) = false
  | [], n, h => by simp [comP] at h
  | t :: r, n, h => by
    simp only [comP] at h ⊢
    by_cases h2 : comP l0 r (decP l0 t n) < decP l0 t n
    · obtain ⟨s, hs, hb⟩ := comP_not l0 r _ h2
      exact ⟨s, by simp [hs], hb⟩
    · have e : comP l0 r (decP l0 t n) = decP l0 t n := by have := comP_le l0 r (decP l0 t n); omega
      rw [e] at h ⊢
      exact ⟨t, by simp, decP_not l0 t n h⟩
theorem begins_snoc {s p : List UInt8} {n : Nat} (h : beginsB s (p.take n) = true) (h1 : n < p.length) (h2 : n < s.length) (h3 : s[n] = p[n]) : beginsB s (p.take (n + 1)) = true := by
  simp only [beginsB, Bool.and_eq_true, decide_eq_true_eq, beq_iff_eq, List.length_take] at h ⊢
  rw [Nat.min_eq_left (by omega)] at h ⊢
  refine ⟨by omega, ?_⟩
  rw [List.take_succ_eq_append_getElem h2, List.take_succ_eq_append_getElem h1, h.2, h3]
end Go.Proofs.Ytnmkojglcgaobaa
