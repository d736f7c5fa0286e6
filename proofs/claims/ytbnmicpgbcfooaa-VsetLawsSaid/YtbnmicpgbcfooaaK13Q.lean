/- Chapter 13: edges, and what the document makes of them. Plain Lean. -/
import Derived.Test.YtbnmicpgbcfooaaK13P
namespace Go.Proofs.Ytbnmicpgbcfooaa
open Go.Abs
set_option linter.unusedSimpArgs false
set_option linter.unusedVariables false

/-- A number, put among rising ones, once. -/
def putI : List Int → Int → List Int
  | [], n => [n]
  | x :: xs, n => if x < n then x :: putI xs n else if x = n then x :: xs else n :: x :: xs
theorem putI_len (l : List Int) (n : Int) : (putI l n).length ≤ l.length + 1 := by
  induction l with
  | nil => simp [putI]
  | cons x xs ih =>
    simp only [putI]
    split
    · simp; omega
    · split <;> simp
theorem putI_ne (l : List Int) (n : Int) : putI l n ≠ [] := by
  cases l with
  | nil => simp [putI]
  | cons x xs =>
    simp only [putI]
    split
    · simp
    · split <;> simp
theorem putI_mem (l : List Int) (n x : Int) : x ∈ putI l n ↔ x = n ∨ x ∈ l := by
  induction l with
  | nil => simp [putI]
  | cons y ys ih =>
    simp only [putI]
    split
    · rw [List.mem_cons, ih, List.mem_cons]
      exact ⟨fun h => by rcases h with h | h | h <;> simp [h], fun h => by rcases h with h | h | h <;> simp [h]⟩
    · split
      · rename_i h1 h2; subst h2; simp
      · simp
theorem putI_up {l : List Int} {n : Int} (h : l.Pairwise (· < ·)) : (putI l n).Pairwise (· < ·) := by
  induction l with
  | nil => simp [putI]
  | cons y ys ih =>
    rw [List.pairwise_cons] at h
    simp only [putI]
    split
    · rename_i h1
      rw [List.pairwise_cons]
      refine ⟨fun x hx => ?_, ih h.2⟩
      rcases (putI_mem ys n x).1 hx with rfl | hx
      · exact h1
      · exact h.1 x hx
    · split
      · exact List.pairwise_cons.2 h
      · rename_i h1 h2
        rw [List.pairwise_cons]
        refine ⟨fun x hx => ?_, List.pairwise_cons.2 h⟩
        rcases List.mem_cons.1 hx with rfl | hx
        · omega
        · have := h.1 x hx; omega
/-- The edges of right runs, added to some. -/
def edgesR : List Int → List Run → List Int
  | e, [] => e
  | e, r :: rs => edgesR (if oneR r then putI (putI e r.f) (r.t + 1) else e) rs
theorem edgesR_len (e : List Int) (l : List Run) : (edgesR e l).length ≤ e.length + 2 * l.length := by
  induction l generalizing e with
  | nil => simp [edgesR]
  | cons r rs ih =>
    simp only [edgesR, List.length_cons]
    refine Nat.le_trans (ih _) ?_
    split
    · have h1 := putI_len e r.f
      have h2 := putI_len (putI e r.f) (r.t + 1)
      omega
    · omega
theorem edgesR_snoc (e : List Int) (l : List Run) (r : Run) : edgesR e (l ++ [r]) = if oneR r then putI (putI (edgesR e l) r.f) (r.t + 1) else edgesR e l := by
  induction l generalizing e with
  | nil => simp [edgesR]
  | cons q rs ih => simp only [List.cons_append, edgesR]; exact ih _
theorem edgesR_up {e : List Int} {l : List Run} (h : e.Pairwise (· < ·)) : (edgesR e l).Pairwise (· < ·) := by
  induction l generalizing e with
  | nil => exact h
  | cons r rs ih =>
    simp only [edgesR]
    apply ih
    split
    · exact putI_up (putI_up h)
    · exact h
theorem edgesR_mem {l : List Run} {x : Int} : ∀ {e : List Int}, x ∈ edgesR e l ↔ x ∈ e ∨ ∃ r ∈ l, oneR r = true ∧ (x = r.f ∨ x = r.t + 1) := by
  induction l with
  | nil => intro e; simp [edgesR]
  | cons r rs ih =>
    intro e
    simp only [edgesR]
    rw [ih]
    cases h : oneR r with
    | false =>
      rw [if_neg (by simp)]
      constructor
      · rintro (h1 | ⟨q, hq, h2⟩)
        · exact .inl h1
        · exact .inr ⟨q, by simp [hq], h2⟩
      · rintro (h1 | ⟨q, hq, h2⟩)
        · exact .inl h1
        · rcases List.mem_cons.1 hq with rfl | hq
          · rw [h] at h2; simp at h2
          · exact .inr ⟨q, hq, h2⟩
    | true =>
      rw [if_pos rfl, putI_mem, putI_mem]
      constructor
      · rintro ((h1 | h1 | h1) | ⟨q, hq, h2⟩)
        · exact .inr ⟨r, by simp, h, .inr h1⟩
        · exact .inr ⟨r, by simp, h, .inl h1⟩
        · exact .inl h1
        · exact .inr ⟨q, by simp [hq], h2⟩
      · rintro (h1 | ⟨q, hq, h2⟩)
        · exact .inl (.inr (.inr h1))
        · rcases List.mem_cons.1 hq with rfl | hq
          · rcases h2.2 with h3 | h3
            · exact .inl (.inr (.inl h3))
            · exact .inl (.inl h3)
          · exact .inr ⟨q, hq, h2⟩
def edges2 (a b : List Run) : List Int := edgesR (edgesR [] a) b
theorem edges2_up (a b : List Run) : (edges2 a b).Pairwise (· < ·) := edgesR_up (edgesR_up List.Pairwise.nil)
theorem edges2_mem {a b : List Run} {x : Int} : x ∈ edges2 a b ↔ ∃ r ∈ a ++ b, oneR r = true ∧ (x = r.f ∨ x = r.t + 1) := by
  unfold edges2
  rw [edgesR_mem, edgesR_mem]
  constructor
  · rintro ((h | ⟨r, hr, h⟩) | ⟨r, hr, h⟩)
    · cases h
    · exact ⟨r, by simp [hr], h⟩
    · exact ⟨r, by simp [hr], h⟩
  · rintro ⟨r, hr, h⟩
    rcases List.mem_append.1 hr with hr | hr
    · exact .inl (.inr ⟨r, hr, h⟩)
    · exact .inr ⟨r, hr, h⟩
theorem edges2_range {a b : List Run} {x : Int} (h : x ∈ edges2 a b) : 1 ≤ x ∧ x ≤ 1099511627777 := by
  obtain ⟨r, _, h1, h2⟩ := edges2_mem.1 h
  have := oneR_iff.1 h1
  omega
theorem edges2_len (a b : List Run) : (edges2 a b).length ≤ 2 * a.length + 2 * b.length := by
  have h1 := edgesR_len [] a
  have h2 := edgesR_len (edgesR [] a) b
  simp only [List.length_nil] at h1
  unfold edges2; omega
/-- Between edges nothing turns. -/
theorem has_flat {l : List Run} {x n : Int} (hx : x ≤ n) (h : ∀ r ∈ l, oneR r = true → ¬(x < r.f ∧ r.f ≤ n) ∧ ¬(x < r.t + 1 ∧ r.t + 1 ≤ n)) : hasL13 l n = hasL13 l x := by
  rw [Bool.eq_iff_iff, has_iff, has_iff]
  constructor
  · rintro ⟨r, hr, h1, h2, h3⟩
    have := h r hr h1
    exact ⟨r, hr, h1, by omega, by omega⟩
  · rintro ⟨r, hr, h1, h2, h3⟩
    have := h r hr h1
    exact ⟨r, hr, h1, by omega, by omega⟩
/-- 1 what one of both, 2 what both, 3 what a and not b has. -/
def opF (op : Int) (x y : Bool) : Bool := if op = 1 then x || y else if op = 2 then x && y else x && !y
theorem opF_ff (op : Int) : opF op false false = false := by unfold opF; split <;> (try split) <;> rfl
def opP (op : Int) (a b : List Run) (n : Int) : Bool := opF op (hasL13 a n) (hasL13 b n)
section
variable {op : Int} {a b : List Run}
theorem opP_flat {x n : Int} (hx : x ≤ n) (h : ∀ y ∈ edges2 a b, ¬(x < y ∧ y ≤ n)) : opP op a b n = opP op a b x := by
  have e1 : hasL13 a n = hasL13 a x := has_flat hx fun r hr h1 => ⟨h _ (edges2_mem.2 ⟨r, by simp [hr], h1, .inl rfl⟩), h _ (edges2_mem.2 ⟨r, by simp [hr], h1, .inr rfl⟩)⟩
  have e2 : hasL13 b n = hasL13 b x := has_flat hx fun r hr h1 => ⟨h _ (edges2_mem.2 ⟨r, by simp [hr], h1, .inl rfl⟩), h _ (edges2_mem.2 ⟨r, by simp [hr], h1, .inr rfl⟩)⟩
  unfold opP; rw [e1, e2]
theorem opP_low {n : Int} (h : ∀ y ∈ edges2 a b, n < y) : opP op a b n = false := by
  have e : ∀ l : List Run, (∀ r ∈ l, r ∈ a ++ b) → hasL13 l n = false := fun l hl => by
    rw [← Bool.not_eq_true, has_iff]
    rintro ⟨r, hr, h1, h2, h3⟩
    have := h _ (edges2_mem.2 ⟨r, hl r hr, h1, .inl rfl⟩)
    omega
  unfold opP; rw [e a (fun r hr => by simp [hr]), e b (fun r hr => by simp [hr]), opF_ff]
theorem opP_high {n : Int} (h : ∀ y ∈ edges2 a b, y ≤ n) : opP op a b n = false := by
  have e : ∀ l : List Run, (∀ r ∈ l, r ∈ a ++ b) → hasL13 l n = false := fun l hl => by
    rw [← Bool.not_eq_true, has_iff]
    rintro ⟨r, hr, h1, h2, h3⟩
    have := h _ (edges2_mem.2 ⟨r, hl r hr, h1, .inr rfl⟩)
    omega
  unfold opP; rw [e a (fun r hr => by simp [hr]), e b (fun r hr => by simp [hr]), opF_ff]
end
/-- What is made of the first edges (the last run first). -/
def mkA (P : Int → Bool) (e : List Int) : Nat → List Run
  | 0 => []
  | k + 1 => if P (e[k]!) then pushJ (mkA P e k) ⟨e[k]!, e[k + 1]! - 1⟩ else mkA P e k
def topT (l : List Run) (x : Int) : Prop := match l with | [] => True | q :: _ => q.t < x
theorem mkA_len (P : Int → Bool) (e : List Int) : ∀ k, (mkA P e k).length ≤ k
  | 0 => Nat.le_refl _
  | k + 1 => by
    have h1 := mkA_len P e k
    have h2 := pushJ_len (mkA P e k) ⟨e[k]!, e[k + 1]! - 1⟩
    simp only [mkA]
    split <;> omega
theorem up_get {e : List Int} (h : e.Pairwise (· < ·)) {i j : Nat} (hij : i < j) (hj : j < e.length) : e[i]! < e[j]! := by
  rw [getElem!_pos e i (by omega), getElem!_pos e j hj]
  exact List.pairwise_iff_getElem.1 h i j (by omega) hj hij
theorem top_push {l : List Run} {r : Run} (h : topT l r.f) (hr : r.f ≤ r.t) : topT (pushJ l r) (r.t + 1) := by
  cases l with
  | nil => show r.t < r.t + 1; omega
  | cons q qs =>
    have h' : q.t < r.f := h
    simp only [pushJ]
    split
    · show (if r.t > q.t then r.t else q.t) < r.t + 1
      split <;> omega
    · show r.t < r.t + 1; omega
theorem mkA_spec (op : Int) (a b : List Run) : ∀ k, k < (edges2 a b).length → RR (mkA (opP op a b) (edges2 a b) k) ∧ topT (mkA (opP op a b) (edges2 a b) k) ((edges2 a b)[k]!) ∧ lowF (mkA (opP op a b) (edges2 a b) k) ((edges2 a b)[k]!) ∧
    ∀ n, hasL13 (mkA (opP op a b) (edges2 a b) k) n = (decide (n < (edges2 a b)[k]!) && opP op a b n)
  | 0, hk => by
    refine ⟨trivial, trivial, trivial, fun n => ?_⟩
    by_cases h : n < (edges2 a b)[0]!
    · rw [opP_low]
      · show hasL13 [] n = _
        rw [has_nil, Bool.and_false]
      intro y hy
      obtain ⟨i, hi, rfl⟩ := List.mem_iff_getElem.1 hy
      have : (edges2 a b)[i]! = (edges2 a b)[i] := getElem!_pos _ i hi
      rcases Nat.eq_zero_or_pos i with rfl | hp
      · omega
      · have := up_get (edges2_up a b) hp hi; omega
    · show hasL13 [] n = _
      rw [has_nil, decide_eq_false h, Bool.false_and]
  | k + 1, hk => by
    obtain ⟨h1, h2, h3, h4⟩ := mkA_spec op a b k (by omega)
    have hlt := up_get (edges2_up a b) (Nat.lt_succ_self k) hk
    have r1 := edges2_range (a := a) (b := b) (x := (edges2 a b)[k]!) (by rw [getElem!_pos _ k (by omega)]; exact List.getElem_mem _)
    have r2 := edges2_range (a := a) (b := b) (x := (edges2 a b)[k + 1]!) (by rw [getElem!_pos _ (k + 1) hk]; exact List.getElem_mem _)
    have flat : ∀ n, (edges2 a b)[k]! ≤ n → n < (edges2 a b)[k + 1]! → opP op a b n = opP op a b ((edges2 a b)[k]!) := fun n hn hn' => opP_flat hn fun y hy => by
      obtain ⟨i, hi, rfl⟩ := List.mem_iff_getElem.1 hy
      have e : (edges2 a b)[i]! = (edges2 a b)[i] := getElem!_pos _ i hi
      rintro ⟨g1, g2⟩
      rcases Nat.lt_trichotomy i (k + 1) with hh | hh | hh
      · rcases Nat.lt_or_eq_of_le (Nat.lt_succ_iff.1 hh) with hh' | hh'
        · have := up_get (edges2_up a b) hh' (by omega); omega
        · subst hh'; omega
      · subst hh; omega
      · have := up_get (edges2_up a b) hh hi; omega
    simp only [mkA]
    generalize hx : (edges2 a b)[k]! = x at *
    generalize hy : (edges2 a b)[k + 1]! = y at *
    generalize hm : mkA (opP op a b) (edges2 a b) k = m at *
    cases hp : opP op a b x with
    | false =>
      rw [if_neg (by simp)]
      refine ⟨h1, ?_, ?_, fun n => ?_⟩
      · cases m with
        | nil => trivial
        | cons q qs => show q.t < y; have : q.t < x := h2; omega
      · cases m with
        | nil => trivial
        | cons q qs => show q.f ≤ y; have : q.f ≤ x := h3; omega
      · rw [h4]
        by_cases c1 : n < x
        · have : n < y := by omega
          simp [c1, this]
        · by_cases c2 : n < y
          · rw [flat n (by omega) c2, hp]; simp
          · simp [c1, c2]
    | true =>
      rw [if_pos rfl]
      have ho : oneR ⟨x, y - 1⟩ = true := oneR_iff.2 ⟨r1.1, by show x ≤ y - 1; omega, by show y - 1 ≤ _; omega⟩
      obtain ⟨g1, g2, g3⟩ := pushJ_right h1 ho h3
      refine ⟨g1, ?_, ?_, fun n => ?_⟩
      · have := top_push (r := ⟨x, y - 1⟩) h2 (by show x ≤ y - 1; omega)
        simpa using this
      · revert g2
        cases pushJ m ⟨x, y - 1⟩ with
        | nil => intro _; trivial
        | cons q qs => intro g2; have : q.f ≤ x := g2; show q.f ≤ y; omega
      · rw [g3, h4]
        by_cases c1 : n < x
        · have : n < y := by omega
          have c3 : ¬ x ≤ n := by omega
          simp [c1, this, inR, c3]
        · by_cases c2 : n < y
          · rw [flat n (by omega) c2, hp]
            have c3 : x ≤ n := by omega
            have c4 : n ≤ y - 1 := by omega
            simp [inR, c1, c2, c3, c4]
          · have c4 : ¬ n ≤ y - 1 := by omega
            simp [inR, c1, c2, c4]
theorem mkA_all (op : Int) (a b : List Run) : (mkA (opP op a b) (edges2 a b) ((edges2 a b).length - 1)).reverse = setR (opP op a b) := by
  by_cases h : (edges2 a b).length = 0
  · have e : edges2 a b = [] := List.length_eq_zero_iff.1 h
    rw [h]
    refine setR_eq rfl fun n => ?_
    rw [opP_low (fun y hy => by rw [e] at hy; cases hy)]; rfl
  · obtain ⟨h1, _, _, h4⟩ := mkA_spec op a b ((edges2 a b).length - 1) (by omega)
    refine setR_eq (right_rev.2 h1) fun n => ?_
    rw [has_rev, h4]
    by_cases c : n < (edges2 a b)[(edges2 a b).length - 1]!
    · rw [decide_eq_true c, Bool.true_and]
    · rw [opP_high]
      · simp
      · intro y hy
        obtain ⟨i, hi, rfl⟩ := List.mem_iff_getElem.1 hy
        have e : (edges2 a b)[i]! = (edges2 a b)[i] := getElem!_pos _ i hi
        rcases Nat.lt_or_eq_of_le (show i ≤ (edges2 a b).length - 1 by omega) with hh | hh
        · have := up_get (edges2_up a b) hh (by omega); omega
        · subst hh; omega
theorem isR_op (op : Int) (a b : List Run) : IsR (opP op a b) := by
  by_cases h : (edges2 a b).length = 0
  · have e : edges2 a b = [] := List.length_eq_zero_iff.1 h
    exact ⟨[], rfl, fun n => by rw [opP_low (fun y hy => by rw [e] at hy; cases hy)]; rfl⟩
  · refine ⟨setR (opP op a b), setR_right _, fun n => ?_⟩
    have h0 := mkA_all op a b
    obtain ⟨h1, _, _, h4⟩ := mkA_spec op a b ((edges2 a b).length - 1) (by omega)
    rw [← h0, has_rev, h4]
    by_cases c : n < (edges2 a b)[(edges2 a b).length - 1]!
    · rw [decide_eq_true c, Bool.true_and]
    · rw [opP_high]
      · simp
      · intro y hy
        obtain ⟨i, hi, rfl⟩ := List.mem_iff_getElem.1 hy
        have e : (edges2 a b)[i]! = (edges2 a b)[i] := getElem!_pos _ i hi
        rcases Nat.lt_or_eq_of_le (show i ≤ (edges2 a b).length - 1 by omega) with hh | hh
        · have := up_get (edges2_up a b) hh (by omega); omega
        · subst hh; omega
theorem isR_has (l : List Run) : IsR (hasL13 l) := by
  obtain ⟨m, h1, h2⟩ := isR_op 1 l []
  exact ⟨m, h1, fun n => by rw [h2]; simp [opP, opF, hasL13]⟩
end Go.Proofs.Ytbnmicpgbcfooaa
