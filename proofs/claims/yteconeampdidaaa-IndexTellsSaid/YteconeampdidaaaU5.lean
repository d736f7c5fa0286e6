/- What the laws of this claim rest on: the abstract executor, its soundness, and what the functions compute on pure data. No condition. -/
import Derived.Test.YteconeampdidaaaU4
import Derived.Shelf.SlSortCmp.NoneTotal
import Derived.Ground.SlsfProg
import Derived.Test.YteconeampdidaaaProg
set_option linter.unusedVariables false
set_option linter.unusedSimpArgs false
namespace Go.Proofs.Yteconeampdidaaa
open Go.Abs
set_option linter.unusedSimpArgs false
set_option linter.unusedVariables false
def inR (r : Run) (n : Int) : Bool := decide (r.f ≤ n) && decide (n ≤ r.t)
def RR : List Run → Prop
  | [] => True
  | [r] => oneR r = true
  | r :: q :: l => oneR r = true ∧ q.t + 2 ≤ r.f ∧ RR (q :: l)
theorem oneR_iff {r : Run} : oneR r = true ↔ 1 ≤ r.f ∧ r.f ≤ r.t ∧ r.t ≤ 1099511627776 := by simp [oneR, and_assoc]
theorem goR_snoc : ∀ (l : List Run) (p : Option Int) (q r : Run), goR p (l ++ [q, r]) = (goR p (l ++ [q]) && (oneR r && decide (q.t + 2 ≤ r.f)))
  | [], p, q, r => by cases p <;> simp [goR, Bool.and_assoc]
  | x :: l, p, q, r => by
    simp only [List.cons_append, goR, goR_snoc l (some x.t) q r, Bool.and_assoc]
theorem right_rev : ∀ {l : List Run}, rightL l.reverse = true ↔ RR l
  | [] => by simp [rightL, goR, RR]
  | [r] => by simp [rightL, goR, RR]
  | r :: q :: l => by
    have ih := @right_rev (q :: l)
    simp only [List.reverse_cons, List.append_assoc, List.cons_append, List.nil_append, rightL] at ih ⊢
    rw [goR_snoc, Bool.and_eq_true, ih, RR, Bool.and_eq_true, decide_eq_true_iff]
    exact ⟨fun ⟨a, b, c⟩ => ⟨b, c, a⟩, fun ⟨b, c, a⟩ => ⟨a, b, c⟩⟩
theorem right_iff {l : List Run} : rightL l = true ↔ RR l.reverse := by
  have := @right_rev l.reverse
  rwa [List.reverse_reverse] at this
theorem rr_tail {r : Run} : ∀ {l : List Run}, RR (r :: l) → RR l
  | [], _ => trivial
  | _ :: _, h => h.2.2
theorem rr_one {r : Run} : ∀ {l : List Run}, RR (r :: l) → oneR r = true
  | [], h => h
  | _ :: _, h => h.1
theorem rr_all : ∀ {l : List Run}, RR l → ∀ r ∈ l, oneR r = true
  | [], _, r, hr => by cases hr
  | q :: l, h, r, hr => by
    rcases List.mem_cons.1 hr with rfl | hr
    · exact rr_one h
    · exact rr_all (rr_tail h) r hr
theorem rr_below : ∀ {l : List Run} {r : Run}, RR (r :: l) → ∀ q ∈ l, q.t + 2 ≤ r.f
  | [], _, _, q, hq => by cases hq
  | p :: l, r, h, q, hq => by
    rcases List.mem_cons.1 hq with rfl | hq
    · exact h.2.1
    · have h1 := rr_below h.2.2 q hq
      have h2 := oneR_iff.1 (rr_one h.2.2)
      have h3 := h.2.1
      omega
theorem has_cons (r : Run) (l : List Run) (n : Int) : hasL13 (r :: l) n = (oneR r && inR r n || hasL13 l n) := by
  simp [hasL13, inR, Bool.and_assoc]
theorem has_nil (n : Int) : hasL13 [] n = false := rfl
theorem has_rev (l : List Run) (n : Int) : hasL13 l.reverse n = hasL13 l n := by simp [hasL13]
theorem has_iff {l : List Run} {n : Int} : hasL13 l n = true ↔ ∃ r ∈ l, oneR r = true ∧ r.f ≤ n ∧ n ≤ r.t := by
  simp [hasL13, and_assoc]
theorem has_range {l : List Run} {n : Int} (h : hasL13 l n = true) : 1 ≤ n ∧ n ≤ 1099511627776 := by
  obtain ⟨r, _, h1, h2, h3⟩ := has_iff.1 h
  have := oneR_iff.1 h1
  omega
theorem has_perm {l m : List Run} (h : l.Perm m) (n : Int) : hasL13 l n = hasL13 m n := by
  rw [Bool.eq_iff_iff, has_iff, has_iff]
  exact ⟨fun ⟨r, hr, h1⟩ => ⟨r, h.mem_iff.1 hr, h1⟩, fun ⟨r, hr, h1⟩ => ⟨r, h.mem_iff.2 hr, h1⟩⟩
theorem has_filter (l : List Run) (n : Int) : hasL13 (l.filter oneR) n = hasL13 l n := by
  rw [Bool.eq_iff_iff, has_iff, has_iff]
  exact ⟨fun ⟨r, hr, h1⟩ => ⟨r, (List.mem_filter.1 hr).1, h1⟩, fun ⟨r, hr, h1⟩ => ⟨r, List.mem_filter.2 ⟨hr, h1.1⟩, h1⟩⟩
theorem rr_top {r : Run} {l : List Run} (h : RR (r :: l)) : ∀ n, hasL13 (r :: l) n = true → n ≤ r.t := fun n hn => by
  obtain ⟨q, hq, h1, h2, h3⟩ := has_iff.1 hn
  rcases List.mem_cons.1 hq with rfl | hq
  · exact h3
  · have := rr_below h q hq
    have := oneR_iff.1 (rr_one h)
    omega
theorem rr_has {r : Run} {l : List Run} (h : RR (r :: l)) (n : Int) : hasL13 l n = (hasL13 (r :: l) n && decide (n + 2 ≤ r.f)) := by
  rw [Bool.eq_iff_iff, Bool.and_eq_true, decide_eq_true_iff, has_iff, has_iff]
  constructor
  · rintro ⟨q, hq, h1, h2, h3⟩
    have := rr_below h q hq
    exact ⟨⟨q, List.mem_cons_of_mem _ hq, h1, h2, h3⟩, by omega⟩
  · rintro ⟨⟨q, hq, h1, h2, h3⟩, h4⟩
    rcases List.mem_cons.1 hq with rfl | hq
    · omega
    · exact ⟨q, hq, h1, h2, h3⟩
theorem rr_unique : ∀ {l m : List Run}, RR l → RR m → (∀ n, hasL13 l n = hasL13 m n) → l = m
  | [], [], _, _, _ => rfl
  | [], r :: m, _, h, hm => by
    have h1 := oneR_iff.1 (rr_one h)
    have h2 : hasL13 (r :: m) r.t = true := has_iff.2 ⟨r, by simp, rr_one h, h1.2.1, Int.le_refl _⟩
    rw [← hm] at h2; cases h2
  | r :: l, [], h, _, hm => by
    have h1 := oneR_iff.1 (rr_one h)
    have h2 : hasL13 (r :: l) r.t = true := has_iff.2 ⟨r, by simp, rr_one h, h1.2.1, Int.le_refl _⟩
    rw [hm] at h2; cases h2
  | r :: l, q :: m, h, h', hm => by
    have o1 := oneR_iff.1 (rr_one h)
    have o2 := oneR_iff.1 (rr_one h')
    have a1 : hasL13 (r :: l) r.t = true := has_iff.2 ⟨r, by simp, rr_one h, o1.2.1, Int.le_refl _⟩
    have a2 : hasL13 (q :: m) q.t = true := has_iff.2 ⟨q, by simp, rr_one h', o2.2.1, Int.le_refl _⟩
    rw [hm] at a1; rw [← hm] at a2
    have b1 := rr_top h' _ a1
    have b2 := rr_top h _ a2
    have et : r.t = q.t := by omega
    -- what begins lower has the count ahead of the other's beginning
    have key : ∀ {r q : Run} {l m : List Run}, RR (r :: l) → RR (q :: m) → (∀ n, hasL13 (r :: l) n = hasL13 (q :: m) n) → r.t = q.t → r.f ≤ q.f := by
      intro r q l m h h' hm et
      rcases Int.lt_or_le q.f r.f with hlt | hle
      · exfalso
        have o1 := oneR_iff.1 (rr_one h)
        have o2 := oneR_iff.1 (rr_one h')
        have c1 : hasL13 (q :: m) (r.f - 1) = true := has_iff.2 ⟨q, by simp, rr_one h', by omega, by omega⟩
        rw [← hm] at c1
        obtain ⟨p, hp, h1, h2, h3⟩ := has_iff.1 c1
        rcases List.mem_cons.1 hp with rfl | hp
        · omega
        · have := rr_below h p hp; omega
      · exact hle
    have ef : r.f = q.f := by
      have := key h h' hm et
      have := key h' h (fun n => (hm n).symm) et.symm
      omega
    have e : r = q := by cases r; cases q; simp_all
    subst e
    rw [rr_unique (rr_tail h) (rr_tail h') fun n => by rw [rr_has h, rr_has h', hm]]
theorem right_unique {l m : List Run} (h : rightL l = true) (h' : rightL m = true) (hm : ∀ n, hasL13 l n = hasL13 m n) : l = m := by
  have := rr_unique (right_iff.1 h) (right_iff.1 h') (fun n => by rw [has_rev, has_rev, hm])
  simpa using this
open Classical in
/-- The right list of what is meant, if there is one. -/
noncomputable def setR (p : Int → Bool) : List Run := if h : ∃ l, rightL l = true ∧ ∀ n, hasL13 l n = p n then Classical.choose h else []
def IsR (p : Int → Bool) : Prop := ∃ l, rightL l = true ∧ ∀ n, hasL13 l n = p n
theorem setR_right (p : Int → Bool) : rightL (setR p) = true := by
  unfold setR
  split
  · rename_i h; exact (Classical.choose_spec h).1
  · rfl
theorem setR_has {p : Int → Bool} (h : IsR p) (n : Int) : hasL13 (setR p) n = p n := by
  unfold setR
  rw [dif_pos (show ∃ l, rightL l = true ∧ ∀ n, hasL13 l n = p n from h)]; exact (Classical.choose_spec h).2 n
theorem setR_eq {p : Int → Bool} {l : List Run} (h : rightL l = true) (hp : ∀ n, hasL13 l n = p n) : l = setR p :=
  right_unique h (setR_right p) fun n => by rw [hp, setR_has ⟨l, h, hp⟩]
def pushJ : List Run → Run → List Run
  | [], r => [r]
  | q :: qs, r => if r.f < q.t + 2 then ⟨q.f, if r.t > q.t then r.t else q.t⟩ :: qs else r :: q :: qs
def lowF (l : List Run) (x : Int) : Prop := match l with | [] => True | q :: _ => q.f ≤ x
theorem pushJ_right {l : List Run} {r : Run} (h : RR l) (hr : oneR r = true) (hf : lowF l r.f) : RR (pushJ l r) ∧ lowF (pushJ l r) r.f ∧ ∀ n, hasL13 (pushJ l r) n = (hasL13 l n || inR r n) := by
  cases l with
  | nil => exact ⟨hr, Int.le_refl _, fun n => by simp [pushJ, hasL13, hr, inR]⟩
  | cons q qs =>
    have o1 := oneR_iff.1 hr
    have o2 := oneR_iff.1 (rr_one h)
    have hf' : q.f ≤ r.f := hf
    simp only [pushJ]
    by_cases hc : r.f < q.t + 2
    · rw [if_pos hc]
      generalize ht : (if r.t > q.t then r.t else q.t) = t
      have ht' : (t = r.t ∧ q.t < r.t) ∨ (t = q.t ∧ r.t ≤ q.t) := by split at ht <;> omega
      have ho : oneR ⟨q.f, t⟩ = true := oneR_iff.2 ⟨o2.1, by show q.f ≤ t; omega, by show t ≤ _; omega⟩
      refine ⟨?_, hf', fun n => ?_⟩
      · cases qs with
        | nil => exact ho
        | cons p ps => exact ⟨ho, h.2.1, h.2.2⟩
      · rw [has_cons, has_cons, ho, rr_one h]
        have : inR ⟨q.f, t⟩ n = (inR q n || inR r n) := by
          rw [Bool.eq_iff_iff]; simp only [inR, Bool.and_eq_true, Bool.or_eq_true, decide_eq_true_iff]; omega
        rw [this]; simp only [Bool.true_and]
        cases inR q n <;> cases inR r n <;> cases hasL13 qs n <;> rfl
    · rw [if_neg hc]
      refine ⟨⟨hr, by omega, h⟩, Int.le_refl _, fun n => ?_⟩
      rw [has_cons, hr]; simp only [Bool.true_and]; cases inR r n <;> cases hasL13 (q :: qs) n <;> rfl
theorem pushJ_len (l : List Run) (r : Run) : (pushJ l r).length ≤ l.length + 1 := by
  cases l with
  | nil => simp [pushJ]
  | cons q qs => simp only [pushJ]; split <;> simp
theorem fold_push : ∀ {l : List Run} {a : List Run}, RR a → (∀ r ∈ l, oneR r = true) → l.Pairwise (fun x y => x.f ≤ y.f) → (∀ r ∈ l, lowF a r.f) → RR (l.foldl pushJ a) ∧ ∀ n, hasL13 (l.foldl pushJ a) n = (hasL13 a n || hasL13 l n)
  | [], a, h, _, _, _ => ⟨h, fun n => by simp [hasL13]⟩
  | r :: l, a, h, ho, hs, hf => by
    obtain ⟨h1, h2, h3⟩ := pushJ_right h (ho r (by simp)) (hf r (by simp))
    rw [List.pairwise_cons] at hs
    obtain ⟨h4, h5⟩ := fold_push (l := l) h1 (fun q hq => ho q (by simp [hq])) hs.2 (fun q hq => by
      have := hs.1 q hq
      revert h2
      cases pushJ a r with
      | nil => intro _; trivial
      | cons p ps => intro h2; exact Int.le_trans h2 this)
    refine ⟨h4, fun n => ?_⟩
    rw [List.foldl_cons, h5, h3, has_cons, ho r (by simp)]
    simp only [Bool.true_and, Bool.or_assoc]
theorem fold_push_all {l : List Run} (ho : ∀ r ∈ l, oneR r = true) (hs : l.Pairwise (fun x y => x.f ≤ y.f)) : (l.foldl pushJ []).reverse = setR (hasL13 l) := by
  obtain ⟨h1, h2⟩ := fold_push (a := []) trivial ho hs (fun _ _ => trivial)
  exact setR_eq (right_rev.2 h1) fun n => by rw [has_rev, h2]; simp [hasL13]
end Go.Proofs.Yteconeampdidaaa
namespace Go.Proofs.Yteconeampdidaaa
open Go.Abs
set_option linter.unusedSimpArgs false
set_option linter.unusedVariables false
def putI : List Int → Int → List Int
  | [], n => [n]
  | x :: xs, n => if x < n then x :: putI xs n else if x = n then x :: xs else n :: x :: xs
theorem putI_mem (l : List Int) (n x : Int) : x ∈ putI l n ↔ x = n ∨ x ∈ l := by
  induction l with
  | nil => simp [putI]
  | cons y ys ih =>
    simp only [putI]
    split
    · rw [List.mem_cons, ih, List.mem_cons]
      exact ⟨fun h => by rcases h with h | h | h <;> simp [h], fun h => by rcases h with h | h | h <;> simp [h]⟩
    · split
      · rename_i h1 h2; subst h2; simp
      · simp
theorem putI_up {l : List Int} {n : Int} (h : l.Pairwise (· < ·)) : (putI l n).Pairwise (· < ·) := by
  induction l with
  | nil => simp [putI]
  | cons y ys ih =>
    rw [List.pairwise_cons] at h
    simp only [putI]
    split
    · rename_i h1
      rw [List.pairwise_cons]
      refine ⟨fun x hx => ?_, ih h.2⟩
      rcases (putI_mem ys n x).1 hx with rfl | hx
      · exact h1
      · exact h.1 x hx
    · split
      · exact List.pairwise_cons.2 h
      · rename_i h1 h2
        rw [List.pairwise_cons]
        refine ⟨fun x hx => ?_, List.pairwise_cons.2 h⟩
        rcases List.mem_cons.1 hx with rfl | hx
        · omega
        · have := h.1 x hx; omega
def edgesR : List Int → List Run → List Int
  | e, [] => e
  | e, r :: rs => edgesR (if oneR r then putI (putI e r.f) (r.t + 1) else e) rs
theorem edgesR_up {e : List Int} {l : List Run} (h : e.Pairwise (· < ·)) : (edgesR e l).Pairwise (· < ·) := by
  induction l generalizing e with
  | nil => exact h
  | cons r rs ih =>
    simp only [edgesR]
    apply ih
    split
    · exact putI_up (putI_up h)
    · exact h
theorem edgesR_mem {l : List Run} {x : Int} : ∀ {e : List Int}, x ∈ edgesR e l ↔ x ∈ e ∨ ∃ r ∈ l, oneR r = true ∧ (x = r.f ∨ x = r.t + 1) := by
  induction l with
  | nil => intro e; simp [edgesR]
  | cons r rs ih =>
    intro e
    simp only [edgesR]
    rw [ih]
    cases h : oneR r with
    | false =>
      rw [if_neg (by simp)]
      constructor
      · rintro (h1 | ⟨q, hq, h2⟩)
        · exact .inl h1
        · exact .inr ⟨q, by simp [hq], h2⟩
      · rintro (h1 | ⟨q, hq, h2⟩)
        · exact .inl h1
        · rcases List.mem_cons.1 hq with rfl | hq
          · rw [h] at h2; simp at h2
          · exact .inr ⟨q, hq, h2⟩
    | true =>
      rw [if_pos rfl, putI_mem, putI_mem]
      constructor
      · rintro ((h1 | h1 | h1) | ⟨q, hq, h2⟩)
        · exact .inr ⟨r, by simp, h, .inr h1⟩
        · exact .inr ⟨r, by simp, h, .inl h1⟩
        · exact .inl h1
        · exact .inr ⟨q, by simp [hq], h2⟩
      · rintro (h1 | ⟨q, hq, h2⟩)
        · exact .inl (.inr (.inr h1))
        · rcases List.mem_cons.1 hq with rfl | hq
          · rcases h2.2 with h3 | h3
            · exact .inl (.inr (.inl h3))
            · exact .inl (.inl h3)
          · exact .inr ⟨q, hq, h2⟩
def edges2 (a b : List Run) : List Int := edgesR (edgesR [] a) b
theorem edges2_up (a b : List Run) : (edges2 a b).Pairwise (· < ·) := edgesR_up (edgesR_up List.Pairwise.nil)
theorem edges2_mem {a b : List Run} {x : Int} : x ∈ edges2 a b ↔ ∃ r ∈ a ++ b, oneR r = true ∧ (x = r.f ∨ x = r.t + 1) := by
  unfold edges2
  rw [edgesR_mem, edgesR_mem]
  constructor
  · rintro ((h | ⟨r, hr, h⟩) | ⟨r, hr, h⟩)
    · cases h
    · exact ⟨r, by simp [hr], h⟩
    · exact ⟨r, by simp [hr], h⟩
  · rintro ⟨r, hr, h⟩
    rcases List.mem_append.1 hr with hr | hr
    · exact .inl (.inr ⟨r, hr, h⟩)
    · exact .inr ⟨r, hr, h⟩
theorem edges2_range {a b : List Run} {x : Int} (h : x ∈ edges2 a b) : 1 ≤ x ∧ x ≤ 1099511627777 := by
  obtain ⟨r, _, h1, h2⟩ := edges2_mem.1 h
  have := oneR_iff.1 h1
  omega
theorem has_flat {l : List Run} {x n : Int} (hx : x ≤ n) (h : ∀ r ∈ l, oneR r = true → ¬(x < r.f ∧ r.f ≤ n) ∧ ¬(x < r.t + 1 ∧ r.t + 1 ≤ n)) : hasL13 l n = hasL13 l x := by
  rw [Bool.eq_iff_iff, has_iff, has_iff]
  constructor
  · rintro ⟨r, hr, h1, h2, h3⟩
    have := h r hr h1
    exact ⟨r, hr, h1, by omega, by omega⟩
  · rintro ⟨r, hr, h1, h2, h3⟩
    have := h r hr h1
    exact ⟨r, hr, h1, by omega, by omega⟩
def opF (op : Int) (x y : Bool) : Bool := if op = 1 then x || y else if op = 2 then x && y else x && !y
theorem opF_ff (op : Int) : opF op false false = false := by unfold opF; split <;> (try split) <;> rfl
def opP (op : Int) (a b : List Run) (n : Int) : Bool := opF op (hasL13 a n) (hasL13 b n)
section
variable {op : Int} {a b : List Run}
theorem opP_flat {x n : Int} (hx : x ≤ n) (h : ∀ y ∈ edges2 a b, ¬(x < y ∧ y ≤ n)) : opP op a b n = opP op a b x := by
  have e1 : hasL13 a n = hasL13 a x := has_flat hx fun r hr h1 => ⟨h _ (edges2_mem.2 ⟨r, by simp [hr], h1, .inl rfl⟩), h _ (edges2_mem.2 ⟨r, by simp [hr], h1, .inr rfl⟩)⟩
  have e2 : hasL13 b n = hasL13 b x := has_flat hx fun r hr h1 => ⟨h _ (edges2_mem.2 ⟨r, by simp [hr], h1, .inl rfl⟩), h _ (edges2_mem.2 ⟨r, by simp [hr], h1, .inr rfl⟩)⟩
  unfold opP; rw [e1, e2]
theorem opP_low {n : Int} (h : ∀ y ∈ edges2 a b, n < y) : opP op a b n = false := by
  have e : ∀ l : List Run, (∀ r ∈ l, r ∈ a ++ b) → hasL13 l n = false := fun l hl => by
    rw [← Bool.not_eq_true, has_iff]
    rintro ⟨r, hr, h1, h2, h3⟩
    have := h _ (edges2_mem.2 ⟨r, hl r hr, h1, .inl rfl⟩)
    omega
  unfold opP; rw [e a (fun r hr => by simp [hr]), e b (fun r hr => by simp [hr]), opF_ff]
theorem opP_high {n : Int} (h : ∀ y ∈ edges2 a b, y ≤ n) : opP op a b n = false := by
  have e : ∀ l : List Run, (∀ r ∈ l, r ∈ a ++ b) → hasL13 l n = false := fun l hl => by
    rw [← Bool.not_eq_true, has_iff]
    rintro ⟨r, hr, h1, h2, h3⟩
    have := h _ (edges2_mem.2 ⟨r, hl r hr, h1, .inr rfl⟩)
    omega
  unfold opP; rw [e a (fun r hr => by simp [hr]), e b (fun r hr => by simp [hr]), opF_ff]
end
def mkA (P : Int → Bool) (e : List Int) : Nat → List Run
  | 0 => []
  | k + 1 => if P (e[k]!) then pushJ (mkA P e k) ⟨e[k]!, e[k + 1]! - 1⟩ else mkA P e k
def topT (l : List Run) (x : Int) : Prop := match l with | [] => True | q :: _ => q.t < x
theorem up_get {e : List Int} (h : e.Pairwise (· < ·)) {i j : Nat} (hij : i < j) (hj : j < e.length) : e[i]! < e[j]! := by
  rw [getElem!_pos e i (by omega), getElem!_pos e j hj]
  exact List.pairwise_iff_getElem.1 h i j (by omega) hj hij
theorem top_push {l : List Run} {r : Run} (h : topT l r.f) (hr : r.f ≤ r.t) : topT (pushJ l r) (r.t + 1) := by
  cases l with
  | nil => show r.t < r.t + 1; omega
  | cons q qs =>
    have h' : q.t < r.f := h
    simp only [pushJ]
    split
    · show (if r.t > q.t then r.t else q.t) < r.t + 1
      split <;> omega
    · show r.t < r.t + 1; omega
theorem mkA_spec (op : Int) (a b : List Run) : ∀ k, k < (edges2 a b).length → RR (mkA (opP op a b) (edges2 a b) k) ∧ topT (mkA (opP op a b) (edges2 a b) k) ((edges2 a b)[k]!) ∧ lowF (mkA (opP op a b) (edges2 a b) k) ((edges2 a b)[k]!) ∧
    ∀ n, hasL13 (mkA (opP op a b) (edges2 a b) k) n = (decide (n < (edges2 a b)[k]!) && opP op a b n)
  | 0, hk => by
    refine ⟨trivial, trivial, trivial, fun n => ?_⟩
    by_cases h : n < (edges2 a b)[0]!
    · rw [opP_low]
      · show hasL13 [] n = _
        rw [has_nil, Bool.and_false]
      intro y hy
      obtain ⟨i, hi, rfl⟩ := List.mem_iff_getElem.1 hy
      have : (edges2 a b)[i]! = (edges2 a b)[i] := getElem!_pos _ i hi
      rcases Nat.eq_zero_or_pos i with rfl | hp
      · omega
      · have := up_get (edges2_up a b) hp hi; omega
    · show hasL13 [] n = _
      rw [has_nil, decide_eq_false h, Bool.false_and]
  | k + 1, hk => by
    obtain ⟨h1, h2, h3, h4⟩ := mkA_spec op a b k (by omega)
    have hlt := up_get (edges2_up a b) (Nat.lt_succ_self k) hk
    have r1 := edges2_range (a := a) (b := b) (x := (edges2 a b)[k]!) (by rw [getElem!_pos _ k (by omega)]; exact List.getElem_mem _)
    have r2 := edges2_range (a := a) (b := b) (x := (edges2 a b)[k + 1]!) (by rw [getElem!_pos _ (k + 1) hk]; exact List.getElem_mem _)
    have flat : ∀ n, (edges2 a b)[k]! ≤ n → n < (edges2 a b)[k + 1]! → opP op a b n = opP op a b ((edges2 a b)[k]!) := fun n hn hn' => opP_flat hn fun y hy => by
      obtain ⟨i, hi, rfl⟩ := List.mem_iff_getElem.1 hy
      have e : (edges2 a b)[i]! = (edges2 a b)[i] := getElem!_pos _ i hi
      rintro ⟨g1, g2⟩
      rcases Nat.lt_trichotomy i (k + 1) with hh | hh | hh
      · rcases Nat.lt_or_eq_of_le (Nat.lt_succ_iff.1 hh) with hh' | hh'
        · have := up_get (edges2_up a b) hh' (by omega); omega
        · subst hh'; omega
      · subst hh; omega
      · have := up_get (edges2_up a b) hh hi; omega
    simp only [mkA]
    generalize hx : (edges2 a b)[k]! = x at *
    generalize hy : (edges2 a b)[k + 1]! = y at *
    generalize hm : mkA (opP op a b) (edges2 a b) k = m at *
    cases hp : opP op a b x with
    | false =>
      rw [if_neg (by simp)]
      refine ⟨h1, ?_, ?_, fun n => ?_⟩
      · cases m with
        | nil => trivial
        | cons q qs => show q.t < y; have : q.t < x := h2; omega
      · cases m with
        | nil => trivial
        | cons q qs => show q.f ≤ y; have : q.f ≤ x := h3; omega
      · rw [h4]
        by_cases c1 : n < x
        · have : n < y := by omega
          simp [c1, this]
        · by_cases c2 : n < y
          · rw [flat n (by omega) c2, hp]; simp
          · simp [c1, c2]
    | true =>
      rw [if_pos rfl]
      have ho : oneR ⟨x, y - 1⟩ = true := oneR_iff.2 ⟨r1.1, by show x ≤ y - 1; omega, by show y - 1 ≤ _; omega⟩
      obtain ⟨g1, g2, g3⟩ := pushJ_right h1 ho h3
      refine ⟨g1, ?_, ?_, fun n => ?_⟩
      · have := top_push (r := ⟨x, y - 1⟩) h2 (by show x ≤ y - 1; omega)
        simpa using this
      · revert g2
        cases pushJ m ⟨x, y - 1⟩ with
        | nil => intro _; trivial
        | cons q qs => intro g2; have : q.f ≤ x := g2; show q.f ≤ y; omega
      · rw [g3, h4]
        by_cases c1 : n < x
        · have : n < y := by omega
          have c3 : ¬ x ≤ n := by omega
          simp [c1, this, inR, c3]
        · by_cases c2 : n < y
          · rw [flat n (by omega) c2, hp]
            have c3 : x ≤ n := by omega
            have c4 : n ≤ y - 1 := by omega
            simp [inR, c1, c2, c3, c4]
          · have c4 : ¬ n ≤ y - 1 := by omega
            simp [inR, c1, c2, c4]
theorem mkA_all (op : Int) (a b : List Run) : (mkA (opP op a b) (edges2 a b) ((edges2 a b).length - 1)).reverse = setR (opP op a b) := by
  by_cases h : (edges2 a b).length = 0
  · have e : edges2 a b = [] := List.length_eq_zero_iff.1 h
    rw [h]
    refine setR_eq rfl fun n => ?_
    rw [opP_low (fun y hy => by rw [e] at hy; cases hy)]; rfl
  · obtain ⟨h1, _, _, h4⟩ := mkA_spec op a b ((edges2 a b).length - 1) (by omega)
    refine setR_eq (right_rev.2 h1) fun n => ?_
    rw [has_rev, h4]
    by_cases c : n < (edges2 a b)[(edges2 a b).length - 1]!
    · rw [decide_eq_true c, Bool.true_and]
    · rw [opP_high]
      · simp
      · intro y hy
        obtain ⟨i, hi, rfl⟩ := List.mem_iff_getElem.1 hy
        have e : (edges2 a b)[i]! = (edges2 a b)[i] := getElem!_pos _ i hi
        rcases Nat.lt_or_eq_of_le (show i ≤ (edges2 a b).length - 1 by omega) with hh | hh
        · have := up_get (edges2_up a b) hh (by omega); omega
        · subst hh; omega
theorem isR_op (op : Int) (a b : List Run) : IsR (opP op a b) := by
  by_cases h : (edges2 a b).length = 0
  · have e : edges2 a b = [] := List.length_eq_zero_iff.1 h
    exact ⟨[], rfl, fun n => by rw [opP_low (fun y hy => by rw [e] at hy; cases hy)]; rfl⟩
  · refine ⟨setR (opP op a b), setR_right _, fun n => ?_⟩
    have h0 := mkA_all op a b
    obtain ⟨h1, _, _, h4⟩ := mkA_spec op a b ((edges2 a b).length - 1) (by omega)
    rw [← h0, has_rev, h4]
    by_cases c : n < (edges2 a b)[(edges2 a b).length - 1]!
    · rw [decide_eq_true c, Bool.true_and]
    · rw [opP_high]
      · simp
      · intro y hy
        obtain ⟨i, hi, rfl⟩ := List.mem_iff_getElem.1 hy
        have e : (edges2 a b)[i]! = (edges2 a b)[i] := getElem!_pos _ i hi
        rcases Nat.lt_or_eq_of_le (show i ≤ (edges2 a b).length - 1 by omega) with hh | hh
        · have := up_get (edges2_up a b) hh (by omega); omega
        · subst hh; omega
theorem isR_has (l : List Run) : IsR (hasL13 l) := by
  obtain ⟨m, h1, h2⟩ := isR_op 1 l []
  exact ⟨m, h1, fun n => by rw [h2]; simp [opP, opF, hasL13]⟩
end Go.Proofs.Yteconeampdidaaa
namespace Go.Proofs.Yteconeampdidaaa
open Go.Abs
set_option linter.unusedSimpArgs false
set_option linter.unusedVariables false
structure Known where
  n : Int
  rs : List Run
  deriving DecidableEq
instance : Inhabited Known := ⟨⟨0, []⟩⟩
def Known.cells (k : Known) : List A := [.int .i64 k.n, .slc (k.rs.map Run.enc)]
def Known.enc (k : Known) : A := .agg k.cells
def runsK : List Known → Int → List Run
  | [], _ => []
  | k :: s, n => if k.n = n then k.rs ++ runsK s n else runsK s n
theorem runsK_append : ∀ (s t : List Known) (n : Int), runsK (s ++ t) n = runsK s n ++ runsK t n
  | [], _, _ => rfl
  | k :: s, t, n => by
    simp only [List.cons_append, runsK, runsK_append s t n]
    split
    · rw [List.append_assoc]
    · rfl
def repOK (n : Int) : Bool := decide (1 ≤ n) && decide (n ≤ 16)
theorem repOK_iff {n : Int} : repOK n = true ↔ 1 ≤ n ∧ n ≤ 16 := by simp [repOK]
def hasK (s : List Known) (n c : Int) : Bool := repOK n && hasL13 (runsK s n) c
set_option maxRecDepth 20000
set_option maxHeartbeats 4000000
noncomputable def T13c : Tab := T13b
theorem T13c_ok : TabOK Try.prog T13c := T13b_ok
noncomputable def T13d : Tab := T13c.add 39 (entry (fun (v : List Run × Int) => [.slc (v.1.map Run.enc), .int .i64 v.2]) (fun v => v.1.length ≤ 4611686018427387904) (fun v => .bool (hasL13 v.1 v.2)))
theorem T13d_ok : TabOK Try.prog T13d := T13c_ok.ent Try.func39 (by kernel_rfl) (by kernel_rfl) fun v h => c_ref13_Has v.1 v.2 h
theorem T13d_ref13_Has (v : List Run × Int) (h : v.1.length ≤ 4611686018427387904) : T13d.f 39 [.slc (v.1.map Run.enc), .int .i64 v.2] = some (.bool (hasL13 v.1 v.2)) := Tab.ent_eq (Γ := T13c) (fun i j h => by simpa [Prod.ext_iff, and_assoc] using h) v h
@[go_sem] theorem t_ref13_Has {l : List Run} {n : Int} (h : l.length ≤ 4611686018427387904) : T13d.f 39 [.slc (l.map Run.enc), .int .i64 n] = some (.bool (hasL13 l n)) := T13d_ref13_Has (l, n) h
noncomputable def T13e : Tab := T13d
theorem T13e_ok : TabOK Try.prog T13e := T13d_ok
@[go_sem] theorem T13e_old {g : FuncId} {xs : List A} : T13e.f g xs = T13d.f g xs := rfl
theorem get_last {x : A} : ∀ {l : List A}, (l ++ [x])[l.length]? = some x
  | [] => rfl
  | y :: l => by simp [get_last]
end Go.Proofs.Yteconeampdidaaa
namespace Go.Proofs
open Go.Shelf
def Yteconeampdidaaa.sortRun_ren : Go.Shelf.Ren := ⟨fun | 6 => 37 | 15 => 46 | 14 => 45 | 28 => 57 | 29 => 58 | 20 => 49 | 21 => 50 | 22 => 51 | 23 => 52 | 24 => 53 | 25 => 54 | 26 => 55 | 27 => 56 | 46 => 60 | 47 => 61 | 48 => 62 | 49 => 63 | 50 => 64 | 57 => 65 | n => n, fun | 22 => 57 | 24 => 66 | 25 => 79 | 3 => 3 | 39 => 88 | 0 => 0 | 53 => 97 | 55 => 99 | 4 => 4 | 46 => 91 | 45 => 90 | 50 => 69 | 5 => 5 | 9 => 9 | 66 => 101 | 70 => 105 | 76 => 107 | 77 => 108 | n => n, fun | n => n⟩
theorem Yteconeampdidaaa.sortRun : Go.Proofs.SlLaysF0.n6 Try.prog Yteconeampdidaaa.sortRun_ren := {
  mixed := by kernel_rfl
  f6 := ⟨Try.f37.name, by decide, Try.func37.trans (congrArg some (by kernel_rfl))⟩
  f14 := ⟨Try.f45.name, by decide, Try.func45.trans (congrArg some (by kernel_rfl))⟩
  f15 := Try.func46.trans (congrArg some (by kernel_rfl))
  f20 := ⟨Try.f49.name, by decide, Try.func49.trans (congrArg some (by kernel_rfl))⟩
  f21 := ⟨Try.f50.name, by decide, Try.func50.trans (congrArg some (by kernel_rfl))⟩
  f22 := ⟨Try.f51.name, by decide, Try.func51.trans (congrArg some (by kernel_rfl))⟩
  f23 := ⟨Try.f52.name, by decide, Try.func52.trans (congrArg some (by kernel_rfl))⟩
  f24 := ⟨Try.f53.name, by decide, Try.func53.trans (congrArg some (by kernel_rfl))⟩
  f25 := ⟨Try.f54.name, by decide, Try.func54.trans (congrArg some (by kernel_rfl))⟩
  f26 := ⟨Try.f55.name, by decide, Try.func55.trans (congrArg some (by kernel_rfl))⟩
  f27 := ⟨Try.f56.name, by decide, Try.func56.trans (congrArg some (by kernel_rfl))⟩
  f28 := Try.func57.trans (congrArg some (by kernel_rfl))
  f29 := Try.func58.trans (congrArg some (by kernel_rfl))
  f46 := ⟨Try.f60.name, by decide, Try.func60.trans (congrArg some (by kernel_rfl))⟩
  f47 := Try.func61.trans (congrArg some (by kernel_rfl))
  f48 := Try.func62.trans (congrArg some (by kernel_rfl))
  f49 := ⟨Try.f63.name, by decide, Try.func63.trans (congrArg some (by kernel_rfl))⟩
  f50 := ⟨Try.f64.name, by decide, Try.func64.trans (congrArg some (by kernel_rfl))⟩
  f57 := ⟨Try.f65.name, by decide, Try.func65.trans (congrArg some (by kernel_rfl))⟩
  t0 := Try.underlying0
  a0 := Try.isAgg0
  z0 := Try.sizeOf0
  v0 := Try.zeroValue0
  t3 := Try.underlying3
  a3 := Try.isAgg3
  z3 := Try.sizeOf3
  v3 := Try.zeroValue3
  t4 := Try.underlying4
  a4 := Try.isAgg4
  z4 := Try.sizeOf4
  v4 := Try.zeroValue4
  t5 := Try.underlying5
  a5 := Try.isAgg5
  z5 := Try.sizeOf5
  v5 := Try.zeroValue5
  t9 := Try.underlying9
  a9 := Try.isAgg9
  z9 := Try.sizeOf9
  v9 := Try.zeroValue9
  t22 := Try.underlying57
  a22 := Try.isAgg57
  z22 := Try.sizeOf57
  v22 := Try.zeroValue57
  t25 := Try.underlying79
  a25 := Try.isAgg79
  z25 := Try.sizeOf79
  v25 := Try.zeroValue79
  t39 := Try.underlying88
  a39 := Try.isAgg88
  z39 := Try.sizeOf88
  v39 := Try.zeroValue88
  t45 := Try.underlying90
  a45 := Try.isAgg90
  z45 := Try.sizeOf90
  v45 := Try.zeroValue90
  t46 := Try.underlying91
  a46 := Try.isAgg91
  z46 := Try.sizeOf91
  v46 := Try.zeroValue91
  t50 := Try.underlying69
  a50 := Try.isAgg69
  z50 := Try.sizeOf69
  v50 := Try.zeroValue69
  t53 := Try.underlying97
  a53 := Try.isAgg97
  z53 := Try.sizeOf97
  v53 := Try.zeroValue97
  t55 := Try.underlying99
  a55 := Try.isAgg99
  z55 := Try.sizeOf99
  v55 := Try.zeroValue99
  t66 := Try.underlying101
  a66 := Try.isAgg101
  z66 := Try.sizeOf101
  v66 := Try.zeroValue101
  t70 := Try.underlying105
  a70 := Try.isAgg105
  z70 := Try.sizeOf105
  v70 := Try.zeroValue105
  t76 := Try.underlying107
  a76 := Try.isAgg107
  z76 := Try.sizeOf107
  v76 := Try.zeroValue107
  t77 := Try.underlying108
  a77 := Try.isAgg108
  z77 := Try.sizeOf108
  v77 := Try.zeroValue108 }
end Go.Proofs
namespace Go.Proofs.Yteconeampdidaaa
open Go.Abs
set_option linter.unusedSimpArgs false
set_option linter.unusedVariables false
set_option maxRecDepth 20000
set_option maxHeartbeats 4000000
theorem ok_counts_Of_1 : codeOK Try.prog T13z Try.f38.ntmps (Try.f38.body.getD .skip) = true := by kernel_rfl
theorem c_Of1 (f t f' t' : Int) (h : 0 ≤ f ∧ f ≤ 1099511627776 ∧ 0 ≤ f' ∧ f' ≤ 1099511627776) : CallA Try.prog 38 [.agg [.int .i64 f, .int .i64 t], .agg [.int .i64 f', .int .i64 t']] (· = .int .i64 (f - f')) := by
  refine callA_of_body T13z_ok mixed Try.func38 rfl (Nat.le_of_ble_eq_true rfl) ok_counts_Of_1 ?_
  unfold Try.f38
  simp -implicitDefEqProofs (disch := (first | omega | decide)) only [go_sem, ↓reduceIte, seval, wrap_i64]
abbrev RunB := {r : Run // oneR r = true}
instance : Inhabited RunB := ⟨⟨⟨1, 1⟩, by decide⟩⟩
def cfB (a b : RunB) : Int := a.1.f - b.1.f
def RunB.cells (r : RunB) : List A := r.1.cells
theorem swoB : Go.Sort.SWO (Go.Proofs.ltOf cfB) := by
  have hl : ∀ a b, Go.Proofs.ltOf cfB a b = decide (a.1.f < b.1.f) := fun a b => by
    unfold Go.Proofs.ltOf cfB
    by_cases h : a.1.f < b.1.f
    · have : a.1.f - b.1.f < 0 := by omega
      simp [this, h]
    · have : ¬ a.1.f - b.1.f < 0 := by omega
      simp [this, h]
  refine ⟨fun x => ?_, fun x y z h1 h2 => ?_, fun x y z h1 h2 => ?_⟩
  · rw [hl]; simp
  · rw [hl] at *
    rw [decide_eq_true_iff] at *; omega
  · rw [hl] at *
    rw [decide_eq_false_iff_not] at *; omega
theorem c_SortFunc_Run (l : List RunB) (hl : l.length < 4611686018427387904) : CallH Try.prog 37 [.row 0 0 2 l.length false, .fn 38 []] [.row 2 (l.map fun x => .agg x.cells)]
    (.tup []) [.row 2 ((sortL cfB l).map fun x => .agg x.cells)] [] :=
  sort_struct trivial Go.Proofs.Yteconeampdidaaa.sortRun (by omega) Try.isAgg66 Try.sizeOf66 RunB.cells (fun _ => rfl) (fun x a ha => by
    simp only [RunB.cells, Run.cells, List.mem_cons, List.not_mem_nil, or_false] at ha
    rcases ha with rfl | rfl <;> rfl) cfB swoB (callable_of Try.func38 (by kernel_rfl) (by kernel_rfl)) (fun x y => by
      have h1 := oneR_iff.1 x.2
      have h2 := oneR_iff.1 y.2
      exact c_Of1 x.1.f x.1.t y.1.f y.1.t (by omega)) l hl false
def pickB (l : List Run) : List RunB := (l.filter oneR).attach.map fun x => ⟨x.1, (List.mem_filter.1 x.2).2⟩
theorem pickB_val (l : List Run) : (pickB l).map (·.1) = l.filter oneR := by
  unfold pickB
  rw [List.map_map]
  exact List.attach_map_subtype_val _
theorem pickB_cells (l : List Run) : (pickB l).map (fun x => A.agg x.cells) = (l.filter oneR).map Run.enc := by
  rw [← pickB_val, List.map_map]; rfl
noncomputable def srtL (l : List Run) : List Run := (sortL cfB (pickB l)).map (·.1)
theorem srtL_cells (l : List Run) : (sortL cfB (pickB l)).map (fun x => A.agg x.cells) = (srtL l).map Run.enc := by
  unfold srtL; rw [List.map_map]; rfl
theorem srtL_perm (l : List Run) : (srtL l).Perm (l.filter oneR) := by
  rw [← pickB_val]; exact (sortL_spec swoB (pickB l)).1.map _
theorem srtL_one (l : List Run) : ∀ r ∈ srtL l, oneR r = true := fun r hr => by
  unfold srtL at hr
  obtain ⟨x, _, rfl⟩ := List.mem_map.1 hr
  exact x.2
theorem srtL_up (l : List Run) : (srtL l).Pairwise (fun x y => x.f ≤ y.f) := by
  unfold srtL
  rw [List.pairwise_map]
  exact (sortL_spec swoB (pickB l)).2.imp fun {x y} h => by unfold cfB at h; omega
theorem srtL_has (l : List Run) (n : Int) : hasL13 (srtL l) n = hasL13 l n := by
  rw [has_perm (srtL_perm l), has_filter]
theorem srtL_all (l : List Run) : ((srtL l).foldl pushJ []).reverse = setR (hasL13 l) := by
  rw [fold_push_all (srtL_one l) (srtL_up l)]
  congr 1; funext n; exact srtL_has l n
def srE (l : List RunB) : List A := [.row 0 0 2 l.length false, .fn 38 []]
def srO (l : List RunB) : List Go.Abs.Obj := [.row 2 (l.map fun x => .agg x.cells)]
def srK (l : List RunB) : Prop := l.length < 4611686018427387904
noncomputable def srR (l : List RunB) : A × List Go.Abs.Obj × List Nat := (.tup [], [.row 2 ((sortL cfB l).map fun x => .agg x.cells)], [])
theorem runB_inj (x y : RunB) (h : A.agg x.cells = A.agg y.cells) : x = y := Subtype.ext (Run.enc_inj _ _ h)
theorem srO_inj (i j : List RunB) (h : srO i = srO j) : i = j := by
  simp only [srO, List.cons.injEq, Go.Abs.Obj.row.injEq, true_and, and_true] at h
  rwa [map_inj runB_inj] at h
noncomputable def T13f : Tab := T13b.add 34 (entry (fun (l : List Run) => [.slc (l.map Run.enc)]) (fun l => l.length ≤ 4611686018427387904) (fun l => .bool (rightL l)))
theorem T13f_ok : TabOK Try.prog T13f := T13b_ok.ent Try.func34 (by kernel_rfl) (by kernel_rfl) fun l h => c_counts_Right l h
@[go_sem] theorem T13f_old {g : FuncId} {xs : List A} (h : g ≠ 34) : T13f.f g xs = T13b.f g xs := Tab.add_ne h
theorem T13f_counts_Right (l : List Run) (h : l.length ≤ 4611686018427387904) : T13f.f 34 [.slc (l.map Run.enc)] = some (.bool (rightL l)) := Tab.ent_eq (Γ := T13b) (fun i j h => by simpa [Prod.ext_iff, and_assoc] using h) l h
noncomputable def T13g : Tab := T13f.add 35 (entry (fun (l : List Run) => [.slc (l.map Run.enc)]) (fun l => l.length ≤ 4398046511104) (fun l => .slc (l.map Run.enc)))
theorem T13g_ok : TabOK Try.prog T13g := T13f_ok.ent Try.func35 (by kernel_rfl) (by kernel_rfl) fun l h => c_Clone_Run l h
@[go_sem] theorem T13g_old {g : FuncId} {xs : List A} (h : g ≠ 35) : T13g.f g xs = T13f.f g xs := Tab.add_ne h
theorem T13g_slices_Clone_winnower_api_Run_winnower_api_Run (l : List Run) (h : l.length ≤ 4398046511104) : T13g.f 35 [.slc (l.map Run.enc)] = some (.slc (l.map Run.enc)) := Tab.ent_eq (Γ := T13f) (fun i j h => by simpa [Prod.ext_iff, and_assoc] using h) l h
@[go_sem] theorem t_counts_Right {l : List Run} (h : l.length ≤ 4611686018427387904) : T13f.f 34 [.slc (l.map Run.enc)] = some (.bool (rightL l)) := T13f_counts_Right l h
@[go_sem] theorem t_Clone_Run {l : List Run} (h : l.length ≤ 4398046511104) : T13g.f 35 [.slc (l.map Run.enc)] = some (.slc (l.map Run.enc)) := T13g_slices_Clone_winnower_api_Run_winnower_api_Run l h
noncomputable def C13Sa : Tab := T13g.addH 37 (entryH srE srO srK srR)
noncomputable def C13S : Tab := { C13Sa with eff := fun f => f == 37 }
theorem C13Sa_ok : TabOK Try.prog C13Sa := T13g_ok.addH (callable_of Try.func37 (by kernel_rfl) (by kernel_rfl)) (entryH_ok fun l h => c_SortFunc_Run l h)
theorem C13S_ok : TabOK Try.prog C13S := ⟨C13Sa_ok.f, C13Sa_ok.hp⟩
@[go_sem] theorem C13S_f : C13S.f = T13g.f := rfl
@[go_sem] theorem C13S_eff {g : FuncId} : C13S.eff g = (g == 37) := rfl
@[go_sem] theorem C13S_frz {g : FuncId} : C13S.frz g = false := rfl
@[go_sem] theorem C13S_fix {n : Nat} : C13S.fix n = false := rfl
@[go_sem] theorem C13S_ords {n : Nat} : C13S.ords n = [] := rfl
theorem C13S_sort {l : List Run} {n : Nat} (hn : n = (l.filter oneR).length) (h : l.length < 4611686018427387904) : C13S.hp 37 [.row 0 0 2 n false, .fn 38 []] [.row 2 ((l.filter oneR).map Run.enc)] = some (.tup [], [.row 2 ((srtL l).map Run.enc)], []) := by
  subst hn
  have hlen : (pickB l).length = (l.filter oneR).length := by rw [← pickB_val]; simp
  have h0 : C13Sa.hp 37 (srE (pickB l)) (srO (pickB l)) = entryH srE srO srK srR (srE (pickB l)) (srO (pickB l)) := Tab.addH_eq
  have h1 : C13S.hp 37 (srE (pickB l)) (srO (pickB l)) = entryH srE srO srK srR (srE (pickB l)) (srO (pickB l)) := h0
  have h2 := h1.trans (entryH_eq (fun i j _ h => srO_inj i j h) (pickB l) (show (pickB l).length < 4611686018427387904 by rw [hlen]; exact Nat.lt_of_le_of_lt (List.length_filter_le _ _) h))
  simp only [srE, srO, srR, hlen, pickB_cells, srtL_cells] at h2
  exact h2
def rowG (acc : List Run) : List A := acc.reverse.map Run.enc
theorem rowG_cons (q : Run) (qs : List Run) : rowG (q :: qs) = rowG qs ++ [.agg [.int .i64 q.f, .int .i64 q.t]] := by
  simp [rowG, Run.enc, Run.cells]
theorem rowG_len (l : List Run) : (rowG l).length = l.length := by simp [rowG]
theorem rowG_nil : rowG [] = [] := rfl
theorem fold_step (l : List Run) (k : Nat) (h : k < l.length) : (l.take (k + 1)).foldl pushJ [] = pushJ ((l.take k).foldl pushJ []) l[k] := by
  rw [← List.take_append_getElem h, List.foldl_append]; rfl
theorem fold_len : ∀ (l : List Run) (a : List Run), (l.foldl pushJ a).length ≤ a.length + l.length
  | [], a => by simp
  | r :: l, a => by
    have h1 := fold_len l (pushJ a r)
    have h2 := pushJ_len a r
    simp only [List.foldl_cons, List.length_cons]; omega
theorem ok_counts_Of : codeOK Try.prog C13S Try.f23.ntmps (Try.f23.body.getD .skip) = true := by kernel_rfl
theorem c_counts_Of (l : List Run) (hl : l.length ≤ 4398046511104) : CallA Try.prog 23 [.slc (l.map Run.enc)] (· = .slc ((setR (hasL13 l)).map Run.enc)) := by
  refine callA_of_body C13S_ok mixed Try.func23 rfl (Nat.le_of_ble_eq_true rfl) ok_counts_Of ?_
  unfold Try.f23
  cases hr : rightL l with
  | true =>
    have e := setR_eq hr (fun _ => rfl)
    simp -implicitDefEqProofs (disch := (first | omega | decide)) only [go_sem, ↓reduceIte, seval, hr, List.length_map]
    rw [← e]
  | false =>
    simp -implicitDefEqProofs (disch := (first | omega | decide)) only [go_sem, ↓reduceIte, seval, hr, List.length_map]
    refine wpA_loop_nil 3 2 rfl ?_
    refine wpA_loop [2, 14, 15] (ι := {k : Nat // k ≤ l.length}) (fun p => [(16, .int .i64 p.1), (3, .row 0 0 2 ((l.take p.1).filter oneR).length false)]) (fun p => [(0, .row 2 (((l.take p.1).filter oneR).map Run.enc))]) (fun p => l.length - p.1) ⟨0, by omega⟩ (Nat.zero_le _) ?_ ?_
    · simp -implicitDefEqProofs (disch := (first | omega | decide)) only [go_sem, ↓reduceIte, seval]
      simp
    · rintro ⟨k, hk⟩
      simp only
      have hf : ((l.take k).filter oneR).length ≤ k := Nat.le_trans (List.length_filter_le _ _) (by rw [List.length_take]; omega)
      by_cases hlt : k < l.length
      · have hlt' : (k : Int) < (l.length : Int) := by omega
        have ht : l.take (k + 1) = l.take k ++ [l[k]] := (List.take_append_getElem hlt).symm
        have e1 := run_get hlt
        generalize hx : l[k] = x at *
        obtain ⟨f, t⟩ := x
        cases h1 : oneR ⟨f, t⟩ with
        | true =>
          simp -implicitDefEqProofs (disch := (first | omega | decide)) only [go_sem, ↓reduceIte, seval, hlt', e1, h1, wrap_i64, List.length_map]
          refine ⟨⟨Nat.le_refl _, by omega⟩, ⟨k + 1, hlt⟩, ⟨⟨by simp, ?_⟩, ?_⟩, by show l.length - (k + 1) < l.length - k; omega⟩
          · rw [ht, List.filter_append]; simp [h1]
          · rw [ht, List.filter_append, List.take_of_length_le (by simp)]; simp [h1, Run.enc, Run.cells]
        | false =>
          simp -implicitDefEqProofs (disch := (first | omega | decide)) only [go_sem, ↓reduceIte, seval, hlt', e1, h1, wrap_i64, List.length_map]
          refine ⟨⟨k + 1, hlt⟩, ⟨⟨by simp, ?_⟩, ?_⟩, by show l.length - (k + 1) < l.length - k; omega⟩
          · rw [ht, List.filter_append]; simp [h1]
          · rw [ht, List.filter_append]; simp [h1]
      · have hlt' : ¬ (k : Int) < (l.length : Int) := by omega
        rw [List.take_of_length_le (by omega)] at *
        have hs := C13S_sort (l := l) rfl (by omega)
        have hp := (srtL_perm l).length_eq
        have hall := srtL_all l
        have hone := srtL_one l
        have hup := srtL_up l
        rw [← hp] at hf
        simp -implicitDefEqProofs (disch := (first | omega | decide)) only [go_sem, ↓reduceIte, seval, hlt', hs, List.length_map, List.contains_nil, List.contains_cons]
        rw [← hp]
        generalize srtL l = s at *
        refine wpA_loop_nil 6 2 rfl ?_
        refine wpA_loop [2, 29, 30] (ι := {j : Nat // j ≤ s.length}) (fun p => [(31, .int .i64 p.1), (6, .row 1 0 2 ((s.take p.1).foldl pushJ []).length false)]) (fun p => [(1, .row 2 (rowG ((s.take p.1).foldl pushJ [])))]) (fun p => s.length - p.1) ⟨0, by omega⟩ (Nat.zero_le _) ?_ ?_
        · simp -implicitDefEqProofs (disch := (first | omega | decide)) only [go_sem, ↓reduceIte, seval]
          simp [rowG]
        · rintro ⟨j, hj⟩
          simp only
          have hml := fold_len (s.take j) []
          rw [List.length_take, List.length_nil, Nat.min_eq_left hj, Nat.zero_add] at hml
          by_cases hltj : j < s.length
          · have hltj' : (j : Int) < (s.length : Int) := by omega
            have e2 := run_get hltj
            have hst := fold_step s j hltj
            have ho := hone _ (List.getElem_mem hltj)
            have hR : RR ((s.take j).foldl pushJ []) := (fold_push (a := []) trivial (fun r hr => hone r (List.mem_of_mem_take hr)) (hup.sublist (List.take_sublist _ _)) (fun _ _ => trivial)).1
            have fin : ∀ m', (s.take (j + 1)).foldl pushJ [] = m' → ∃ i : {j : Nat // j ≤ s.length}, (((j : Int) + 1 = (i.1 : Int) ∧ m'.length = ((s.take i.1).foldl pushJ []).length) ∧ rowG m' = rowG ((s.take i.1).foldl pushJ [])) ∧ s.length - i.1 < s.length - j := fun m' hm' => ⟨⟨j + 1, hltj⟩, ⟨⟨by simp, by rw [hm']⟩, by rw [hm']⟩, by show s.length - (j + 1) < s.length - j; omega⟩
            generalize hx : s[j] = x at *
            generalize (s.take j).foldl pushJ [] = m at *
            obtain ⟨f, t⟩ := x
            obtain ⟨o1, o2, o3⟩ := one_parts ho
            simp only at o1 o2 o3
            have fin' := fin _ hst
            cases m with
            | nil =>
              rw [rowG_nil]
              simp -implicitDefEqProofs (disch := (first | omega | decide)) only [go_sem, ↓reduceIte, seval, hltj', e2, wrap_i64, List.length_map]
              exact fin'
            | cons q qs =>
              obtain ⟨p1, p2, p3⟩ := one_parts (rr_one hR)
              rw [rowG_cons] at *
              have hlq : qs.length + 1 ≤ j := hml
              have c0 : (0 : Int) < ((qs.length + 1 : Nat) : Int) := by omega
              have c1 : (((qs.length + 1 : Nat) : Int) - 1).toNat = qs.length := by omega
              have c2 : (0 : Int) ≤ ((qs.length + 1 : Nat) : Int) - 1 := by omega
              have c3 : ((qs.length + 1 : Nat) : Int) - 1 < ((qs.length + 1 : Nat) : Int) := by omega
              have g1 : (rowG qs ++ [A.agg [.int .i64 q.f, .int .i64 q.t]])[qs.length]? = some (.agg [.int .i64 q.f, .int .i64 q.t]) := by
                have := get_last (x := A.agg [.int .i64 q.f, .int .i64 q.t]) (l := rowG qs)
                rwa [rowG_len] at this
              have g2 : ∀ v, setNth (rowG qs ++ [A.agg [.int .i64 q.f, .int .i64 q.t]]) qs.length v = rowG qs ++ [v] := fun v => by
                have := setNth_last (x := A.agg [.int .i64 q.f, .int .i64 q.t]) (v := v) (l := rowG qs)
                rwa [rowG_len] at this
              have gl : (rowG qs ++ [A.agg [.int .i64 q.f, .int .i64 q.t]]).length = qs.length + 1 := by rw [List.length_append, rowG_len]; rfl
              have gt : (rowG qs ++ [A.agg [.int .i64 q.f, .int .i64 q.t]]).take (qs.length + 1) = rowG qs ++ [A.agg [.int .i64 q.f, .int .i64 q.t]] := List.take_of_length_le (Nat.le_of_eq gl)
              by_cases hq : f - q.t < 2
              · have hpj : pushJ (q :: qs) ⟨f, t⟩ = ⟨q.f, if t > q.t then t else q.t⟩ :: qs := by
                  simp only [pushJ]
                  rw [if_pos (by omega)]
                rw [hpj, rowG_cons] at fin'
                simp -implicitDefEqProofs (disch := (first | omega | decide)) only [go_sem, ↓reduceIte, seval, hltj', e2, c0, c1, c2, c3, g1, g2, hq, wrap_i64, List.length_map]
                exact fin'
              · have hpj : pushJ (q :: qs) ⟨f, t⟩ = ⟨f, t⟩ :: q :: qs := by
                  simp only [pushJ]
                  rw [if_neg (by omega)]
                rw [hpj, rowG_cons, rowG_cons] at fin'
                simp -implicitDefEqProofs (disch := (first | omega | decide)) only [go_sem, ↓reduceIte, seval, hltj', e2, c0, c1, c2, c3, g1, g2, gl, gt, hq, wrap_i64, List.length_map]
                exact ⟨⟨Nat.le_refl _, by omega⟩, fin'⟩
          · have hltj' : ¬ (j : Int) < (s.length : Int) := by omega
            rw [List.take_of_length_le (by omega)] at *
            have hfin : rowG (s.foldl pushJ []) = (setR (hasL13 l)).map Run.enc := by unfold rowG; rw [hall]
            have hll : (s.foldl pushJ []).length = (rowG (s.foldl pushJ [])).length := by rw [rowG_len]
            simp -implicitDefEqProofs (disch := (first | omega | decide)) only [go_sem, ↓reduceIte, seval, hltj', wrap_i64, hll, List.length_map, List.take_length]
            rw [hfin]
            exact ⟨Nat.le_refl _, rfl⟩
end Go.Proofs.Yteconeampdidaaa
namespace Go.Proofs.Yteconeampdidaaa
open Go.Abs
set_option linter.unusedSimpArgs false
set_option linter.unusedVariables false
set_option linter.unusedSectionVars false
set_option maxRecDepth 20000
set_option maxHeartbeats 8000000
section
variable {D : List Run} {p e : Int}
end
section
variable {kp : Bool → Bool → Bool} {a b : List Run} (hra : rightL a = true) (hrb : rightL b = true)
include hra hrb
end
end Go.Proofs.Yteconeampdidaaa
namespace Go.Proofs.Yteconeampdidaaa
open Go.Abs
set_option linter.unusedSimpArgs false
set_option linter.unusedVariables false
set_option maxRecDepth 20000
set_option maxHeartbeats 8000000
noncomputable def T13m : Tab := T13e
theorem T13m_ok : TabOK Try.prog T13m := T13e_ok
@[go_sem] theorem T13m_old {g : FuncId} {xs : List A} : T13m.f g xs = T13e.f g xs := rfl
noncomputable def C13L0 : Tab := T13m.add 34 (entry (fun (l : List Run) => [.slc (l.map Run.enc)]) (fun l => l.length ≤ 4398046511104) (fun l => .bool (rightL l)))
theorem C13L0_ok : TabOK Try.prog C13L0 := T13m_ok.ent Try.func34 (by kernel_rfl) (by kernel_rfl) fun l h => c_counts_Right l (by omega)
@[go_sem] theorem C13L0_old {g : FuncId} {xs : List A} (h : g ≠ 34) : C13L0.f g xs = T13m.f g xs := Tab.add_ne h
noncomputable def C13L1 : Tab := C13L0
theorem C13L1_ok : TabOK Try.prog C13L1 := C13L0_ok
@[go_sem] theorem C13L1_old {g : FuncId} {xs : List A} : C13L1.f g xs = C13L0.f g xs := rfl
noncomputable def C13L2 : Tab := C13L1
theorem C13L2_ok : TabOK Try.prog C13L2 := C13L1_ok
@[go_sem] theorem C13L2_old {g : FuncId} {xs : List A} : C13L2.f g xs = C13L1.f g xs := rfl
noncomputable def C13L3 : Tab := C13L2
theorem C13L3_ok : TabOK Try.prog C13L3 := C13L2_ok
@[go_sem] theorem C13L3_old {g : FuncId} {xs : List A} : C13L3.f g xs = C13L2.f g xs := rfl
noncomputable def C13L4 : Tab := C13L3.add 23 (entry (fun (l : List Run) => [.slc (l.map Run.enc)]) (fun l => l.length ≤ 4398046511104) (fun l => .slc ((setR (hasL13 l)).map Run.enc)))
theorem C13L4_ok : TabOK Try.prog C13L4 := C13L3_ok.ent Try.func23 (by kernel_rfl) (by kernel_rfl) fun l h => c_counts_Of l h
@[go_sem] theorem C13L4_old {g : FuncId} {xs : List A} (h : g ≠ 23) : C13L4.f g xs = C13L3.f g xs := Tab.add_ne h
theorem C13L4_counts_Of (l : List Run) (h : l.length ≤ 4398046511104) : C13L4.f 23 [.slc (l.map Run.enc)] = some (.slc ((setR (hasL13 l)).map Run.enc)) := Tab.ent_eq (Γ := C13L3) (fun i j h => by simpa [Prod.ext_iff, and_assoc] using h) l h
noncomputable def C13L5 : Tab := C13L4
theorem C13L5_ok : TabOK Try.prog C13L5 := C13L4_ok
@[go_sem] theorem C13L5_old {g : FuncId} {xs : List A} : C13L5.f g xs = C13L4.f g xs := rfl
noncomputable def C13L6 : Tab := C13L5
theorem C13L6_ok : TabOK Try.prog C13L6 := C13L5_ok
@[go_sem] theorem C13L6_old {g : FuncId} {xs : List A} : C13L6.f g xs = C13L5.f g xs := rfl
noncomputable def C13L7 : Tab := C13L6
theorem C13L7_ok : TabOK Try.prog C13L7 := C13L6_ok
@[go_sem] theorem C13L7_old {g : FuncId} {xs : List A} : C13L7.f g xs = C13L6.f g xs := rfl
noncomputable def C13L8 : Tab := C13L7
theorem C13L8_ok : TabOK Try.prog C13L8 := C13L7_ok
@[go_sem] theorem C13L8_old {g : FuncId} {xs : List A} : C13L8.f g xs = C13L7.f g xs := rfl
noncomputable def C13L9 : Tab := C13L8
theorem C13L9_ok : TabOK Try.prog C13L9 := C13L8_ok
@[go_sem] theorem C13L9_old {g : FuncId} {xs : List A} : C13L9.f g xs = C13L8.f g xs := rfl
noncomputable def C13L10 : Tab := C13L9
theorem C13L10_ok : TabOK Try.prog C13L10 := C13L9_ok
@[go_sem] theorem C13L10_old {g : FuncId} {xs : List A} : C13L10.f g xs = C13L9.f g xs := rfl
noncomputable def C13L11 : Tab := C13L10
theorem C13L11_ok : TabOK Try.prog C13L11 := C13L10_ok
@[go_sem] theorem C13L11_old {g : FuncId} {xs : List A} : C13L11.f g xs = C13L10.f g xs := rfl
noncomputable def C13L12 : Tab := C13L11
theorem C13L12_ok : TabOK Try.prog C13L12 := C13L11_ok
@[go_sem] theorem C13L12_old {g : FuncId} {xs : List A} : C13L12.f g xs = C13L11.f g xs := rfl
theorem fits_run {x : List A} (h : fitsL [.int .i64, .int .i64] x) : ∃ f t : Int, x = [.int .i64 f, .int .i64 t] := by
  simp only [fitsL, fits] at h
  obtain ⟨y, zs, rfl, ⟨n, rfl, _⟩, y2, zs2, rfl, ⟨m, rfl, _⟩, rfl⟩ := h
  exact ⟨n, m, rfl⟩
theorem fits_runs {x : A} (h : fits (.rows [.int .i64, .int .i64]) x) : ∃ l : List Run, x = .slc (l.map Run.enc) ∧ l.length ≤ maxLen := by
  simp only [fits] at h
  obtain ⟨es, rfl, hl, he⟩ := h
  obtain ⟨l, rfl, _⟩ := list_of (f := Run.enc) (P := fun _ => True) (es := es) (fun e hx => by
    obtain ⟨ys, rfl, hy⟩ := he e hx
    obtain ⟨r, c, rfl⟩ := fits_run (by simpa only [fitsL, fits] using hy)
    exact ⟨⟨r, c⟩, rfl, trivial⟩)
  exact ⟨l, rfl, by simpa using hl⟩
set_option maxHeartbeats 4000000
def T12z : Tab := tab0
theorem T12z_ok : TabOK Try.prog T12z := tab0_ok _
@[go_sem] theorem T12z_eq : T12z = tab0 := rfl
structure Ver where
  r : Int
  c : Int
  deriving DecidableEq, Inhabited
def Ver.cells (v : Ver) : List A := [.int .i64 v.r, .int .i64 v.c]
def Ver.enc (v : Ver) : A := .agg v.cells
@[go_sem] theorem Ver.enc_eq {a b : Int} : Ver.enc ⟨a, b⟩ = .agg [.int .i64 a, .int .i64 b] := rfl
theorem Ver.enc_inj (v w : Ver) (h : v.enc = w.enc) : v = w := by
  cases v; cases w; simpa [Ver.enc, Ver.cells] using h
@[simp] theorem map_ver_inj {l m : List Ver} : (l.map Ver.enc = m.map Ver.enc) = (l = m) := map_inj Ver.enc_inj
def rightV (v : Ver) : Bool := decide (1 ≤ v.r) && decide (v.r ≤ 16) && decide (1 ≤ v.c) && decide (v.c ≤ 1099511627776)
def ltV (a b : Ver) : Bool := decide (a.r < b.r) || (a.r == b.r) && decide (a.c < b.c)
theorem ok_version_Right : codeOK Try.prog T12z Try.f27.ntmps (Try.f27.body.getD .skip) = true := by kernel_rfl
theorem c_version_Right (r c : Int) : CallA Try.prog 27 [.agg [.int .i64 r, .int .i64 c]] (· = .bool (rightV ⟨r, c⟩)) := by
  refine callA_of_body T12z_ok mixed Try.func27 rfl (Nat.le_of_ble_eq_true rfl) ok_version_Right ?_
  unfold Try.f27
  by_cases h1 : 1 ≤ r
  · by_cases h2 : r ≤ 16
    · by_cases h3 : 1 ≤ c
      · simp -implicitDefEqProofs (disch := (first | omega | decide)) only [go_sem, ↓reduceIte, seval, h1, h2, h3, rightV]
      · simp -implicitDefEqProofs (disch := (first | omega | decide)) only [go_sem, ↓reduceIte, seval, h1, h2, h3, rightV]
    · simp -implicitDefEqProofs (disch := (first | omega | decide)) only [go_sem, ↓reduceIte, seval, h1, h2, rightV]
  · simp -implicitDefEqProofs (disch := (first | omega | decide)) only [go_sem, ↓reduceIte, seval, h1, rightV]
theorem ok_ref12_Right : codeOK Try.prog T12z Try.f32.ntmps (Try.f32.body.getD .skip) = true := by kernel_rfl
theorem c_ref12_Right (r c : Int) : CallA Try.prog 32 [.agg [.int .i64 r, .int .i64 c]] (· = .bool (rightV ⟨r, c⟩)) := by
  refine callA_of_body T12z_ok mixed Try.func32 rfl (Nat.le_of_ble_eq_true rfl) ok_ref12_Right ?_
  unfold Try.f32
  by_cases h1 : 1 ≤ r
  · by_cases h2 : r ≤ 16
    · by_cases h3 : 1 ≤ c
      · simp -implicitDefEqProofs (disch := (first | omega | decide)) only [go_sem, ↓reduceIte, seval, h1, h2, h3, rightV]
      · simp -implicitDefEqProofs (disch := (first | omega | decide)) only [go_sem, ↓reduceIte, seval, h1, h2, h3, rightV]
    · simp -implicitDefEqProofs (disch := (first | omega | decide)) only [go_sem, ↓reduceIte, seval, h1, h2, rightV]
  · simp -implicitDefEqProofs (disch := (first | omega | decide)) only [go_sem, ↓reduceIte, seval, h1, rightV]
theorem ok_ref12_Less : codeOK Try.prog T12z Try.f25.ntmps (Try.f25.body.getD .skip) = true := by kernel_rfl
theorem c_ref12_Less (a b : Ver) : CallA Try.prog 25 [.agg [.int .i64 a.r, .int .i64 a.c], .agg [.int .i64 b.r, .int .i64 b.c]] (· = .bool (ltV a b)) := by
  refine callA_of_body T12z_ok mixed Try.func25 rfl (Nat.le_of_ble_eq_true rfl) ok_ref12_Less ?_
  unfold Try.f25
  obtain ⟨r, c⟩ := a
  obtain ⟨r', c'⟩ := b
  by_cases h4 : r < r'
  · simp -implicitDefEqProofs (disch := (first | omega | decide)) only [go_sem, ↓reduceIte, seval, h4, ltV]
  · cases h3 : r == r' <;> simp -implicitDefEqProofs (disch := (first | omega | decide)) only [go_sem, ↓reduceIte, seval, h3, h4, ltV]
end Go.Proofs.Yteconeampdidaaa
namespace Go.Proofs.Yteconeampdidaaa
open Go.Abs
set_option linter.unusedSimpArgs false
set_option linter.unusedVariables false
set_option maxRecDepth 20000
set_option maxHeartbeats 8000000
@[go_sem] theorem Known.enc_eq {n : Int} {rs : List Run} : Known.enc ⟨n, rs⟩ = .agg [.int .i64 n, .slc (rs.map Run.enc)] := rfl
theorem Known.enc_inj (v w : Known) (h : v.enc = w.enc) : v = w := by
  cases v; cases w; simpa [Known.enc, Known.cells] using h
@[simp] theorem map_known_inj {l m : List Known} : (l.map Known.enc = m.map Known.enc) = (l = m) := map_inj Known.enc_inj
theorem known_get {l : List Known} {k : Nat} (h : k < l.length) : (l.map Known.enc)[k]? = some (.agg [.int .i64 l[k].n, .slc (l[k].rs.map Run.enc)]) := by
  rw [List.getElem?_map, List.getElem?_eq_getElem h]; rfl
noncomputable def K14a : Tab := C13L12
theorem K14a_ok : TabOK Try.prog K14a := C13L12_ok
@[go_sem] theorem K14a_old {g : FuncId} {xs : List A} : K14a.f g xs = C13L12.f g xs := rfl
noncomputable def K14b : Tab := K14a.add 27 (entry (fun (v : Int × Int) => [.agg [.int .i64 v.1, .int .i64 v.2]]) (fun v => True) (fun v => .bool (rightV ⟨v.1, v.2⟩)))
theorem K14b_ok : TabOK Try.prog K14b := K14a_ok.ent Try.func27 (by kernel_rfl) (by kernel_rfl) fun v h => c_version_Right v.1 v.2
@[go_sem] theorem K14b_old {g : FuncId} {xs : List A} (h : g ≠ 27) : K14b.f g xs = K14a.f g xs := Tab.add_ne h
theorem K14b_version_Right (v : Int × Int) (h : True) : K14b.f 27 [.agg [.int .i64 v.1, .int .i64 v.2]] = some (.bool (rightV ⟨v.1, v.2⟩)) := Tab.ent_eq (Γ := K14a) (fun i j h => by simpa [Prod.ext_iff, and_assoc] using h) v h
noncomputable def K14c : Tab := K14b.add 32 (entry (fun (v : Int × Int) => [.agg [.int .i64 v.1, .int .i64 v.2]]) (fun v => True) (fun v => .bool (rightV ⟨v.1, v.2⟩)))
theorem K14c_ok : TabOK Try.prog K14c := K14b_ok.ent Try.func32 (by kernel_rfl) (by kernel_rfl) fun v h => c_ref12_Right v.1 v.2
@[go_sem] theorem K14c_old {g : FuncId} {xs : List A} (h : g ≠ 32) : K14c.f g xs = K14b.f g xs := Tab.add_ne h
@[go_sem] theorem K14c_s : K14c.pl K14b := ⟨fun _ => rfl, fun _ => rfl, rfl, fun _ => rfl, rfl, fun _ => rfl, rfl⟩
theorem K14c_ref12_Right (v : Int × Int) (h : True) : K14c.f 32 [.agg [.int .i64 v.1, .int .i64 v.2]] = some (.bool (rightV ⟨v.1, v.2⟩)) := Tab.ent_eq (Γ := K14b) (fun i j h => by simpa [Prod.ext_iff, and_assoc] using h) v h
@[go_sem] theorem k_version_Right {r c : Int} : K14b.f 27 [.agg [.int .i64 r, .int .i64 c]] = some (.bool (rightV ⟨r, c⟩)) := K14b_version_Right (r, c) trivial
@[go_sem] theorem k_ref12_Right {r c : Int} : K14c.f 32 [.agg [.int .i64 r, .int .i64 c]] = some (.bool (rightV ⟨r, c⟩)) := K14c_ref12_Right (r, c) trivial
def sumK (s : List Known) : Nat := (s.map fun k => k.rs.length).sum
def smallK (s : List Known) : Prop := s.length ≤ 1000000 ∧ sumK s ≤ 1000000
theorem runsK_len (s : List Known) (n : Int) : (runsK s n).length ≤ sumK s := by
  induction s with
  | nil => simp [runsK, sumK]
  | cons q s ih =>
    simp only [runsK, sumK, List.map_cons, List.sum_cons] at ih ⊢
    split
    · rw [List.length_append]; omega
    · omega
theorem sumK_append (s t : List Known) : sumK (s ++ t) = sumK s + sumK t := by simp [sumK]
theorem sumK_take {s : List Known} {k : Nat} (h : k < s.length) : sumK (s.take k) + s[k].rs.length ≤ sumK s := by
  have e : s = s.take k ++ s[k] :: s.drop (k + 1) := by
    rw [← List.drop_eq_getElem_cons h, List.take_append_drop]
  have h2 : sumK s = sumK (s.take k) + sumK (s[k] :: s.drop (k + 1)) := by
    rw [← sumK_append, ← e]
  have h3 : sumK (s[k] :: s.drop (k + 1)) = s[k].rs.length + sumK (s.drop (k + 1)) := by unfold sumK; rw [List.map_cons, List.sum_cons]
  omega
end Go.Proofs.Yteconeampdidaaa
namespace Go.Proofs.Yteconeampdidaaa
open Go.Abs
set_option linter.unusedSimpArgs false
set_option linter.unusedVariables false
set_option maxRecDepth 20000
set_option maxHeartbeats 8000000
theorem right_ver {n c : Int} : rightV ⟨n, c⟩ = (repOK n && (decide (1 ≤ c) && decide (c ≤ 1099511627776))) := by simp [rightV, repOK, Bool.and_assoc]
theorem has_ver {s : List Known} {n c : Int} : (rightV ⟨n, c⟩ && hasL13 (runsK s n) c) = hasK s n c := by
  rw [right_ver]; unfold hasK
  cases h : hasL13 (runsK s n) c with
  | false => simp
  | true => have := has_range h; simp [this]
theorem stRuns (l : List Run) : ((l.map Run.enc).isEmpty || strideOf (l.map Run.enc) == 2) = true := by cases l <;> rfl
theorem runsK_snoc {s : List Known} {k : Nat} (h : k < s.length) (n : Int) : runsK (s.take (k + 1)) n = runsK (s.take k) n ++ (if s[k].n = n then s[k].rs else []) := by
  rw [← List.take_append_getElem h, runsK_append]
  simp only [runsK, List.append_nil]
theorem ok_ref14_Runs : codeOK Try.prog K14c Try.f40.ntmps (Try.f40.body.getD .skip) = true := by kernel_rfl
theorem c_ref14_Runs (s : List Known) (n : Int) (hs : smallK s) : CallA Try.prog 40 [.slc (s.map Known.enc), .int .i64 n] (· = .slc ((runsK s n).map Run.enc)) := by
  refine callA_of_body K14c_ok mixed Try.func40 rfl (Nat.le_of_ble_eq_true rfl) ok_ref14_Runs ?_
  unfold Try.f40
  obtain ⟨hs1, hs2⟩ := hs
  simp -implicitDefEqProofs (disch := (first | omega | decide)) only [go_sem, ↓reduceIte, seval, List.length_map]
  refine wpA_loop_nil 5 2 rfl ?_
  refine wpA_loop [0, 1] (ι := {k : Nat // k ≤ s.length}) (fun p => [(6, .int .i64 p.1), (5, .row 0 0 2 (runsK (s.take p.1) n).length false)]) (fun p => [(0, .row 2 ((runsK (s.take p.1) n).map Run.enc))]) (fun p => s.length - p.1) ⟨0, by omega⟩ (Nat.zero_le _) ?_ ?_
  · simp -implicitDefEqProofs (disch := (first | omega | decide)) only [go_sem, ↓reduceIte, seval]
    simp [runsK]
  · rintro ⟨k, hk⟩
    simp only
    have hl1 := runsK_len (s.take k) n
    by_cases hlt : k < s.length
    · have hlt' : (k : Int) < (s.length : Int) := by omega
      have e1 := known_get hlt
      have hm := sumK_take hlt
      have hsn := runsK_snoc hlt n
      generalize hx : s[k] = x at *
      obtain ⟨m, rs⟩ := x
      simp only at hm hsn
      have st := stRuns rs
      cases h2 : m == n with
      | false =>
        have : m ≠ n := by simpa using h2
        rw [if_neg this, List.append_nil] at hsn
        simp -implicitDefEqProofs (disch := (first | omega | decide)) only [go_sem, ↓reduceIte, seval, hlt', e1, h2, wrap_i64, List.length_map]
        exact ⟨⟨k + 1, hlt⟩, ⟨⟨by simp, by rw [hsn]⟩, by rw [hsn]⟩, by show s.length - (k + 1) < s.length - k; omega⟩
      | true =>
        have : m = n := by simpa using h2
        rw [if_pos this] at hsn
        simp -implicitDefEqProofs (disch := (first | omega | decide)) only [go_sem, ↓reduceIte, seval, hlt', e1, h2, st, wrap_i64, List.length_map]
        exact ⟨⟨Nat.le_refl _, by omega⟩, ⟨k + 1, hlt⟩, ⟨⟨by simp, by rw [hsn, List.length_append]⟩, by rw [hsn, List.map_append, List.take_of_length_le (by simp)]⟩, by show s.length - (k + 1) < s.length - k; omega⟩
    · have hlt' : ¬ (k : Int) < (s.length : Int) := by omega
      rw [List.take_of_length_le (by omega)] at *
      simp -implicitDefEqProofs (disch := (first | omega | decide)) only [go_sem, ↓reduceIte, seval, hlt', List.length_map]
      exact ⟨Nat.le_refl _, by rw [List.take_of_length_le (by simp)]⟩
noncomputable def K14d : Tab := K14c
theorem K14d_ok : TabOK Try.prog K14d := K14c_ok
@[go_sem] theorem K14d_old {g : FuncId} {xs : List A} : K14d.f g xs = K14c.f g xs := rfl
noncomputable def K14e : Tab := K14d
theorem K14e_ok : TabOK Try.prog K14e := K14d_ok
@[go_sem] theorem K14e_old {g : FuncId} {xs : List A} : K14e.f g xs = K14d.f g xs := rfl
noncomputable def K14f : Tab := K14e
theorem K14f_ok : TabOK Try.prog K14f := K14e_ok
@[go_sem] theorem K14f_old {g : FuncId} {xs : List A} : K14f.f g xs = K14e.f g xs := rfl
noncomputable def K14g : Tab := K14f.add 40 (entry (fun (v : List Known × Int) => [.slc (v.1.map Known.enc), .int .i64 v.2]) (fun v => smallK v.1) (fun v => .slc ((runsK v.1 v.2).map Run.enc)))
theorem K14g_ok : TabOK Try.prog K14g := K14f_ok.ent Try.func40 (by kernel_rfl) (by kernel_rfl) fun v h => c_ref14_Runs v.1 v.2 h
@[go_sem] theorem K14g_old {g : FuncId} {xs : List A} (h : g ≠ 40) : K14g.f g xs = K14f.f g xs := Tab.add_ne h
@[go_sem] theorem K14g_s : K14g.pl K14f := ⟨fun _ => rfl, fun _ => rfl, rfl, fun _ => rfl, rfl, fun _ => rfl, rfl⟩
theorem K14g_ref14_Runs (v : List Known × Int) (h : smallK v.1) : K14g.f 40 [.slc (v.1.map Known.enc), .int .i64 v.2] = some (.slc ((runsK v.1 v.2).map Run.enc)) := Tab.ent_eq (Γ := K14f) (fun i j h => by simpa [Prod.ext_iff, and_assoc] using h) v h
@[go_sem] theorem k_ref14_Runs {s : List Known} {n : Int} (h : smallK s) : K14g.f 40 [.slc (s.map Known.enc), .int .i64 n] = some (.slc ((runsK s n).map Run.enc)) := K14g_ref14_Runs (s, n) h
theorem ok_ref14_Has : codeOK Try.prog K14g Try.f24.ntmps (Try.f24.body.getD .skip) = true := by kernel_rfl
theorem c_ref14_Has (s : List Known) (n c : Int) (hs : smallK s) : CallA Try.prog 24 [.slc (s.map Known.enc), .agg [.int .i64 n, .int .i64 c]] (· = .bool (hasK s n c)) := by
  refine callA_of_body K14g_ok mixed Try.func24 rfl (Nat.le_of_ble_eq_true rfl) ok_ref14_Has ?_
  unfold Try.f24
  have hl := runsK_len s n
  have hs' := hs.2
  have hv := has_ver (s := s) (n := n) (c := c)
  have hr := k_ref14_Runs (n := n) hs
  cases h1 : rightV ⟨n, c⟩ with
  | false =>
    rw [h1, Bool.false_and] at hv
    simp -implicitDefEqProofs (disch := (first | omega | decide)) only [go_sem, ↓reduceIte, seval, h1, hr, ← hv, List.length_map]
  | true =>
    rw [h1, Bool.true_and] at hv
    simp -implicitDefEqProofs (disch := (first | omega | decide)) only [go_sem, ↓reduceIte, seval, h1, hr, ← hv, List.length_map]
noncomputable def K14h : Tab := K14g.add 24 (entry (fun (v : List Known × Int × Int) => [.slc (v.1.map Known.enc), .agg [.int .i64 v.2.1, .int .i64 v.2.2]]) (fun v => smallK v.1) (fun v => .bool (hasK v.1 v.2.1 v.2.2)))
theorem K14h_ok : TabOK Try.prog K14h := K14g_ok.ent Try.func24 (by kernel_rfl) (by kernel_rfl) fun v h => c_ref14_Has v.1 v.2.1 v.2.2 h
@[go_sem] theorem K14h_old {g : FuncId} {xs : List A} (h : g ≠ 24) : K14h.f g xs = K14g.f g xs := Tab.add_ne h
theorem K14h_ref14_Has (v : List Known × Int × Int) (h : smallK v.1) : K14h.f 24 [.slc (v.1.map Known.enc), .agg [.int .i64 v.2.1, .int .i64 v.2.2]] = some (.bool (hasK v.1 v.2.1 v.2.2)) := Tab.ent_eq (Γ := K14g) (fun i j h => by simpa [Prod.ext_iff, and_assoc] using h) v h
end Go.Proofs.Yteconeampdidaaa
namespace Go.Proofs.Yteconeampdidaaa
open Go.Abs
set_option linter.unusedSimpArgs false
set_option linter.unusedVariables false
set_option maxRecDepth 20000
set_option maxHeartbeats 8000000
noncomputable def K14i : Tab := K14h
theorem K14i_ok : TabOK Try.prog K14i := K14h_ok
@[go_sem] theorem K14i_old {g : FuncId} {xs : List A} : K14i.f g xs = K14h.f g xs := rfl
noncomputable def K14j : Tab := K14i
theorem K14j_ok : TabOK Try.prog K14j := K14i_ok
@[go_sem] theorem K14j_old {g : FuncId} {xs : List A} : K14j.f g xs = K14i.f g xs := rfl
@[go_sem] theorem K14j_s : K14j.pl K14i := ⟨fun _ => rfl, fun _ => rfl, rfl, fun _ => rfl, rfl, fun _ => rfl, rfl⟩
def longK (s : List Known) (m : Int) : Bool := decide (m < (s.length : Int)) || s.any fun k => decide (m < (k.rs.length : Int))
theorem ok_ref14_Long : codeOK Try.prog K14j Try.f7.ntmps (Try.f7.body.getD .skip) = true := by kernel_rfl
theorem c_ref14_Long (s : List Known) (m : Int) (hs : s.length ≤ 9223372036854775807) : CallA Try.prog 7 [.slc (s.map Known.enc), .int .i64 m] (· = .bool (longK s m)) := by
  refine callA_of_body K14j_ok mixed Try.func7 rfl (Nat.le_of_ble_eq_true rfl) ok_ref14_Long ?_
  unfold Try.f7
  by_cases h0 : m < (s.length : Int)
  · have hh : longK s m = true := by unfold longK; rw [decide_eq_true h0]; rfl
    simp -implicitDefEqProofs (disch := (first | omega | decide)) only [go_sem, ↓reduceIte, seval, h0, hh, List.length_map]
  · simp -implicitDefEqProofs (disch := (first | omega | decide)) only [go_sem, ↓reduceIte, seval, h0, List.length_map]
    refine wpA_loop [0, 1] (ι := {k : Nat // k ≤ s.length ∧ longK s m = (s.drop k).any fun k => decide (m < (k.rs.length : Int))}) (fun p => [(5, .int .i64 p.1)]) (fun _ => []) (fun p => s.length - p.1) ⟨0, by omega, by unfold longK; rw [decide_eq_false h0, Bool.false_or]; rfl⟩ (Nat.zero_le _) ?_ ?_
    · simp -implicitDefEqProofs (disch := (first | omega | decide)) only [go_sem, ↓reduceIte, seval]
    · rintro ⟨k, hk, hd⟩
      simp only at hk hd ⊢
      by_cases hlt : k < s.length
      · have hlt' : (k : Int) < (s.length : Int) := by omega
        have e1 := known_get hlt
        rw [List.drop_eq_getElem_cons hlt, List.any_cons] at hd
        generalize hx : s[k] = x at *
        obtain ⟨n, rs⟩ := x
        simp only at hd
        by_cases h1 : m < (rs.length : Int)
        · have hh : longK s m = true := by rw [hd, decide_eq_true h1]; rfl
          simp -implicitDefEqProofs (disch := (first | omega | decide)) only [go_sem, ↓reduceIte, seval, hlt', e1, h1, hh, List.length_map]
        · rw [decide_eq_false h1, Bool.false_or] at hd
          simp -implicitDefEqProofs (disch := (first | omega | decide)) only [go_sem, ↓reduceIte, seval, hlt', e1, h1, wrap_i64, List.length_map]
          exact ⟨⟨k + 1, hlt, hd⟩, by simp, by show s.length - (k + 1) < s.length - k; omega⟩
      · have hlt' : ¬ (k : Int) < (s.length : Int) := by omega
        have hh : longK s m = false := by rw [hd, List.drop_of_length_le (by omega)]; rfl
        simp -implicitDefEqProofs (disch := (first | omega | decide)) only [go_sem, ↓reduceIte, seval, hlt', hh, List.length_map]
noncomputable def K14k : Tab := K14j
theorem K14k_ok : TabOK Try.prog K14k := K14j_ok
@[go_sem] theorem K14k_old {g : FuncId} {xs : List A} : K14k.f g xs = K14j.f g xs := rfl
noncomputable def K14l : Tab := K14k
theorem K14l_ok : TabOK Try.prog K14l := K14k_ok
@[go_sem] theorem K14l_old {g : FuncId} {xs : List A} : K14l.f g xs = K14k.f g xs := rfl
noncomputable def K14m : Tab := K14l.add 7 (entry (fun (v : List Known × Int) => [.slc (v.1.map Known.enc), .int .i64 v.2]) (fun v => v.1.length ≤ 9223372036854775807) (fun v => .bool (longK v.1 v.2)))
theorem K14m_ok : TabOK Try.prog K14m := K14l_ok.ent Try.func7 (by kernel_rfl) (by kernel_rfl) fun v h => c_ref14_Long v.1 v.2 h
@[go_sem] theorem K14m_old {g : FuncId} {xs : List A} (h : g ≠ 7) : K14m.f g xs = K14l.f g xs := Tab.add_ne h
theorem K14m_ref14_Long (v : List Known × Int) (h : v.1.length ≤ 9223372036854775807) : K14m.f 7 [.slc (v.1.map Known.enc), .int .i64 v.2] = some (.bool (longK v.1 v.2)) := Tab.ent_eq (Γ := K14l) (fun i j h => by simpa [Prod.ext_iff, and_assoc] using h) v h
noncomputable def K14n : Tab := K14m
theorem K14n_ok : TabOK Try.prog K14n := K14m_ok
@[go_sem] theorem K14n_old {g : FuncId} {xs : List A} : K14n.f g xs = K14m.f g xs := rfl
end Go.Proofs.Yteconeampdidaaa
namespace Go.Proofs.Yteconeampdidaaa
open Go.Abs
set_option linter.unusedSimpArgs false
set_option linter.unusedVariables false
set_option maxRecDepth 20000
def T0 : Tab := tab0
theorem T0_ok : TabOK Try.prog T0 := tab0_ok _
@[go_sem] theorem T0_eq : T0 = tab0 := rfl
theorem ok_key_Right : codeOK Try.prog T0 Try.f28.ntmps (Try.f28.body.getD .skip) = true := by kernel_rfl
theorem c_key_Right (s : List UInt8) (hs : s.length ≤ 9223372036854775807) : CallA Try.prog 28 [.str s] (· = .bool (decide (1 ≤ s.length ∧ s.length ≤ 16))) := by
  refine callA_of_body T0_ok mixed Try.func28 rfl (Nat.le_of_ble_eq_true rfl) ok_key_Right ?_
  unfold Try.f28
  by_cases h : (1 : Int) ≤ s.length
  · simp -implicitDefEqProofs (disch := (first | omega | decide)) only [go_sem, ↓reduceIte, seval, h]
    apply decide_eq_decide.2
    omega
  · simp -implicitDefEqProofs (disch := (first | omega | decide)) only [go_sem, ↓reduceIte, seval, h]
    symm
    apply decide_eq_false
    omega
set_option maxHeartbeats 4000000
theorem ok_ref06_Right : codeOK Try.prog T0 Try.f33.ntmps (Try.f33.body.getD .skip) = true := by kernel_rfl
theorem c_ref06_Right (s : List UInt8) (hs : s.length ≤ 9223372036854775807) : CallA Try.prog 33 [.str s] (· = .bool (decide (1 ≤ s.length ∧ s.length ≤ 16))) := by
  refine callA_of_body T0_ok mixed Try.func33 rfl (Nat.le_of_ble_eq_true rfl) ok_ref06_Right ?_
  unfold Try.f33
  by_cases h : (1 : Int) ≤ s.length
  · simp -implicitDefEqProofs (disch := (first | omega | decide)) only [go_sem, ↓reduceIte, seval, h]
    apply decide_eq_decide.2
    omega
  · simp -implicitDefEqProofs (disch := (first | omega | decide)) only [go_sem, ↓reduceIte, seval, h]
    symm
    apply decide_eq_false
    omega
set_option maxHeartbeats 8000000
theorem En.enc_inj (r s : En) (h : r.enc = s.enc) : r = s := by
  obtain ⟨a, b⟩ := r; obtain ⟨a', b'⟩ := s
  simpa [En.enc] using h
@[simp] theorem map_en_inj {l m : List En} : (l.map En.enc = m.map En.enc) = (l = m) := map_inj En.enc_inj
theorem en_get {l : List En} {k : Nat} (h : k < l.length) : (l.map En.enc)[k]? = some (.agg [.int .i64 l[k].c, .str l[k].k]) := by
  rw [List.getElem?_map, List.getElem?_eq_getElem h]; rfl
noncomputable def X22a : Tab := K14n.add 28 (entry (fun (s : List UInt8) => [.str s]) (fun s => s.length ≤ 9223372036854775807) (fun s => .bool (decide (1 ≤ s.length ∧ s.length ≤ 16))))
theorem X22a_ok : TabOK Try.prog X22a := K14n_ok.ent Try.func28 (by kernel_rfl) (by kernel_rfl) fun s h => c_key_Right s h
@[go_sem] theorem X22a_old {g : FuncId} {xs : List A} (h : g ≠ 28) : X22a.f g xs = K14n.f g xs := Tab.add_ne h
theorem X22a_key_Right (s : List UInt8) (h : s.length ≤ 9223372036854775807) : X22a.f 28 [.str s] = some (.bool (decide (1 ≤ s.length ∧ s.length ≤ 16))) := Tab.ent_eq (Γ := K14n) (fun i j h => by simpa [Prod.ext_iff, and_assoc] using h) s h
noncomputable def X22b : Tab := X22a.add 33 (entry (fun (s : List UInt8) => [.str s]) (fun s => s.length ≤ 9223372036854775807) (fun s => .bool (decide (1 ≤ s.length ∧ s.length ≤ 16))))
theorem X22b_ok : TabOK Try.prog X22b := X22a_ok.ent Try.func33 (by kernel_rfl) (by kernel_rfl) fun s h => c_ref06_Right s h
@[go_sem] theorem X22b_old {g : FuncId} {xs : List A} (h : g ≠ 33) : X22b.f g xs = X22a.f g xs := Tab.add_ne h
theorem X22b_ref06_Right (s : List UInt8) (h : s.length ≤ 9223372036854775807) : X22b.f 33 [.str s] = some (.bool (decide (1 ≤ s.length ∧ s.length ≤ 16))) := Tab.ent_eq (Γ := X22a) (fun i j h => by simpa [Prod.ext_iff, and_assoc] using h) s h
noncomputable def X22c : Tab := X22b.add 25 (entry (fun (v : (Int × Int) × (Int × Int)) => [.agg [.int .i64 v.1.1, .int .i64 v.1.2], .agg [.int .i64 v.2.1, .int .i64 v.2.2]]) (fun v => True) (fun v => .bool (ltV ⟨v.1.1, v.1.2⟩ ⟨v.2.1, v.2.2⟩)))
theorem X22c_ok : TabOK Try.prog X22c := X22b_ok.ent Try.func25 (by kernel_rfl) (by kernel_rfl) fun v h => c_ref12_Less ⟨v.1.1, v.1.2⟩ ⟨v.2.1, v.2.2⟩
@[go_sem] theorem X22c_old {g : FuncId} {xs : List A} (h : g ≠ 25) : X22c.f g xs = X22b.f g xs := Tab.add_ne h
@[go_sem] theorem X22c_s : X22c.pl X22b := ⟨fun _ => rfl, fun _ => rfl, rfl, fun _ => rfl, rfl, fun _ => rfl, rfl⟩
theorem X22c_ref12_Less (v : (Int × Int) × (Int × Int)) (h : True) : X22c.f 25 [.agg [.int .i64 v.1.1, .int .i64 v.1.2], .agg [.int .i64 v.2.1, .int .i64 v.2.2]] = some (.bool (ltV ⟨v.1.1, v.1.2⟩ ⟨v.2.1, v.2.2⟩)) := Tab.ent_eq (Γ := X22b) (fun i j h => by simpa [Prod.ext_iff, and_assoc] using h) v h
theorem ok_index_find_1 : codeOK Try.prog X22c Try.f42.ntmps (Try.f42.body.getD .skip) = true := by kernel_rfl
theorem c_find1 (c n : Int) (k : List UInt8) (hc : 0 ≤ c ∧ c ≤ 1099511627776) (hn : 0 ≤ n ∧ n ≤ 1099511627776) : CallA Try.prog 42 [.agg [.int .i64 c, .str k], .int .i64 n] (· = .int .i64 (c - n)) := by
  refine callA_of_body X22c_ok mixed Try.func42 rfl (Nat.le_of_ble_eq_true rfl) ok_index_find_1 ?_
  unfold Try.f42
  simp -implicitDefEqProofs (disch := (first | omega | decide)) only [go_sem, ↓reduceIte, seval, wrap_i64]
noncomputable def X22d : Tab := X22c.add 42 (entry (fun (v : (Int × List UInt8) × Int) => [.agg [.int .i64 v.1.1, .str v.1.2], .int .i64 v.2]) (fun v => (0 ≤ v.1.1 ∧ v.1.1 ≤ 1099511627776) ∧ (0 ≤ v.2 ∧ v.2 ≤ 1099511627776)) (fun v => .int .i64 (v.1.1 - v.2)))
theorem X22d_ok : TabOK Try.prog X22d := X22c_ok.ent Try.func42 (by kernel_rfl) (by kernel_rfl) fun v h => c_find1 v.1.1 v.2 v.1.2 h.1 h.2
@[go_sem] theorem X22d_old {g : FuncId} {xs : List A} (h : g ≠ 42) : X22d.f g xs = X22c.f g xs := Tab.add_ne h
@[go_sem] theorem X22d_s : X22d.pl X22c := ⟨fun _ => rfl, fun _ => rfl, rfl, fun _ => rfl, rfl, fun _ => rfl, rfl⟩
theorem X22d_index_find_1 (v : (Int × List UInt8) × Int) (h : (0 ≤ v.1.1 ∧ v.1.1 ≤ 1099511627776) ∧ (0 ≤ v.2 ∧ v.2 ≤ 1099511627776)) : X22d.f 42 [.agg [.int .i64 v.1.1, .str v.1.2], .int .i64 v.2] = some (.int .i64 (v.1.1 - v.2)) := Tab.ent_eq (Γ := X22c) (fun i j h => by simpa [Prod.ext_iff, and_assoc] using h) v h
theorem x22_find1 {c n : Int} {k : List UInt8} (h : (0 ≤ c ∧ c ≤ 1099511627776) ∧ (0 ≤ n ∧ n ≤ 1099511627776)) : X22d.f 42 [.agg [.int .i64 c, .str k], .int .i64 n] = some (.int .i64 (c - n)) := X22d_index_find_1 ((c, k), n) h
theorem pos_of {l : List En} {n : Int} {i : Nat} (hi : i ≤ l.length) (h1 : ∀ e ∈ l.take i, e.c < n) (h2 : ∀ e ∈ l.drop i, n ≤ e.c) : posE l n = i := by
  unfold posE
  conv => lhs; rw [← List.take_append_drop i l]
  rw [List.countP_append, List.countP_eq_length.2 (fun e he => by simpa using h1 e he), List.countP_eq_zero.2 (fun e he => by have := h2 e he; simp; omega), List.length_take]
  omega
theorem ok_slices_BinarySearchFunc_winnower_index_entry_winnower_index_entry_int : codeOK Try.prog X22d Try.f41.ntmps (Try.f41.body.getD .skip) = true := by kernel_rfl
theorem c_Search (l : List En) (n : Int) (hr : RowR l) (hl : l.length ≤ 1000000) (hn : 0 ≤ n ∧ n ≤ 1099511627776) : CallA Try.prog 41 [.slc (l.map En.enc), .int .i64 n, .fn 42 []] (· = .tup [.int .i64 (posE l n), .bool (hasE l n)]) := by
  refine callA_of_body X22d_ok mixed Try.func41 rfl (Nat.le_of_ble_eq_true rfl) ok_slices_BinarySearchFunc_winnower_index_entry_winnower_index_entry_int ?_
  unfold Try.f41
  simp -implicitDefEqProofs (disch := (first | omega | decide)) only [go_sem, ↓reduceIte, seval, List.length_map]
  refine wpA_loop [0, 1, 2, 8] (ι := {p : Nat × Nat // p.1 ≤ p.2 ∧ p.2 ≤ l.length ∧ (∀ e ∈ l.take p.1, e.c < n) ∧ (∀ e ∈ l.drop p.2, n ≤ e.c)}) (fun p => [(9, .int .i64 p.1.1), (10, .int .i64 p.1.2)]) (fun _ => []) (fun p => p.1.2 - p.1.1) ⟨(0, l.length), by omega, by omega, by simp, by simp⟩ (Nat.zero_le _) ?_ ?_
  · simp -implicitDefEqProofs (disch := (first | omega | decide)) only [go_sem, ↓reduceIte, seval]
  · rintro ⟨⟨i, j⟩, h1, h2, h3, h4⟩
    simp only at h1 h2 h3 h4 ⊢
    by_cases hlt : i < j
    · have hlt' : (i : Int) < (j : Int) := by omega
      have hu : IntKind.u64.wrap ((i : Int) + (j : Int)) = (i : Int) + (j : Int) := by rw [IntKind.wrap_u64]; omega
      obtain ⟨h, hh⟩ : ∃ h : Nat, h = (i + j) / 2 := ⟨_, rfl⟩
      have hf : ((i : Int) + (j : Int)).fdiv (2 ^ min 1 64) = (h : Int) := by
        rw [show (2 : Int) ^ min 1 64 = 2 from rfl, Int.fdiv_eq_ediv_of_nonneg _ (by decide)]; omega
      have hij : i ≤ h ∧ h < j := by omega
      clear hh
      have hhl : h < l.length := by omega
      have hhl' : (h : Int) < (l.length : Int) := by omega
      have e1 := en_get hhl
      have hmem : l[h] ∈ l := List.getElem_mem hhl
      have hb := hr.2 _ hmem
      have g := x22_find1 (c := l[h].c) (n := n) (k := l[h].k) ⟨⟨by omega, hb.2.1⟩, hn⟩
      have hs := hr.1
      by_cases hc : l[h].c < n
      · have hc' : l[h].c - n < 0 := by omega
        have t1 : ∀ e ∈ l.take (h + 1), e.c < n := by
          intro e he
          rw [← List.take_append_getElem hhl] at he
          rcases List.mem_append.1 he with he | he
          · rw [← List.take_append_drop h l, List.pairwise_append] at hs
            have := hs.2.2 e he l[h] (by rw [List.drop_eq_getElem_cons hhl]; exact List.mem_cons_self)
            omega
          · simp only [List.mem_cons, List.not_mem_nil, or_false] at he
            subst he; exact hc
        generalize l[h] = x at *
        obtain ⟨c, k⟩ := x
        simp only at e1 g hc'
        simp -implicitDefEqProofs (disch := (first | omega | decide)) only [go_sem, ↓reduceIte, seval, hlt', hu, hf, hhl', e1, g, hc', wrap_i64, List.length_map]
        exact ⟨⟨(h + 1, j), by simp only; omega, h2, t1, h4⟩, ⟨by simp, rfl⟩, by show j - (h + 1) < j - i; omega⟩
      · have hc' : ¬ l[h].c - n < 0 := by omega
        have t1 : ∀ e ∈ l.drop h, n ≤ e.c := by
          intro e he
          rw [← List.take_append_drop h l, List.pairwise_append] at hs
          have hs2 := hs.2.1
          rw [List.drop_eq_getElem_cons hhl] at hs2 he
          rcases List.mem_cons.1 he with rfl | he
          · omega
          · have := (List.pairwise_cons.1 hs2).1 e he
            omega
        generalize l[h] = x at *
        obtain ⟨c, k⟩ := x
        simp only at e1 g hc'
        simp -implicitDefEqProofs (disch := (first | omega | decide)) only [go_sem, ↓reduceIte, seval, hlt', hu, hf, hhl', e1, g, hc', wrap_i64, List.length_map]
        exact ⟨⟨(i, h), by simp only; omega, by simp only; omega, h3, t1⟩, ⟨rfl, rfl⟩, by show h - i < j - i; omega⟩
    · have hlt' : ¬ (i : Int) < (j : Int) := by omega
      obtain rfl : i = j := by omega
      have hp := pos_of h2 h3 h4
      have ha := has_at (n := n) hr
      rw [hp] at ha ⊢
      by_cases hil : i < l.length
      · have hil' : (i : Int) < (l.length : Int) := by omega
        have e1 := en_get hil
        have hb := hr.2 _ (List.getElem_mem hil)
        have g := x22_find1 (c := l[i].c) (n := n) (k := l[i].k) ⟨⟨by omega, hb.2.1⟩, hn⟩
        by_cases hc : l[i].c = n
        · have hh : hasE l n = true := ha.2 ⟨hil, hc⟩
          have hc' : (l[i].c - n == 0) = true := by simp; omega
          rw [hh]
          clear ha
          generalize l[i] = x at *
          obtain ⟨c, k⟩ := x
          simp only at e1 g hc'
          simp -implicitDefEqProofs (disch := (first | omega | decide)) only [go_sem, ↓reduceIte, seval, hlt', hil', e1, g, hc', wrap_i64, List.length_map]
        · have hh : hasE l n = false := by
            cases h : hasE l n with
            | true => obtain ⟨_, h'⟩ := ha.1 h; exact absurd h' hc
            | false => rfl
          have hc' : (l[i].c - n == 0) = false := by simp; omega
          rw [hh]
          clear ha
          generalize l[i] = x at *
          obtain ⟨c, k⟩ := x
          simp only at e1 g hc'
          simp -implicitDefEqProofs (disch := (first | omega | decide)) only [go_sem, ↓reduceIte, seval, hlt', hil', e1, g, hc', wrap_i64, List.length_map]
      · have hil' : ¬ (i : Int) < (l.length : Int) := by omega
        have hh : hasE l n = false := by
          cases h : hasE l n with
          | true => obtain ⟨h', _⟩ := ha.1 h; exact absurd h' hil
          | false => rfl
        rw [hh]
        simp -implicitDefEqProofs (disch := (first | omega | decide)) only [go_sem, ↓reduceIte, seval, hlt', hil', List.length_map]
noncomputable def X22e : Tab := X22d.add 41 (entry (fun (v : List En × Int) => [.slc (v.1.map En.enc), .int .i64 v.2, .fn 42 []]) (fun v => RowR v.1 ∧ v.1.length ≤ 1000000 ∧ (0 ≤ v.2 ∧ v.2 ≤ 1099511627776)) (fun v => .tup [.int .i64 (posE v.1 v.2), .bool (hasE v.1 v.2)]))
theorem X22e_ok : TabOK Try.prog X22e := X22d_ok.ent Try.func41 (by kernel_rfl) (by kernel_rfl) fun v h => c_Search v.1 v.2 h.1 h.2.1 h.2.2
@[go_sem] theorem X22e_old {g : FuncId} {xs : List A} (h : g ≠ 41) : X22e.f g xs = X22d.f g xs := Tab.add_ne h
@[go_sem] theorem X22e_s : X22e.pl X22d := ⟨fun _ => rfl, fun _ => rfl, rfl, fun _ => rfl, rfl, fun _ => rfl, rfl⟩
theorem ok_index_find : codeOK Try.prog X22e Try.f29.ntmps (Try.f29.body.getD .skip) = true := by kernel_rfl
theorem c_find (l : List En) (n : Int) (hr : RowR l) (hl : l.length ≤ 1000000) (hn : 0 ≤ n ∧ n ≤ 1099511627776) : CallA Try.prog 29 [.slc (l.map En.enc), .int .i64 n] (· = .tup [.int .i64 (posE l n), .bool (hasE l n)]) := by
  refine callA_of_body X22e_ok mixed Try.func29 rfl (Nat.le_of_ble_eq_true rfl) ok_index_find ?_
  unfold Try.f29
  have g : X22e.f 41 [.slc (l.map En.enc), .int .i64 n, .fn 42 []] = some (.tup [.int .i64 (posE l n), .bool (hasE l n)]) := (Tab.ent_eq (Γ := X22d) (g := 41) (enc := fun (v : List En × Int) => [.slc (v.1.map En.enc), .int .i64 v.2, .fn 42 []]) (ok := fun v => RowR v.1 ∧ v.1.length ≤ 1000000 ∧ (0 ≤ v.2 ∧ v.2 ≤ 1099511627776)) (spec := fun v => .tup [.int .i64 (posE v.1 v.2), .bool (hasE v.1 v.2)]) (fun i j h => by simpa [Prod.ext_iff, and_assoc] using h) (l, n) ⟨hr, hl, hn⟩)
  simp -implicitDefEqProofs (disch := (first | omega | decide)) only [go_sem, ↓reduceIte, seval, g]
noncomputable def X22f : Tab := X22e.add 29 (entry (fun (v : List En × Int) => [.slc (v.1.map En.enc), .int .i64 v.2]) (fun v => RowR v.1 ∧ v.1.length ≤ 1000000 ∧ (0 ≤ v.2 ∧ v.2 ≤ 1099511627776)) (fun v => .tup [.int .i64 (posE v.1 v.2), .bool (hasE v.1 v.2)]))
theorem X22f_ok : TabOK Try.prog X22f := X22e_ok.ent Try.func29 (by kernel_rfl) (by kernel_rfl) fun v h => c_find v.1 v.2 h.1 h.2.1 h.2.2
@[go_sem] theorem X22f_old {g : FuncId} {xs : List A} (h : g ≠ 29) : X22f.f g xs = X22e.f g xs := Tab.add_ne h
@[go_sem] theorem X22f_s : X22f.pl X22e := ⟨fun _ => rfl, fun _ => rfl, rfl, fun _ => rfl, rfl, fun _ => rfl, rfl⟩
theorem X22f_index_find (v : List En × Int) (h : RowR v.1 ∧ v.1.length ≤ 1000000 ∧ (0 ≤ v.2 ∧ v.2 ≤ 1099511627776)) : X22f.f 29 [.slc (v.1.map En.enc), .int .i64 v.2] = some (.tup [.int .i64 (posE v.1 v.2), .bool (hasE v.1 v.2)]) := Tab.ent_eq (Γ := X22e) (fun i j h => by simpa [Prod.ext_iff, and_assoc] using h) v h
theorem x22_find {l : List En} {n : Int} (h : RowR l ∧ l.length ≤ 1000000 ∧ (0 ≤ n ∧ n ≤ 1099511627776)) : X22f.f 29 [.slc (l.map En.enc), .int .i64 n] = some (.tup [.int .i64 (posE l n), .bool (hasE l n)]) := X22f_index_find (l, n) h
def verE (n : Nat) (e : En) : Ver := ⟨(n : Int) + 1, e.c⟩
def verT (x : Et) : Ver := ⟨x.r, x.c⟩
def aftN (r c : Int) (n : Nat) (es : List En) : Nat := if (n : Int) + 1 < r then es.length else if (n : Int) + 1 = r then posE es (c + 1) else 0
def aftR (r c : Int) (n : Nat) (es : List En) : List Ver := (es.drop (aftN r c n es)).map (verE n)
def aftA (E : Nat → List En) (r c : Int) (k : Nat) : List Ver := (List.range k).flatMap fun n => aftR r c n (E n)
def aftL (l : List Et) (r c : Int) (m : Nat) : List Ver := ((l.filter fun x => lessV r c x.r x.c).take m).map verT
theorem aftA_snoc (E : Nat → List En) (r c : Int) (k : Nat) : aftA E r c (k + 1) = aftA E r c k ++ aftR r c k (E k) := by
  unfold aftA
  rw [List.range_succ, List.flatMap_append]; simp
theorem aft_row {r c : Int} {n : Nat} {es : List En} (h : RowR es) : ((rowL n es).filter fun x => lessV r c x.r x.c).map verT = aftR r c n es := by
  unfold rowL aftR
  rw [List.filter_map, List.map_map]
  have e : (fun x : Et => lessV r c x.r x.c) ∘ (fun e : En => (⟨(n : Int) + 1, e.c, e.k⟩ : Et)) = fun e => decide (r < (n : Int) + 1) || (decide (r = (n : Int) + 1) && decide (c < e.c)) := rfl
  rw [e]
  have e2 : verT ∘ (fun e : En => (⟨(n : Int) + 1, e.c, e.k⟩ : Et)) = verE n := rfl
  rw [e2]
  congr 1
  unfold aftN
  by_cases h1 : (n : Int) + 1 < r
  · rw [if_pos h1, List.drop_length, List.filter_eq_nil_iff]
    intro x hx
    simp; omega
  · rw [if_neg h1]
    by_cases h2 : (n : Int) + 1 = r
    · rw [if_pos h2]
      obtain ⟨p1, p2⟩ := pos_split (n := c + 1) h
      conv => lhs; rw [← List.take_append_drop (posE es (c + 1)) es]
      rw [List.filter_append, List.filter_eq_nil_iff.2 (fun x hx => by have := p1 x hx; simp; omega), List.filter_eq_self.2 (fun x hx => by have := p2 x hx; simp; omega), List.nil_append]
    · rw [if_neg h2, List.drop_zero, List.filter_eq_self]
      intro x hx
      simp; omega
theorem aft_flat {E : Nat → List En} (h : RowsR E) (r c : Int) (m : Nat) : aftL (flatE E) r c m = (aftA E r c 16).take m := by
  unfold aftL flatE aftA
  rw [List.map_take, List.filter_flatMap, List.map_flatMap]
  congr 2
  funext n
  exact aft_row (h n)
def unkR (p : Int → Bool) (n : Nat) (es : List En) : List Ver := (es.filter fun e => !p e.c).map (verE n)
def unkA (E : Nat → List En) (s : List Known) (k : Nat) : List Ver := (List.range k).flatMap fun n => unkR (hasL13 (runsK s ((n : Nat) + 1))) n (E n)
def unkL (l : List Et) (s : List Known) : List Ver := (l.filter fun x => !hasK s x.r x.c).map verT
theorem unkA_snoc (E : Nat → List En) (s : List Known) (k : Nat) : unkA E s (k + 1) = unkA E s k ++ unkR (hasL13 (runsK s ((k : Nat) + 1))) k (E k) := by
  unfold unkA
  rw [List.range_succ, List.flatMap_append]; simp
theorem unk_flat (E : Nat → List En) (s : List Known) : unkL (flatE E) s = unkA E s 16 := by
  unfold unkL flatE unkA
  rw [List.filter_flatMap, List.map_flatMap]
  have : ∀ n ∈ List.range 16, List.map verT ((rowL n (E n)).filter fun x => !hasK s x.r x.c) = unkR (hasL13 (runsK s ((n : Nat) + 1))) n (E n) := by
    intro n hn
    have hn := List.mem_range.1 hn
    unfold rowL unkR
    rw [List.filter_map, List.map_map]
    have e : (fun x : Et => !hasK s x.r x.c) ∘ (fun e : En => (⟨(n : Int) + 1, e.c, e.k⟩ : Et)) = fun e => !hasL13 (runsK s ((n : Nat) + 1)) e.c := by
      funext e
      have : repOK ((n : Int) + 1) = true := repOK_iff.2 ⟨by omega, by omega⟩
      simp [hasK, this]
    rw [e]
    rfl
  rw [List.flatMap_def, List.flatMap_def, List.map_congr_left this]
theorem right_pairs {l : List Run} (h : rightL l = true) : l.Pairwise (fun q r => q.t + 2 ≤ r.f) ∧ ∀ r ∈ l, oneR r = true := by
  have aux : ∀ {l : List Run}, RR l → l.Pairwise (fun r q => q.t + 2 ≤ r.f) := by
    intro l
    induction l with
    | nil => intro _; exact List.Pairwise.nil
    | cons r l ih => intro h; exact List.pairwise_cons.2 ⟨fun q hq => rr_below h q hq, ih (rr_tail h)⟩
  have h' := right_iff.1 h
  exact ⟨by simpa using List.pairwise_reverse.1 (by simpa using aux h'), fun r hr => rr_all h' r (by simpa using hr)⟩
theorem unk_none {R : List Run} {j : Nat} {c : Int} (h1 : ∀ r ∈ R.take j, r.t < c) (hj : R.length ≤ j) : hasL13 R c = false := by
  rw [List.take_of_length_le hj] at h1
  cases h : hasL13 R c with
  | false => rfl
  | true =>
    obtain ⟨r, hr, _, _, h3⟩ := has_iff.1 h
    have := h1 r hr
    omega
theorem unk_ahead {R : List Run} (hR : rightL R = true) {j : Nat} {c : Int} (h1 : ∀ r ∈ R.take j, r.t < c) (hj : j < R.length) (hc : c < R[j].f) : hasL13 R c = false := by
  cases h : hasL13 R c with
  | false => rfl
  | true =>
    obtain ⟨r, hr, ho, h2, h3⟩ := has_iff.1 h
    obtain ⟨hp, _⟩ := right_pairs hR
    rw [← List.take_append_drop j R] at hr hp
    rcases List.mem_append.1 hr with hr | hr
    · have := h1 r hr; omega
    · rw [List.drop_eq_getElem_cons hj] at hr hp
      rcases List.mem_cons.1 hr with rfl | hr
      · omega
      · have := (List.pairwise_cons.1 (List.pairwise_append.1 hp).2.1).1 r hr
        have ho := oneR_iff.1 ((right_pairs hR).2 R[j] (List.getElem_mem hj))
        omega
theorem unk_in {R : List Run} (hR : rightL R = true) {j : Nat} {c : Int} (hj : j < R.length) (hc : R[j].f ≤ c) (ht : c ≤ R[j].t) : hasL13 R c = true :=
  has_iff.2 ⟨R[j], List.getElem_mem hj, (right_pairs hR).2 _ (List.getElem_mem hj), hc, ht⟩
def placeT (l : List Et) (r c : Int) : Int := match l.findIdx? (fun x => decide (x.r = r ∧ x.c = c)) with | some i => (i : Int) | none => -1
def hasT (l : List Et) (r c : Int) : Bool := l.any fun x => decide (x.r = r ∧ x.c = c)
theorem place_pos (l : List Et) (r c : Int) : decide (0 ≤ placeT l r c) = hasT l r c := by
  unfold placeT hasT
  cases h : l.findIdx? (fun x => decide (x.r = r ∧ x.c = c)) with
  | none =>
    have := List.findIdx?_eq_none_iff.1 h
    symm
    simp only [Int.reduceNeg, Int.reduceLE, decide_false]
    rw [List.any_eq_false]
    intro x hx
    simpa using this x hx
  | some i =>
    obtain ⟨hi, h1, _⟩ := List.findIdx?_eq_some_iff_getElem.1 h
    simp only [Int.natCast_nonneg, decide_true]
    symm
    exact List.any_eq_true.2 ⟨_, List.getElem_mem hi, h1⟩
theorem hasT_flat {E : Nat → List En} {i : Nat} (hi : i < 16) (c : Int) : hasT (flatE E) ((i : Int) + 1) c = hasE (E i) c := by
  rw [Bool.eq_iff_iff]
  unfold hasT hasE
  rw [List.any_eq_true, List.any_eq_true]
  constructor
  · rintro ⟨x, hx, h⟩
    obtain ⟨j, hj, h1, h2⟩ := mem_flat.1 hx
    simp only [decide_eq_true_eq] at h
    have : j = i := by omega
    subst this
    exact ⟨_, h2, by simpa using h.2⟩
  · rintro ⟨e, he, h⟩
    exact ⟨⟨(i : Int) + 1, e.c, e.k⟩, mem_flat.2 ⟨i, hi, rfl, he⟩, by simpa using h⟩
theorem hasT_out {E : Nat → List En} {r c : Int} (h : rightV ⟨r, c⟩ = false) (hE : RowsR E) : hasT (flatE E) r c = false := by
  unfold hasT
  rw [List.any_eq_false]
  intro x hx
  obtain ⟨j, hj, h1, h2⟩ := mem_flat.1 hx
  have hb := (hE j).2 _ h2
  simp only at hb
  intro hh
  simp only [decide_eq_true_eq] at hh
  obtain ⟨e1, e2⟩ := hh
  rw [← e1, ← e2, h1] at h
  simp [rightV] at h
  omega
theorem dropL_none {l : List Et} {r c : Int} (h : hasT l r c = false) : dropL l r c = l := by
  unfold dropL
  rw [List.filter_eq_self]
  intro x hx
  unfold hasT at h
  rw [List.any_eq_false] at h
  have := h x hx
  simp at this ⊢
  by_cases e : x.r = r
  · exact .inr (this e)
  · exact .inl e
theorem place_key {E : Nat → List En} (hE : RowsR E) {i : Nat} (hi : i < 16) {c : Int} (h : hasE (E i) c = true) :
    ∃ k : Nat, ∃ hk : k < (flatE E).length, placeT (flatE E) ((i : Int) + 1) c = (k : Int) ∧ ∃ hp : posE (E i) c < (E i).length, (flatE E)[k].k = (E i)[posE (E i) c].k := by
  obtain ⟨hp, hc⟩ := (has_at (hE i)).1 h
  have hh := hasT_flat (E := E) hi c
  rw [h] at hh
  have h0 := place_pos (flatE E) ((i : Int) + 1) c
  rw [hh] at h0
  unfold placeT at h0 ⊢
  cases hf : (flatE E).findIdx? (fun x => decide (x.r = (i : Int) + 1 ∧ x.c = c)) with
  | none => rw [hf] at h0; simp at h0
  | some k =>
    obtain ⟨hk, h1, _⟩ := List.findIdx?_eq_some_iff_getElem.1 hf
    refine ⟨k, hk, rfl, hp, ?_⟩
    obtain ⟨j, hj, e1, e2⟩ := mem_flat.1 (List.getElem_mem hk)
    simp only [decide_eq_true_eq] at h1
    have : j = i := by omega
    subst this
    have := row_one (hE j).1 e2 (List.getElem_mem hp) (by rw [hc]; exact h1.2)
    rw [← this]
theorem flat_len (E : Nat → List En) : (flatE E).length = ((List.range 16).map fun i => (E i).length).sum := by
  unfold flatE
  rw [List.length_flatMap]
  congr 1
  apply List.map_congr_left
  intro i _
  unfold rowL
  rw [List.length_map]
theorem dropL_len (l : List Et) (r c : Int) : (dropL l r c).length ≤ l.length := List.length_filter_le _ _
set_option maxHeartbeats 16000000
theorem entry_eq' {ι : Type} {enc : ι → List A} {ok : ι → Prop} {spec : ι → A} (hi : ∀ i j, ok i → ok j → enc i = enc j → spec i = spec j) (i : ι) (h : ok i) : entry enc ok spec (enc i) = some (spec i) := by
  have hx : ∃ j, enc j = enc i ∧ ok j := ⟨i, rfl, h⟩
  unfold entry
  rw [dif_pos hx, hi _ _ (Classical.choose_spec hx).2 h (Classical.choose_spec hx).1]
@[go_sem] theorem En.enc_eq {c : Int} {k : List UInt8} : En.enc ⟨c, k⟩ = .agg [.int .i64 c, .str k] := rfl
@[go_sem] theorem take_en {l : List En} : List.take l.length (l.map En.enc) = l.map En.enc := List.take_of_length_le (by simp)
def ixR (E : Nat → List En) : List A := (List.range 16).map fun i => .slc ((E i).map En.enc)
def ixC (E : Nat → List En) (m : Int) : List A := ixR E ++ [.int .i64 m]
theorem ixR_len (E : Nat → List En) : (ixR E).length = 16 := by simp [ixR]
@[go_sem] theorem ixC_len {E : Nat → List En} {m : Int} : (ixC E m).length = 17 := by simp [ixC, ixR]
@[go_sem] theorem ixC_take {E : Nat → List En} {m : Int} : (ixC E m).take 16 = ixR E := List.take_left' (ixR_len E)
theorem ixR_get {E : Nat → List En} {i : Nat} (h : i < 16) : ((ixR E).drop (i * 1)).head? = some (.slc ((E i).map En.enc)) := by
  rw [Nat.mul_one, List.head?_drop]; simp [ixR, h]
theorem ixC_get {E : Nat → List En} {m : Int} {i : Nat} (h : i < 16) : ((ixC E m).drop (i * 1)).head? = some (.slc ((E i).map En.enc)) := by
  have h2 := ixR_get (E := E) h
  rw [Nat.mul_one, List.head?_drop] at h2 ⊢
  unfold ixC
  rw [List.getElem?_append_left (by rw [ixR_len]; exact h)]; exact h2
@[go_sem] theorem ixC_many {E : Nat → List En} {m : Int} : ((ixC E m).drop 16).head? = some (.int .i64 m) := by
  rw [List.head?_drop]
  unfold ixC
  rw [List.getElem?_append_right (by rw [ixR_len]; exact Nat.le_refl _), ixR_len]; rfl
abbrev IxO := Option ((Nat → List En) × Int)
def ixA : IxO → A
  | none => .nilp
  | some x => .dptr (ixC x.1 x.2)
def ixE : IxO → Nat → List En
  | none => fun _ => []
  | some x => x.1
def ixM : IxO → Int
  | none => 0
  | some x => x.2
def ixOK (x : IxO) : Prop := RowsR (ixE x) ∧ ∀ i, (ixE x i).length ≤ 1000
theorem ixA_inj {x y : IxO} (h : ixA x = ixA y) : (∀ i, i < 16 → ixE x i = ixE y i) ∧ ixM x = ixM y := by
  cases x with
  | none =>
    cases y with
    | none => exact ⟨fun _ _ => rfl, rfl⟩
    | some y => simp [ixA] at h
  | some x =>
    cases y with
    | none => simp [ixA] at h
    | some y =>
      simp only [ixA, A.dptr.injEq] at h
      refine ⟨fun i hi => ?_, ?_⟩
      · have h1 := ixC_get (E := x.1) (m := x.2) hi
        have h2 := ixC_get (E := y.1) (m := y.2) hi
        rw [h] at h1
        rw [h1] at h2
        have := Option.some.inj h2
        simp at this
        exact this
      · have h1 := ixC_many (E := x.1) (m := x.2)
        have h2 := ixC_many (E := y.1) (m := y.2)
        rw [h] at h1
        rw [h1] at h2
        have := Option.some.inj h2
        simpa [ixM] using this
def ixH (x : IxO) (r c : Int) : Bool := rightV ⟨r, c⟩ && hasE (ixE x (r - 1).toNat) c
theorem rightV_iff {r c : Int} : rightV ⟨r, c⟩ = true ↔ (1 ≤ r ∧ r ≤ 16) ∧ 1 ≤ c ∧ c ≤ 1099511627776 := by
  simp [rightV, and_assoc]
theorem ok_index_Index_place : codeOK Try.prog X22f Try.f26.ntmps (Try.f26.body.getD .skip) = true := by kernel_rfl
theorem c_place (x : IxO) (r c : Int) (hx : ixOK x) : CallA Try.prog 26 [ixA x, .agg [.int .i64 r, .int .i64 c]] (· = .tup [.int .i64 (if rightV ⟨r, c⟩ = true then (posE (ixE x (r - 1).toNat) c : Int) else 0), .bool (ixH x r c)]) := by
  refine callA_of_body X22f_ok mixed Try.func26 rfl (Nat.le_of_ble_eq_true rfl) ok_index_Index_place ?_
  unfold Try.f26
  unfold ixH
  cases hr : rightV ⟨r, c⟩ with
  | false =>
    rcases x with _ | ⟨E, m⟩
    · simp only [ixA, ixE]
      simp -implicitDefEqProofs (disch := (first | omega | decide)) only [go_sem, ↓reduceIte, seval, hr]
    · simp only [ixA, ixE]
      simp -implicitDefEqProofs (disch := (first | omega | decide)) only [go_sem, ↓reduceIte, seval, hr]
  | true =>
    rcases x with _ | ⟨E, m⟩
    · have e1 : posE [] c = 0 := rfl
      have e2 : hasE [] c = false := rfl
      simp only [ixA, ixE]
      simp -implicitDefEqProofs (disch := (first | omega | decide)) only [go_sem, ↓reduceIte, seval, hr, e1, e2]
    · obtain ⟨h1, h2⟩ := rightV_iff.1 hr
      obtain ⟨i, hi, rfl⟩ : ∃ i : Nat, i < 16 ∧ r = (i : Int) + 1 := ⟨(r - 1).toNat, by omega, by omega⟩
      have w1 : IntKind.i64.wrap ((i : Int) + 1 - 1) = (i : Int) := by rw [wrap_i64] <;> omega
      have w2 : ((i : Int) + 1 - 1).toNat = i := by omega
      have p1 : (0 : Int) ≤ (i : Int) := by omega
      have p2 : (i : Int) < 16 := by omega
      have t1 : ((i : Nat) : Int).toNat = i := Int.toNat_natCast _
      have g1 := ixC_get (E := E) (m := m) hi
      have g2 := x22_find (l := E i) (n := c) ⟨hx.1 i, by have := hx.2 i; simp only [ixE] at this; omega, by omega⟩
      simp only [ixA, ixE]
      simp -implicitDefEqProofs (disch := (first | omega | decide)) only [go_sem, ↓reduceIte, seval, hr, w1, w2, p1, p2, t1, g1, g2]
theorem mod_ix {x y : IxO} (h : ixA x = ixA y) {r c : Int} (hr : rightV ⟨r, c⟩ = true) : ixE x (r - 1).toNat = ixE y (r - 1).toNat := (ixA_inj h).1 _ (by have := rightV_iff.1 hr; omega)
theorem ixH_congr {x y : IxO} (h : ixA x = ixA y) (r c : Int) : ixH x r c = ixH y r c := by
  unfold ixH
  cases hr : rightV ⟨r, c⟩ with
  | false => rfl
  | true => rw [mod_ix h hr]
def placeX (x : IxO) (r c : Int) : A := .tup [.int .i64 (if rightV ⟨r, c⟩ = true then (posE (ixE x (r - 1).toNat) c : Int) else 0), .bool (ixH x r c)]
noncomputable def X22g : Tab := X22f.add 26 (entry (fun v : IxO × Int × Int => [ixA v.1, .agg [.int .i64 v.2.1, .int .i64 v.2.2]]) (fun v => ixOK v.1) (fun v => placeX v.1 v.2.1 v.2.2))
theorem X22g_ok : TabOK Try.prog X22g := X22f_ok.ent Try.func26 (by kernel_rfl) (by kernel_rfl) fun v h => c_place v.1 v.2.1 v.2.2 h
@[go_sem] theorem X22g_old {g : FuncId} {xs : List A} (h : g ≠ 26) : X22g.f g xs = X22f.f g xs := Tab.add_ne h
@[go_sem] theorem X22g_s : X22g.pl X22f := ⟨fun _ => rfl, fun _ => rfl, rfl, fun _ => rfl, rfl, fun _ => rfl, rfl⟩
theorem x22_place {x : IxO} {r c : Int} (h : ixOK x) : X22g.f 26 [ixA x, .agg [.int .i64 r, .int .i64 c]] = some (.tup [.int .i64 (if rightV ⟨r, c⟩ = true then (posE (ixE x (r - 1).toNat) c : Int) else 0), .bool (ixH x r c)]) :=
  Tab.add_eq.trans (entry_eq' (enc := fun v : IxO × Int × Int => [ixA v.1, .agg [.int .i64 v.2.1, .int .i64 v.2.2]]) (fun a b _ _ e => by
    obtain ⟨a, r, c⟩ := a
    obtain ⟨b, r', c'⟩ := b
    simp at e
    obtain ⟨e, rfl, rfl⟩ := e
    unfold placeX
    simp only
    rw [ixH_congr e]
    cases hr : rightV ⟨r, c⟩ with
    | false => rfl
    | true => rw [mod_ix e hr]) (x, r, c) h)
def ixK (x : IxO) (r c : Int) : List UInt8 := if ixH x r c = true then keyE (ixE x (r - 1).toNat) c else []
theorem keyE_at {es : List En} {n : Int} (h : RowR es) (hh : hasE es n = true) : ∃ hp : posE es n < es.length, es[posE es n].k = keyE es n := by
  obtain ⟨hp, hc⟩ := (has_at h).1 hh
  refine ⟨hp, ?_⟩
  unfold keyE
  have : es.find? (fun e => decide (e.c = n)) = some es[posE es n] := by
    rw [List.find?_eq_some_iff_getElem]
    refine ⟨by simpa using hc, posE es n, hp, rfl, fun j hj => ?_⟩
    have h1 := (pos_split (n := n) h).1 es[j] (by rw [List.mem_take_iff_getElem]; exact ⟨j, by omega, rfl⟩)
    simp; omega
  rw [this]; rfl
theorem ok_index_Index_Key : codeOK Try.prog X22g Try.f15.ntmps (Try.f15.body.getD .skip) = true := by kernel_rfl
theorem c_Key (x : IxO) (r c : Int) (hx : ixOK x) : CallA Try.prog 15 [ixA x, .agg [.int .i64 r, .int .i64 c]] (· = .tup [.str (ixK x r c), .bool (ixH x r c)]) := by
  refine callA_of_body X22g_ok mixed Try.func15 rfl (Nat.le_of_ble_eq_true rfl) ok_index_Index_Key ?_
  unfold Try.f15
  have g1 := x22_place (r := r) (c := c) hx
  unfold ixK
  cases hh : ixH x r c with
  | false =>
    rw [hh] at g1
    generalize (if rightV ⟨r, c⟩ = true then (posE (ixE x (r - 1).toNat) c : Int) else 0) = P at *
    rcases x with _ | ⟨E, m⟩
    · simp only [ixA] at *
      simp -implicitDefEqProofs (disch := (first | omega | decide)) only [go_sem, ↓reduceIte, seval, g1]
    · simp only [ixA] at *
      simp -implicitDefEqProofs (disch := (first | omega | decide)) only [go_sem, ↓reduceIte, seval, g1]
  | true =>
    rw [hh] at g1
    unfold ixH at hh
    rw [Bool.and_eq_true] at hh
    obtain ⟨hr, hh⟩ := hh
    rw [if_pos hr] at g1
    rcases x with _ | ⟨E, m⟩
    · simp [ixE, hasE] at hh
    · obtain ⟨h1, h2⟩ := rightV_iff.1 hr
      obtain ⟨i, hi, rfl⟩ : ∃ i : Nat, i < 16 ∧ r = (i : Int) + 1 := ⟨(r - 1).toNat, by omega, by omega⟩
      have w1 : IntKind.i64.wrap ((i : Int) + 1 - 1) = (i : Int) := by rw [wrap_i64] <;> omega
      have w2 : ((i : Int) + 1 - 1).toNat = i := by omega
      have p1 : (0 : Int) ≤ (i : Int) := by omega
      have p2 : (i : Int) < 16 := by omega
      have t1 : ((i : Nat) : Int).toNat = i := Int.toNat_natCast _
      have g2 := ixC_get (E := E) (m := m) hi
      simp only [ixE, w2] at hh
      simp only [ixA, ixE, w2] at g1 ⊢
      have hxi : RowR (E i) := hx.1 i
      clear w2
      obtain ⟨hp, hk⟩ := keyE_at hxi hh
      have e1 := en_get hp
      rw [hk] at e1
      generalize posE (E i) c = P at *
      generalize (E i)[P].c = c' at *
      have t2 : ((P : Nat) : Int).toNat = P := Int.toNat_natCast _
      have p3 : (0 : Int) ≤ (P : Int) := by omega
      have p4 : (P : Int) < ((E i).length : Int) := by omega
      simp -implicitDefEqProofs (disch := (first | omega | decide)) only [go_sem, ↓reduceIte, seval, g1, w1, p1, p2, t1, g2, e1, t2, p3, p4, List.length_map]
theorem ok_index_Index_Len : codeOK Try.prog X22g Try.f14.ntmps (Try.f14.body.getD .skip) = true := by kernel_rfl
theorem c_Len (x : IxO) : CallA Try.prog 14 [ixA x] (· = .int .i64 (ixM x)) := by
  refine callA_of_body X22g_ok mixed Try.func14 rfl (Nat.le_of_ble_eq_true rfl) ok_index_Index_Len ?_
  unfold Try.f14
  rcases x with _ | ⟨E, m⟩
  · simp only [ixA, ixM]
    simp -implicitDefEqProofs (disch := (first | omega | decide)) only [go_sem, ↓reduceIte, seval]
  · simp only [ixA, ixM]
    simp -implicitDefEqProofs (disch := (first | omega | decide)) only [go_sem, ↓reduceIte, seval]
theorem fill_done {α : Type} {a R : List α} {m t : Nat} (h : (a.take m ++ R.take t).length ≤ m) (hd : R.length ≤ t ∨ m ≤ (a.take m ++ R.take t).length) : a.take m ++ R.take t = (a ++ R).take m := by
  rw [List.length_append, List.length_take, List.length_take] at h hd
  rw [List.take_append]
  congr 1
  by_cases h1 : a.length ≤ m
  · by_cases h2 : R.length ≤ m - a.length
    · rw [List.take_of_length_le h2, List.take_of_length_le (by omega)]
    · by_cases h3 : R.length ≤ t
      · omega
      · rw [show t = m - a.length by omega]
  · rw [show m - a.length = 0 by omega]
    by_cases h3 : R.length = 0
    · rw [List.length_eq_zero_iff.1 h3]; simp
    · rw [show t = 0 by omega]
theorem aftR_len (r c : Int) (n : Nat) (es : List En) : (aftR r c n es).length ≤ es.length := by
  unfold aftR
  rw [List.length_map, List.length_drop]; omega
theorem aftA_len {E : Nat → List En} (h : ∀ i, (E i).length ≤ 1000) (r c : Int) : ∀ k, (aftA E r c k).length ≤ k * 1000
  | 0 => by simp [aftA]
  | k + 1 => by
    have h1 := aftA_len h r c k
    have h2 := aftR_len r c k (E k)
    have h3 := h k
    rw [aftA_snoc, List.length_append]; omega
theorem aftR_get {r c : Int} {n : Nat} {es : List En} {t : Nat} (h : aftN r c n es + t < es.length) : (aftR r c n es).take (t + 1) = (aftR r c n es).take t ++ [verE n es[aftN r c n es + t]] := by
  unfold aftR
  have hl : t < ((es.drop (aftN r c n es)).map (verE n)).length := by rw [List.length_map, List.length_drop]; omega
  rw [← List.take_append_getElem hl]
  congr 2
  rw [List.getElem_map, List.getElem_drop]
theorem aftR_le (r c : Int) (n : Nat) (es : List En) : aftN r c n es ≤ es.length := by
  unfold aftN
  split
  · exact Nat.le_refl _
  · split
    · exact pos_le _ _
    · exact Nat.zero_le _
@[go_sem] theorem take_ver {l : List Ver} : List.take l.length (l.map Ver.enc) = l.map Ver.enc := List.take_of_length_le (by simp)
theorem row_ver (l : List Ver) (r c : Int) : l.map Ver.enc ++ [.agg [.int .i64 r, .int .i64 c]] = (l ++ [(⟨r, c⟩ : Ver)]).map Ver.enc := by rw [List.map_append]; rfl
@[go_sem] theorem ixR_under {m : Nat} {E : Nat → List En} : A.under.underL m (ixR E) = true := by
  unfold ixR
  have : ∀ l : List Nat, A.under.underL m (l.map fun i => A.slc ((E i).map En.enc)) = true := fun l => by
    induction l with
    | nil => rfl
    | cons x l ih => simp only [List.map_cons, A.under.underL, ih, Bool.and_true]; rfl
  exact this _
@[go_sem] theorem ixR_mem {m : Nat} {E : Nat → List En} : A.mem.memL m (ixR E) = false := by
  unfold ixR
  have : ∀ l : List Nat, A.mem.memL m (l.map fun i => A.slc ((E i).map En.enc)) = false := fun l => by
    induction l with
    | nil => rfl
    | cons x l ih => simp only [List.map_cons, A.mem.memL, ih, Bool.or_false]; rfl
  exact this _
theorem ok_index_Index_After : codeOK Try.prog X22g Try.f12.ntmps (Try.f12.body.getD .skip) = true := by kernel_rfl
theorem c_After_some (E : Nat → List En) (mm r c most : Int) (hx : RowsR E) (hl : ∀ i, (E i).length ≤ 1000) : CallA Try.prog 12 [.dptr (ixC E mm), .agg [.int .i64 r, .int .i64 c], .int .i64 most] (· = .slc (((aftA E r c 16).take most.toNat).map Ver.enc)) := by
  refine callA_of_body X22g_ok mixed Try.func12 rfl (Nat.le_of_ble_eq_true rfl) ok_index_Index_After ?_
  unfold Try.f12
  obtain ⟨m, hm⟩ : ∃ m, most.toNat = m := ⟨_, rfl⟩
  have hlt : ∀ k : Nat, (k : Int) < most ↔ k < m := fun k => by omega
  rw [hm]
  clear hm
  simp -implicitDefEqProofs (disch := (first | omega | decide)) only [go_sem, ↓reduceIte, seval]
  refine wpA_loop_nil 7 2 rfl ?_
  refine wpA_loop [2, 4, 16] (ι := {k : Nat // k ≤ 16}) (fun p => [(17, .int .i64 p.1), (7, .row 1 0 2 ((aftA E r c p.1).take m).length false)]) (fun p => [(1, .row 2 (((aftA E r c p.1).take m).map Ver.enc))]) (fun p => 16 - p.1) ⟨0, by omega⟩ (Nat.zero_le _) ?_ ?_
  · simp -implicitDefEqProofs (disch := (first | omega | decide)) only [go_sem, ↓reduceIte, seval]
    first | done | (simp [aftA]; done)
  · rintro ⟨n, hn⟩
    simp only
    by_cases hn16 : n < 16
    · have p2 : (n : Int) < 16 := by omega
      have p1 : (0 : Int) ≤ (n : Int) := by omega
      have t1 : ((n : Nat) : Int).toNat = n := Int.toNat_natCast _
      have w1 : IntKind.i64.wrap ((n : Int) + 1) = (n : Int) + 1 := by rw [wrap_i64] <;> omega
      have g1 := ixR_get (E := E) hn16
      have hsn := aftA_snoc E r c n
      have hal := aftA_len hl r c n
      have hel := hl n
      have hRle := aftR_le r c n (E n)
      have hRR := hx n
      have hget : ∀ t (h : aftN r c n (E n) + t < (E n).length), (aftR r c n (E n)).take (t + 1) = (aftR r c n (E n)).take t ++ [⟨(n : Int) + 1, ((E n)[aftN r c n (E n) + t]'h).c⟩] := fun t h => aftR_get h
      have hRlen : (aftR r c n (E n)).length = (E n).length - aftN r c n (E n) := by unfold aftR; rw [List.length_map, List.length_drop]
      have ha : ∀ x : Nat, aftN r c n (E n) = x → (if (n : Int) + 1 < r then (E n).length else if (n : Int) + 1 = r then posE (E n) (c + 1) else 0) = x := fun x h => h
      generalize aftA E r c n = a at *
      generalize aftR r c n (E n) = R at *
      generalize hi0 : aftN r c n (E n) = i0 at *
      have hi1 := ha i0 rfl
      clear ha hi0
      generalize hL : E n = L at *
      clear hL hx hl
      have tkP : ∀ t, List.take (a.take m ++ R.take t).length ((a.take m ++ R.take t).map Ver.enc) = (a.take m ++ R.take t).map Ver.enc := fun t => take_ver
      by_cases c1 : (n : Int) + 1 < r
      · rw [if_pos c1] at hi1
        simp -implicitDefEqProofs (disch := (first | omega | decide)) only [go_sem, ↓reduceIte, seval, p1, p2, t1, w1, g1, c1, List.length_map]
        refine wpA_loop [2, 4, 16, 17, 8, 9] (ι := {t : Nat // i0 + t ≤ L.length ∧ (a.take m ++ R.take t).length ≤ m}) (fun p => [(10, .int .i64 ((i0 + p.1 : Nat) : Int)), (7, .row 1 0 2 (a.take m ++ R.take p.1).length false)]) (fun p => [(1, .row 2 ((a.take m ++ R.take p.1).map Ver.enc))]) (fun p => L.length - (i0 + p.1)) ⟨0, by omega, by rw [List.take_zero, List.append_nil, List.length_take]; omega⟩ (Nat.zero_le _) ?_ ?_
        · simp -implicitDefEqProofs (disch := (first | omega | decide)) only [go_sem, ↓reduceIte, seval]
          first | done | omega | (simp; omega) | (simp; done)
        · rintro ⟨t, ht, hm⟩
          simp only
          have hsz : (a.take m ++ R.take t).length ≤ 17000 := by rw [List.length_append, List.length_take, List.length_take]; omega
          have tk := tkP t
          by_cases h3 : i0 + t < L.length
          · have q1 : ((i0 + t : Nat) : Int) < (L.length : Int) := by omega
            have q2 : (0 : Int) ≤ ((i0 + t : Nat) : Int) := by omega
            have q3 : ((i0 + t : Nat) : Int).toNat = i0 + t := Int.toNat_natCast _
            have q4 : IntKind.i64.wrap (((i0 + t : Nat) : Int) + 1) = ((i0 + (t + 1) : Nat) : Int) := by rw [wrap_i64 (by omega)]; omega
            have e1 := en_get h3
            have hsn3 := hget t h3
            generalize L[i0 + t].c = cc at *
            generalize L[i0 + t].k = kk at *
            by_cases h4 : (a.take m ++ R.take t).length < m
            · have q5 : (((a.take m ++ R.take t).length : Nat) : Int) < most := (hlt _).2 h4
              have hnl : (a.take m ++ R.take (t + 1)).length = (a.take m ++ R.take t).length + 1 := by rw [hsn3, ← List.append_assoc, List.length_append]; rfl
              have hnm : (a.take m ++ R.take t).map Ver.enc ++ [.agg [.int .i64 ((n : Int) + 1), .int .i64 cc]] = (a.take m ++ R.take (t + 1)).map Ver.enc := by rw [hsn3, ← List.append_assoc]; exact row_ver _ _ _
              have hix : i0 + (t + 1) ≤ L.length ∧ (a.take m ++ R.take (t + 1)).length ≤ m := by omega
              generalize a.take m ++ R.take t = O at *
              generalize ((i0 + t : Nat) : Int) = z at *
              simp -implicitDefEqProofs (disch := (first | omega | decide)) only [go_sem, ↓reduceIte, seval, q1, q2, q3, q4, q5, e1, tk, w1, List.length_map]
              refine ⟨⟨Nat.le_refl _, by omega⟩, ⟨t + 1, hix⟩, ⟨⟨rfl, hnl.symm⟩, hnm⟩, by show L.length - (i0 + (t + 1)) < L.length - (i0 + t); omega⟩
            · have q5 : ¬ (((a.take m ++ R.take t).length : Nat) : Int) < most := fun h => h4 ((hlt _).1 h)
              have hfd := fill_done (a := a) (R := R) (m := m) (t := t) hm (.inr (by omega))
              rw [← hsn] at hfd
              generalize a.take m ++ R.take t = O at *
              generalize ((i0 + t : Nat) : Int) = z at *
              simp -implicitDefEqProofs (disch := (first | omega | decide)) only [go_sem, ↓reduceIte, seval, q1, q5, tk, w1, List.length_map]
              exact ⟨⟨n + 1, by omega⟩, ⟨⟨by simp, by rw [hfd]⟩, by rw [hfd]⟩, by show 16 - (n + 1) < 16 - n; omega⟩
          · have q1 : ¬ ((i0 + t : Nat) : Int) < (L.length : Int) := by omega
            have hfd := fill_done (a := a) (R := R) (m := m) (t := t) hm (.inl (by omega))
            rw [← hsn] at hfd
            generalize a.take m ++ R.take t = O at *
            generalize ((i0 + t : Nat) : Int) = z at *
            simp -implicitDefEqProofs (disch := (first | omega | decide)) only [go_sem, ↓reduceIte, seval, q1, tk, w1, List.length_map]
            exact ⟨⟨n + 1, by omega⟩, ⟨⟨by simp, by rw [hfd]⟩, by rw [hfd]⟩, by show 16 - (n + 1) < 16 - n; omega⟩
      · rw [if_neg c1] at hi1
        by_cases c2 : (n : Int) + 1 = r
        · rw [if_pos c2] at hi1
          have c2' : ((n : Int) + 1 == r) = true := by simpa using c2
          simp -implicitDefEqProofs (disch := (first | omega | decide)) only [go_sem, ↓reduceIte, seval, p1, p2, t1, w1, g1, c1, c2', List.length_map]
          refine wpA_loop [2, 4, 7, 16, 17, 8, 9] (ι := {i : Nat // i ≤ i0}) (fun p => [(10, .int .i64 p.1)]) (fun _ => []) (fun p => i0 - p.1) ⟨0, by omega⟩ (Nat.zero_le _) ?_ ?_
          · simp -implicitDefEqProofs (disch := (first | omega | decide)) only [go_sem, ↓reduceIte, seval]
            try omega
          · rintro ⟨i, hi⟩
            simp only
            obtain ⟨ps1, ps2⟩ := pos_split (n := c + 1) hRR
            rw [hi1] at ps1 ps2
            have q2 : (0 : Int) ≤ (i : Int) := by omega
            have q3 : ((i : Nat) : Int).toNat = i := Int.toNat_natCast _
            have q4 : IntKind.i64.wrap ((i : Int) + 1) = (i : Int) + 1 := by rw [wrap_i64 (by omega)]
            by_cases h2 : i < L.length
            · have q1 : (i : Int) < (L.length : Int) := by omega
              have e1 := en_get h2
              by_cases hie : i < i0
              · have hle : L[i].c ≤ c := by
                  have := ps1 L[i] (by rw [List.mem_take_iff_getElem]; exact ⟨i, by omega, rfl⟩)
                  omega
                generalize L[i] = x at *
                obtain ⟨cx, kx⟩ := x
                simp only at e1 hle
                clear ps1 ps2
                simp -implicitDefEqProofs (disch := (first | omega | decide)) only [go_sem, ↓reduceIte, seval, q1, q2, q3, q4, e1, hle, List.length_map]
                exact ⟨⟨i + 1, by omega⟩, by simp, by show i0 - (i + 1) < i0 - i; omega⟩
              · obtain rfl : i = i0 := by omega
                have hle : ¬ L[i].c ≤ c := by
                  have := ps2 L[i] (by rw [List.drop_eq_getElem_cons h2]; exact List.mem_cons_self)
                  omega
                generalize L[i] = x at *
                obtain ⟨cx, kx⟩ := x
                simp only at e1 hle
                clear ps1 ps2
                simp -implicitDefEqProofs (disch := (first | omega | decide)) only [go_sem, ↓reduceIte, seval, q1, q2, q3, q4, e1, hle, List.length_map]
                clear e1 hle
                generalize i = i0 at *
                refine wpA_loop [2, 4, 16, 17, 8, 9] (ι := {t : Nat // i0 + t ≤ L.length ∧ (a.take m ++ R.take t).length ≤ m}) (fun p => [(10, .int .i64 ((i0 + p.1 : Nat) : Int)), (7, .row 1 0 2 (a.take m ++ R.take p.1).length false)]) (fun p => [(1, .row 2 ((a.take m ++ R.take p.1).map Ver.enc))]) (fun p => L.length - (i0 + p.1)) ⟨0, by omega, by rw [List.take_zero, List.append_nil, List.length_take]; omega⟩ (Nat.zero_le _) ?_ ?_
                · simp -implicitDefEqProofs (disch := (first | omega | decide)) only [go_sem, ↓reduceIte, seval]
                  first | done | omega | (simp; omega) | (simp; done)
                · rintro ⟨t, ht, hm⟩
                  simp only
                  have hsz : (a.take m ++ R.take t).length ≤ 17000 := by rw [List.length_append, List.length_take, List.length_take]; omega
                  have tk := tkP t
                  by_cases h3 : i0 + t < L.length
                  · have q1 : ((i0 + t : Nat) : Int) < (L.length : Int) := by omega
                    have q2 : (0 : Int) ≤ ((i0 + t : Nat) : Int) := by omega
                    have q3 : ((i0 + t : Nat) : Int).toNat = i0 + t := Int.toNat_natCast _
                    have q4 : IntKind.i64.wrap (((i0 + t : Nat) : Int) + 1) = ((i0 + (t + 1) : Nat) : Int) := by rw [wrap_i64 (by omega)]; omega
                    have e1 := en_get h3
                    have hsn3 := hget t h3
                    generalize L[i0 + t].c = cc at *
                    generalize L[i0 + t].k = kk at *
                    by_cases h4 : (a.take m ++ R.take t).length < m
                    · have q5 : (((a.take m ++ R.take t).length : Nat) : Int) < most := (hlt _).2 h4
                      have hnl : (a.take m ++ R.take (t + 1)).length = (a.take m ++ R.take t).length + 1 := by rw [hsn3, ← List.append_assoc, List.length_append]; rfl
                      have hnm : (a.take m ++ R.take t).map Ver.enc ++ [.agg [.int .i64 ((n : Int) + 1), .int .i64 cc]] = (a.take m ++ R.take (t + 1)).map Ver.enc := by rw [hsn3, ← List.append_assoc]; exact row_ver _ _ _
                      have hix : i0 + (t + 1) ≤ L.length ∧ (a.take m ++ R.take (t + 1)).length ≤ m := by omega
                      generalize a.take m ++ R.take t = O at *
                      generalize ((i0 + t : Nat) : Int) = z at *
                      simp -implicitDefEqProofs (disch := (first | omega | decide)) only [go_sem, ↓reduceIte, seval, q1, q2, q3, q4, q5, e1, tk, w1, List.length_map]
                      refine ⟨⟨Nat.le_refl _, by omega⟩, ⟨t + 1, hix⟩, ⟨⟨rfl, hnl.symm⟩, hnm⟩, by show L.length - (i0 + (t + 1)) < L.length - (i0 + t); omega⟩
                    · have q5 : ¬ (((a.take m ++ R.take t).length : Nat) : Int) < most := fun h => h4 ((hlt _).1 h)
                      have hfd := fill_done (a := a) (R := R) (m := m) (t := t) hm (.inr (by omega))
                      rw [← hsn] at hfd
                      generalize a.take m ++ R.take t = O at *
                      generalize ((i0 + t : Nat) : Int) = z at *
                      simp -implicitDefEqProofs (disch := (first | omega | decide)) only [go_sem, ↓reduceIte, seval, q1, q5, tk, w1, List.length_map]
                      exact ⟨⟨n + 1, by omega⟩, ⟨⟨by simp, by rw [hfd]⟩, by rw [hfd]⟩, by show 16 - (n + 1) < 16 - n; omega⟩
                  · have q1 : ¬ ((i0 + t : Nat) : Int) < (L.length : Int) := by omega
                    have hfd := fill_done (a := a) (R := R) (m := m) (t := t) hm (.inl (by omega))
                    rw [← hsn] at hfd
                    generalize a.take m ++ R.take t = O at *
                    generalize ((i0 + t : Nat) : Int) = z at *
                    simp -implicitDefEqProofs (disch := (first | omega | decide)) only [go_sem, ↓reduceIte, seval, q1, tk, w1, List.length_map]
                    exact ⟨⟨n + 1, by omega⟩, ⟨⟨by simp, by rw [hfd]⟩, by rw [hfd]⟩, by show 16 - (n + 1) < 16 - n; omega⟩
            · have q1 : ¬ (i : Int) < (L.length : Int) := by omega
              obtain rfl : i = i0 := by omega
              clear ps1 ps2
              simp -implicitDefEqProofs (disch := (first | omega | decide)) only [go_sem, ↓reduceIte, seval, q1, q2, q3, q4, List.length_map]
              generalize i = i0 at *
              refine wpA_loop [2, 4, 16, 17, 8, 9] (ι := {t : Nat // i0 + t ≤ L.length ∧ (a.take m ++ R.take t).length ≤ m}) (fun p => [(10, .int .i64 ((i0 + p.1 : Nat) : Int)), (7, .row 1 0 2 (a.take m ++ R.take p.1).length false)]) (fun p => [(1, .row 2 ((a.take m ++ R.take p.1).map Ver.enc))]) (fun p => L.length - (i0 + p.1)) ⟨0, by omega, by rw [List.take_zero, List.append_nil, List.length_take]; omega⟩ (Nat.zero_le _) ?_ ?_
              · simp -implicitDefEqProofs (disch := (first | omega | decide)) only [go_sem, ↓reduceIte, seval]
                first | done | omega | (simp; omega) | (simp; done)
              · rintro ⟨t, ht, hm⟩
                simp only
                have hsz : (a.take m ++ R.take t).length ≤ 17000 := by rw [List.length_append, List.length_take, List.length_take]; omega
                have tk := tkP t
                by_cases h3 : i0 + t < L.length
                · have q1 : ((i0 + t : Nat) : Int) < (L.length : Int) := by omega
                  have q2 : (0 : Int) ≤ ((i0 + t : Nat) : Int) := by omega
                  have q3 : ((i0 + t : Nat) : Int).toNat = i0 + t := Int.toNat_natCast _
                  have q4 : IntKind.i64.wrap (((i0 + t : Nat) : Int) + 1) = ((i0 + (t + 1) : Nat) : Int) := by rw [wrap_i64 (by omega)]; omega
                  have e1 := en_get h3
                  have hsn3 := hget t h3
                  generalize L[i0 + t].c = cc at *
                  generalize L[i0 + t].k = kk at *
                  by_cases h4 : (a.take m ++ R.take t).length < m
                  · have q5 : (((a.take m ++ R.take t).length : Nat) : Int) < most := (hlt _).2 h4
                    have hnl : (a.take m ++ R.take (t + 1)).length = (a.take m ++ R.take t).length + 1 := by rw [hsn3, ← List.append_assoc, List.length_append]; rfl
                    have hnm : (a.take m ++ R.take t).map Ver.enc ++ [.agg [.int .i64 ((n : Int) + 1), .int .i64 cc]] = (a.take m ++ R.take (t + 1)).map Ver.enc := by rw [hsn3, ← List.append_assoc]; exact row_ver _ _ _
                    have hix : i0 + (t + 1) ≤ L.length ∧ (a.take m ++ R.take (t + 1)).length ≤ m := by omega
                    generalize a.take m ++ R.take t = O at *
                    generalize ((i0 + t : Nat) : Int) = z at *
                    simp -implicitDefEqProofs (disch := (first | omega | decide)) only [go_sem, ↓reduceIte, seval, q1, q2, q3, q4, q5, e1, tk, w1, List.length_map]
                    refine ⟨⟨Nat.le_refl _, by omega⟩, ⟨t + 1, hix⟩, ⟨⟨rfl, hnl.symm⟩, hnm⟩, by show L.length - (i0 + (t + 1)) < L.length - (i0 + t); omega⟩
                  · have q5 : ¬ (((a.take m ++ R.take t).length : Nat) : Int) < most := fun h => h4 ((hlt _).1 h)
                    have hfd := fill_done (a := a) (R := R) (m := m) (t := t) hm (.inr (by omega))
                    rw [← hsn] at hfd
                    generalize a.take m ++ R.take t = O at *
                    generalize ((i0 + t : Nat) : Int) = z at *
                    simp -implicitDefEqProofs (disch := (first | omega | decide)) only [go_sem, ↓reduceIte, seval, q1, q5, tk, w1, List.length_map]
                    exact ⟨⟨n + 1, by omega⟩, ⟨⟨by simp, by rw [hfd]⟩, by rw [hfd]⟩, by show 16 - (n + 1) < 16 - n; omega⟩
                · have q1 : ¬ ((i0 + t : Nat) : Int) < (L.length : Int) := by omega
                  have hfd := fill_done (a := a) (R := R) (m := m) (t := t) hm (.inl (by omega))
                  rw [← hsn] at hfd
                  generalize a.take m ++ R.take t = O at *
                  generalize ((i0 + t : Nat) : Int) = z at *
                  simp -implicitDefEqProofs (disch := (first | omega | decide)) only [go_sem, ↓reduceIte, seval, q1, tk, w1, List.length_map]
                  exact ⟨⟨n + 1, by omega⟩, ⟨⟨by simp, by rw [hfd]⟩, by rw [hfd]⟩, by show 16 - (n + 1) < 16 - n; omega⟩
        · rw [if_neg c2] at hi1
          have c2' : ((n : Int) + 1 == r) = false := by simpa using c2
          simp -implicitDefEqProofs (disch := (first | omega | decide)) only [go_sem, ↓reduceIte, seval, p1, p2, t1, w1, g1, c1, c2', List.length_map]
          refine wpA_loop [2, 4, 16, 17, 8, 9] (ι := {t : Nat // i0 + t ≤ L.length ∧ (a.take m ++ R.take t).length ≤ m}) (fun p => [(10, .int .i64 ((i0 + p.1 : Nat) : Int)), (7, .row 1 0 2 (a.take m ++ R.take p.1).length false)]) (fun p => [(1, .row 2 ((a.take m ++ R.take p.1).map Ver.enc))]) (fun p => L.length - (i0 + p.1)) ⟨0, by omega, by rw [List.take_zero, List.append_nil, List.length_take]; omega⟩ (Nat.zero_le _) ?_ ?_
          · simp -implicitDefEqProofs (disch := (first | omega | decide)) only [go_sem, ↓reduceIte, seval]
            first | done | omega | (simp; omega) | (simp; done)
          · rintro ⟨t, ht, hm⟩
            simp only
            have hsz : (a.take m ++ R.take t).length ≤ 17000 := by rw [List.length_append, List.length_take, List.length_take]; omega
            have tk := tkP t
            by_cases h3 : i0 + t < L.length
            · have q1 : ((i0 + t : Nat) : Int) < (L.length : Int) := by omega
              have q2 : (0 : Int) ≤ ((i0 + t : Nat) : Int) := by omega
              have q3 : ((i0 + t : Nat) : Int).toNat = i0 + t := Int.toNat_natCast _
              have q4 : IntKind.i64.wrap (((i0 + t : Nat) : Int) + 1) = ((i0 + (t + 1) : Nat) : Int) := by rw [wrap_i64 (by omega)]; omega
              have e1 := en_get h3
              have hsn3 := hget t h3
              generalize L[i0 + t].c = cc at *
              generalize L[i0 + t].k = kk at *
              by_cases h4 : (a.take m ++ R.take t).length < m
              · have q5 : (((a.take m ++ R.take t).length : Nat) : Int) < most := (hlt _).2 h4
                have hnl : (a.take m ++ R.take (t + 1)).length = (a.take m ++ R.take t).length + 1 := by rw [hsn3, ← List.append_assoc, List.length_append]; rfl
                have hnm : (a.take m ++ R.take t).map Ver.enc ++ [.agg [.int .i64 ((n : Int) + 1), .int .i64 cc]] = (a.take m ++ R.take (t + 1)).map Ver.enc := by rw [hsn3, ← List.append_assoc]; exact row_ver _ _ _
                have hix : i0 + (t + 1) ≤ L.length ∧ (a.take m ++ R.take (t + 1)).length ≤ m := by omega
                generalize a.take m ++ R.take t = O at *
                generalize ((i0 + t : Nat) : Int) = z at *
                simp -implicitDefEqProofs (disch := (first | omega | decide)) only [go_sem, ↓reduceIte, seval, q1, q2, q3, q4, q5, e1, tk, w1, List.length_map]
                refine ⟨⟨Nat.le_refl _, by omega⟩, ⟨t + 1, hix⟩, ⟨⟨rfl, hnl.symm⟩, hnm⟩, by show L.length - (i0 + (t + 1)) < L.length - (i0 + t); omega⟩
              · have q5 : ¬ (((a.take m ++ R.take t).length : Nat) : Int) < most := fun h => h4 ((hlt _).1 h)
                have hfd := fill_done (a := a) (R := R) (m := m) (t := t) hm (.inr (by omega))
                rw [← hsn] at hfd
                generalize a.take m ++ R.take t = O at *
                generalize ((i0 + t : Nat) : Int) = z at *
                simp -implicitDefEqProofs (disch := (first | omega | decide)) only [go_sem, ↓reduceIte, seval, q1, q5, tk, w1, List.length_map]
                exact ⟨⟨n + 1, by omega⟩, ⟨⟨by simp, by rw [hfd]⟩, by rw [hfd]⟩, by show 16 - (n + 1) < 16 - n; omega⟩
            · have q1 : ¬ ((i0 + t : Nat) : Int) < (L.length : Int) := by omega
              have hfd := fill_done (a := a) (R := R) (m := m) (t := t) hm (.inl (by omega))
              rw [← hsn] at hfd
              generalize a.take m ++ R.take t = O at *
              generalize ((i0 + t : Nat) : Int) = z at *
              simp -implicitDefEqProofs (disch := (first | omega | decide)) only [go_sem, ↓reduceIte, seval, q1, tk, w1, List.length_map]
              exact ⟨⟨n + 1, by omega⟩, ⟨⟨by simp, by rw [hfd]⟩, by rw [hfd]⟩, by show 16 - (n + 1) < 16 - n; omega⟩
    · have p2 : ¬ (n : Int) < 16 := by omega
      obtain rfl : n = 16 := by omega
      simp -implicitDefEqProofs (disch := (first | omega | decide)) only [go_sem, ↓reduceIte, seval, p2, List.length_map, Nat.le_refl]
theorem aftA_none (r c : Int) : ∀ k, aftA (fun _ => []) r c k = []
  | 0 => rfl
  | k + 1 => by rw [aftA_snoc, aftA_none r c k]; simp [aftR]
theorem c_After_none (r c most : Int) : CallA Try.prog 12 [.nilp, .agg [.int .i64 r, .int .i64 c], .int .i64 most] (· = .slc []) := by
  refine callA_of_body X22g_ok mixed Try.func12 rfl (Nat.le_of_ble_eq_true rfl) ok_index_Index_After ?_
  unfold Try.f12
  simp -implicitDefEqProofs (disch := (first | omega | decide)) only [go_sem, ↓reduceIte, seval]
theorem c_After (x : IxO) (r c most : Int) (hx : ixOK x) : CallA Try.prog 12 [ixA x, .agg [.int .i64 r, .int .i64 c], .int .i64 most] (· = .slc (((aftA (ixE x) r c 16).take most.toNat).map Ver.enc)) := by
  rcases x with _ | ⟨E, m⟩
  · have e : ((aftA (ixE none) r c 16).take most.toNat).map Ver.enc = [] := by
      show ((aftA (fun _ => []) r c 16).take most.toNat).map Ver.enc = []
      rw [aftA_none]; simp
    rw [e]
    exact c_After_none r c most
  · exact c_After_some E m r c most hx.1 hx.2
@[go_sem] theorem take_run {l : List Run} : List.take l.length (l.map Run.enc) = l.map Run.enc := List.take_of_length_le (by simp)
def okT (R : List Run) (c : Int) (T : List Run) : Prop := ∃ j, T = R.drop j ∧ ∀ r ∈ R.take j, r.t < c
theorem okT_all (R : List Run) (c : Int) : okT R c R := ⟨0, rfl, by simp⟩
theorem okT_mono {R T : List Run} {c c' : Int} (h : okT R c T) (hc : c ≤ c') : okT R c' T := by
  obtain ⟨j, h1, h2⟩ := h
  exact ⟨j, h1, fun r hr => by have := h2 r hr; omega⟩
theorem okT_at {R T : List Run} {r : Run} {c : Int} (h : okT R c (r :: T)) : ∃ j, ∃ hj : j < R.length, R[j] = r ∧ T = R.drop (j + 1) ∧ ∀ r ∈ R.take j, r.t < c := by
  obtain ⟨j, h1, h2⟩ := h
  have hj : j < R.length := by
    have := congrArg List.length h1
    rw [List.length_drop, List.length_cons] at this; omega
  rw [List.drop_eq_getElem_cons hj] at h1
  injection h1 with e1 e2
  exact ⟨j, hj, e1.symm, e2, h2⟩
theorem okT_step {R T : List Run} {r : Run} {c : Int} (h : okT R c (r :: T)) (hr : r.t < c) : okT R c T := by
  obtain ⟨j, hj, e1, e2, h2⟩ := okT_at h
  refine ⟨j + 1, e2, fun q hq => ?_⟩
  rw [← List.take_append_getElem hj] at hq
  rcases List.mem_append.1 hq with hq | hq
  · exact h2 q hq
  · simp only [List.mem_cons, List.not_mem_nil, or_false] at hq
    rw [hq, e1]; exact hr
theorem okT_nil {R : List Run} {c : Int} (h : okT R c []) : hasL13 R c = false := by
  obtain ⟨j, h1, h2⟩ := h
  exact unk_none h2 (by have := congrArg List.length h1; rw [List.length_drop, List.length_nil] at this; omega)
theorem okT_ahead {R T : List Run} {r : Run} {c : Int} (hR : rightL R = true) (h : okT R c (r :: T)) (hc : c < r.f) : hasL13 R c = false := by
  obtain ⟨j, hj, e1, _, h2⟩ := okT_at h
  exact unk_ahead hR h2 hj (by rw [e1]; exact hc)
theorem okT_in {R T : List Run} {r : Run} {c : Int} (hR : rightL R = true) (h : okT R c (r :: T)) (hc : ¬ c < r.f) (ht : ¬ r.t < c) : hasL13 R c = true := by
  obtain ⟨j, hj, e1, _, h2⟩ := okT_at h
  exact unk_in hR hj (by rw [e1]; omega) (by rw [e1]; omega)
theorem unkR_len (p : Int → Bool) (n : Nat) (es : List En) : (unkR p n es).length ≤ es.length := by
  unfold unkR
  rw [List.length_map]; exact List.length_filter_le _ _
theorem unkA_len {E : Nat → List En} (h : ∀ i, (E i).length ≤ 1000) (s : List Known) : ∀ k, (unkA E s k).length ≤ k * 1000
  | 0 => by simp [unkA]
  | k + 1 => by
    have h1 := unkA_len h s k
    have h2 := unkR_len (hasL13 (runsK s ((k : Nat) + 1))) k (E k)
    have h3 := h k
    rw [unkA_snoc, List.length_append]; omega
theorem unkR_snoc {p : Int → Bool} {n : Nat} {es : List En} {k : Nat} (h : k < es.length) : unkR p n (es.take (k + 1)) = unkR p n (es.take k) ++ (if p es[k].c = true then [] else [⟨(n : Int) + 1, es[k].c⟩]) := by
  unfold unkR
  rw [← List.take_append_getElem h, List.filter_append, List.map_append]
  congr 1
  cases hp : p es[k].c <;> simp [hp, verE]
noncomputable def X22u : Tab := { X22g with eff := fun f => f == 23, frz := fun f => f == 23 }
theorem X22u_ok : TabOK Try.prog X22u := ⟨X22g_ok.f, X22g_ok.hp⟩
@[go_sem] theorem X22u_f : X22u.f = X22g.f := rfl
@[go_sem] theorem X22u_eff {g : FuncId} : X22u.eff g = (g == 23) := rfl
@[go_sem] theorem X22u_frz {g : FuncId} : X22u.frz g = (g == 23) := rfl
@[go_sem] theorem X22u_fix {n : Nat} : X22u.fix n = false := rfl
@[go_sem] theorem X22u_ords {n : Nat} : X22u.ords n = [] := rfl
theorem ok_index_Index_Unknown : codeOK Try.prog X22u Try.f10.ntmps (Try.f10.body.getD .skip) = true := by kernel_rfl
theorem c_Unknown_some (E : Nat → List En) (mm : Int) (s : List Known) (hx : RowsR E) (hl : ∀ i, (E i).length ≤ 1000) (hs : smallK s) : CallA Try.prog 10 [.dptr (ixC E mm), .slc (s.map Known.enc)] (· = .slc ((unkA E s 16).map Ver.enc)) := by
  refine callA_of_body X22u_ok mixed Try.func10 rfl (Nat.le_of_ble_eq_true rfl) ok_index_Index_Unknown ?_
  unfold Try.f10
  obtain ⟨hs1, hs2⟩ := hs
  simp -implicitDefEqProofs (disch := (first | omega | decide)) only [go_sem, ↓reduceIte, seval]
  refine wpA_loop_nil 5 2 rfl ?_
  refine wpA_loop [1, 18] (ι := {k : Nat // k ≤ 16}) (fun p => [(19, .int .i64 p.1), (5, .row 0 0 2 (unkA E s p.1).length false)]) (fun p => [(0, .row 2 ((unkA E s p.1).map Ver.enc))]) (fun p => 16 - p.1) ⟨0, by omega⟩ (Nat.zero_le _) ?_ ?_
  · simp -implicitDefEqProofs (disch := (first | omega | decide)) only [go_sem, ↓reduceIte, seval]
    first | done | (simp [unkA]; done)
  · rintro ⟨n, hn⟩
    simp only
    by_cases hn16 : n < 16
    · have p2 : (n : Int) < 16 := by omega
      have p1 : (0 : Int) ≤ (n : Int) := by omega
      have t1 : ((n : Nat) : Int).toNat = n := Int.toNat_natCast _
      have w1 : IntKind.i64.wrap ((n : Int) + 1) = (n : Int) + 1 := by rw [wrap_i64] <;> omega
      have g1 := ixR_get (E := E) hn16
      have hsn := unkA_snoc E s n
      have hal := unkA_len hl s n
      have hel := hl n
      have hRR := hx n
      have tka : List.take (unkA E s n).length ((unkA E s n).map Ver.enc) = (unkA E s n).map Ver.enc := take_ver
      generalize unkA E s n = a at *
      generalize hL : E n = L at *
      clear hL hx hl
      simp -implicitDefEqProofs (disch := (first | omega | decide)) only [go_sem, ↓reduceIte, seval, p1, p2, t1, w1, g1, List.length_map]
      refine wpA_loop_nil 8 2 rfl ?_
      refine wpA_loop [1, 5, 18, 19, 6, 7, 23, 24] (ι := {k : Nat // k ≤ s.length}) (fun p => [(25, .int .i64 p.1), (8, .row 1 0 2 (runsK (s.take p.1) ((n : Nat) + 1)).length false)]) (fun p => [(1, .row 2 ((runsK (s.take p.1) ((n : Nat) + 1)).map Run.enc))]) (fun p => s.length - p.1) ⟨0, by omega⟩ (Nat.zero_le _) ?_ ?_
      · simp -implicitDefEqProofs (disch := (first | omega | decide)) only [go_sem, ↓reduceIte, seval]
        first | done | (simp [runsK]; done)
      · rintro ⟨k, hk⟩
        simp only
        by_cases hlt : k < s.length
        · have hlt' : (k : Int) < (s.length : Int) := by omega
          have e1 := known_get hlt
          have hm := sumK_take hlt
          have hrk := runsK_snoc hlt ((n : Int) + 1)
          have hrl := runsK_len (s.take k) ((n : Int) + 1)
          generalize hxx : s[k] = x at *
          obtain ⟨q, rs⟩ := x
          simp only at hm hrk e1
          have st := stRuns rs
          have tk : List.take (runsK (s.take k) ((n : Int) + 1)).length ((runsK (s.take k) ((n : Int) + 1)).map Run.enc) = (runsK (s.take k) ((n : Int) + 1)).map Run.enc := take_run
          by_cases hq : q = (n : Int) + 1
          · have hq' : (q == (n : Int) + 1) = true := by simpa using hq
            rw [if_pos hq] at hrk
            have hrk2 : (runsK (s.take (k + 1)) ((n : Int) + 1)).map Run.enc = (runsK (s.take k) ((n : Int) + 1)).map Run.enc ++ rs.map Run.enc := by rw [hrk, List.map_append]
            have hrk3 : (runsK (s.take (k + 1)) ((n : Int) + 1)).length = (runsK (s.take k) ((n : Int) + 1)).length + rs.length := by rw [hrk, List.length_append]
            simp -implicitDefEqProofs (disch := (first | omega | decide)) only [go_sem, ↓reduceIte, seval, hlt', e1, hq', st, tk, w1, wrap_i64, List.length_map]
            exact ⟨⟨Nat.le_refl _, by omega⟩, ⟨k + 1, hlt⟩, ⟨⟨by simp, hrk3.symm⟩, hrk2.symm⟩, by show s.length - (k + 1) < s.length - k; omega⟩
          · have hq' : (q == (n : Int) + 1) = false := by simpa using hq
            rw [if_neg hq, List.append_nil] at hrk
            simp -implicitDefEqProofs (disch := (first | omega | decide)) only [go_sem, ↓reduceIte, seval, hlt', e1, hq', w1, wrap_i64, List.length_map]
            exact ⟨⟨k + 1, hlt⟩, ⟨⟨by simp, by rw [hrk]⟩, by rw [hrk]⟩, by show s.length - (k + 1) < s.length - k; omega⟩
        · have hlt' : ¬ (k : Int) < (s.length : Int) := by omega
          have e0 : s.take k = s := List.take_of_length_le (by omega)
          rw [e0]
          have hrl := runsK_len s ((n : Int) + 1)
          have gO := C13L4_counts_Of (runsK s ((n : Int) + 1)) (by omega)
          have tk : List.take (runsK s ((n : Int) + 1)).length ((runsK s ((n : Int) + 1)).map Run.enc) = (runsK s ((n : Int) + 1)).map Run.enc := take_run
          have hRt : rightL (setR (hasL13 (runsK s ((n : Int) + 1)))) = true := setR_right _
          have hRh : ∀ c, hasL13 (setR (hasL13 (runsK s ((n : Int) + 1)))) c = hasL13 (runsK s ((n : Int) + 1)) c := fun c => setR_has (isR_has _) c
          generalize setR (hasL13 (runsK s ((n : Int) + 1))) = R at *
          generalize hasL13 (runsK s ((n : Int) + 1)) = P at *
          generalize runsK s ((n : Int) + 1) = Q at *
          simp -implicitDefEqProofs (disch := (first | omega | decide)) only [go_sem, ↓reduceIte, seval, hlt', gO, tk, List.length_map, Nat.le_refl]
          refine wpA_loop [1, 18, 19, 6, 7, 41, 42] (ι := {p : Nat × List Run // p.1 ≤ L.length ∧ ∀ h : p.1 < L.length, okT R L[p.1].c p.2}) (fun p => [(43, .int .i64 p.1.1), (8, .slc (p.1.2.map Run.enc)), (5, .row 0 0 2 (a ++ unkR P n (L.take p.1.1)).length false)]) (fun p => [(0, .row 2 ((a ++ unkR P n (L.take p.1.1)).map Ver.enc))]) (fun p => L.length - p.1.1) ⟨(0, R), by omega, fun h => okT_all _ _⟩ (Nat.zero_le _) ?_ ?_
          · simp -implicitDefEqProofs (disch := (first | omega | decide)) only [go_sem, ↓reduceIte, seval]
            first | done | (simp [unkR]; done)
          · rintro ⟨⟨k2, T⟩, hk2, hT⟩
            simp only at hk2 hT ⊢
            have hul : (a ++ unkR P n (L.take k2)).length ≤ 17000 := by
              have := unkR_len P n (L.take k2)
              rw [List.length_take] at this
              rw [List.length_append]; omega
            have tko : List.take (a ++ unkR P n (L.take k2)).length ((a ++ unkR P n (L.take k2)).map Ver.enc) = (a ++ unkR P n (L.take k2)).map Ver.enc := take_ver
            by_cases hl2 : k2 < L.length
            · have q1 : (k2 : Int) < (L.length : Int) := by omega
              have q2 : (0 : Int) ≤ (k2 : Int) := by omega
              have q3 : ((k2 : Nat) : Int).toNat = k2 := Int.toNat_natCast _
              have q4 : IntKind.i64.wrap ((k2 : Int) + 1) = (k2 : Int) + 1 := by rw [wrap_i64] <;> omega
              have e2 := en_get hl2
              have hT := hT hl2
              have hnx : ∀ T', okT R L[k2].c T' → ∀ h : k2 + 1 < L.length, okT R L[k2 + 1].c T' := fun T' h' h => okT_mono h' (by have := List.pairwise_iff_getElem.1 hRR.1 k2 (k2 + 1) hl2 h (by omega); omega)
              have hus := unkR_snoc (p := P) (n := n) hl2
              generalize L[k2].c = cc at *
              generalize L[k2].k = kk at *
              simp -implicitDefEqProofs (disch := (first | omega | decide)) only [go_sem, ↓reduceIte, seval, q1, q2, q3, q4, e2, List.length_map]
              refine wpA_loop [1, 18, 19, 6, 7, 41, 42, 43, 5, 12] (ι := {T : List Run // okT R cc T}) (fun p => [(8, .slc (p.1.map Run.enc))]) (fun _ => []) (fun p => p.1.length) ⟨T, hT⟩ (Nat.zero_le _) ?_ ?_
              · simp -implicitDefEqProofs (disch := (first | omega | decide)) only [go_sem, ↓reduceIte, seval]
              · rintro ⟨T', hT'⟩
                simp only
                cases T' with
                | nil =>
                  have hno := okT_nil hT'
                  rw [hRh] at hno
                  rw [hno] at hus
                  simp -implicitDefEqProofs (disch := (first | omega | decide)) only [go_sem, ↓reduceIte, seval, q1, q2, q3, q4, e2, tko, w1, List.length_map]
                  refine ⟨⟨Nat.le_refl _, by omega⟩, ⟨(k2 + 1, []), by simp only; omega, hnx _ hT'⟩, ⟨⟨by simp, rfl, by rw [hus]; simp; omega⟩, by rw [hus, ← List.append_assoc]; exact row_ver _ _ _⟩, by show L.length - (k2 + 1) < L.length - k2; omega⟩
                | cons r T' =>
                  have st := stRuns (r :: T')
                  have q5 : (0 : Int) < ((T'.length + 1 : Nat) : Int) := by omega
                  have q6 : (((T'.length + 1 : Nat) : Int) == 0) = false := by simp; omega
                  obtain ⟨rf, rt⟩ := r
                  by_cases hlt2 : rt < cc
                  · have hs := okT_step hT' hlt2
                    simp -implicitDefEqProofs (maxSteps := 600000) (disch := (first | omega | decide)) only [go_sem, ↓reduceIte, seval, q5, q6, hlt2, List.length_map]
                    exact ⟨⟨by omega, Int.le_refl _⟩, ⟨T', hs⟩, rfl, by simp⟩
                  · by_cases hf : cc < rf
                    · have hno := okT_ahead hRt hT' hf
                      rw [hRh] at hno
                      rw [hno] at hus
                      simp -implicitDefEqProofs (maxSteps := 600000) (disch := (first | omega | decide)) only [go_sem, ↓reduceIte, seval, q1, q2, q3, q4, q5, q6, hlt2, hf, e2, tko, w1, List.length_map]
                      refine ⟨⟨Nat.le_refl _, by omega⟩, ⟨(k2 + 1, ⟨rf, rt⟩ :: T'), by simp only; omega, hnx _ hT'⟩, ⟨⟨by simp, rfl, by rw [hus]; simp; omega⟩, by rw [hus, ← List.append_assoc]; exact row_ver _ _ _⟩, by show L.length - (k2 + 1) < L.length - k2; omega⟩
                    · have hno := okT_in hRt hT' hf hlt2
                      rw [hRh] at hno
                      rw [hno] at hus
                      simp -implicitDefEqProofs (maxSteps := 600000) (disch := (first | omega | decide)) only [go_sem, ↓reduceIte, seval, q1, q2, q3, q4, q5, q6, hlt2, hf, e2, tko, w1, List.length_map]
                      simp only [if_pos, List.append_nil] at hus
                      exact ⟨⟨(k2 + 1, ⟨rf, rt⟩ :: T'), by simp only; omega, hnx _ hT'⟩, ⟨⟨by simp, rfl, by rw [hus]⟩, by rw [hus]⟩, by show L.length - (k2 + 1) < L.length - k2; omega⟩
            · have q1 : ¬ (k2 : Int) < (L.length : Int) := by omega
              have e3 : L.take k2 = L := List.take_of_length_le (by omega)
              have hf : a ++ unkR P n L = unkA E s (n + 1) := hsn.symm
              rw [e3, hf]
              simp -implicitDefEqProofs (disch := (first | omega | decide)) only [go_sem, ↓reduceIte, seval, q1, w1, List.length_map]
              exact ⟨⟨n + 1, by omega⟩, ⟨by simp, rfl⟩, by show 16 - (n + 1) < 16 - n; omega⟩
    · have p2 : ¬ (n : Int) < 16 := by omega
      obtain rfl : n = 16 := by omega
      simp -implicitDefEqProofs (disch := (first | omega | decide)) only [go_sem, ↓reduceIte, seval, p2, List.length_map, Nat.le_refl]
theorem unkA_none (s : List Known) : ∀ k, unkA (fun _ => []) s k = []
  | 0 => rfl
  | k + 1 => by rw [unkA_snoc, unkA_none s k]; simp [unkR]
theorem c_Unknown_none (x : A) : CallA Try.prog 10 [.nilp, x] (· = .slc []) := by
  refine callA_of_body X22u_ok mixed Try.func10 rfl (Nat.le_of_ble_eq_true rfl) ok_index_Index_Unknown ?_
  unfold Try.f10
  simp -implicitDefEqProofs (disch := (first | omega | decide)) only [go_sem, ↓reduceIte, seval]
theorem c_Unknown (x : IxO) (s : List Known) (hx : ixOK x) (hs : smallK s) : CallA Try.prog 10 [ixA x, .slc (s.map Known.enc)] (· = .slc ((unkA (ixE x) s 16).map Ver.enc)) := by
  rcases x with _ | ⟨E, m⟩
  · have e : (unkA (ixE none) s 16).map Ver.enc = [] := by
      show (unkA (fun _ => []) s 16).map Ver.enc = []
      rw [unkA_none]; rfl
    rw [e]
    exact c_Unknown_none _
  · exact c_Unknown_some E m s hx.1 hx.2 hs
end Go.Proofs.Yteconeampdidaaa
