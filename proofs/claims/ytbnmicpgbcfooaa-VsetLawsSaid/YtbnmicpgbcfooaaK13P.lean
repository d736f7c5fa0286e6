/- Chapter 13: right lists of runs are told by what they have. Plain Lean. -/
import Derived.Test.YtbnmicpgbcfooaaK13B
namespace Go.Proofs.Ytbnmicpgbcfooaa
open Go.Abs
set_option linter.unusedSimpArgs false
set_option linter.unusedVariables false

def inR (r : Run) (n : Int) : Bool := decide (r.f ≤ n) && decide (n ≤ r.t)
/-- Right, the last run first. -/
def RR : List Run → Prop
  | [] => True
  | [r] => oneR r = true
  | r :: q :: l => oneR r = true ∧ q.t + 2 ≤ r.f ∧ RR (q :: l)
theorem oneR_iff {r : Run} : oneR r = true ↔ 1 ≤ r.f ∧ r.f ≤ r.t ∧ r.t ≤ 1099511627776 := by simp [oneR, and_assoc]
theorem goR_snoc : ∀ (l : List Run) (p : Option Int) (q r : Run), goR p (l ++ [q, r]) = (goR p (l ++ [q]) && (oneR r && decide (q.t + 2 ≤ r.f)))
  | [], p, q, r => by cases p <;> simp [goR, Bool.and_assoc]
  | x :: l, p, q, r => by
    simp only [List.cons_append, goR, goR_snoc l (some x.t) q r, Bool.and_assoc]
theorem right_rev : ∀ {l : List Run}, rightL l.reverse = true ↔ RR l
  | [] => by simp [rightL, goR, RR]
  | [r] => by simp [rightL, goR, RR]
  | r :: q :: l => by
    have ih := @right_rev (q :: l)
    simp only [List.reverse_cons, List.append_assoc, List.cons_append, List.nil_append, rightL] at ih ⊢
    rw [goR_snoc, Bool.and_eq_true, ih, RR, Bool.and_eq_true, decide_eq_true_iff]
    exact ⟨fun ⟨a, b, c⟩ => ⟨b, c, a⟩, fun ⟨b, c, a⟩ => ⟨a, b, c⟩⟩
theorem right_iff {l : List Run} : rightL l = true ↔ RR l.reverse := by
  have := @right_rev l.reverse
  rwa [List.reverse_reverse] at this
theorem rr_tail {r : Run} : ∀ {l : List Run}, RR (r :: l) → RR l
  | [], _ => trivial
  | _ :: _, h => h.2.2
theorem rr_one {r : Run} : ∀ {l : List Run}, RR (r :: l) → oneR r = true
  | [], h => h
  | _ :: _, h => h.1
theorem rr_all : ∀ {l : List Run}, RR l → ∀ r ∈ l, oneR r = true
  | [], _, r, hr => by cases hr
  | q :: l, h, r, hr => by
    rcases List.mem_cons.1 hr with rfl | hr
    · exact rr_one h
    · exact rr_all (rr_tail h) r hr
theorem rr_below : ∀ {l : List Run} {r : Run}, RR (r :: l) → ∀ q ∈ l, q.t + 2 ≤ r.f
  | [], _, _, q, hq => by cases hq
  | p :: l, r, h, q, hq => by
    rcases List.mem_cons.1 hq with rfl | hq
    · exact h.2.1
    · have h1 := rr_below h.2.2 q hq
      have h2 := oneR_iff.1 (rr_one h.2.2)
      have h3 := h.2.1
      omega
theorem has_cons (r : Run) (l : List Run) (n : Int) : hasL13 (r :: l) n = (oneR r && inR r n || hasL13 l n) := by
  simp [hasL13, inR, Bool.and_assoc]
theorem has_nil (n : Int) : hasL13 [] n = false := rfl
theorem has_append (l m : List Run) (n : Int) : hasL13 (l ++ m) n = (hasL13 l n || hasL13 m n) := by simp [hasL13]
theorem has_rev (l : List Run) (n : Int) : hasL13 l.reverse n = hasL13 l n := by simp [hasL13]
theorem has_iff {l : List Run} {n : Int} : hasL13 l n = true ↔ ∃ r ∈ l, oneR r = true ∧ r.f ≤ n ∧ n ≤ r.t := by
  simp [hasL13, and_assoc]
theorem has_range {l : List Run} {n : Int} (h : hasL13 l n = true) : 1 ≤ n ∧ n ≤ 1099511627776 := by
  obtain ⟨r, _, h1, h2, h3⟩ := has_iff.1 h
  have := oneR_iff.1 h1
  omega
theorem has_perm {l m : List Run} (h : l.Perm m) (n : Int) : hasL13 l n = hasL13 m n := by
  rw [Bool.eq_iff_iff, has_iff, has_iff]
  exact ⟨fun ⟨r, hr, h1⟩ => ⟨r, h.mem_iff.1 hr, h1⟩, fun ⟨r, hr, h1⟩ => ⟨r, h.mem_iff.2 hr, h1⟩⟩
theorem has_filter (l : List Run) (n : Int) : hasL13 (l.filter oneR) n = hasL13 l n := by
  rw [Bool.eq_iff_iff, has_iff, has_iff]
  exact ⟨fun ⟨r, hr, h1⟩ => ⟨r, (List.mem_filter.1 hr).1, h1⟩, fun ⟨r, hr, h1⟩ => ⟨r, List.mem_filter.2 ⟨hr, h1.1⟩, h1⟩⟩
/-- A count just above or below is in no other run. -/
theorem rr_top {r : Run} {l : List Run} (h : RR (r :: l)) : ∀ n, hasL13 (r :: l) n = true → n ≤ r.t := fun n hn => by
  obtain ⟨q, hq, h1, h2, h3⟩ := has_iff.1 hn
  rcases List.mem_cons.1 hq with rfl | hq
  · exact h3
  · have := rr_below h q hq
    have := oneR_iff.1 (rr_one h)
    omega
theorem rr_has {r : Run} {l : List Run} (h : RR (r :: l)) (n : Int) : hasL13 l n = (hasL13 (r :: l) n && decide (n + 2 ≤ r.f)) := by
  rw [Bool.eq_iff_iff, Bool.and_eq_true, decide_eq_true_iff, has_iff, has_iff]
  constructor
  · rintro ⟨q, hq, h1, h2, h3⟩
    have := rr_below h q hq
    exact ⟨⟨q, List.mem_cons_of_mem _ hq, h1, h2, h3⟩, by omega⟩
  · rintro ⟨⟨q, hq, h1, h2, h3⟩, h4⟩
    rcases List.mem_cons.1 hq with rfl | hq
    · omega
    · exact ⟨q, hq, h1, h2, h3⟩
theorem rr_unique : ∀ {l m : List Run}, RR l → RR m → (∀ n, hasL13 l n = hasL13 m n) → l = m
  | [], [], _, _, _ => rfl
  | [], r :: m, _, h, hm => by
    have h1 := oneR_iff.1 (rr_one h)
    have h2 : hasL13 (r :: m) r.t = true := has_iff.2 ⟨r, by simp, rr_one h, h1.2.1, Int.le_refl _⟩
    rw [← hm] at h2; cases h2
  | r :: l, [], h, _, hm => by
    have h1 := oneR_iff.1 (rr_one h)
    have h2 : hasL13 (r :: l) r.t = true := has_iff.2 ⟨r, by simp, rr_one h, h1.2.1, Int.le_refl _⟩
    rw [hm] at h2; cases h2
  | r :: l, q :: m, h, h', hm => by
    have o1 := oneR_iff.1 (rr_one h)
    have o2 := oneR_iff.1 (rr_one h')
    have a1 : hasL13 (r :: l) r.t = true := has_iff.2 ⟨r, by simp, rr_one h, o1.2.1, Int.le_refl _⟩
    have a2 : hasL13 (q :: m) q.t = true := has_iff.2 ⟨q, by simp, rr_one h', o2.2.1, Int.le_refl _⟩
    rw [hm] at a1; rw [← hm] at a2
    have b1 := rr_top h' _ a1
    have b2 := rr_top h _ a2
    have et : r.t = q.t := by omega
    -- what begins lower has the count ahead of the other's beginning
    have key : ∀ {r q : Run} {l m : List Run}, RR (r :: l) → RR (q :: m) → (∀ n, hasL13 (r :: l) n = hasL13 (q :: m) n) → r.t = q.t → r.f ≤ q.f := by
      intro r q l m h h' hm et
      rcases Int.lt_or_le q.f r.f with hlt | hle
      · exfalso
        have o1 := oneR_iff.1 (rr_one h)
        have o2 := oneR_iff.1 (rr_one h')
        have c1 : hasL13 (q :: m) (r.f - 1) = true := has_iff.2 ⟨q, by simp, rr_one h', by omega, by omega⟩
        rw [← hm] at c1
        obtain ⟨p, hp, h1, h2, h3⟩ := has_iff.1 c1
        rcases List.mem_cons.1 hp with rfl | hp
        · omega
        · have := rr_below h p hp; omega
      · exact hle
    have ef : r.f = q.f := by
      have := key h h' hm et
      have := key h' h (fun n => (hm n).symm) et.symm
      omega
    have e : r = q := by cases r; cases q; simp_all
    subst e
    rw [rr_unique (rr_tail h) (rr_tail h') fun n => by rw [rr_has h, rr_has h', hm]]
theorem right_unique {l m : List Run} (h : rightL l = true) (h' : rightL m = true) (hm : ∀ n, hasL13 l n = hasL13 m n) : l = m := by
  have := rr_unique (right_iff.1 h) (right_iff.1 h') (fun n => by rw [has_rev, has_rev, hm])
  simpa using this
open Classical in
/-- The right list of what is meant, if there is one. -/
noncomputable def setR (p : Int → Bool) : List Run := if h : ∃ l, rightL l = true ∧ ∀ n, hasL13 l n = p n then Classical.choose h else []
/-- There is one. -/
def IsR (p : Int → Bool) : Prop := ∃ l, rightL l = true ∧ ∀ n, hasL13 l n = p n
theorem setR_right (p : Int → Bool) : rightL (setR p) = true := by
  unfold setR
  split
  · rename_i h; exact (Classical.choose_spec h).1
  · rfl
theorem setR_has {p : Int → Bool} (h : IsR p) (n : Int) : hasL13 (setR p) n = p n := by
  unfold setR
  rw [dif_pos (show ∃ l, rightL l = true ∧ ∀ n, hasL13 l n = p n from h)]; exact (Classical.choose_spec h).2 n
theorem setR_eq {p : Int → Bool} {l : List Run} (h : rightL l = true) (hp : ∀ n, hasL13 l n = p n) : l = setR p :=
  right_unique h (setR_right p) fun n => by rw [hp, setR_has ⟨l, h, hp⟩]

/-- A run, put behind what is there (the last run first). -/
def pushJ : List Run → Run → List Run
  | [], r => [r]
  | q :: qs, r => if r.f < q.t + 2 then ⟨q.f, if r.t > q.t then r.t else q.t⟩ :: qs else r :: q :: qs
def lowF (l : List Run) (x : Int) : Prop := match l with | [] => True | q :: _ => q.f ≤ x
theorem pushJ_right {l : List Run} {r : Run} (h : RR l) (hr : oneR r = true) (hf : lowF l r.f) : RR (pushJ l r) ∧ lowF (pushJ l r) r.f ∧ ∀ n, hasL13 (pushJ l r) n = (hasL13 l n || inR r n) := by
  cases l with
  | nil => exact ⟨hr, Int.le_refl _, fun n => by simp [pushJ, hasL13, hr, inR]⟩
  | cons q qs =>
    have o1 := oneR_iff.1 hr
    have o2 := oneR_iff.1 (rr_one h)
    have hf' : q.f ≤ r.f := hf
    simp only [pushJ]
    by_cases hc : r.f < q.t + 2
    · rw [if_pos hc]
      generalize ht : (if r.t > q.t then r.t else q.t) = t
      have ht' : (t = r.t ∧ q.t < r.t) ∨ (t = q.t ∧ r.t ≤ q.t) := by split at ht <;> omega
      have ho : oneR ⟨q.f, t⟩ = true := oneR_iff.2 ⟨o2.1, by show q.f ≤ t; omega, by show t ≤ _; omega⟩
      refine ⟨?_, hf', fun n => ?_⟩
      · cases qs with
        | nil => exact ho
        | cons p ps => exact ⟨ho, h.2.1, h.2.2⟩
      · rw [has_cons, has_cons, ho, rr_one h]
        have : inR ⟨q.f, t⟩ n = (inR q n || inR r n) := by
          rw [Bool.eq_iff_iff]; simp only [inR, Bool.and_eq_true, Bool.or_eq_true, decide_eq_true_iff]; omega
        rw [this]; simp only [Bool.true_and]
        cases inR q n <;> cases inR r n <;> cases hasL13 qs n <;> rfl
    · rw [if_neg hc]
      refine ⟨⟨hr, by omega, h⟩, Int.le_refl _, fun n => ?_⟩
      rw [has_cons, hr]; simp only [Bool.true_and]; cases inR r n <;> cases hasL13 (q :: qs) n <;> rfl
theorem pushJ_len (l : List Run) (r : Run) : (pushJ l r).length ≤ l.length + 1 := by
  cases l with
  | nil => simp [pushJ]
  | cons q qs => simp only [pushJ]; split <;> simp
theorem fold_push : ∀ {l : List Run} {a : List Run}, RR a → (∀ r ∈ l, oneR r = true) → l.Pairwise (fun x y => x.f ≤ y.f) → (∀ r ∈ l, lowF a r.f) → RR (l.foldl pushJ a) ∧ ∀ n, hasL13 (l.foldl pushJ a) n = (hasL13 a n || hasL13 l n)
  | [], a, h, _, _, _ => ⟨h, fun n => by simp [hasL13]⟩
  | r :: l, a, h, ho, hs, hf => by
    obtain ⟨h1, h2, h3⟩ := pushJ_right h (ho r (by simp)) (hf r (by simp))
    rw [List.pairwise_cons] at hs
    obtain ⟨h4, h5⟩ := fold_push (l := l) h1 (fun q hq => ho q (by simp [hq])) hs.2 (fun q hq => by
      have := hs.1 q hq
      revert h2
      cases pushJ a r with
      | nil => intro _; trivial
      | cons p ps => intro h2; exact Int.le_trans h2 this)
    refine ⟨h4, fun n => ?_⟩
    rw [List.foldl_cons, h5, h3, has_cons, ho r (by simp)]
    simp only [Bool.true_and, Bool.or_assoc]
theorem fold_push_all {l : List Run} (ho : ∀ r ∈ l, oneR r = true) (hs : l.Pairwise (fun x y => x.f ≤ y.f)) : (l.foldl pushJ []).reverse = setR (hasL13 l) := by
  obtain ⟨h1, h2⟩ := fold_push (a := []) trivial ho hs (fun _ _ => trivial)
  exact setR_eq (right_rev.2 h1) fun n => by rw [has_rev, h2]; simp [hasL13]
end Go.Proofs.Ytbnmicpgbcfooaa
