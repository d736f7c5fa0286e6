/- Chapter 08: right lists of ranges are told by the texts that they have. Plain Lean. -/
import Derived.Test.YtnmkojglcgaobaaK07B
import Derived.Test.YtnmkojglcgaobaaIv
namespace Go.Proofs.Ytnmkojglcgaobaa
open Go.Abs
set_option linter.unusedSimpArgs false
set_option linter.unusedVariables false

theorem linB : Iv.Lin ltB := ⟨lt_irrefl, fun _ _ _ h1 h2 => lt_trans' h1 h2, lt_tri⟩
def ivR (r : Rng) : List UInt8 × Option (List UInt8) := (r.lo, if r.op then none else some r.hi)
def hasRs (l : List Rng) (s : List UInt8) : Bool := l.any (hasR · s)
def goRs : Option Rng → List Rng → Bool
  | _, [] => true
  | p, r :: rs => rightR r && (match p with | none => true | some q => !(q.op || !ltB q.hi r.lo)) && goRs (some r) rs
def rightRs (l : List Rng) : Bool := goRs none l
/-- Right, the last range first. -/
def RS : List Rng → Prop
  | [] => True
  | [r] => rightR r = true
  | r :: q :: l => rightR r = true ∧ (q.op = false ∧ ltB q.hi r.lo = true) ∧ RS (q :: l)
theorem goRs_snoc : ∀ (l : List Rng) (p : Option Rng) (q r : Rng), goRs p (l ++ [q, r]) = (goRs p (l ++ [q]) && (rightR r && !(q.op || !ltB q.hi r.lo)))
  | [], p, q, r => by cases p <;> simp [goRs, Bool.and_assoc]
  | x :: l, p, q, r => by
    simp only [List.cons_append, goRs, goRs_snoc l (some x) q r, Bool.and_assoc]
theorem rightRs_rev : ∀ {l : List Rng}, rightRs l.reverse = true ↔ RS l
  | [] => by simp [rightRs, goRs, RS]
  | [r] => by simp [rightRs, goRs, RS]
  | r :: q :: l => by
    have ih := @rightRs_rev (q :: l)
    simp only [List.reverse_cons, List.append_assoc, List.cons_append, List.nil_append, rightRs] at ih ⊢
    rw [goRs_snoc, Bool.and_eq_true, ih, RS, Bool.and_eq_true]
    simp
    exact ⟨fun ⟨a, b, c, d⟩ => ⟨b, ⟨c, d⟩, a⟩, fun ⟨b, ⟨c, d⟩, a⟩ => ⟨a, b, c, d⟩⟩
theorem rightRs_iff {l : List Rng} : rightRs l = true ↔ RS l.reverse := by
  have := @rightRs_rev l.reverse
  rwa [List.reverse_reverse] at this
theorem rs_tail {r : Rng} : ∀ {l : List Rng}, RS (r :: l) → RS l
  | [], _ => trivial
  | _ :: _, h => h.2.2
theorem rs_one {r : Rng} : ∀ {l : List Rng}, RS (r :: l) → rightR r = true
  | [], h => h
  | _ :: _, h => h.1
theorem iv_ok {r : Rng} (h : rightR r = true) : Iv.below ltB r.lo (ivR r).2 = true := by
  have := (right_parts h).2.2.2
  unfold ivR
  cases ho : r.op
  · simp only [Bool.false_eq_true, if_false, Iv.below]; exact this ho
  · rfl
theorem iv_inj {r q : Rng} (hr : rightR r = true) (hq : rightR q = true) (h : ivR r = ivR q) : r = q := by
  obtain ⟨_, _, h1, _⟩ := right_parts hr
  obtain ⟨_, _, h2, _⟩ := right_parts hq
  obtain ⟨lo, hi, op⟩ := r
  obtain ⟨lo', hi', op'⟩ := q
  simp only [ivR, Prod.mk.injEq] at h
  obtain ⟨rfl, h⟩ := h
  cases op <;> cases op' <;> simp at h h1 h2
  · rw [h]
  · rw [h1, h2]
theorem hasR_iv (r : Rng) (s : List UInt8) : hasR r s = (rightR r && Iv.memI ltB (ivR r) s) := by
  unfold hasR Iv.memI ivR
  cases r.op <;> simp [Iv.below, Bool.and_assoc]
theorem hasRs_iv (l : List Rng) (s : List UInt8) : hasRs l s = Iv.mem ltB ((l.filter rightR).map ivR) s := by
  induction l with
  | nil => rfl
  | cons r l ih =>
    simp only [hasRs, List.any_cons] at ih ⊢
    rw [ih, hasR_iv]
    cases h : rightR r
    · simp [List.filter_cons, h]
    · simp [List.filter_cons, h, Iv.mem]
theorem goRs_can : ∀ {l : List Rng} {p : Option Rng}, goRs p l = true ↔ (∀ r ∈ l, rightR r = true) ∧ Iv.Can ltB (l.map ivR) ∧ ∀ q, p = some q → ∀ r, l.head? = some r → q.op = false ∧ ltB q.hi r.lo = true
  | [], p => by simp [goRs, Iv.Can]
  | r :: l, p => by
    have ih := @goRs_can l (some r)
    simp only [goRs, Bool.and_eq_true, ih]
    constructor
    · rintro ⟨⟨h1, h2⟩, h3, h4, h5⟩
      refine ⟨fun q hq => ?_, ?_, fun q hq r' hr' => ?_⟩
      · rcases List.mem_cons.1 hq with rfl | hq
        · exact h1
        · exact h3 q hq
      · cases l with
        | nil => exact iv_ok h1
        | cons r' l =>
          obtain ⟨k1, k2⟩ := h5 r rfl r' rfl
          exact ⟨iv_ok h1, ⟨r.hi, by simp [ivR, k1], k2⟩, h4⟩
      · subst hq
        simp at hr'
        subst hr'
        simpa using h2
    · rintro ⟨h1, h2, h3⟩
      refine ⟨⟨h1 r (by simp), ?_⟩, fun q hq => h1 q (by simp [hq]), Iv.can_tail linB h2, fun q hq r' hr' => ?_⟩
      · cases p with
        | none => rfl
        | some q => have := h3 q rfl r rfl; simp [this]
      · obtain rfl := Option.some.inj hq
        cases l with
        | nil => simp at hr'
        | cons r'' l =>
          simp at hr'
          subst hr'
          obtain ⟨_, ⟨h, k1, k2⟩, _⟩ := h2
          simp only [ivR] at k1
          cases ho : r.op with
          | true => rw [ho] at k1; simp at k1
          | false =>
            rw [ho] at k1
            simp at k1
            subst k1
            exact ⟨rfl, k2⟩
theorem rightRs_can {l : List Rng} : rightRs l = true ↔ (∀ r ∈ l, rightR r = true) ∧ Iv.Can ltB (l.map ivR) := by
  unfold rightRs
  rw [goRs_can]
  simp
theorem filter_right {l : List Rng} (h : ∀ r ∈ l, rightR r = true) : l.filter rightR = l := List.filter_eq_self.2 h
theorem map_iv_inj : ∀ {l m : List Rng}, (∀ r ∈ l, rightR r = true) → (∀ r ∈ m, rightR r = true) → l.map ivR = m.map ivR → l = m
  | [], [], _, _, _ => rfl
  | [], _ :: _, _, _, h => by simp at h
  | _ :: _, [], _, _, h => by simp at h
  | r :: l, q :: m, h1, h2, h => by
    simp only [List.map_cons, List.cons.injEq] at h
    rw [iv_inj (h1 r (by simp)) (h2 q (by simp)) h.1, map_iv_inj (fun x hx => h1 x (by simp [hx])) (fun x hx => h2 x (by simp [hx])) h.2]
theorem rightRs_unique {l m : List Rng} (h : rightRs l = true) (h' : rightRs m = true) (hm : ∀ s, hasRs l s = hasRs m s) : l = m := by
  obtain ⟨a1, a2⟩ := rightRs_can.1 h
  obtain ⟨b1, b2⟩ := rightRs_can.1 h'
  refine map_iv_inj a1 b1 (Iv.can_unique linB a2 b2 fun s => ?_)
  have := hm s
  rwa [hasRs_iv, hasRs_iv, filter_right a1, filter_right b1] at this
open Classical in
/-- The right list of the texts that are meant, if there is one. -/
noncomputable def setS (p : List UInt8 → Bool) : List Rng := if h : ∃ l, rightRs l = true ∧ ∀ n, hasRs l n = p n then Classical.choose h else []
def IsS (p : List UInt8 → Bool) : Prop := ∃ l, rightRs l = true ∧ ∀ n, hasRs l n = p n
theorem setS_right (p : List UInt8 → Bool) : rightRs (setS p) = true := by
  unfold setS
  split
  · rename_i h; exact (Classical.choose_spec h).1
  · rfl
theorem setS_has {p : List UInt8 → Bool} (h : IsS p) (n : List UInt8) : hasRs (setS p) n = p n := by
  unfold setS
  rw [dif_pos (show ∃ l, rightRs l = true ∧ ∀ n, hasRs l n = p n from h)]; exact (Classical.choose_spec h).2 n
theorem setS_eq {p : List UInt8 → Bool} {l : List Rng} (h : rightRs l = true) (hp : ∀ n, hasRs l n = p n) : l = setS p :=
  rightRs_unique h (setS_right p) fun n => by rw [hp, setS_has ⟨l, h, hp⟩]
theorem hasRs_cons (r : Rng) (l : List Rng) (s : List UInt8) : hasRs (r :: l) s = (hasR r s || hasRs l s) := rfl
theorem hasRs_nil (s : List UInt8) : hasRs [] s = false := rfl
theorem hasRs_append (l m : List Rng) (s : List UInt8) : hasRs (l ++ m) s = (hasRs l s || hasRs m s) := by simp [hasRs]
theorem hasRs_rev (l : List Rng) (s : List UInt8) : hasRs l.reverse s = hasRs l s := by simp [hasRs]
theorem hasRs_iff {l : List Rng} {s : List UInt8} : hasRs l s = true ↔ ∃ r ∈ l, hasR r s = true := by simp [hasRs]
theorem hasRs_perm {l m : List Rng} (h : l.Perm m) (s : List UInt8) : hasRs l s = hasRs m s := by
  rw [Bool.eq_iff_iff, hasRs_iff, hasRs_iff]
  exact ⟨fun ⟨r, hr, h1⟩ => ⟨r, h.mem_iff.1 hr, h1⟩, fun ⟨r, hr, h1⟩ => ⟨r, h.mem_iff.2 hr, h1⟩⟩
theorem hasR_right {r : Rng} {s : List UInt8} (h : hasR r s = true) : rightR r = true := by
  rw [hasR_eq] at h; simp only [Bool.and_eq_true] at h; exact h.1
theorem hasRs_filter (l : List Rng) (s : List UInt8) : hasRs (l.filter rightR) s = hasRs l s := by
  rw [Bool.eq_iff_iff, hasRs_iff, hasRs_iff]
  exact ⟨fun ⟨r, hr, h1⟩ => ⟨r, (List.mem_filter.1 hr).1, h1⟩, fun ⟨r, hr, h1⟩ => ⟨r, List.mem_filter.2 ⟨hr, hasR_right h1⟩, h1⟩⟩

/-- A range, put behind what is there (the last range first). -/
def mergeR (q r : Rng) : Rng := if endsR q r < 0 then ⟨q.lo, r.hi, r.op⟩ else q
def pushS : List Rng → Rng → List Rng
  | [], r => [r]
  | q :: qs, r => if q.op || !ltB q.hi r.lo then mergeR q r :: qs else r :: q :: qs
def lowS (l : List Rng) (x : List UInt8) : Prop := match l with | [] => True | q :: _ => ltB x q.lo = false
theorem merge_lo (q r : Rng) : (mergeR q r).lo = q.lo := by unfold mergeR; split <;> rfl
theorem merge_iv {q r : Rng} (hq : rightR q = true) (hr : rightR r = true) : ivR (mergeR q r) = (q.lo, Iv.maxE ltB (ivR q).2 (ivR r).2) := by
  have he := ends_lt hq hr
  unfold mergeR
  by_cases h : endsR q r < 0
  · rw [if_pos h]
    obtain ⟨h1, h2⟩ := he.1 h
    unfold ivR
    rw [h1]
    cases ho : r.op with
    | true => simp [Iv.maxE]
    | false =>
      rw [ho] at h2
      have h3 : ltB q.hi r.hi = true := by simpa using h2
      simp [Iv.maxE, h3]
  · rw [if_neg h]
    unfold ivR
    cases ho : q.op with
    | true => simp [Iv.maxE]
    | false =>
      have h2 : ¬ (r.op = true ∨ ltB q.hi r.hi = true) := fun h3 => h (he.2 ⟨ho, h3⟩)
      have h3 : r.op = false := by
        cases hx : r.op
        · rfl
        · exact absurd (.inl hx) h2
      have h4 : ltB q.hi r.hi = false := by
        cases hx : ltB q.hi r.hi
        · rfl
        · exact absurd (.inr hx) h2
      simp [Iv.maxE, h3, h4]
theorem merge_right {q r : Rng} (hq : rightR q = true) (hr : rightR r = true) : rightR (mergeR q r) = true := by
  obtain ⟨a1, a2, a3, a4⟩ := right_parts hq
  obtain ⟨b1, b2, b3, b4⟩ := right_parts hr
  have he := ends_lt hq hr
  unfold mergeR
  by_cases h : endsR q r < 0
  · rw [if_pos h]
    obtain ⟨h1, h2⟩ := he.1 h
    refine right_mk a1 b2 b3 fun ho => ?_
    have ho' : r.op = false := ho
    rw [ho'] at h2
    have h3 : ltB q.hi r.hi = true := by simpa using h2
    exact lt_trans' (a4 h1) h3
  · rw [if_neg h]; exact hq
theorem touch_iff {q r : Rng} : (q.op || !ltB q.hi r.lo) = Iv.touch ltB (ivR q).2 (ivR r).1 := by
  unfold ivR
  cases q.op <;> simp [Iv.touch]
theorem pushS_right {l : List Rng} {r : Rng} (h : RS l) (hr : rightR r = true) (hf : lowS l r.lo) : RS (pushS l r) ∧ lowS (pushS l r) r.lo ∧ ∀ s, hasRs (pushS l r) s = (hasRs l s || hasR r s) := by
  cases l with
  | nil => exact ⟨hr, lt_irrefl _, fun s => by simp [pushS, hasRs]⟩
  | cons q qs =>
    have hq := rs_one h
    have hf' : ltB r.lo q.lo = false := hf
    simp only [pushS]
    cases hc : (q.op || !ltB q.hi r.lo) with
    | true =>
      rw [if_pos rfl]
      have hm := merge_right hq hr
      refine ⟨?_, ?_, fun s => ?_⟩
      · cases qs with
        | nil => exact hm
        | cons p ps => exact ⟨hm, ⟨h.2.1.1, by rw [merge_lo]; exact h.2.1.2⟩, h.2.2⟩
      · show ltB r.lo (mergeR q r).lo = false
        rw [merge_lo]; exact hf'
      · rw [hasRs_cons, hasRs_cons, hasR_iv, hasR_iv q, hasR_iv r, hm, hq, hr]
        simp only [Bool.true_and]
        rw [merge_iv hq hr]
        have := Iv.memI_join linB (c := ivR q) (r := ivR r) (x := s) hf' (by rw [← touch_iff]; exact hc)
        have e : (ivR q).1 = q.lo := rfl
        rw [e] at this
        rw [this]
        cases Iv.memI ltB (ivR q) s <;> cases Iv.memI ltB (ivR r) s <;> cases hasRs qs s <;> rfl
    | false =>
      rw [if_neg (by simp)]
      have hc' : q.op = false ∧ ltB q.hi r.lo = true := by simpa using hc
      refine ⟨⟨hr, hc', h⟩, lt_irrefl _, fun s => ?_⟩
      rw [hasRs_cons r]; cases hasR r s <;> cases hasRs (q :: qs) s <;> rfl
theorem pushS_len (l : List Rng) (r : Rng) : (pushS l r).length ≤ l.length + 1 := by
  cases l with
  | nil => simp [pushS]
  | cons q qs => simp only [pushS]; split <;> simp
theorem foldS_push : ∀ {l : List Rng} {a : List Rng}, RS a → (∀ r ∈ l, rightR r = true) → l.Pairwise (fun x y => ltB y.lo x.lo = false) → (∀ r ∈ l, lowS a r.lo) → RS (l.foldl pushS a) ∧ ∀ s, hasRs (l.foldl pushS a) s = (hasRs a s || hasRs l s)
  | [], a, h, _, _, _ => ⟨h, fun s => by simp [hasRs]⟩
  | r :: l, a, h, ho, hs, hf => by
    obtain ⟨h1, h2, h3⟩ := pushS_right h (ho r (by simp)) (hf r (by simp))
    rw [List.pairwise_cons] at hs
    obtain ⟨h4, h5⟩ := foldS_push (l := l) h1 (fun q hq => ho q (by simp [hq])) hs.2 (fun q hq => by
      have := hs.1 q hq
      revert h2
      cases pushS a r with
      | nil => intro _; trivial
      | cons p ps => intro h2; exact not_lt_trans h2 this)
    refine ⟨h4, fun n => ?_⟩
    rw [List.foldl_cons, h5, h3, hasRs_cons]
    simp only [Bool.or_assoc]
theorem foldS_all {l : List Rng} (ho : ∀ r ∈ l, rightR r = true) (hs : l.Pairwise (fun x y => ltB y.lo x.lo = false)) : (l.foldl pushS []).reverse = setS (hasRs l) := by
  obtain ⟨h1, h2⟩ := foldS_push (a := []) trivial ho hs (fun _ _ => trivial)
  exact setS_eq (rightRs_rev.2 h1) fun n => by rw [hasRs_rev, h2]; simp [hasRs]
end Go.Proofs.Ytnmkojglcgaobaa
