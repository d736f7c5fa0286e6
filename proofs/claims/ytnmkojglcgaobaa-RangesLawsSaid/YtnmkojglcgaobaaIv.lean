/- Lists of half-open stretches of a linear order: what a list has tells its right form. -/
import Derived.Test.YtnmkojglcgaobaaAbsY
namespace Go.Iv
set_option linter.unusedSimpArgs false
set_option linter.unusedVariables false
set_option linter.unusedSectionVars false

structure Lin {α : Type} (lt : α → α → Bool) : Prop where
  irr : ∀ x, lt x x = false
  tr : ∀ x y z, lt x y = true → lt y z = true → lt x z = true
  tri : ∀ x y, lt x y = true ∨ x = y ∨ lt y x = true

section
variable {α : Type} (lt : α → α → Bool)
def below (x : α) : Option α → Bool
  | none => true
  | some h => lt x h
def memI (i : α × Option α) (x : α) : Bool := !lt x i.1 && below lt x i.2
def mem (l : List (α × Option α)) (x : α) : Bool := l.any (memI lt · x)
def Can : List (α × Option α) → Prop
  | [] => True
  | [i] => below lt i.1 i.2 = true
  | i :: j :: l => below lt i.1 i.2 = true ∧ (∃ h, i.2 = some h ∧ lt h j.1 = true) ∧ Can (j :: l)
end

section
variable {α : Type} {lt : α → α → Bool} (hl : Lin lt)
include hl
theorem asymm {x y : α} (h : lt x y = true) : lt y x = false := by
  cases e : lt y x
  · rfl
  · have := hl.tr x y x h e
    rw [hl.irr] at this; cases this
theorem lt_of_not {x y : α} (h : lt x y = false) (hne : x ≠ y) : lt y x = true := by
  rcases hl.tri x y with h1 | h1 | h1
  · rw [h] at h1; cases h1
  · exact absurd h1 hne
  · exact h1
theorem eq_of_not {x y : α} (h : lt x y = false) (h' : lt y x = false) : x = y := by
  rcases hl.tri x y with h1 | h1 | h1
  · rw [h] at h1; cases h1
  · exact h1
  · rw [h'] at h1; cases h1
theorem not_lt_tr {x y z : α} (h : lt x y = false) (h' : lt y z = false) : lt x z = false := by
  cases e : lt x z
  · rfl
  · rcases hl.tri x y with h1 | h1 | h1
    · rw [h] at h1; cases h1
    · subst h1; rw [e] at h'; cases h'
    · have := hl.tr y x z h1 e; rw [this] at h'; cases h'
theorem lt_of_lt_of_not {x y z : α} (h : lt x y = true) (h' : lt z y = false) : lt x z = true := by
  rcases hl.tri x z with h1 | h1 | h1
  · exact h1
  · subst h1; rw [h] at h'; cases h'
  · have := hl.tr z x y h1 h; rw [this] at h'; cases h'

theorem can_tail {i : α × Option α} : ∀ {l : List (α × Option α)}, Can lt (i :: l) → Can lt l
  | [], _ => trivial
  | _ :: _, h => h.2.2
theorem can_head {i : α × Option α} : ∀ {l : List (α × Option α)}, Can lt (i :: l) → below lt i.1 i.2 = true
  | [], h => h
  | _ :: _, h => h.1
/-- All of a right list lies at its beginning or above. -/
theorem can_low : ∀ {l : List (α × Option α)} {i : α × Option α} {x : α}, Can lt (i :: l) → mem lt (i :: l) x = true → lt x i.1 = false
  | l, i, x, h, hm => by
    simp only [mem, List.any_cons, Bool.or_eq_true] at hm
    rcases hm with hm | hm
    · simp only [memI, Bool.and_eq_true, Bool.not_eq_true'] at hm; exact hm.1
    · cases l with
      | nil => cases hm
      | cons j l =>
        obtain ⟨h1, ⟨e, he, hlt⟩, h2⟩ := h
        have hlow := can_low h2 hm
        have hi : lt i.1 e = true := by rw [he] at h1; exact h1
        have hij := hl.tr _ _ _ hi hlt
        cases hx : lt x i.1
        · rfl
        · have h4 := hl.tr _ _ _ hx hij
          rw [h4] at hlow; cases hlow
/-- The first stretch's end is not in the rest, nor is what lies below it. -/
theorem can_gap {i j : α × Option α} {l : List (α × Option α)} {x : α} (h : Can lt (i :: j :: l)) (hx : below lt x i.2 = true ∨ i.2 = some x) : mem lt (j :: l) x = false := by
  obtain ⟨h1, ⟨e, he, hlt⟩, h2⟩ := h
  cases hm : mem lt (j :: l) x
  · rfl
  · have h3 := can_low hl h2 hm
    rw [he] at hx
    rcases hx with hx | hx
    · have := hl.tr _ _ _ hx hlt; rw [h3] at this; cases this
    · rw [Option.some.inj hx] at hlt; rw [h3] at hlt; cases hlt
theorem can_rest {i : α × Option α} {l : List (α × Option α)} {x : α} (h : Can lt (i :: l)) : mem lt l x = (mem lt (i :: l) x && !memI lt i x) := by
  simp only [mem, List.any_cons]
  cases hi : memI lt i x
  · simp
  · simp only [Bool.true_or, Bool.not_true, Bool.and_false]
    cases l with
    | nil => rfl
    | cons j l =>
      simp only [memI, Bool.and_eq_true] at hi
      exact can_gap hl h (.inl hi.2)
theorem mem_head {i : α × Option α} {l : List (α × Option α)} (h : Can lt (i :: l)) : mem lt (i :: l) i.1 = true := by
  simp [mem, memI, hl.irr, can_head hl h]
/-- The end of the first stretch is not in. -/
theorem not_mem_end {i : α × Option α} {l : List (α × Option α)} {e : α} (h : Can lt (i :: l)) (he : i.2 = some e) : mem lt (i :: l) e = false := by
  have h1 : memI lt i e = false := by simp [memI, he, below, hl.irr]
  show (memI lt i e || mem lt l e) = false
  rw [h1, Bool.false_or]
  cases l with
  | nil => rfl
  | cons j l => exact can_gap hl h (.inr he)
theorem end_le {i j : α × Option α} {l m : List (α × Option α)} (h : Can lt (i :: l)) (h' : Can lt (j :: m)) (hm : ∀ x, mem lt (i :: l) x = mem lt (j :: m) x) (h0 : i.1 = j.1) {e : α} (he : i.2 = some e) : ∃ e', j.2 = some e' ∧ lt e e' = false := by
  have hn := not_mem_end hl h he
  rw [hm] at hn
  have hie : lt i.1 e = true := by have := can_head hl h; rw [he] at this; exact this
  simp only [mem, List.any_cons, Bool.or_eq_false_iff] at hn
  have hn1 := hn.1
  simp only [memI, ← h0, asymm hl hie, Bool.not_false, Bool.true_and] at hn1
  cases hj : j.2 with
  | none => rw [hj] at hn1; simp [below] at hn1
  | some e' => rw [hj] at hn1; exact ⟨e', rfl, hn1⟩
/-- What a right list has tells the list. -/
theorem can_unique : ∀ {l m : List (α × Option α)}, Can lt l → Can lt m → (∀ x, mem lt l x = mem lt m x) → l = m
  | [], [], _, _, _ => rfl
  | [], j :: m, _, h, hm => by
    have := mem_head hl h
    rw [← hm] at this; simp [mem] at this
  | i :: l, [], h, _, hm => by
    have := mem_head hl h
    rw [hm] at this; simp [mem] at this
  | i :: l, j :: m, h, h', hm => by
    have e1 : i.1 = j.1 := by
      have h1 := mem_head hl h
      rw [hm] at h1
      have h2 := mem_head hl h'
      rw [← hm] at h2
      exact eq_of_not hl (can_low hl h' h1) (can_low hl h h2)
    have e2 : i.2 = j.2 := by
      cases hi : i.2 with
      | none =>
        cases hj : j.2 with
        | none => rfl
        | some e =>
          obtain ⟨e', h1, _⟩ := end_le hl h' h (fun x => (hm x).symm) e1.symm hj
          rw [hi] at h1; cases h1
      | some e =>
        obtain ⟨e', h1, h2⟩ := end_le hl h h' hm e1 hi
        obtain ⟨e'', h3, h4⟩ := end_le hl h' h (fun x => (hm x).symm) e1.symm h1
        rw [hi] at h3
        obtain rfl := Option.some.inj h3
        rw [h1, eq_of_not hl h2 h4]
    have e3 : i = j := Prod.ext e1 e2
    subst e3
    rw [can_unique (can_tail hl h) (can_tail hl h') (fun x => by rw [can_rest hl h, can_rest hl h', hm])]
end

/-- The stretches at whose edges 'p' turns. -/
def scan {α : Type} (p : α → Bool) : Option α → List α → List (α × Option α)
  | none, [] => []
  | some s, [] => [(s, none)]
  | none, e :: es => if p e then scan p (some e) es else scan p none es
  | some s, e :: es => if p e then scan p (some s) es else (s, some e) :: scan p none es
/-- The greatest edge at or below x; 'd' ahead of them all. -/
def floor {α : Type} (lt : α → α → Bool) (d : Option α) : List α → α → Option α
  | [], _ => d
  | e :: es, x => if lt x e then d else floor lt (some e) es x
/-- Edges rise, from d on. -/
def Rise {α : Type} (lt : α → α → Bool) : Option α → List α → Prop
  | _, [] => True
  | none, e :: es => Rise lt (some e) es
  | some d, e :: es => lt d e = true ∧ Rise lt (some e) es
section
variable {α : Type} {lt : α → α → Bool} (hl : Lin lt) {p : α → Bool}
include hl
theorem rise_weak {d : α} : ∀ {es : List α}, Rise lt (some d) es → Rise lt none es
  | [], _ => trivial
  | _ :: _, h => h.2
theorem rise_trans {s d : α} (h : lt s d = true) : ∀ {es : List α}, Rise lt (some d) es → Rise lt (some s) es
  | [], _ => trivial
  | e :: es, h' => ⟨hl.tr _ _ _ h h'.1, h'.2⟩
theorem le_lt {x y z : α} (h : lt y x = false) (h' : lt y z = true) : lt x z = true := by
  rcases hl.tri x y with h1 | h1 | h1
  · exact hl.tr _ _ _ h1 h'
  · subst h1; exact h'
  · rw [h] at h1; cases h1
/-- Nothing of a scan lies below its first edge. -/
theorem scan_low {x : α} : ∀ {es : List α} {d : α}, Rise lt (some d) es → lt d x = false → mem lt (scan p none es) x = false ∧ ∀ s, lt d s = false → mem lt (scan p (some s) es) x = !lt x s
  | [], _, _, _ => ⟨rfl, fun s _ => by simp [scan, mem, memI, below]⟩
  | e :: es, d, h, hx => by
    have hxe : lt x e = true := le_lt hl hx h.1
    have ih := scan_low h.2 (asymm hl hxe)
    refine ⟨?_, fun s hs => ?_⟩
    · simp only [scan]
      split
      · rw [ih.2 e (hl.irr e), hxe]; rfl
      · exact ih.1
    · simp only [scan]
      split
      · exact ih.2 s (asymm hl (le_lt hl hs h.1))
      · show (memI lt (s, some e) x || mem lt (scan p none es) x) = _
        rw [ih.1]; simp [memI, below, hxe]
theorem scan_in {x : α} : ∀ {es : List α} {d : α}, Rise lt (some d) es → lt x d = false →
    (p d = false → mem lt (scan p none es) x = ((floor lt (some d) es x).map p).getD false) ∧
    (p d = true → ∀ s, lt d s = false → mem lt (scan p (some s) es) x = ((floor lt (some d) es x).map p).getD false)
  | [], d, _, hx => ⟨fun h => by simp [scan, mem, floor, h], fun h s hs => by simp [scan, mem, memI, below, floor, h, not_lt_tr hl hx hs]⟩
  | e :: es, d, h, hx => by
    refine ⟨fun hp => ?_, fun hp s hs => ?_⟩
    · cases hxe : lt x e
      · have ih := scan_in h.2 hxe
        cases he : p e
        · simp only [floor, scan, hxe, he, Bool.false_eq_true, ↓reduceIte]; exact ih.1 he
        · simp only [floor, scan, hxe, he, Bool.false_eq_true, ↓reduceIte]; exact ih.2 he e (hl.irr e)
      · have lo := scan_low (p := p) hl h.2 (asymm hl hxe)
        cases he : p e
        · simp only [floor, scan, hxe, he, hp, Bool.false_eq_true, ↓reduceIte, Option.map_some, Option.getD_some]; exact lo.1
        · simp only [floor, scan, hxe, he, hp, Bool.false_eq_true, ↓reduceIte, Option.map_some, Option.getD_some]
          rw [lo.2 e (hl.irr e), hxe]; rfl
    · have hse := le_lt hl hs h.1
      cases hxe : lt x e
      · have ih := scan_in h.2 hxe
        cases he : p e
        · simp only [floor, scan, hxe, he, Bool.false_eq_true, ↓reduceIte]
          rw [← ih.1 he]
          show (memI lt (s, some e) x || mem lt (scan p none es) x) = _
          simp [memI, below, hxe]
        · simp only [floor, scan, hxe, he, Bool.false_eq_true, ↓reduceIte]; exact ih.2 he s (asymm hl hse)
      · have lo := scan_low (p := p) hl h.2 (asymm hl hxe)
        cases he : p e
        · simp only [floor, scan, hxe, he, hp, Bool.false_eq_true, ↓reduceIte, Option.map_some, Option.getD_some]
          show (memI lt (s, some e) x || mem lt (scan p none es) x) = _
          simp [memI, below, hxe, not_lt_tr hl hx hs]
        · simp only [floor, scan, hxe, he, hp, Bool.false_eq_true, ↓reduceIte, Option.map_some, Option.getD_some]
          rw [lo.2 s (asymm hl hse), not_lt_tr hl hx hs]; rfl
theorem scan_mem {x : α} : ∀ {es : List α}, Rise lt none es → mem lt (scan p none es) x = ((floor lt none es x).map p).getD false
  | [], _ => rfl
  | e :: es, h => by
    cases hxe : lt x e
    · have ih := scan_in (p := p) hl h hxe
      cases he : p e
      · simp only [floor, scan, hxe, he, Bool.false_eq_true, ↓reduceIte]; exact ih.1 he
      · simp only [floor, scan, hxe, he, Bool.false_eq_true, ↓reduceIte]; exact ih.2 he e (hl.irr e)
    · have lo := scan_low (p := p) hl h (asymm hl hxe)
      cases he : p e
      · simp only [floor, scan, hxe, he, Bool.false_eq_true, ↓reduceIte, Option.map_none, Option.getD_none]; exact lo.1
      · simp only [floor, scan, hxe, he, Bool.false_eq_true, ↓reduceIte, Option.map_none, Option.getD_none]
        rw [lo.2 e (hl.irr e), hxe]; rfl
theorem can_scan : ∀ {es : List α} {d : α}, Rise lt (some d) es →
    (Can lt (scan p none es) ∧ ∀ j l, scan p none es = j :: l → lt d j.1 = true) ∧ ∀ s, lt d s = false → Can lt (scan p (some s) es) ∧ ∀ j l, scan p (some s) es = j :: l → j.1 = s
  | [], d, _ => ⟨⟨trivial, fun _ _ h => by simp [scan] at h⟩, fun s _ => ⟨rfl, fun j l h => by simp only [scan, List.cons.injEq] at h; rw [← h.1]⟩⟩
  | e :: es, d, h => by
    have ih := can_scan h.2
    refine ⟨?_, fun s hs => ?_⟩
    · simp only [scan]
      split
      · have := ih.2 e (hl.irr e)
        exact ⟨this.1, fun j l hj => by rw [this.2 j l hj]; exact h.1⟩
      · exact ⟨ih.1.1, fun j l hj => hl.tr _ _ _ h.1 (ih.1.2 j l hj)⟩
    · have hse := le_lt hl hs h.1
      simp only [scan]
      split
      · exact ih.2 s (asymm hl hse)
      · refine ⟨?_, fun j l hj => by simp only [List.cons.injEq] at hj; rw [← hj.1]⟩
        cases hr : scan p none es with
        | nil => exact hse
        | cons j l => exact ⟨hse, ⟨e, rfl, ih.1.2 j l hr⟩, by rw [← hr]; exact ih.1.1⟩
theorem scan_can : ∀ {es : List α}, Rise lt none es → Can lt (scan p none es)
  | [], _ => trivial
  | e :: es, h => by
    have := can_scan (p := p) hl h
    simp only [scan]
    split
    · exact (this.2 e (hl.irr e)).1
    · exact this.1.1
/-- A scan of what is meant, where it turns at edges alone, has what is meant. -/
theorem scan_all {es : List α} (h : Rise lt none es) {P : α → Bool} (hP : ∀ x, P x = ((floor lt none es x).map P).getD false) : ∀ x, mem lt (scan P none es) x = P x := fun x => by
  rw [scan_mem hl h, ← hP x]
end

/-- The later of two ends. -/
def maxE {α : Type} (lt : α → α → Bool) : Option α → Option α → Option α
  | some a, some b => if lt a b then some b else some a
  | _, _ => none
def touch {α : Type} (lt : α → α → Bool) (c : Option α) (r : α) : Bool :=
  match c with
  | none => true
  | some h => !lt h r
/-- Stretches that follow one another by their beginnings, joined where they touch. -/
def mrg {α : Type} (lt : α → α → Bool) : α × Option α → List (α × Option α) → List (α × Option α)
  | c, [] => [c]
  | c, r :: rs => if touch lt c.2 r.1 then mrg lt (c.1, maxE lt c.2 r.2) rs else c :: mrg lt r rs
def Up {α : Type} (lt : α → α → Bool) : α → List (α × Option α) → Prop
  | _, [] => True
  | a, r :: rs => lt r.1 a = false ∧ Up lt r.1 rs
section
variable {α : Type} {lt : α → α → Bool} (hl : Lin lt)
include hl
theorem up_weak {a b : α} (h : lt a b = false) : ∀ {rs : List (α × Option α)}, Up lt a rs → Up lt b rs
  | [], _ => trivial
  | r :: rs, h' => ⟨not_lt_tr hl h'.1 h, h'.2⟩
theorem below_max {x : α} (c r : Option α) : below lt x (maxE lt c r) = (below lt x c || below lt x r) := by
  cases c with
  | none => cases r <;> simp [maxE, below]
  | some a =>
    cases r with
    | none => simp [maxE, below]
    | some b =>
      cases hab : lt a b
      · simp only [maxE, hab, Bool.false_eq_true, ↓reduceIte, below]
        cases hxb : lt x b
        · simp
        · have hxa : lt x a = true := by
            cases e : lt x a
            · have := not_lt_tr hl e hab; rw [hxb] at this; cases this
            · rfl
          rw [hxa]; rfl
      · simp only [maxE, hab, ↓reduceIte, below]
        cases hxa : lt x a
        · simp
        · rw [hl.tr _ _ _ hxa hab]; rfl
theorem memI_join {c r : α × Option α} {x : α} (h : lt r.1 c.1 = false) (ht : touch lt c.2 r.1 = true) : memI lt (c.1, maxE lt c.2 r.2) x = (memI lt c x || memI lt r x) := by
  simp only [memI, below_max hl]
  cases h1 : lt x c.1
  · cases h2 : below lt x c.2
    · cases h3 : lt x r.1
      · simp
      · cases hc : c.2 with
        | none => rw [hc] at h2; cases h2
        | some e =>
          rw [hc] at h2 ht
          simp only [below] at h2
          simp only [touch, Bool.not_eq_true'] at ht
          have := not_lt_tr hl h2 ht
          rw [h3] at this; cases this
    · simp
  · have : lt x r.1 = true := lt_of_lt_of_not hl h1 h
    simp [this]
theorem mrg_mem {x : α} : ∀ {rs : List (α × Option α)} {c : α × Option α}, Up lt c.1 rs → mem lt (mrg lt c rs) x = (memI lt c x || mem lt rs x)
  | [], c, _ => by simp [mrg, mem]
  | r :: rs, c, h => by
    simp only [mrg]
    cases ht : touch lt c.2 r.1
    · rw [if_neg (by simp)]
      show (memI lt c x || mem lt (mrg lt r rs) x) = _
      rw [mrg_mem h.2]; rfl
    · rw [if_pos rfl, mrg_mem (c := (c.1, maxE lt c.2 r.2)) (up_weak hl h.1 h.2), memI_join hl h.1 ht, Bool.or_assoc]; rfl
theorem mrg_can : ∀ {rs : List (α × Option α)} {c : α × Option α}, Up lt c.1 rs → below lt c.1 c.2 = true → (∀ r ∈ rs, below lt r.1 r.2 = true) → Can lt (mrg lt c rs) ∧ ∃ j l, mrg lt c rs = j :: l ∧ j.1 = c.1
  | [], c, _, hc, _ => ⟨hc, c, [], rfl, rfl⟩
  | r :: rs, c, h, hc, hv => by
    simp only [mrg]
    cases ht : touch lt c.2 r.1
    · rw [if_neg (by simp)]
      obtain ⟨h1, j, l, h2, h3⟩ := mrg_can h.2 (hv r (by simp)) fun q hq => hv q (by simp [hq])
      refine ⟨?_, c, _, rfl, rfl⟩
      rw [h2] at h1 ⊢
      cases he : c.2 with
      | none => rw [he] at ht; cases ht
      | some e =>
        rw [he] at ht
        simp only [touch, Bool.not_eq_false'] at ht
        exact ⟨hc, ⟨e, he, by rw [h3]; exact ht⟩, h1⟩
    · rw [if_pos rfl]
      exact mrg_can (c := (c.1, maxE lt c.2 r.2)) (up_weak hl h.1 h.2) (by show below lt c.1 (maxE lt c.2 r.2) = true; rw [below_max hl, hc]; rfl) fun q hq => hv q (by simp [hq])
/-- Sorted stretches, joined. -/
def join {α : Type} (lt : α → α → Bool) : List (α × Option α) → List (α × Option α)
  | [] => []
  | c :: rs => mrg lt c rs
def UpL {α : Type} (lt : α → α → Bool) : List (α × Option α) → Prop
  | [] => True
  | c :: rs => Up lt c.1 rs
theorem join_mem {x : α} {l : List (α × Option α)} (h : UpL lt l) : mem lt (join lt l) x = mem lt l x := by
  cases l with
  | nil => rfl
  | cons c rs => exact mrg_mem hl h
theorem join_can {l : List (α × Option α)} (h : UpL lt l) (hv : ∀ r ∈ l, below lt r.1 r.2 = true) : Can lt (join lt l) := by
  cases l with
  | nil => trivial
  | cons c rs => exact (mrg_can hl h (hv c (by simp)) fun q hq => hv q (by simp [hq])).1
end
end Go.Iv
