/- Chapter 08: edges, and what is made at them. Plain Lean. -/
import Derived.Test.YtnmkojglcgaobaaK08P
namespace Go.Proofs.Ytnmkojglcgaobaa
open Go.Abs
set_option linter.unusedSimpArgs false
set_option linter.unusedVariables false

def toR (i : List UInt8 × Option (List UInt8)) : Rng := ⟨i.1, i.2.getD [], i.2.isNone⟩
theorem iv_toR (i : List UInt8 × Option (List UInt8)) : ivR (toR i) = i := by
  obtain ⟨a, b⟩ := i
  cases b <;> rfl
/-- One edge: what stands so far (the last range first), and whether the edge ahead was in. -/
def stS (P : List UInt8 → Bool) (st : List Rng × Bool) (e : List UInt8) : List Rng × Bool :=
  (if P e && !st.2 then ⟨e, [], true⟩ :: st.1 else if !P e && st.2 then (match st.1 with | q :: qs => ⟨q.lo, e, false⟩ :: qs | [] => []) else st.1, P e)
def mkS (P : List UInt8 → Bool) (es : List (List UInt8)) : List Rng × Bool := es.foldl (stS P) ([], false)
theorem stS_scan (P : List UInt8 → Bool) : ∀ (es : List (List UInt8)) (acc : List Rng), (es.foldl (stS P) (acc, false)).1.reverse = acc.reverse ++ (Iv.scan P none es).map toR ∧
    ∀ s, (es.foldl (stS P) (⟨s, [], true⟩ :: acc, true)).1.reverse = acc.reverse ++ (Iv.scan P (some s) es).map toR
  | [], acc => ⟨by simp [Iv.scan], fun s => by simp [Iv.scan, toR]⟩
  | e :: es, acc => by
    refine ⟨?_, fun s => ?_⟩
    · simp only [List.foldl_cons, stS, Iv.scan]
      cases hp : P e with
      | true => simp only [Bool.not_false, Bool.and_self, if_true]; exact (stS_scan P es acc).2 e
      | false => simp only [Bool.not_false, Bool.and_true, Bool.and_false, Bool.false_eq_true, if_false]; exact (stS_scan P es acc).1
    · simp only [List.foldl_cons, stS, Iv.scan]
      cases hp : P e with
      | true => simp only [Bool.not_true, Bool.and_false, Bool.false_and, Bool.false_eq_true, if_false, if_true]; exact (stS_scan P es acc).2 s
      | false =>
        simp only [Bool.not_true, Bool.and_self, Bool.and_false, Bool.not_false, Bool.false_eq_true, if_false, if_true]
        rw [(stS_scan P es (⟨s, e, false⟩ :: acc)).1]
        simp [toR]
theorem mkS_scan (P : List UInt8 → Bool) (es : List (List UInt8)) : (mkS P es).1.reverse = (Iv.scan P none es).map toR := by
  have := (stS_scan P es []).1
  rw [List.reverse_nil, List.nil_append] at this
  exact this
theorem mkS_step (P : List UInt8 → Bool) (es : List (List UInt8)) (k : Nat) (h : k < es.length) : mkS P (es.take (k + 1)) = stS P (mkS P (es.take k)) es[k] := by
  unfold mkS
  rw [← List.take_append_getElem h, List.foldl_append]; rfl
theorem stS_len (P : List UInt8 → Bool) (st : List Rng × Bool) (e : List UInt8) : (stS P st e).1.length ≤ st.1.length + 1 := by
  simp only [stS]
  split
  · simp
  · split
    · split <;> simp_all
    · omega
theorem mkS_len (P : List UInt8 → Bool) : ∀ (es : List (List UInt8)) (st : List Rng × Bool), (es.foldl (stS P) st).1.length ≤ st.1.length + es.length
  | [], st => by simp
  | e :: es, st => by
    have h1 := mkS_len P es (stS P st e)
    have h2 := stS_len P st e
    simp only [List.foldl_cons, List.length_cons]; omega
theorem mkS_was (P : List UInt8 → Bool) : ∀ (es : List (List UInt8)) (st : List Rng × Bool), (st.2 = true → st.1 ≠ []) → (es.foldl (stS P) st).2 = true → (es.foldl (stS P) st).1 ≠ []
  | [], st, h, h' => h h'
  | e :: es, st, h, h' => by
    refine mkS_was P es (stS P st e) (fun h2 => ?_) h'
    have hp : P e = true := h2
    simp only [stS, hp]
    cases hs : st.2 with
    | true => simp; exact h hs
    | false => simp

theorem pw_rise : ∀ {es : List (List UInt8)}, es.Pairwise (fun x y => ltB x y = true) → Iv.Rise ltB none es
  | [], _ => trivial
  | e :: es, h => by
    have key : ∀ {es : List (List UInt8)} {d : List UInt8}, (d :: es).Pairwise (fun x y => ltB x y = true) → Iv.Rise ltB (some d) es := by
      intro es
      induction es with
      | nil => intro d _; trivial
      | cons e es ih =>
        intro d h
        rw [List.pairwise_cons] at h
        exact ⟨h.1 e (by simp), ih h.2⟩
    exact key h
theorem floor_spec : ∀ {es : List (List UInt8)} {x : List UInt8} {d : Option (List UInt8)}, es.Pairwise (fun a b => ltB a b = true) → (∀ e, d = some e → ltB x e = false ∧ ∀ y ∈ es, ltB e y = true) →
    match Iv.floor ltB d es x with
    | none => d = none ∧ ∀ y ∈ es, ltB x y = true
    | some e => (d = some e ∨ e ∈ es) ∧ ltB x e = false ∧ ∀ y ∈ es, ltB e y = true → ltB x y = true
  | [], x, d, _, h => by
    cases d with
    | none => exact ⟨rfl, fun y hy => by cases hy⟩
    | some e => exact ⟨.inl rfl, (h e rfl).1, fun y hy => by cases hy⟩
  | e :: es, x, d, hp, h => by
    rw [List.pairwise_cons] at hp
    simp only [Iv.floor]
    cases hx : ltB x e with
    | true =>
      rw [if_pos rfl]
      have hlow : ∀ y ∈ e :: es, ltB x y = true := fun y hy => by
        rcases List.mem_cons.1 hy with rfl | hy
        · exact hx
        · exact lt_trans' hx (hp.1 y hy)
      cases d with
      | none => exact ⟨rfl, hlow⟩
      | some e' => exact ⟨.inl rfl, (h e' rfl).1, fun y hy _ => hlow y hy⟩
    | false =>
      rw [if_neg (by simp)]
      have ih := @floor_spec es x (some e) hp.2 (fun e' he' => by
        obtain rfl := Option.some.inj he'
        exact ⟨hx, hp.1⟩)
      cases hf : Iv.floor ltB (some e) es x with
      | none => rw [hf] at ih; exact absurd ih.1 (by simp)
      | some e' =>
        rw [hf] at ih
        obtain ⟨h1, h2, h3⟩ := ih
        refine ⟨.inr ?_, h2, fun y hy hl => ?_⟩
        · rcases h1 with h1 | h1
          · obtain rfl := Option.some.inj h1; simp
          · simp [h1]
        · rcases List.mem_cons.1 hy with rfl | hy
          · rcases h1 with h1 | h1
            · obtain rfl := Option.some.inj h1
              rw [lt_irrefl] at hl; cases hl
            · have := hp.1 e' h1
              rw [lt_asymm' this] at hl; cases hl
          · exact h3 y hy hl
theorem can_valid : ∀ {l : List (List UInt8 × Option (List UInt8))}, Iv.Can ltB l → ∀ i ∈ l, Iv.below ltB i.1 i.2 = true
  | [], _, i, hi => by cases hi
  | j :: l, h, i, hi => by
    rcases List.mem_cons.1 hi with rfl | hi
    · exact Iv.can_head linB h
    · exact can_valid (Iv.can_tail linB h) i hi
theorem scan_es (P : List UInt8 → Bool) : ∀ (es : List (List UInt8)) (st : Option (List UInt8)), ∀ i ∈ Iv.scan P st es, (i.1 ∈ es ∨ st = some i.1) ∧ ∀ e, i.2 = some e → e ∈ es
  | [], none, i, hi => by cases hi
  | [], some s, i, hi => by
    simp only [Iv.scan, List.mem_singleton] at hi
    subst hi
    exact ⟨.inr rfl, fun e he => by cases he⟩
  | x :: es, none, i, hi => by
    simp only [Iv.scan] at hi
    split at hi
    · obtain ⟨h1, h2⟩ := scan_es P es (some x) i hi
      refine ⟨.inl ?_, fun e he => by simp [h2 e he]⟩
      rcases h1 with h1 | h1
      · simp [h1]
      · obtain rfl := Option.some.inj h1; simp
    · obtain ⟨h1, h2⟩ := scan_es P es none i hi
      refine ⟨.inl ?_, fun e he => by simp [h2 e he]⟩
      rcases h1 with h1 | h1
      · simp [h1]
      · cases h1
  | x :: es, some s, i, hi => by
    simp only [Iv.scan] at hi
    split at hi
    · obtain ⟨h1, h2⟩ := scan_es P es (some s) i hi
      refine ⟨?_, fun e he => by simp [h2 e he]⟩
      rcases h1 with h1 | h1
      · exact .inl (by simp [h1])
      · exact .inr h1
    · rcases List.mem_cons.1 hi with rfl | hi
      · exact ⟨.inr rfl, fun e he => by
          have : x = e := by simpa using he
          simp [this]⟩
      · obtain ⟨h1, h2⟩ := scan_es P es none i hi
        refine ⟨.inl ?_, fun e he => by simp [h2 e he]⟩
        rcases h1 with h1 | h1
        · simp [h1]
        · cases h1
theorem mkS_set {P : List UInt8 → Bool} {es : List (List UInt8)} (up : es.Pairwise (fun x y => ltB x y = true)) (hnil : [] ∈ es) (hlen : ∀ e ∈ es, e.length ≤ 17)
    (flat : ∀ x, ∀ e ∈ es, ltB x e = false → (∀ y ∈ es, ltB e y = true → ltB x y = true) → P x = P e) : (mkS P es).1.reverse = setS P ∧ IsS P := by
  have hall := Iv.scan_all linB (pw_rise up) (P := P) (fun x => by
    have hf := floor_spec (x := x) (d := none) up (fun e he => by cases he)
    cases hx : Iv.floor ltB none es x with
    | none =>
      rw [hx] at hf
      have := hf.2 [] hnil
      rw [ltB_nil] at this; cases this
    | some e =>
      rw [hx] at hf
      obtain ⟨h1, h2, h3⟩ := hf
      rcases h1 with h1 | h1
      · cases h1
      · exact flat x e h1 h2 h3)
  have hcan := Iv.scan_can linB (p := P) (pw_rise up)
  have hmem := scan_es P es none
  rw [mkS_scan]
  generalize Iv.scan P none es = L at *
  have e : (L.map toR).map ivR = L := by
    rw [List.map_map]
    have : (ivR ∘ toR) = id := funext iv_toR
    rw [this, List.map_id]
  have hr : ∀ r ∈ L.map toR, rightR r = true := fun r hr => by
    obtain ⟨i, hi, rfl⟩ := List.mem_map.1 hr
    obtain ⟨h1, h2⟩ := hmem i hi
    have hv := can_valid hcan i hi
    obtain ⟨a, b⟩ := i
    have ha : a ∈ es := by
      rcases h1 with h1 | h1
      · exact h1
      · cases h1
    cases b with
    | none => exact right_mk (hlen a ha) (by simp [toR]) (fun _ => rfl) (fun h => by simp [toR] at h)
    | some b => exact right_mk (hlen a ha) (hlen b (h2 b rfl)) (fun h => by simp [toR] at h) (fun _ => hv)
  have h1 : rightRs (L.map toR) = true := rightRs_can.2 ⟨hr, by rw [e]; exact hcan⟩
  have h2 : ∀ s, hasRs (L.map toR) s = P s := fun s => by
    rw [hasRs_iv, filter_right hr, e]; exact hall s
  exact ⟨setS_eq h1 h2, ⟨_, h1, h2⟩⟩
/-- Between the edges of a list nothing turns. -/
theorem hasRs_flat {l : List Rng} {es : List (List UInt8)} (he : ∀ r ∈ l, rightR r = true → r.lo ∈ es ∧ (r.op = false → r.hi ∈ es)) {x e : List UInt8} (h1 : ltB x e = false) (h2 : ∀ y ∈ es, ltB e y = true → ltB x y = true) : hasRs l x = hasRs l e := by
  have same : ∀ y ∈ es, ltB x y = ltB e y := fun y hy => by
    cases h : ltB e y
    · exact not_lt_trans h h1
    · exact h2 y hy h
  have key : ∀ r ∈ l, hasR r x = hasR r e := fun r hr => by
    cases hrr : rightR r with
    | false => rw [hasR_eq, hasR_eq, hrr]; rfl
    | true =>
      obtain ⟨k1, k2⟩ := he r hr hrr
      rw [hasR_eq, hasR_eq, same _ k1]
      unfold upTo
      cases ho : r.op with
      | true => rfl
      | false => rw [same _ (k2 ho)]
  clear he
  induction l with
  | nil => rfl
  | cons r l ih =>
    rw [hasRs_cons, hasRs_cons, key r (by simp), ih (fun q hq => key q (by simp [hq]))]

/-- A text, put among rising ones, once. -/
def putB : List (List UInt8) → List UInt8 → List (List UInt8)
  | [], n => [n]
  | x :: xs, n => if ltB x n then x :: putB xs n else if x = n then x :: xs else n :: x :: xs
theorem putB_len (l : List (List UInt8)) (n : List UInt8) : (putB l n).length ≤ l.length + 1 := by
  induction l with
  | nil => simp [putB]
  | cons x xs ih =>
    simp only [putB]
    split
    · simp; omega
    · split <;> simp
theorem putB_mem (l : List (List UInt8)) (n x : List UInt8) : x ∈ putB l n ↔ x = n ∨ x ∈ l := by
  induction l with
  | nil => simp [putB]
  | cons y ys ih =>
    simp only [putB]
    split
    · rw [List.mem_cons, ih, List.mem_cons]
      exact ⟨fun h => by rcases h with h | h | h <;> simp [h], fun h => by rcases h with h | h | h <;> simp [h]⟩
    · split
      · rename_i h1 h2; subst h2; simp
      · simp
theorem putB_up {l : List (List UInt8)} {n : List UInt8} (h : l.Pairwise (fun x y => ltB x y = true)) : (putB l n).Pairwise (fun x y => ltB x y = true) := by
  induction l with
  | nil => simp [putB]
  | cons y ys ih =>
    rw [List.pairwise_cons] at h
    simp only [putB]
    split
    · rename_i h1
      rw [List.pairwise_cons]
      refine ⟨fun x hx => ?_, ih h.2⟩
      rcases (putB_mem ys n x).1 hx with rfl | hx
      · exact h1
      · exact h.1 x hx
    · split
      · exact List.pairwise_cons.2 h
      · rename_i h1 h2
        have hlt : ltB n y = true := by
          rcases lt_tri y n with h3 | h3 | h3
          · exact absurd h3 (by simpa using h1)
          · exact absurd h3 h2
          · exact h3
        rw [List.pairwise_cons]
        refine ⟨fun x hx => ?_, List.pairwise_cons.2 h⟩
        rcases List.mem_cons.1 hx with rfl | hx
        · exact hlt
        · exact lt_trans' hlt (h.1 x hx)
/-- The edges of a right range, put. -/
def putE (es : List (List UInt8)) (r : Rng) : List (List UInt8) := if rightR r then (if r.op then putB es r.lo else putB (putB es r.lo) r.hi) else es
def edgesS (a b : List Rng) : List (List UInt8) := (a ++ b).foldl putE [[]]
theorem putE_up {es : List (List UInt8)} {r : Rng} (h : es.Pairwise (fun x y => ltB x y = true)) : (putE es r).Pairwise (fun x y => ltB x y = true) := by
  unfold putE
  split
  · split
    · exact putB_up h
    · exact putB_up (putB_up h)
  · exact h
theorem putE_mem (es : List (List UInt8)) (r : Rng) (x : List UInt8) : x ∈ putE es r ↔ x ∈ es ∨ (rightR r = true ∧ (x = r.lo ∨ (r.op = false ∧ x = r.hi))) := by
  unfold putE
  cases h : rightR r with
  | false => simp
  | true =>
    cases ho : r.op with
    | true => simp [putB_mem]; exact ⟨fun h => h.symm, fun h => h.symm⟩
    | false =>
      simp [putB_mem]
      constructor
      · rintro (h | h | h)
        · exact .inr (.inr h)
        · exact .inr (.inl h)
        · exact .inl h
      · rintro (h | h | h)
        · exact .inr (.inr h)
        · exact .inr (.inl h)
        · exact .inl h
theorem putE_len (es : List (List UInt8)) (r : Rng) : (putE es r).length ≤ es.length + 2 := by
  have h1 := putB_len es r.lo
  have h2 := putB_len (putB es r.lo) r.hi
  unfold putE
  split
  · split <;> omega
  · omega
theorem foldE_len : ∀ (l : List Rng) (es : List (List UInt8)), (l.foldl putE es).length ≤ es.length + 2 * l.length
  | [], es => by simp
  | r :: l, es => by
    have h1 := foldE_len l (putE es r)
    have h2 := putE_len es r
    simp only [List.foldl_cons, List.length_cons]; omega
theorem foldE_up : ∀ (l : List Rng) (es : List (List UInt8)), es.Pairwise (fun x y => ltB x y = true) → (l.foldl putE es).Pairwise (fun x y => ltB x y = true)
  | [], es, h => h
  | r :: l, es, h => foldE_up l _ (putE_up h)
theorem foldE_mem : ∀ (l : List Rng) (es : List (List UInt8)) (x : List UInt8), x ∈ l.foldl putE es ↔ x ∈ es ∨ ∃ r ∈ l, rightR r = true ∧ (x = r.lo ∨ (r.op = false ∧ x = r.hi))
  | [], es, x => by simp
  | r :: l, es, x => by
    rw [List.foldl_cons, foldE_mem l, putE_mem]
    simp only [List.mem_cons, exists_eq_or_imp, or_assoc]
theorem edgesS_up (a b : List Rng) : (edgesS a b).Pairwise (fun x y => ltB x y = true) := foldE_up _ _ (by simp)
theorem edgesS_nil (a b : List Rng) : [] ∈ edgesS a b := (foldE_mem _ _ _).2 (.inl (by simp))
theorem edgesS_len17 (a b : List Rng) : ∀ e ∈ edgesS a b, e.length ≤ 17 := fun e he => by
  rcases (foldE_mem _ _ _).1 he with h | ⟨r, _, h1, h2⟩
  · simp at h; subst h; simp
  · obtain ⟨k1, k2, _, _⟩ := right_parts h1
    rcases h2 with rfl | ⟨_, rfl⟩
    · exact k1
    · exact k2
theorem edgesS_all (a b : List Rng) : ∀ r ∈ a ++ b, rightR r = true → r.lo ∈ edgesS a b ∧ (r.op = false → r.hi ∈ edgesS a b) := fun r hr h => ⟨(foldE_mem _ _ _).2 (.inr ⟨r, hr, h, .inl rfl⟩), fun ho => (foldE_mem _ _ _).2 (.inr ⟨r, hr, h, .inr ⟨ho, rfl⟩⟩)⟩
theorem edgesS_len (a b : List Rng) : (edgesS a b).length ≤ 1 + 2 * (a.length + b.length) := by
  have := foldE_len (a ++ b) [[]]
  rw [List.length_append] at this
  exact this
/-- What is asked at the edges of two lists. -/
theorem mk_of {kp : Bool → Bool → Bool} {a b : List Rng} {es : List (List UInt8)} (up : es.Pairwise (fun x y => ltB x y = true)) (hnil : [] ∈ es) (hlen : ∀ e ∈ es, e.length ≤ 17)
    (ha : ∀ r ∈ a, rightR r = true → r.lo ∈ es ∧ (r.op = false → r.hi ∈ es)) (hb : ∀ r ∈ b, rightR r = true → r.lo ∈ es ∧ (r.op = false → r.hi ∈ es)) :
    (mkS (fun s => kp (hasRs a s) (hasRs b s)) es).1.reverse = setS (fun s => kp (hasRs a s) (hasRs b s)) ∧ IsS (fun s => kp (hasRs a s) (hasRs b s)) :=
  mkS_set up hnil hlen fun x e _ h1 h2 => by rw [hasRs_flat ha h1 h2, hasRs_flat hb h1 h2]
theorem isS_kp (kp : Bool → Bool → Bool) (a b : List Rng) : IsS (fun s => kp (hasRs a s) (hasRs b s)) :=
  (mk_of (edgesS_up a b) (edgesS_nil a b) (edgesS_len17 a b) (fun r hr => edgesS_all a b r (by simp [hr])) (fun r hr => edgesS_all a b r (by simp [hr]))).2
theorem isS_has (l : List Rng) : IsS (hasRs l) := isS_kp (fun x _ => x) l l
theorem has_setS (l : List Rng) (s : List UInt8) : hasRs (setS (hasRs l)) s = hasRs l s := setS_has (isS_has l) s
theorem setS_self {l : List Rng} (h : rightRs l = true) : setS (hasRs l) = l := (setS_eq h (fun _ => rfl)).symm
end Go.Proofs.Ytnmkojglcgaobaa
