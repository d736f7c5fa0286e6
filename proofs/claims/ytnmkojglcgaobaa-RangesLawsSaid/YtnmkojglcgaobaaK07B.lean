/- Chapter 07: laws on ranges, no program in sight. -/
import Derived.Test.YtnmkojglcgaobaaK07
namespace Go.Proofs.Ytnmkojglcgaobaa
open Go.Abs
set_option linter.unusedSimpArgs false
set_option linter.unusedVariables false

theorem not_lt_trans {a b c : List UInt8} (h1 : ltB b a = false) (h2 : ltB c b = false) : ltB c a = false := by
  cases h : ltB c a with
  | false => rfl
  | true =>
    rcases lt_tri c b with g | g | g
    · rw [g] at h2; cases h2
    · subst g; rw [h] at h1; cases h1
    · rw [lt_trans' g h] at h1; cases h1
theorem lt_of_lt_not {a b c : List UInt8} (h1 : ltB a b = true) (h2 : ltB c b = false) : ltB a c = true := by
  rcases lt_tri a c with g | g | g
  · exact g
  · subst g; rw [h1] at h2; cases h2
  · rw [lt_trans' g h1] at h2; cases h2
theorem lt_of_not_lt {a b c : List UInt8} (h1 : ltB b a = false) (h2 : ltB b c = true) : ltB a c = true := by
  rcases lt_tri a c with g | g | g
  · exact g
  · subst g; rw [h1] at h2; cases h2
  · rw [lt_trans' h2 g] at h1; cases h1
theorem ltB_nil (s : List UInt8) : ltB s [] = false := by cases s <;> rfl
theorem take_append_one {l : List UInt8} {n : Nat} {x : UInt8} : (l.take n ++ [x]).length ≤ n + 1 := by simp; omega
theorem endB_len {p e : List UInt8} (h : endB p = some e) : e.length ≤ p.length := by
  unfold endB at h
  split at h
  · cases h
  · obtain rfl := Option.some.inj h
    have := cut_le p p.length
    rw [List.length_append, List.length_take]
    simp; omega
theorem endR_lt : ∀ {p e : List UInt8}, endR p = some e → ltB p e = true
  | [], e, h => by simp [endR] at h
  | c :: p, e, h => by
    simp only [endR] at h
    split at h
    · rename_i e' he
      obtain rfl := Option.some.inj h
      have := endR_lt he
      simp only [ltB, beq_iff_eq, cmpB_cons] at this ⊢
      rw [if_neg (by omega), if_neg (by omega)]; exact this
    · split at h
      · cases h
      · rename_i h255
        obtain rfl := Option.some.inj h
        have hc2 : c.toNat ≠ 255 := fun e => h255 (UInt8.toNat_inj.1 (by rw [e]; rfl))
        have := c.toNat_lt
        have hs : (c + 1).toNat = c.toNat + 1 := by
          rw [UInt8.toNat_add]
          have : (1 : UInt8).toNat = 1 := rfl
          rw [this]; omega
        simp only [ltB, beq_iff_eq, cmpB_cons, hs]
        rw [if_pos (by omega)]
/-- What begins with a text, and just that one. -/
theorem prefix_right {t : List UInt8} (h : t.length ≤ 16) : rightR (prefixR t) = true := by
  unfold prefixR
  rw [if_neg (by omega)]
  cases he : endB t with
  | none => simp [rightR]; omega
  | some e =>
    have h1 := endB_len he
    have h2 := endR_lt (by rw [← endB_eq]; exact he)
    simp [rightR, h2]; omega
theorem prefix_has {t s : List UInt8} (h : t.length ≤ 16) : hasR (prefixR t) s = beginsB s t := by
  have hr := prefix_right h
  have := end_in t s
  rw [← endB_eq] at this
  rw [← this]
  unfold hasR
  rw [hr]
  unfold prefixR
  rw [if_neg (by omega)]
  simp
theorem of_right {t : List UInt8} (h : t.length ≤ 16) : rightR (ofR t) = true := by
  unfold ofR
  rw [if_neg (by omega)]
  simp [rightR, lt_next]; omega
theorem of_has {t s : List UInt8} (h : t.length ≤ 16) : hasR (ofR t) s = (s == t) := by
  have hr := of_right h
  unfold hasR
  rw [hr]
  unfold ofR
  rw [if_neg (by omega)]
  simp only [Bool.true_and, Bool.false_or]
  rcases lt_tri s t with g | g | g
  · have : s ≠ t := fun e => by subst e; rw [lt_irrefl] at g; cases g
    rw [g]; simp [this]
  · subst g; rw [lt_irrefl, lt_next]; simp
  · have : s ≠ t := fun e => by subst e; rw [lt_irrefl] at g; cases g
    rw [next_least g]; simp [this]
theorem zero_not_right : rightR Rng.zero = false := rfl
theorem all_has (s : List UInt8) : hasR ⟨[], [], true⟩ s = true := by
  simp [hasR, rightR, ltB_nil]

/-- Does a range go on at a text? -/
def upTo (r : Rng) (s : List UInt8) : Bool := r.op || ltB s r.hi
theorem hasR_eq (r : Rng) (s : List UInt8) : hasR r s = (rightR r && (!ltB s r.lo && upTo r s)) := by
  simp [hasR, upTo, Bool.and_assoc]
theorem ends_neg (a b : Rng) : endsR b a = - endsR a b := by
  unfold endsR
  cases rightR a <;> cases rightR b <;> cases a.op <;> cases b.op <;> simp [cmp_neg a.hi b.hi]
theorem ends_lt {a b : Rng} (ha : rightR a = true) (hb : rightR b = true) : endsR a b < 0 ↔ a.op = false ∧ (b.op = true ∨ ltB a.hi b.hi = true) := by
  unfold endsR
  rw [ha, hb]
  cases a.op <;> cases b.op <;> simp
  have := @cmp_lt0 a.hi b.hi
  rw [← decide_eq_true_iff (p := cmpB a.hi b.hi < 0), this]
theorem upTo_min {a b : Rng} (ha : rightR a = true) (hb : rightR b = true) (s : List UInt8) : upTo (if endsR b a < 0 then b else a) s = (upTo a s && upTo b s) := by
  have e1 := ends_lt hb ha
  split
  · rename_i h
    obtain ⟨h1, h2⟩ := e1.1 h
    cases hu : upTo b s with
    | false => simp
    | true =>
      simp only [upTo, h1, Bool.false_or] at hu
      rcases h2 with h2 | h2
      · simp [upTo, h2]
      · simp [upTo, lt_trans' hu h2]
  · rename_i h
    have h' : ¬ (b.op = false ∧ (a.op = true ∨ ltB b.hi a.hi = true)) := fun x => h (e1.2 x)
    cases hu : upTo a s with
    | false => simp
    | true =>
      cases hbo : b.op with
      | true => simp [upTo, hbo]
      | false =>
        have h2 : a.op = false ∧ ltB b.hi a.hi = false := by
          refine ⟨?_, ?_⟩
          · cases hao : a.op with
            | false => rfl
            | true => exact (h' ⟨hbo, .inl hao⟩).elim
          · cases hl : ltB b.hi a.hi with
            | false => rfl
            | true => exact (h' ⟨hbo, .inr hl⟩).elim
        simp only [upTo, h2.1, Bool.false_or] at hu
        simp [upTo, hbo, lt_of_lt_not hu h2.2]
theorem lo_max (a b s : List UInt8) : (!ltB s (if ltB a b then b else a)) = (!ltB s a && !ltB s b) := by
  split
  · rename_i h
    cases hs : ltB s b with
    | true => simp
    | false =>
      have : ltB s a = false := by
        cases hsa : ltB s a with
        | false => rfl
        | true => rw [lt_trans' hsa h] at hs; cases hs
      simp [this]
  · rename_i h
    cases hs : ltB s a with
    | true => simp
    | false => simp [not_lt_trans (by simpa using h) hs]
theorem right_parts {r : Rng} (h : rightR r = true) : r.lo.length ≤ 17 ∧ r.hi.length ≤ 17 ∧ (r.op = true → r.hi = []) ∧ (r.op = false → ltB r.lo r.hi = true) := by
  simp only [rightR, Bool.and_eq_true, decide_eq_true_eq] at h
  obtain ⟨⟨h1, h2⟩, h3⟩ := h
  refine ⟨h1, h2, fun e => ?_, fun e => ?_⟩
  · rw [e] at h3; simpa using h3
  · rw [e] at h3; simpa using h3
theorem right_mk {r : Rng} (h1 : r.lo.length ≤ 17) (h2 : r.hi.length ≤ 17) (h3 : r.op = true → r.hi = []) (h4 : r.op = false → ltB r.lo r.hi = true) : rightR r = true := by
  simp only [rightR, Bool.and_eq_true, decide_eq_true_eq]
  refine ⟨⟨h1, h2⟩, ?_⟩
  cases ho : r.op with
  | true => simp [h3 ho]
  | false => simp [h4 ho]
theorem right_upTo {r : Rng} (h : rightR r = true) : upTo r r.lo = true := by
  obtain ⟨_, _, _, h4⟩ := right_parts h
  cases ho : r.op with
  | true => simp [upTo, ho]
  | false => simp [upTo, h4 ho]
theorem right_has_lo {r : Rng} (h : rightR r = true) : hasR r r.lo = true := by
  rw [hasR_eq, h, lt_irrefl, right_upTo h]; rfl
theorem meet_some {a b m : Rng} (h : meetR a b = some m) : rightR a = true ∧ rightR b = true ∧ rightR m = true ∧ m = ⟨if ltB a.lo b.lo then b.lo else a.lo, (if endsR b a < 0 then b else a).hi, (if endsR b a < 0 then b else a).op⟩ := by
  unfold meetR at h
  by_cases hr : (rightR a && rightR b) = true
  · rw [if_pos hr] at h
    simp only [Bool.and_eq_true] at hr
    by_cases hm : rightR (meetC a b) = true
    · rw [if_pos hm] at h
      obtain rfl := Option.some.inj h
      exact ⟨hr.1, hr.2, hm, rfl⟩
    · rw [if_neg hm] at h; cases h
  · rw [if_neg hr] at h; cases h
theorem meet_has {a b m : Rng} (h : meetR a b = some m) (s : List UInt8) : hasR m s = (hasR a s && hasR b s) := by
  obtain ⟨ha, hb, hm, e⟩ := meet_some h
  have h1 := upTo_min ha hb s
  have h2 := lo_max a.lo b.lo s
  rw [hasR_eq, hasR_eq, hasR_eq, ha, hb, hm]
  have e1 : m.lo = if ltB a.lo b.lo then b.lo else a.lo := by rw [e]
  have e2 : upTo m s = upTo (if endsR b a < 0 then b else a) s := by rw [e]; rfl
  rw [e1, h2, e2, h1]
  simp only [Bool.true_and]
  cases ltB s a.lo <;> cases ltB s b.lo <;> cases upTo a s <;> cases upTo b s <;> rfl
theorem meet_none {a b : Rng} (h : meetR a b = none) : (hasR a b.lo && hasR b b.lo) = false ∧ (hasR b a.lo && hasR a a.lo) = false := by
  have key : ∀ s, hasR a s = true → hasR b s = true → (s = a.lo ∨ s = b.lo) → False := by
    intro s h1 h2 hs
    rw [hasR_eq] at h1 h2
    simp only [Bool.and_eq_true, Bool.not_eq_true'] at h1 h2
    obtain ⟨ha, ha1, ha2⟩ := h1
    obtain ⟨hb, hb1, hb2⟩ := h2
    unfold meetR at h
    rw [ha, hb] at h
    simp only [Bool.and_true, if_true] at h
    by_cases hm : rightR (meetC a b) = true
    · rw [if_pos hm] at h; cases h
    · apply hm
      have hlo : (if ltB a.lo b.lo then b.lo else a.lo) = s := by
        rcases hs with rfl | rfl
        · rw [if_neg (by rw [hb1]; simp)]
        · cases hl : ltB a.lo b.lo with
          | true => simp
          | false =>
            rcases lt_tri a.lo b.lo with g | g | g
            · rw [g] at hl; cases hl
            · simpa using g
            · rw [g] at ha1; cases ha1
      unfold meetC
      rw [hlo]
      have hu := upTo_min ha hb s
      rw [ha2, hb2] at hu
      obtain ⟨pa1, pa2, pa3, pa4⟩ := right_parts ha
      obtain ⟨pb1, pb2, pb3, pb4⟩ := right_parts hb
      have hsl : s.length ≤ 17 := by rcases hs with rfl | rfl <;> assumption
      refine right_mk hsl ?_ ?_ ?_
      · show (if endsR b a < 0 then b else a).hi.length ≤ 17
        split <;> assumption
      · show (if endsR b a < 0 then b else a).op = true → (if endsR b a < 0 then b else a).hi = []
        split <;> assumption
      · show (if endsR b a < 0 then b else a).op = false → ltB s (if endsR b a < 0 then b else a).hi = true
        intro ho
        simp only [upTo, ho, Bool.false_or] at hu
        simpa using hu
  refine ⟨?_, ?_⟩
  · cases h1 : hasR a b.lo <;> cases h2 : hasR b b.lo <;> try rfl
    exact (key _ h1 h2 (.inr rfl)).elim
  · cases h1 : hasR b a.lo <;> cases h2 : hasR a a.lo <;> try rfl
    exact (key _ h2 h1 (.inl rfl)).elim
theorem meet_comm {a b m : Rng} (h : meetR a b = some m) : meetR b a = some m := by
  obtain ⟨ha, hb, hm, e⟩ := meet_some h
  obtain ⟨pa1, pa2, pa3, pa4⟩ := right_parts ha
  obtain ⟨pb1, pb2, pb3, pb4⟩ := right_parts hb
  have e1 : (if ltB b.lo a.lo then a.lo else b.lo) = if ltB a.lo b.lo then b.lo else a.lo := by
    rcases lt_tri a.lo b.lo with g | g | g
    · rw [g, lt_asymm' g]; rfl
    · rw [g]
    · rw [g, lt_asymm' g]; rfl
  have hn := ends_neg a b
  have hlt1 := ends_lt ha hb
  have hlt2 := ends_lt hb ha
  have e2 : (if endsR a b < 0 then a else b).hi = (if endsR b a < 0 then b else a).hi ∧ (if endsR a b < 0 then a else b).op = (if endsR b a < 0 then b else a).op := by
    by_cases h1 : endsR a b < 0
    · rw [if_pos h1, if_neg (by omega)]; exact ⟨rfl, rfl⟩
    · by_cases h2 : endsR b a < 0
      · rw [if_neg h1, if_pos h2]; exact ⟨rfl, rfl⟩
      · rw [if_neg h1, if_neg h2]
        have h0 : endsR a b = 0 := by omega
        unfold endsR at h0
        rw [ha, hb] at h0
        cases hao : a.op <;> cases hbo : b.op <;> rw [hao, hbo] at h0 <;> simp at h0
        · exact ⟨(cmp_zero.1 h0).symm, rfl⟩
        · exact ⟨by rw [pa3 hao, pb3 hbo], rfl⟩
  have ec : meetC b a = m := by
    unfold meetC
    rw [e1, e2.1, e2.2, ← e]
  unfold meetR
  rw [ha, hb, ec, hm]
  rfl
end Go.Proofs.Ytnmkojglcgaobaa
