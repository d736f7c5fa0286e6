/- Chapter 13: counting. Plain Lean. -/
import Derived.Test.YtbnmicpgbcfooaaK13J
namespace Go.Proofs.Ytbnmicpgbcfooaa
open Go.Abs
set_option linter.unusedSimpArgs false
set_option linter.unusedVariables false

/-- How many of 1 .. N. -/
def cnt (p : Int → Bool) : Nat → Int
  | 0 => 0
  | N + 1 => cnt p N + if p ((N : Int) + 1) then 1 else 0
theorem cnt_mono {p q : Int → Bool} (h : ∀ n, p n = true → q n = true) : ∀ N, cnt p N ≤ cnt q N
  | 0 => Int.le_refl _
  | N + 1 => by
    have ih := cnt_mono h N
    have := h ((N : Int) + 1)
    simp only [cnt]
    cases hp : p ((N : Int) + 1)
    · cases q ((N : Int) + 1) <;> simp <;> omega
    · rw [this hp]; simp; omega
theorem cnt_or (p q : Int → Bool) : ∀ N, cnt (fun n => p n || q n) N + cnt (fun n => p n && q n) N = cnt p N + cnt q N
  | 0 => rfl
  | N + 1 => by
    have ih := cnt_or p q N
    simp only [cnt]
    rcases Bool.eq_false_or_eq_true (p ((N : Int) + 1)) with h1 | h1 <;> rcases Bool.eq_false_or_eq_true (q ((N : Int) + 1)) with h2 | h2 <;> simp [h1, h2] <;> omega
theorem cnt_minus (p q : Int → Bool) : ∀ N, cnt (fun n => p n && !q n) N = cnt p N - cnt (fun n => p n && q n) N
  | 0 => rfl
  | N + 1 => by
    have ih := cnt_minus p q N
    simp only [cnt]
    rcases Bool.eq_false_or_eq_true (p ((N : Int) + 1)) with h1 | h1 <;> rcases Bool.eq_false_or_eq_true (q ((N : Int) + 1)) with h2 | h2 <;> simp [h1, h2] <;> omega
theorem cnt_in {r : Run} (h1 : 1 ≤ r.f) (h2 : r.f ≤ r.t + 1) : ∀ N : Nat, cnt (inR r) N = if (N : Int) < r.f then 0 else if (N : Int) ≤ r.t then N - r.f + 1 else r.t - r.f + 1
  | 0 => by
    rw [if_pos (by omega)]; rfl
  | N + 1 => by
    have ih := cnt_in h1 h2 N
    simp only [cnt, ih, inR]
    by_cases c1 : r.f ≤ (N : Int) + 1 <;> by_cases c2 : (N : Int) + 1 ≤ r.t <;> simp [c1, c2] <;> repeat' split
    all_goals omega
def Mx : Nat := 1099511627776
theorem cnt_in' {r : Run} (h1 : 1 ≤ r.f) (h2 : r.f ≤ r.t + 1) (h3 : r.t ≤ 1099511627776) : cnt (inR r) Mx = r.t - r.f + 1 := by
  rw [cnt_in h1 h2]
  have e : ((Mx : Nat) : Int) = 1099511627776 := rfl
  rw [e]
  split
  · omega
  · split <;> omega
theorem cnt_none {p : Int → Bool} (h : ∀ n, p n = false) : ∀ N, cnt p N = 0
  | 0 => rfl
  | N + 1 => by simp only [cnt, h, cnt_none h N]; rfl
theorem cnt_many : ∀ {l : List Run}, l.Pairwise (fun r q => r.t + 2 ≤ q.f) → (∀ r ∈ l, oneR r = true) → cnt (hasL13 l) Mx = manyR l
  | [], _, _ => cnt_none (fun _ => rfl) _
  | r :: l, h, ho => by
    rw [List.pairwise_cons] at h
    have o := ho r (by simp)
    obtain ⟨o1, o2, o3⟩ := oneR_iff.1 o
    have ih := cnt_many h.2 (fun q hq => ho q (by simp [hq]))
    have e1 : hasL13 (r :: l) = fun n => inR r n || hasL13 l n := by funext n; rw [has_cons, o, Bool.true_and]
    have e2 : cnt (fun n => inR r n && hasL13 l n) Mx = 0 := cnt_none (fun n => by
      cases hi : inR r n
      · rfl
      · rw [Bool.true_and, ← Bool.not_eq_true, has_iff]
        rintro ⟨q, hq, _, k1, k2⟩
        have := h.1 q hq
        simp [inR] at hi
        omega) Mx
    have e3 := cnt_or (inR r) (hasL13 l) Mx
    rw [e2, cnt_in' o1 (by omega) o3, ih, ← e1] at e3
    have e4 : manyR (r :: l) = (r.t - r.f + 1) + manyR l := by simp [manyR]
    omega
theorem many_cnt {p : Int → Bool} (h : IsR p) : manyR (setR p) = cnt p Mx := by
  obtain ⟨h1, h2⟩ := right_pw'.1 (setR_right p)
  rw [← cnt_many h1 h2]
  congr 1; funext n; exact setR_has h n

theorem base_spec {s : List Run} (h : rightL s = true) : 0 ≤ baseR s ∧ baseR s ≤ 1099511627776 ∧ (∀ n, 1 ≤ n → n ≤ baseR s → hasL13 s n = true) ∧ hasL13 s (baseR s + 1) = false := by
  obtain ⟨h1, h2⟩ := right_pw'.1 h
  cases s with
  | nil => exact ⟨Int.le_refl _, by simp [baseR], fun n a b => by simp [baseR] at b; omega, rfl⟩
  | cons r rs =>
    rw [List.pairwise_cons] at h1
    have o := oneR_iff.1 (h2 r (by simp))
    simp only [baseR]
    by_cases c : r.f = 1
    · rw [if_pos c]
      refine ⟨by omega, o.2.2, fun n a b => has_iff.2 ⟨r, by simp, h2 r (by simp), by omega, b⟩, ?_⟩
      rw [← Bool.not_eq_true, has_iff]
      rintro ⟨q, hq, _, k1, k2⟩
      rcases List.mem_cons.1 hq with rfl | hq
      · omega
      · have := h1.1 q hq; omega
    · rw [if_neg c]
      refine ⟨Int.le_refl _, by omega, fun n a b => by omega, ?_⟩
      rw [← Bool.not_eq_true, has_iff]
      rintro ⟨q, hq, _, k1, k2⟩
      rcases List.mem_cons.1 hq with rfl | hq
      · omega
      · have := h1.1 q hq; omega
theorem most_spec {s : List Run} (h : rightL s = true) : 0 ≤ mostR s ∧ mostR s ≤ 1099511627776 ∧ (0 < mostR s → hasL13 s (mostR s) = true) ∧ ∀ n, hasL13 s n = true → n ≤ mostR s := by
  rcases List.eq_nil_or_concat s with rfl | ⟨rs, r, rfl⟩
  · exact ⟨Int.le_refl _, by simp [mostR], fun h => by simp [mostR] at h, fun n h => by simp [has_nil] at h⟩
  · rw [List.concat_eq_append] at *
    have hv : mostR (rs ++ [r]) = r.t := by simp [mostR]
    have h1 := right_iff.1 h
    rw [List.reverse_append] at h1
    have h1' : RR (r :: rs.reverse) := h1
    have o := oneR_iff.1 (rr_one h1')
    rw [hv]
    refine ⟨by omega, o.2.2, fun _ => ?_, fun n hn => ?_⟩
    · rw [has_append, has_cons, rr_one h1', Bool.true_and]
      have : inR r r.t = true := by simp [inR]; omega
      rw [this]; simp
    · refine rr_top h1' n ?_
      rw [← has_rev] at hn
      rw [List.reverse_append] at hn
      exact hn
/-- What the greatest is, is told by what is there. -/
theorem most_eq {s : List Run} (h : rightL s = true) {m : Int} (h0 : 0 ≤ m) (h1 : 0 < m → hasL13 s m = true) (h2 : ∀ n, hasL13 s n = true → n ≤ m) : mostR s = m := by
  obtain ⟨g0, g1, g2, g3⟩ := most_spec h
  rcases Int.lt_or_le 0 m with c | c
  · have k1 := g3 m (h1 c)
    have k2 := h2 (mostR s) (g2 (by omega))
    omega
  · rcases Int.lt_or_le 0 (mostR s) with c' | c'
    · have := h2 _ (g2 c'); omega
    · omega
theorem isR_iff_congr {p q : Int → Bool} (h : IsR p) (e : ∀ n, p n = q n) : IsR q := by
  have : p = q := funext e
  rwa [← this]
theorem isR_kp (kp : Bool → Bool → Bool) (op : Int) (h : ∀ x y, opF op x y = kp x y) (a b : List Run) : IsR fun n => kp (hasL13 a n) (hasL13 b n) := isR_iff_congr (isR_op op a b) fun n => h _ _
theorem has_set (l : List Run) (n : Int) : hasL13 (setR (hasL13 l)) n = hasL13 l n := setR_has (isR_has l) n
/-- What the law tells of base, greatest and how many. -/
theorem tell (l : List Run) : 0 ≤ baseR (setR (hasL13 l)) ∧ baseR (setR (hasL13 l)) ≤ mostR (setR (hasL13 l)) ∧ mostR (setR (hasL13 l)) ≤ 1099511627776 ∧ baseR (setR (hasL13 l)) ≤ manyR (setR (hasL13 l)) ∧ manyR (setR (hasL13 l)) ≤ mostR (setR (hasL13 l)) ∧
    (manyR (setR (hasL13 l)) = baseR (setR (hasL13 l)) ↔ baseR (setR (hasL13 l)) = mostR (setR (hasL13 l))) := by
  obtain ⟨b0, b1, b2, b3⟩ := base_spec (setR_right (hasL13 l))
  obtain ⟨m0, m1, m2, m3⟩ := most_spec (setR_right (hasL13 l))
  have hc := many_cnt (isR_has l)
  have hs : hasL13 (setR (hasL13 l)) = hasL13 l := funext (has_set l)
  rw [hs] at b2 b3 m2 m3
  generalize baseR (setR (hasL13 l)) = b at *
  generalize mostR (setR (hasL13 l)) = m at *
  generalize manyR (setR (hasL13 l)) = k at *
  have hbm : b ≤ m := by
    rcases Int.lt_or_le 0 b with c | c
    · exact m3 b (b2 b (by omega) (Int.le_refl _))
    · omega
  have hb : b ≤ k := by
    have e := cnt_mono (p := inR ⟨1, b⟩) (q := hasL13 l) (fun n hn => by simp [inR] at hn; exact b2 n hn.1 hn.2) Mx
    rw [cnt_in' (r := ⟨1, b⟩) (Int.le_refl _) (by show 1 ≤ b + 1; omega) b1] at e
    simp only at e; omega
  have hm : k ≤ m := by
    have e := cnt_mono (p := hasL13 l) (q := inR ⟨1, m⟩) (fun n hn => by simp [inR]; exact ⟨(has_range hn).1, m3 n hn⟩) Mx
    rw [cnt_in' (r := ⟨1, m⟩) (Int.le_refl _) (by show 1 ≤ m + 1; omega) m1] at e
    simp only at e; omega
  refine ⟨b0, hbm, m1, hb, hm, ⟨fun e => ?_, fun e => by omega⟩⟩
  rcases Int.lt_or_le b m with c | c
  · exfalso
    have e1 := cnt_mono (p := fun n => inR ⟨1, b⟩ n || inR ⟨m, m⟩ n) (q := hasL13 l) (fun n hn => by
      simp [inR] at hn
      rcases hn with hn | hn
      · exact b2 n hn.1 hn.2
      · have : n = m := by omega
        subst this; exact m2 (by omega)) Mx
    have e2 := cnt_or (inR ⟨1, b⟩) (inR ⟨m, m⟩) Mx
    have e3 := cnt_none (p := fun n => inR ⟨1, b⟩ n && inR ⟨m, m⟩ n) (fun n => by
      rw [← Bool.not_eq_true]; simp [inR]; omega) Mx
    rw [e3, cnt_in' (r := ⟨1, b⟩) (Int.le_refl _) (by show 1 ≤ b + 1; omega) b1, cnt_in' (r := ⟨m, m⟩) (by show 1 ≤ m; omega) (by show m ≤ m + 1; omega) m1] at e2
    simp only at e2; omega
  · omega
theorem many_add (l : List Run) (n : Int) : manyR (setR (hasL13 (l ++ [⟨n, n⟩]))) = if (decide (1 ≤ n) && decide (n ≤ 1099511627776) && !hasL13 l n) = true then manyR (setR (hasL13 l)) + 1 else manyR (setR (hasL13 l)) := by
  have he : ∀ x, hasL13 (l ++ [⟨n, n⟩]) x = (hasL13 l x || (oneR ⟨n, n⟩ && inR ⟨n, n⟩ x)) := fun x => by rw [has_append, has_cons, has_nil, Bool.or_false]
  rw [many_cnt (isR_has _), many_cnt (isR_has _)]
  by_cases h1 : 1 ≤ n ∧ n ≤ 1099511627776
  · have ho : oneR ⟨n, n⟩ = true := oneR_iff.2 ⟨h1.1, Int.le_refl _, h1.2⟩
    cases h2 : hasL13 l n with
    | true =>
      rw [if_neg (by simp)]
      congr 1; funext x
      rw [he, ho, Bool.true_and]
      cases hi : inR ⟨n, n⟩ x
      · simp
      · simp [inR] at hi
        have : x = n := by omega
        subst this; rw [h2]; rfl
    | false =>
      rw [if_pos (by simp [h1])]
      have e1 := cnt_or (hasL13 l) (inR ⟨n, n⟩) Mx
      have e2 := cnt_none (p := fun x => hasL13 l x && inR ⟨n, n⟩ x) (fun x => by
        cases hi : inR ⟨n, n⟩ x
        · simp
        · simp [inR] at hi
          have : x = n := by omega
          subst this; rw [h2]; rfl) Mx
      rw [e2, cnt_in' (r := ⟨n, n⟩) h1.1 (by show n ≤ n + 1; omega) h1.2] at e1
      have e3 : hasL13 (l ++ [⟨n, n⟩]) = fun x => hasL13 l x || inR ⟨n, n⟩ x := by funext x; rw [he, ho, Bool.true_and]
      rw [e3]
      simp only at e1; omega
  · have ho : oneR ⟨n, n⟩ = false := by rw [← Bool.not_eq_true, oneR_iff]; simp only; omega
    rw [if_neg (by simp; omega)]
    congr 1; funext x
    rw [he, ho]; simp
end Go.Proofs.Ytbnmicpgbcfooaa
