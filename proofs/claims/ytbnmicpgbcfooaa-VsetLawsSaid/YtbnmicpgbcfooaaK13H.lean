/- Chapter 13: two lists, swept. -/
import Derived.Test.YtbnmicpgbcfooaaK13G
namespace Go.Proofs.Ytbnmicpgbcfooaa
open Go.Abs
set_option linter.unusedSimpArgs false
set_option linter.unusedVariables false
set_option linter.unusedSectionVars false
set_option maxRecDepth 20000
set_option maxHeartbeats 8000000

theorem rr_pw : ∀ {l : List Run}, RR l ↔ l.Pairwise (fun r q => q.t + 2 ≤ r.f) ∧ ∀ r ∈ l, oneR r = true
  | [] => by simp [RR]
  | r :: l => by
    constructor
    · intro h
      obtain ⟨h1, h2⟩ := rr_pw.1 (rr_tail h)
      exact ⟨List.pairwise_cons.2 ⟨rr_below h, h1⟩, rr_all h⟩
    · rintro ⟨h1, h2⟩
      rw [List.pairwise_cons] at h1
      have ih := rr_pw.2 ⟨h1.2, fun q hq => h2 q (by simp [hq])⟩
      cases l with
      | nil => exact h2 r (by simp)
      | cons q l => exact ⟨h2 r (by simp), h1.1 q (by simp), ih⟩
theorem right_pw {l : List Run} : rightL l = true ↔ l.Pairwise (fun r q => r.t + 2 ≤ q.f) ∧ ∀ r ∈ l, oneR r = true := by
  rw [right_iff, rr_pw, List.pairwise_reverse]
  simp
def hdIn (D : List Run) (at' : Int) : Bool := match D with | [] => false | r :: _ => decide (r.f ≤ at')
def hdEnd (D : List Run) (at' en : Int) : Int := match D with | [] => en | r :: _ => if at' < r.f then (if r.f - 1 < en then r.f - 1 else en) else (if r.t < en then r.t else en)
def hdNext (D : List Run) (e : Int) : List Run := match D with | [] => [] | r :: rs => if r.t = e then rs else r :: rs
section
variable {D : List Run} {p e : Int}
theorem hdEnd_le : hdEnd D p e ≤ e := by
  cases D with
  | nil => exact Int.le_refl _
  | cons r rs => simp only [hdEnd]; split <;> split <;> omega
theorem hdEnd_ge (h : ∀ r ∈ D, p ≤ r.t) (hp : p ≤ e) : p ≤ hdEnd D p e := by
  cases D with
  | nil => exact hp
  | cons r rs =>
    have := h r (by simp)
    simp only [hdEnd]; split <;> split <;> omega
theorem hd_in (hr : rightL D = true) (h : ∀ r ∈ D, p ≤ r.t) {n : Int} (h1 : p ≤ n) (h2 : n ≤ hdEnd D p e) : hasL13 D n = hdIn D p := by
  cases D with
  | nil => rfl
  | cons r rs =>
    obtain ⟨g1, g2⟩ := right_pw.1 hr
    rw [List.pairwise_cons] at g1
    have o := oneR_iff.1 (g2 r (by simp))
    simp only [hdEnd, hdIn] at h2 ⊢
    by_cases c : p < r.f
    · rw [if_pos c] at h2
      have hn : n < r.f := by split at h2 <;> omega
      rw [show decide (r.f ≤ p) = false by simp; omega, ← Bool.not_eq_true, has_iff]
      rintro ⟨q, hq, _, k1, k2⟩
      rcases List.mem_cons.1 hq with rfl | hq
      · omega
      · have := g1.1 q hq; omega
    · rw [if_neg c] at h2
      have hn : n ≤ r.t := by split at h2 <;> omega
      rw [show decide (r.f ≤ p) = true by simp; omega, has_iff]
      exact ⟨r, by simp, g2 r (by simp), by omega, hn⟩
theorem hd_next (hr : rightL D = true) (h : ∀ r ∈ D, p ≤ r.t) {x : Int} (h1 : p ≤ x) (h2 : x ≤ hdEnd D p e) : (∀ n, x + 1 ≤ n → hasL13 (hdNext D x) n = hasL13 D n) ∧ ∀ r ∈ hdNext D x, x + 1 ≤ r.t := by
  cases D with
  | nil => exact ⟨fun _ _ => rfl, fun _ hr => by cases hr⟩
  | cons r rs =>
    obtain ⟨g1, g2⟩ := right_pw.1 hr
    rw [List.pairwise_cons] at g1
    have o := oneR_iff.1 (g2 r (by simp))
    have ht := h r (by simp)
    have hx : x ≤ r.t := by simp only [hdEnd] at h2; split at h2 <;> split at h2 <;> omega
    have hrest : ∀ q ∈ rs, r.t + 2 ≤ q.t := fun q hq => by
      have := g1.1 q hq
      have := oneR_iff.1 (g2 q (by simp [hq]))
      omega
    simp only [hdNext]
    by_cases c : r.t = x
    · rw [if_pos c]
      refine ⟨fun n hn => ?_, fun q hq => by have := hrest q hq; omega⟩
      rw [has_cons]
      have : inR r n = false := by
        unfold inR
        rw [show decide (n ≤ r.t) = false by simp; omega, Bool.and_false]
      rw [this]; simp
    · rw [if_neg c]
      refine ⟨fun _ _ => rfl, fun q hq => ?_⟩
      rcases List.mem_cons.1 hq with rfl | hq
      · omega
      · have := hrest q hq; omega
end
theorem right_drop {l : List Run} (h : rightL l = true) (k : Nat) : rightL (l.drop k) = true := by
  obtain ⟨h1, h2⟩ := right_pw.1 h
  exact right_pw.2 ⟨h1.sublist (List.drop_sublist _ _), fun r hr => h2 r (List.mem_of_mem_drop hr)⟩

structure SwInv (kp : Bool → Bool → Bool) (a b : List Run) (p : Int) (i k : Nat) (out : List Run) : Prop where
  lo : 1 ≤ p
  hi : p ≤ 1099511627777
  ia : i ≤ a.length
  kb : k ≤ b.length
  da : ∀ r ∈ a.drop i, p ≤ r.t
  db : ∀ r ∈ b.drop k, p ≤ r.t
  ha : ∀ n, p ≤ n → hasL13 (a.drop i) n = hasL13 a n
  hb : ∀ n, p ≤ n → hasL13 (b.drop k) n = hasL13 b n
  one : ∀ r ∈ out, oneR r = true
  hout : ∀ n, hasL13 out n = (decide (n < p) && kp (hasL13 a n) (hasL13 b n))
  len : (out.length : Int) < p
section
variable {kp : Bool → Bool → Bool} {a b : List Run} (hra : rightL a = true) (hrb : rightL b = true)
include hra hrb
theorem sw_init (hk : kp false false = false) : SwInv kp a b 1 0 0 [] where
  lo := by omega
  hi := by omega
  ia := Nat.zero_le _
  kb := Nat.zero_le _
  da := fun r hr => by have := oneR_iff.1 ((right_pw.1 hra).2 r hr); omega
  db := fun r hr => by have := oneR_iff.1 ((right_pw.1 hrb).2 r hr); omega
  ha := fun _ _ => rfl
  hb := fun _ _ => rfl
  one := fun _ h => by cases h
  hout := fun n => by
    by_cases h : n < 1
    · have e : ∀ l, hasL13 l n = false := fun l => by
        rw [← Bool.not_eq_true]; intro h'; have := has_range h'; omega
      simp [e, hk]
    · simp [h, has_nil]
  len := by simp
/-- The end of what is alike from here on. -/
def swEnd (a b : List Run) (p : Int) (i k : Nat) : Int := hdEnd (b.drop k) p (hdEnd (a.drop i) p 1099511627776)
theorem sw_end {p : Int} {i k : Nat} {out : List Run} (h : SwInv kp a b p i k out) (hp : p ≤ 1099511627776) : p ≤ swEnd a b p i k ∧ swEnd a b p i k ≤ 1099511627776 ∧ swEnd a b p i k ≤ hdEnd (a.drop i) p 1099511627776 := by
  have h1 := hdEnd_ge h.da hp
  have h2 := hdEnd_ge h.db h1
  have h3 := hdEnd_le (D := a.drop i) (p := p) (e := 1099511627776)
  have h4 := hdEnd_le (D := b.drop k) (p := p) (e := hdEnd (a.drop i) p 1099511627776)
  unfold swEnd
  exact ⟨h2, by omega, h4⟩
theorem sw_step {p : Int} {i k i' k' : Nat} {out out' : List Run} (h : SwInv kp a b p i k out) (hp : p ≤ 1099511627776)
    (hi : i' ≤ a.length) (hk : k' ≤ b.length) (hi' : a.drop i' = hdNext (a.drop i) (swEnd a b p i k)) (hk' : b.drop k' = hdNext (b.drop k) (swEnd a b p i k))
    (ho : out' = if kp (hdIn (a.drop i) p) (hdIn (b.drop k) p) then out ++ [⟨p, swEnd a b p i k⟩] else out) : SwInv kp a b (swEnd a b p i k + 1) i' k' out' := by
  obtain ⟨e1, e2, e3⟩ := sw_end hra hrb h hp
  have n1 := hd_next (right_drop hra i) h.da e1 e3
  have n2 := hd_next (right_drop hrb k) h.db e1 (Int.le_refl (swEnd a b p i k))
  have v1 : ∀ n, p ≤ n → n ≤ swEnd a b p i k → hasL13 a n = hdIn (a.drop i) p := fun n g1 g2 => by
    rw [← h.ha n g1]; exact hd_in (e := 1099511627776) (right_drop hra i) h.da g1 (by omega)
  have v2 : ∀ n, p ≤ n → n ≤ swEnd a b p i k → hasL13 b n = hdIn (b.drop k) p := fun n g1 g2 => by
    rw [← h.hb n g1]; exact hd_in (right_drop hrb k) h.db g1 g2
  have hlo := h.lo
  have hone : oneR ⟨p, swEnd a b p i k⟩ = true := oneR_iff.2 ⟨hlo, e1, e2⟩
  exact {
    lo := by omega
    hi := by omega
    ia := hi
    kb := hk
    da := fun r hr => n1.2 r (by rw [← hi']; exact hr)
    db := fun r hr => n2.2 r (by rw [← hk']; exact hr)
    ha := fun n hn => by rw [hi', n1.1 n hn]; exact h.ha n (by omega)
    hb := fun n hn => by rw [hk', n2.1 n hn]; exact h.hb n (by omega)
    one := fun r hr => by
      rw [ho] at hr
      split at hr
      · rcases List.mem_append.1 hr with hr | hr
        · exact h.one r hr
        · rw [List.mem_singleton] at hr; rw [hr]; exact hone
      · exact h.one r hr
    hout := fun n => by
      by_cases c1 : n < p
      · have c2 : n < swEnd a b p i k + 1 := by omega
        rw [ho, decide_eq_true c2, Bool.true_and]
        have := h.hout n
        rw [decide_eq_true c1, Bool.true_and] at this
        split
        · rw [has_append, this, has_cons, hone, has_nil]
          have : inR ⟨p, swEnd a b p i k⟩ n = false := by
            unfold inR
            rw [show decide (p ≤ n) = false by simp; omega, Bool.false_and]
          rw [this]; simp
        · exact this
      · have h0 := h.hout n
        rw [decide_eq_false c1, Bool.false_and] at h0
        by_cases c2 : n < swEnd a b p i k + 1
        · rw [decide_eq_true c2, Bool.true_and, v1 n (by omega) (by omega), v2 n (by omega) (by omega), ho]
          split
          · rename_i hkp
            have : inR ⟨p, swEnd a b p i k⟩ n = true := by simp [inR]; omega
            rw [has_append, has_cons, hone, this, hkp]; simp
          · rename_i hkp
            rw [h0]; simpa using hkp
        · rw [decide_eq_false c2, Bool.false_and, ho]
          split
          · have : inR ⟨p, swEnd a b p i k⟩ n = false := by
              unfold inR
              rw [show decide (n ≤ swEnd a b p i k) = false by simp; omega, Bool.and_false]
            rw [has_append, h0, has_cons, this]; simp [has_nil]
          · exact h0
    len := by
      have := h.len
      rw [ho]
      split
      · rw [List.length_append, List.length_singleton]; omega
      · omega }
theorem sw_done (hk : kp false false = false) {p : Int} {i k : Nat} {out : List Run} (h : SwInv kp a b p i k out) (hx : ¬ p ≤ 1099511627776 ∨ (i = a.length ∧ k = b.length)) : hasL13 out = fun n => kp (hasL13 a n) (hasL13 b n) := by
  funext n
  rw [h.hout n]
  by_cases c : n < p
  · rw [decide_eq_true c, Bool.true_and]
  · rw [decide_eq_false c, Bool.false_and]
    have e1 : hasL13 a n = false := by
      rcases hx with hx | ⟨rfl, rfl⟩
      · rw [← Bool.not_eq_true]; intro h'; have := has_range h'; omega
      · rw [← h.ha n (by omega), List.drop_length]; rfl
    have e2 : hasL13 b n = false := by
      rcases hx with hx | ⟨rfl, rfl⟩
      · rw [← Bool.not_eq_true]; intro h'; have := has_range h'; omega
      · rw [← h.hb n (by omega), List.drop_length]; rfl
    rw [e1, e2, hk]
end

def C13W : Tab := { T13z with fix := fun n => n == 0 || n == 1, nf := 2 }
theorem C13W_ok : TabOK Try.prog C13W := ⟨T13z_ok.f, T13z_ok.hp⟩
@[go_sem] theorem C13W_f : C13W.f = T13z.f := rfl
@[go_sem] theorem C13W_eff {g : FuncId} : C13W.eff g = T13z.eff g := rfl
@[go_sem] theorem C13W_effT : C13W.effT = false := rfl
@[go_sem] theorem C13W_fix {n : Nat} : C13W.fix n = (n == 0 || n == 1) := rfl
@[go_sem] theorem C13W_nf : C13W.nf = 2 := rfl
@[go_sem] theorem C13W_ords {n : Nat} : C13W.ords n = [] := rfl
theorem ok_counts_sweep_1 : codeOK Try.prog C13W Try.f63.ntmps (Try.f63.body.getD .skip) = true := by kernel_rfl
theorem h_sweep1 (l : List Run) (j : Nat) (p e : Int) (hl : l.length ≤ 4398046511104) (hj : j ≤ l.length) (ho : ∀ r ∈ l, oneR r = true) : CallH Try.prog 63 [.slc (l.map Run.enc), .int .i64 j, .ref 0 0, .ref 1 0] [.box [.int .i64 p], .box [.int .i64 e]]
    (.bool (hdIn (l.drop j) p)) [.box [.int .i64 p], .box [.int .i64 (hdEnd (l.drop j) p e)]] [] := by
  refine callH_of_body C13W_ok mixed Try.func63 rfl (Nat.le_of_ble_eq_true rfl) (fun n h _ => by
    have : n = 0 ∨ n = 1 := by simp at h; omega
    rcases this with rfl | rfl <;> rfl) (by show _ ≤ 2; simp) (by show 2 ≤ _; simp) ok_counts_sweep_1 ?_
  unfold Try.f63
  by_cases hlt : j < l.length
  · have hlt' : ¬ (l.length : Int) ≤ (j : Int) := by omega
    have e1 := run_get hlt
    have o := ho _ (List.getElem_mem hlt)
    have hd : l.drop j = l[j] :: l.drop (j + 1) := List.drop_eq_getElem_cons hlt
    rw [hd]
    generalize hx : l[j] = x at *
    obtain ⟨f, t⟩ := x
    obtain ⟨o1, o2, o3⟩ := one_parts o
    simp only at o1 o2 o3
    by_cases h1 : p < f
    · have h1' : ¬ f ≤ p := by omega
      simp -implicitDefEqProofs (maxSteps := 600000) (disch := (first | omega | decide)) only [go_sem, ↓reduceIte, Nat.reduceEqDiff, reduceCtorEq, Nat.reduceAdd, Nat.reduceSub, Nat.reduceMul, Nat.reduceLeDiff, Nat.reduceLT, Nat.reduceBEq, Nat.reduceBNe, Int.reduceLE, Int.reduceLT, Int.reduceBEq, Int.reduceBNe, Int.reduceEq, Int.reduceNe, Int.reduceAdd, Int.reduceSub, Int.reduceMul, Int.reduceNeg, Int.reduceToNat, hlt', e1, h1, h1', hdIn, hdEnd, wrap_i64, List.length_map]
    · have h1' : f ≤ p := by omega
      simp -implicitDefEqProofs (maxSteps := 600000) (disch := (first | omega | decide)) only [go_sem, ↓reduceIte, Nat.reduceEqDiff, reduceCtorEq, Nat.reduceAdd, Nat.reduceSub, Nat.reduceMul, Nat.reduceLeDiff, Nat.reduceLT, Nat.reduceBEq, Nat.reduceBNe, Int.reduceLE, Int.reduceLT, Int.reduceBEq, Int.reduceBNe, Int.reduceEq, Int.reduceNe, Int.reduceAdd, Int.reduceSub, Int.reduceMul, Int.reduceNeg, Int.reduceToNat, hlt', e1, h1, h1', hdIn, hdEnd, wrap_i64, List.length_map]
  · have hlt' : (l.length : Int) ≤ (j : Int) := by omega
    rw [List.drop_of_length_le (by omega)]
    simp -implicitDefEqProofs (maxSteps := 600000) (disch := (first | omega | decide)) only [go_sem, ↓reduceIte, Nat.reduceEqDiff, reduceCtorEq, Nat.reduceAdd, Nat.reduceSub, Nat.reduceMul, Nat.reduceLeDiff, Nat.reduceLT, Nat.reduceBEq, Nat.reduceBNe, Int.reduceLE, Int.reduceLT, Int.reduceBEq, Int.reduceBNe, Int.reduceEq, Int.reduceNe, Int.reduceAdd, Int.reduceSub, Int.reduceMul, Int.reduceNeg, Int.reduceToNat, hlt', hdIn, hdEnd, List.length_map]
end Go.Proofs.Ytbnmicpgbcfooaa
