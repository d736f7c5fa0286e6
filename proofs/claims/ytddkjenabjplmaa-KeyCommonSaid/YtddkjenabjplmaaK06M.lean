/- Chapter 06: the law on what texts have in common. -/
import Derived.Test.YtddkjenabjplmaaK06L
namespace Go.Proofs.Ytddkjenabjplmaa
open Go.Abs
set_option linter.unusedSimpArgs false
set_option linter.unusedVariables false
set_option maxRecDepth 20000
set_option maxHeartbeats 4000000

def cndC (c l0 s : List UInt8) : Bool := decide (c.length < s.length) && (decide (c.length < l0.length) && (s[c.length]? == l0[c.length]?))
theorem com_ok {l0 : List UInt8} {r : List (List UInt8)} (h : ∀ s ∈ l0 :: r, cndC (comB (l0 :: r)) l0 s = true) : False := by
  generalize hL : l0 :: r = L at *
  have hle := comP_le l0 L l0.length
  have hc : comB L = l0.take (comP l0 L l0.length) := by rw [← hL]; rfl
  have hlen : (comB L).length = comP l0 L l0.length := by rw [hc, List.length_take]; omega
  have h0 := h l0 (by rw [← hL]; simp)
  simp only [cndC, Bool.and_eq_true, decide_eq_true_eq, hlen] at h0
  obtain ⟨s, hs, hb⟩ := comP_not l0 L l0.length h0.2.1
  have h1 := h s hs
  simp only [cndC, Bool.and_eq_true, decide_eq_true_eq, hlen, beq_iff_eq] at h1
  obtain ⟨g1, g2, g3⟩ := h1
  rw [List.getElem?_eq_getElem g1, List.getElem?_eq_getElem g2] at g3
  have := begins_snoc (comP_begins l0 L l0.length s hs) g2 g1 (Option.some.inj g3)
  rw [this] at hb; cases hb

theorem ok_law06_KeyCommon : codeOK Try.prog T06 Try.f6.ntmps (Try.f6.body.getD .skip) = true := by kernel_rfl
theorem c_law06_KeyCommon (l : List (List UInt8)) (hl : l.length ≤ 9223372036854775807) (hs : ∀ s ∈ l, s.length ≤ 9223372036854775807) : CallA Try.prog 6 [.slc (l.map .str)] (· = .bool true) := by
  refine callA_of_body T06_ok mixed Try.func6 rfl (Nat.le_of_ble_eq_true rfl) ok_law06_KeyCommon ?_
  unfold Try.f6
  have hlen : (l.map A.str).length = l.length := List.length_map _
  by_cases h40 : (40 : Int) < ((l.map A.str).length : Int)
  · simp -implicitDefEqProofs (maxSteps := 600000) (disch := (first | omega | decide)) only [go_sem, ↓reduceIte, Nat.reduceEqDiff, reduceCtorEq, Nat.reduceAdd, Nat.reduceSub, Nat.reduceMul, Nat.reduceLeDiff, Nat.reduceLT, Nat.reduceBEq, Nat.reduceBNe, Int.reduceLE, Int.reduceLT, Int.reduceBEq, Int.reduceBNe, Int.reduceEq, Int.reduceNe, Int.reduceAdd, Int.reduceSub, Int.reduceMul, Int.reduceNeg, Int.reduceToNat, h40]
  have hcl : l.length ≤ 4294967296 := by rw [hlen] at h40; omega
  have hs' : ∀ s ∈ l, s.length ≤ 9223372036854775807 := fun s h => by have := hs s h; omega
  have hcom := t_key_Common hcl hs'
  cases l with
  | nil =>
    have e0 : comB [] = [] := rfl
    simp only [List.map_nil, e0] at hcom
    simp -implicitDefEqProofs (maxSteps := 600000) (disch := (first | omega | decide)) only [go_sem, ↓reduceIte, Nat.reduceEqDiff, reduceCtorEq, Nat.reduceAdd, Nat.reduceSub, Nat.reduceMul, Nat.reduceLeDiff, Nat.reduceLT, Nat.reduceBEq, Nat.reduceBNe, Int.reduceLE, Int.reduceLT, Int.reduceBEq, Int.reduceBNe, Int.reduceEq, Int.reduceNe, Int.reduceAdd, Int.reduceSub, Int.reduceMul, Int.reduceNeg, Int.reduceToNat, h40, hcom, e0, List.map_nil]
  | cons l0 r =>
    have h0 : ((((l0 :: r).map A.str).length : Int) == 0) = false := by simp; omega
    have hg : ((l0 :: r).map A.str)[0]? = some (.str l0) := rfl
    have hbad := @com_ok l0 r
    have hbeg : ∀ s ∈ l0 :: r, beginsB s (comB (l0 :: r)) = true := fun s h => comP_begins l0 (l0 :: r) l0.length s h
    have hl0 := hs l0 (by simp)
    have hc0 : (comB (l0 :: r)).length ≤ l0.length := by simp only [comB, List.length_take]; omega
    generalize hL : (l0 :: r) = L at *
    generalize hC : comB L = c at *
    simp -implicitDefEqProofs (maxSteps := 600000) (disch := (first | omega | decide)) only [go_sem, ↓reduceIte, Nat.reduceEqDiff, reduceCtorEq, Nat.reduceAdd, Nat.reduceSub, Nat.reduceMul, Nat.reduceLeDiff, Nat.reduceLT, Nat.reduceBEq, Nat.reduceBNe, Int.reduceLE, Int.reduceLT, Int.reduceBEq, Int.reduceBNe, Int.reduceEq, Int.reduceNe, Int.reduceAdd, Int.reduceSub, Int.reduceMul, Int.reduceNeg, Int.reduceToNat, h40, h0, hcom]
    refine wpA_loop [0, 3, 19, 20] (ι := {k : Nat // k ≤ L.length}) (fun k => [(21, .int .i64 k.1), (4, .bool ((L.take k.1).all (cndC c l0)))]) (fun _ => []) (fun k => L.length - k.1) ⟨0, by simp⟩ (Nat.zero_le _) ?_ ?_
    · simp -implicitDefEqProofs (maxSteps := 600000) (disch := (first | omega | decide)) only [go_sem, ↓reduceIte, Nat.reduceEqDiff, reduceCtorEq, Nat.reduceAdd, Nat.reduceSub, Nat.reduceMul, Nat.reduceLeDiff, Nat.reduceLT, Nat.reduceBEq, Nat.reduceBNe, Int.reduceLE, Int.reduceLT, Int.reduceBEq, Int.reduceBNe, Int.reduceEq, Int.reduceNe, Int.reduceAdd, Int.reduceSub, Int.reduceMul, Int.reduceNeg, Int.reduceToNat]
    · rintro ⟨k, hk⟩
      by_cases hlt : k < L.length
      · have hlt' : (k : Int) < ((L.map A.str).length : Int) := by rw [hlen]; omega
        have e1 : (L.map A.str)[k]? = some (.str L[k]) := by simp [hlt]
        have hsk := hs L[k] (List.getElem_mem hlt)
        have hbk := hbeg L[k] (List.getElem_mem hlt)
        have b1 : (0 : Int) ≤ (c.length : Int) := by omega
        have htk : (L.take (k + 1)).all (cndC c l0) = ((L.take k).all (cndC c l0) && cndC c l0 L[k]) := by
          rw [List.take_succ_eq_append_getElem hlt, List.all_append]; simp only [List.all_cons, List.all_nil, Bool.and_true]
        by_cases h300 : (300 : Int) < (L[k].length : Int)
        · simp -implicitDefEqProofs (maxSteps := 600000) (disch := (first | omega | decide)) only [go_sem, ↓reduceIte, Nat.reduceEqDiff, reduceCtorEq, Nat.reduceAdd, Nat.reduceSub, Nat.reduceMul, Nat.reduceLeDiff, Nat.reduceLT, Nat.reduceBEq, Nat.reduceBNe, Int.reduceLE, Int.reduceLT, Int.reduceBEq, Int.reduceBNe, Int.reduceEq, Int.reduceNe, Int.reduceAdd, Int.reduceSub, Int.reduceMul, Int.reduceNeg, Int.reduceToNat, hlt', e1, h300]
        · cases hall : (L.take k).all (cndC c l0) with
          | false =>
            rw [hall, Bool.false_and] at htk
            simp -implicitDefEqProofs (maxSteps := 600000) (disch := (first | omega | decide)) only [go_sem, ↓reduceIte, Nat.reduceEqDiff, reduceCtorEq, Nat.reduceAdd, Nat.reduceSub, Nat.reduceMul, Nat.reduceLeDiff, Nat.reduceLT, Nat.reduceBEq, Nat.reduceBNe, Int.reduceLE, Int.reduceLT, Int.reduceBEq, Int.reduceBNe, Int.reduceEq, Int.reduceNe, Int.reduceAdd, Int.reduceSub, Int.reduceMul, Int.reduceNeg, Int.reduceToNat, hlt', e1, h300, hbk, hg, wrap_i64]
            exact ⟨⟨k + 1, hlt⟩, ⟨by simp, by simp [htk]⟩, by show L.length - (k + 1) < L.length - k; omega⟩
          | true =>
            rw [hall, Bool.true_and] at htk
            by_cases g1 : (c.length : Int) < (L[k].length : Int)
            · by_cases g2 : (c.length : Int) < (l0.length : Int)
              · have g1' : c.length < L[k].length := by omega
                have g2' : c.length < l0.length := by omega
                have f1 : (L[k])[c.length]? = some (L[k])[c.length] := List.getElem?_eq_getElem g1'
                have f2 : l0[c.length]? = some l0[c.length] := List.getElem?_eq_getElem g2'
                simp -implicitDefEqProofs (maxSteps := 600000) (disch := (first | omega | decide)) only [go_sem, ↓reduceIte, Nat.reduceEqDiff, reduceCtorEq, Nat.reduceAdd, Nat.reduceSub, Nat.reduceMul, Nat.reduceLeDiff, Nat.reduceLT, Nat.reduceBEq, Nat.reduceBNe, Int.reduceLE, Int.reduceLT, Int.reduceBEq, Int.reduceBNe, Int.reduceEq, Int.reduceNe, Int.reduceAdd, Int.reduceSub, Int.reduceMul, Int.reduceNeg, Int.reduceToNat, hlt', e1, h300, hbk, hg, g1, g2, f1, f2, b1, encU8, wrap_i64]
                refine ⟨⟨k + 1, hlt⟩, ⟨by simp, ?_⟩, by show L.length - (k + 1) < L.length - k; omega⟩
                simp only [htk, cndC, f1, f2]
                rw [decide_eq_true g1', decide_eq_true g2']
                simp only [Bool.true_and]
                rw [Bool.eq_iff_iff]; simp [← UInt8.toNat_inj]; omega
              · have g2' : ¬ c.length < l0.length := by omega
                simp -implicitDefEqProofs (maxSteps := 600000) (disch := (first | omega | decide)) only [go_sem, ↓reduceIte, Nat.reduceEqDiff, reduceCtorEq, Nat.reduceAdd, Nat.reduceSub, Nat.reduceMul, Nat.reduceLeDiff, Nat.reduceLT, Nat.reduceBEq, Nat.reduceBNe, Int.reduceLE, Int.reduceLT, Int.reduceBEq, Int.reduceBNe, Int.reduceEq, Int.reduceNe, Int.reduceAdd, Int.reduceSub, Int.reduceMul, Int.reduceNeg, Int.reduceToNat, hlt', e1, h300, hbk, hg, g1, g2, wrap_i64]
                refine ⟨⟨k + 1, hlt⟩, ⟨by simp, ?_⟩, by show L.length - (k + 1) < L.length - k; omega⟩
                simp [htk, cndC, g2']
            · have g1' : ¬ c.length < L[k].length := by omega
              simp -implicitDefEqProofs (maxSteps := 600000) (disch := (first | omega | decide)) only [go_sem, ↓reduceIte, Nat.reduceEqDiff, reduceCtorEq, Nat.reduceAdd, Nat.reduceSub, Nat.reduceMul, Nat.reduceLeDiff, Nat.reduceLT, Nat.reduceBEq, Nat.reduceBNe, Int.reduceLE, Int.reduceLT, Int.reduceBEq, Int.reduceBNe, Int.reduceEq, Int.reduceNe, Int.reduceAdd, Int.reduceSub, Int.reduceMul, Int.reduceNeg, Int.reduceToNat, hlt', e1, h300, hbk, hg, g1, wrap_i64]
              refine ⟨⟨k + 1, hlt⟩, ⟨by simp, ?_⟩, by show L.length - (k + 1) < L.length - k; omega⟩
              simp [htk, cndC, g1']
      · have hlt' : ¬ (k : Int) < ((L.map A.str).length : Int) := by rw [hlen]; omega
        have hall : (L.take k).all (cndC c l0) = false := by
          rw [List.take_of_length_le (by omega)]
          cases h : L.all (cndC c l0) with
          | false => rfl
          | true => exact (hbad (fun s hs => List.all_eq_true.1 h s hs)).elim
        simp -implicitDefEqProofs (maxSteps := 600000) (disch := (first | omega | decide)) only [go_sem, ↓reduceIte, Nat.reduceEqDiff, reduceCtorEq, Nat.reduceAdd, Nat.reduceSub, Nat.reduceMul, Nat.reduceLeDiff, Nat.reduceLT, Nat.reduceBEq, Nat.reduceBNe, Int.reduceLE, Int.reduceLT, Int.reduceBEq, Int.reduceBNe, Int.reduceEq, Int.reduceNe, Int.reduceAdd, Int.reduceSub, Int.reduceMul, Int.reduceNeg, Int.reduceToNat, hlt', hall]
end Go.Proofs.Ytddkjenabjplmaa
