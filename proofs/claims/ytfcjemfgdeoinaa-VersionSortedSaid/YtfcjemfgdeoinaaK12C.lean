/- Chapter 12: texts read; versions among some. -/
import Derived.Test.YtfcjemfgdeoinaaK12B
namespace Go.Proofs.Ytfcjemfgdeoinaa
open Go.Abs
set_option linter.unusedSimpArgs false
set_option linter.unusedVariables false
set_option maxRecDepth 20000
set_option maxHeartbeats 4000000

/-- The first dot's place, or the length. -/
def dotAt (s : List UInt8) : Nat := s.findIdx (· == 46)
def partsV (s : List UInt8) : Ver := ⟨numB (s.take (dotAt s)), numB (s.drop (dotAt s + 1))⟩
def parseA (s : List UInt8) : A := if dotAt s < s.length ∧ rightV (partsV s) = true then .tup [(partsV s).enc, .int .i64 0] else .tup [.agg [.int .i64 0, .int .i64 0], .int .i64 11]

theorem ok_version_Parse : codeOK Try.prog T12h Try.f29.ntmps (Try.f29.body.getD .skip) = true := by kernel_rfl
theorem c_version_Parse (s : List UInt8) (hs : s.length ≤ 4611686018427387903) : CallA Try.prog 29 [.str s] (· = parseA s) := by
  refine callA_of_body T12h_ok mixed Try.func29 rfl (Nat.le_of_ble_eq_true rfl) ok_version_Parse ?_
  unfold Try.f29
  simp -implicitDefEqProofs (maxSteps := 600000) (disch := (first | omega | decide)) only [go_sem, ↓reduceIte, Nat.reduceEqDiff, reduceCtorEq, Nat.reduceAdd, Nat.reduceSub, Nat.reduceMul, Nat.reduceLeDiff, Nat.reduceLT, Nat.reduceBEq, Nat.reduceBNe, Int.reduceLE, Int.reduceLT, Int.reduceBEq, Int.reduceBNe, Int.reduceEq, Int.reduceNe, Int.reduceAdd, Int.reduceSub, Int.reduceMul, Int.reduceNeg, Int.reduceToNat]
  refine wpA_loop [0, 2, 3, 7] (ι := {k : Nat // k ≤ s.length ∧ k ≤ dotAt s}) (fun p => [(8, .int .i64 p.1)]) (fun _ => []) (fun p => s.length - p.1) ⟨0, by omega, by omega⟩ (Nat.zero_le _) ?_ ?_
  · simp -implicitDefEqProofs (maxSteps := 600000) (disch := (first | omega | decide)) only [go_sem, ↓reduceIte, Nat.reduceEqDiff, reduceCtorEq, Nat.reduceAdd, Nat.reduceSub, Nat.reduceMul, Nat.reduceLeDiff, Nat.reduceLT, Nat.reduceBEq, Nat.reduceBNe, Int.reduceLE, Int.reduceLT, Int.reduceBEq, Int.reduceBNe, Int.reduceEq, Int.reduceNe, Int.reduceAdd, Int.reduceSub, Int.reduceMul, Int.reduceNeg, Int.reduceToNat]
  · rintro ⟨k, hk, hd⟩
    simp only
    by_cases hlt : k < s.length
    · have hlt' : (k : Int) < (s.length : Int) := by omega
      have e1 : s[k]? = some s[k] := List.getElem?_eq_getElem hlt
      cases hc : ((s[k].toNat : Int) == 46) with
      | true =>
        have hc' : s[k] = 46 := by
          have : (s[k].toNat : Int) = 46 := by simpa using hc
          apply UInt8.toNat_inj.1
          show s[k].toNat = 46
          omega
        have hdk : dotAt s = k := by
          unfold dotAt at hd ⊢
          rcases Nat.lt_or_ge k (s.findIdx (· == 46)) with h | h
          · have := List.not_of_lt_findIdx h
            simp [hc'] at this
          · omega
        have hp : partsV s = ⟨numB (s.take k), numB (s.drop (k + 1))⟩ := by unfold partsV; rw [hdk]
        have l1 : (s.take k).length = k := by rw [List.length_take]; omega
        have l2 : (s.drop (k + 1)).length = s.length - (k + 1) := List.length_drop ..
        have ht : ((k : Int) + 1).toNat = k + 1 := by omega
        have hk1 : (k : Int) ≤ (s.length : Int) := by omega
        have hk2 : (k : Int) + 1 ≤ (s.length : Int) := by omega
        have hk3 : (0 : Int) ≤ (k : Int) + 1 := by omega
        have hk4 : (0 : Int) ≤ (k : Int) := by omega
        cases hr : rightV ⟨numB (s.take k), numB (s.drop (k + 1))⟩ with
        | true =>
          have e : parseA s = .tup [.agg [.int .i64 (numB (s.take k)), .int .i64 (numB (s.drop (k + 1)))], .int .i64 0] := by
            unfold parseA; rw [if_pos ⟨by rw [hdk]; exact hlt, by rw [hp]; exact hr⟩, hp]; rfl
          simp -implicitDefEqProofs (maxSteps := 600000) (disch := (first | omega | decide)) only [go_sem, ↓reduceIte, Nat.reduceEqDiff, reduceCtorEq, Nat.reduceAdd, Nat.reduceSub, Nat.reduceMul, Nat.reduceLeDiff, Nat.reduceLT, Nat.reduceBEq, Nat.reduceBNe, Int.reduceLE, Int.reduceLT, Int.reduceBEq, Int.reduceBNe, Int.reduceEq, Int.reduceNe, Int.reduceAdd, Int.reduceSub, Int.reduceMul, Int.reduceNeg, Int.reduceToNat, hlt', e1, hc, hr, encU8, e, wrap_i64, ht, hk1, hk2, hk3, hk4, List.take_length, List.drop_zero, Int.toNat_natCast, l1, l2, Int.le_refl]
        | false =>
          have e : parseA s = .tup [.agg [.int .i64 0, .int .i64 0], .int .i64 11] := by
            unfold parseA; rw [if_neg (by rw [hp, hr]; simp)]
          simp -implicitDefEqProofs (maxSteps := 600000) (disch := (first | omega | decide)) only [go_sem, ↓reduceIte, Nat.reduceEqDiff, reduceCtorEq, Nat.reduceAdd, Nat.reduceSub, Nat.reduceMul, Nat.reduceLeDiff, Nat.reduceLT, Nat.reduceBEq, Nat.reduceBNe, Int.reduceLE, Int.reduceLT, Int.reduceBEq, Int.reduceBNe, Int.reduceEq, Int.reduceNe, Int.reduceAdd, Int.reduceSub, Int.reduceMul, Int.reduceNeg, Int.reduceToNat, hlt', e1, hc, hr, encU8, e, wrap_i64, ht, hk1, hk2, hk3, hk4, List.take_length, List.drop_zero, Int.toNat_natCast, l1, l2, Int.le_refl]
      | false =>
        simp -implicitDefEqProofs (maxSteps := 600000) (disch := (first | omega | decide)) only [go_sem, ↓reduceIte, Nat.reduceEqDiff, reduceCtorEq, Nat.reduceAdd, Nat.reduceSub, Nat.reduceMul, Nat.reduceLeDiff, Nat.reduceLT, Nat.reduceBEq, Nat.reduceBNe, Int.reduceLE, Int.reduceLT, Int.reduceBEq, Int.reduceBNe, Int.reduceEq, Int.reduceNe, Int.reduceAdd, Int.reduceSub, Int.reduceMul, Int.reduceNeg, Int.reduceToNat, hlt', e1, hc, encU8, wrap_i64]
        refine ⟨⟨k + 1, hlt, ?_⟩, by simp, by show s.length - (k + 1) < s.length - k; omega⟩
        unfold dotAt at hd ⊢
        rcases Nat.lt_or_ge k (s.findIdx (· == 46)) with h | h
        · exact h
        · have he : s.findIdx (· == 46) = k := by omega
          have := List.findIdx_getElem (w := show s.findIdx (· == 46) < s.length by omega)
          simp only [he] at this
          have h46 : s[k] = 46 := by simpa using this
          rw [h46] at hc
          simp at hc
    · have hlt' : ¬ (k : Int) < (s.length : Int) := by omega
      have e : parseA s = .tup [.agg [.int .i64 0, .int .i64 0], .int .i64 11] := by
        unfold parseA; rw [if_neg (by omega)]
      simp -implicitDefEqProofs (maxSteps := 600000) (disch := (first | omega | decide)) only [go_sem, ↓reduceIte, Nat.reduceEqDiff, reduceCtorEq, Nat.reduceAdd, Nat.reduceSub, Nat.reduceMul, Nat.reduceLeDiff, Nat.reduceLT, Nat.reduceBEq, Nat.reduceBNe, Int.reduceLE, Int.reduceLT, Int.reduceBEq, Int.reduceBNe, Int.reduceEq, Int.reduceNe, Int.reduceAdd, Int.reduceSub, Int.reduceMul, Int.reduceNeg, Int.reduceToNat, hlt', e]
theorem ok_ref12_Text : codeOK Try.prog T12h Try.f30.ntmps (Try.f30.body.getD .skip) = true := by kernel_rfl
theorem c_ref12_Text (v : Ver) (hr : rightV v = true) : CallA Try.prog 30 [.agg [.int .i64 v.r, .int .i64 v.c]] (· = .str (textV v)) := by
  refine callA_of_body T12h_ok mixed Try.func30 rfl (Nat.le_of_ble_eq_true rfl) ok_ref12_Text ?_
  unfold Try.f30
  obtain ⟨r, c⟩ := v
  obtain ⟨h1, h2, h3, h4⟩ := right_parts hr
  simp only at h1 h2 h3 h4
  have er : r = ((r.toNat : Nat) : Int) := by omega
  have ec : c = ((c.toNat : Nat) : Int) := by omega
  have l1 := digN_len r.toNat
  have l2 := digN_len c.toNat
  have l3 : (digN r.toNat ++ [46]).length = (digN r.toNat).length + 1 := by simp
  have hT : textV ⟨r, c⟩ = digN r.toNat ++ [46] ++ digN c.toNat := rfl
  generalize hR : r.toNat = R at *
  generalize hC : c.toNat = C at *
  subst er; subst ec
  simp -implicitDefEqProofs (maxSteps := 600000) (disch := (first | omega | decide)) only [go_sem, ↓reduceIte, Nat.reduceEqDiff, reduceCtorEq, Nat.reduceAdd, Nat.reduceSub, Nat.reduceMul, Nat.reduceLeDiff, Nat.reduceLT, Nat.reduceBEq, Nat.reduceBNe, Int.reduceLE, Int.reduceLT, Int.reduceBEq, Int.reduceBNe, Int.reduceEq, Int.reduceNe, Int.reduceAdd, Int.reduceSub, Int.reduceMul, Int.reduceNeg, Int.reduceToNat, l3, hT]
  omega
/-- Is a version among some? -/
def hasV (l : List Ver) (v : Ver) : Bool := decide (v ∈ l)
theorem ok_ref12_Has : codeOK Try.prog T12h Try.f32.ntmps (Try.f32.body.getD .skip) = true := by kernel_rfl
theorem c_ref12_Has (l : List Ver) (r c : Int) (hl : l.length ≤ 4611686018427387904) : CallA Try.prog 32 [.slc (l.map Ver.enc), .agg [.int .i64 r, .int .i64 c]] (· = .bool (hasV l ⟨r, c⟩)) := by
  refine callA_of_body T12h_ok mixed Try.func32 rfl (Nat.le_of_ble_eq_true rfl) ok_ref12_Has ?_
  unfold Try.f32
  simp -implicitDefEqProofs (maxSteps := 600000) (disch := (first | omega | decide)) only [go_sem, ↓reduceIte, Nat.reduceEqDiff, reduceCtorEq, Nat.reduceAdd, Nat.reduceSub, Nat.reduceMul, Nat.reduceLeDiff, Nat.reduceLT, Nat.reduceBEq, Nat.reduceBNe, Int.reduceLE, Int.reduceLT, Int.reduceBEq, Int.reduceBNe, Int.reduceEq, Int.reduceNe, Int.reduceAdd, Int.reduceSub, Int.reduceMul, Int.reduceNeg, Int.reduceToNat]
  refine wpA_loop [0, 3] (ι := {k : Nat // k ≤ l.length ∧ (⟨r, c⟩ : Ver) ∉ l.take k}) (fun p => [(5, .int .i64 p.1), (4, .bool false)]) (fun _ => []) (fun p => l.length - p.1) ⟨0, by omega, by simp⟩ (Nat.zero_le _) ?_ ?_
  · simp -implicitDefEqProofs (maxSteps := 600000) (disch := (first | omega | decide)) only [go_sem, ↓reduceIte, Nat.reduceEqDiff, reduceCtorEq, Nat.reduceAdd, Nat.reduceSub, Nat.reduceMul, Nat.reduceLeDiff, Nat.reduceLT, Nat.reduceBEq, Nat.reduceBNe, Int.reduceLE, Int.reduceLT, Int.reduceBEq, Int.reduceBNe, Int.reduceEq, Int.reduceNe, Int.reduceAdd, Int.reduceSub, Int.reduceMul, Int.reduceNeg, Int.reduceToNat]
  · rintro ⟨k, hk, hd⟩
    simp only
    by_cases hlt : k < l.length
    · have hlt' : (k : Int) < (l.length : Int) := by omega
      obtain ⟨r', c', hv⟩ : ∃ r' c', l[k] = ⟨r', c'⟩ := ⟨_, _, rfl⟩
      have e1 : (l.map Ver.enc)[k]? = some (.agg [.int .i64 r', .int .i64 c']) := by
        rw [List.getElem?_map, List.getElem?_eq_getElem hlt, hv]; rfl
      have ht : l.take (k + 1) = l.take k ++ [⟨r', c'⟩] := by rw [← hv]; exact (List.take_append_getElem hlt).symm
      cases h1 : r' == r with
      | true =>
        cases h2 : c' == c with
        | true =>
          obtain rfl : r' = r := by simpa using h1
          obtain rfl : c' = c := by simpa using h2
          have hm : hasV l ⟨r', c'⟩ = true := by
            unfold hasV; rw [← hv]; simp
          simp -implicitDefEqProofs (maxSteps := 600000) (disch := (first | omega | decide)) only [go_sem, ↓reduceIte, Nat.reduceEqDiff, reduceCtorEq, Nat.reduceAdd, Nat.reduceSub, Nat.reduceMul, Nat.reduceLeDiff, Nat.reduceLT, Nat.reduceBEq, Nat.reduceBNe, Int.reduceLE, Int.reduceLT, Int.reduceBEq, Int.reduceBNe, Int.reduceEq, Int.reduceNe, Int.reduceAdd, Int.reduceSub, Int.reduceMul, Int.reduceNeg, Int.reduceToNat, hlt', e1, h1, h2, hm, wrap_i64, List.length_map]
        | false =>
          have hne : c' ≠ c := by simpa using h2
          simp -implicitDefEqProofs (maxSteps := 600000) (disch := (first | omega | decide)) only [go_sem, ↓reduceIte, Nat.reduceEqDiff, reduceCtorEq, Nat.reduceAdd, Nat.reduceSub, Nat.reduceMul, Nat.reduceLeDiff, Nat.reduceLT, Nat.reduceBEq, Nat.reduceBNe, Int.reduceLE, Int.reduceLT, Int.reduceBEq, Int.reduceBNe, Int.reduceEq, Int.reduceNe, Int.reduceAdd, Int.reduceSub, Int.reduceMul, Int.reduceNeg, Int.reduceToNat, hlt', e1, h1, h2, wrap_i64, List.length_map]
          refine ⟨⟨k + 1, hlt, ?_⟩, by simp, by show l.length - (k + 1) < l.length - k; omega⟩
          rw [ht]; simp [hd, Ne.symm hne]
      | false =>
        have hne : r' ≠ r := by simpa using h1
        simp -implicitDefEqProofs (maxSteps := 600000) (disch := (first | omega | decide)) only [go_sem, ↓reduceIte, Nat.reduceEqDiff, reduceCtorEq, Nat.reduceAdd, Nat.reduceSub, Nat.reduceMul, Nat.reduceLeDiff, Nat.reduceLT, Nat.reduceBEq, Nat.reduceBNe, Int.reduceLE, Int.reduceLT, Int.reduceBEq, Int.reduceBNe, Int.reduceEq, Int.reduceNe, Int.reduceAdd, Int.reduceSub, Int.reduceMul, Int.reduceNeg, Int.reduceToNat, hlt', e1, h1, wrap_i64, List.length_map]
        refine ⟨⟨k + 1, hlt, ?_⟩, by simp, by show l.length - (k + 1) < l.length - k; omega⟩
        rw [ht]; simp [hd, Ne.symm hne]
    · have hlt' : ¬ (k : Int) < (l.length : Int) := by omega
      have hm : hasV l ⟨r, c⟩ = false := by
        unfold hasV; rw [List.take_of_length_le (by omega)] at hd; simpa using hd
      simp -implicitDefEqProofs (maxSteps := 600000) (disch := (first | omega | decide)) only [go_sem, ↓reduceIte, Nat.reduceEqDiff, reduceCtorEq, Nat.reduceAdd, Nat.reduceSub, Nat.reduceMul, Nat.reduceLeDiff, Nat.reduceLT, Nat.reduceBEq, Nat.reduceBNe, Int.reduceLE, Int.reduceLT, Int.reduceBEq, Int.reduceBNe, Int.reduceEq, Int.reduceNe, Int.reduceAdd, Int.reduceSub, Int.reduceMul, Int.reduceNeg, Int.reduceToNat, hlt', hm, List.length_map]
end Go.Proofs.Ytfcjemfgdeoinaa
