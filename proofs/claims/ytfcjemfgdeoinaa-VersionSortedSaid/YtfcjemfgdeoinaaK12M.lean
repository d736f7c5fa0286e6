/- Chapter 12: the laws on texts and on sorted ones. -/
import Derived.Test.YtfcjemfgdeoinaaK12E
namespace Go.Proofs.Ytfcjemfgdeoinaa
open Go.Abs
set_option linter.unusedSimpArgs false
set_option linter.unusedVariables false
set_option maxRecDepth 20000
set_option maxHeartbeats 4000000

theorem fits_ver {x : List A} (h : fitsL [.int .i64, .int .i64] x) : ∃ r c : Int, x = [.int .i64 r, .int .i64 c] := by
  simp only [fitsL, fits] at h
  obtain ⟨y, zs, rfl, ⟨n, rfl, _⟩, y2, zs2, rfl, ⟨m, rfl, _⟩, rfl⟩ := h
  exact ⟨n, m, rfl⟩
theorem fits_vers {x : A} (h : fits (.rows [.int .i64, .int .i64]) x) : ∃ l : List Ver, x = .slc (l.map Ver.enc) ∧ l.length ≤ maxLen := by
  simp only [fits] at h
  obtain ⟨es, rfl, hl, he⟩ := h
  obtain ⟨l, rfl, _⟩ := list_of (f := Ver.enc) (P := fun _ => True) (es := es) (fun e hx => by
    obtain ⟨ys, rfl, hy⟩ := he e hx
    obtain ⟨r, c, rfl⟩ := fits_ver (by simpa only [fitsL, fits] using hy)
    exact ⟨⟨r, c⟩, rfl, trivial⟩)
  exact ⟨l, rfl, by simpa using hl⟩
@[go_sem] theorem t_law12_awakeM : T12m.f 23 [] = some (.bool true) := T12m_law12_awake () trivial
theorem digN_ne (n : Nat) : ∀ x ∈ digN n, (x == (46 : UInt8)) = false := by
  have one : ∀ m : Nat, (digD m == (46 : UInt8)) = false := fun m => by
    rw [beq_eq_false_iff_ne]
    intro h
    have := congrArg UInt8.toNat h
    rw [digD_nat] at this
    have h46 : (46 : UInt8).toNat = 46 := rfl
    omega
  induction n using Nat.strongRecOn with
  | _ n ih =>
    intro x hx
    by_cases h : n < 10
    · rw [digN_small h, List.mem_singleton] at hx; rw [hx]; exact one _
    · rw [digN_step h, List.mem_append, List.mem_singleton] at hx
      rcases hx with hx | rfl
      · exact ih (n / 10) (by omega) x hx
      · exact one _
theorem dotAt_digits {n : Nat} {t : List UInt8} : dotAt (digN n ++ [46] ++ t) = (digN n).length := by
  unfold dotAt
  rw [List.append_assoc, List.findIdx_append]
  have h : (digN n).findIdx (· == 46) = (digN n).length := by
    rw [List.findIdx_eq_length]
    exact fun x hx => digN_ne n x hx
  rw [h, if_neg (by omega)]
  simp [List.findIdx_cons]
theorem parse_text {r c : Int} (h : rightV ⟨r, c⟩ = true) : parseA (textV ⟨r, c⟩) = .tup [.agg [.int .i64 r, .int .i64 c], .int .i64 0] := by
  obtain ⟨h1, h2, h3, h4⟩ := right_parts h
  simp only at h1 h2 h3 h4
  have hd : dotAt (textV ⟨r, c⟩) = (digN r.toNat).length := dotAt_digits
  have hl : (textV ⟨r, c⟩).length = (digN r.toNat).length + 1 + (digN c.toNat).length := by simp [textV]; omega
  have hp : partsV (textV ⟨r, c⟩) = ⟨r, c⟩ := by
    unfold partsV
    rw [hd]
    have t1 : (textV ⟨r, c⟩).take (digN r.toNat).length = digN r.toNat := by
      simp [textV, List.append_assoc]
    have t2 : (textV ⟨r, c⟩).drop ((digN r.toNat).length + 1) = digN c.toNat := by
      show (digN r.toNat ++ [46] ++ digN c.toNat).drop _ = _
      rw [List.drop_append_of_le_length (by simp), List.drop_of_length_le (by simp)]; rfl
    rw [t1, t2, num_of_digits (by omega) (by omega), num_of_digits (by omega) (by omega)]
    congr 1 <;> omega
  unfold parseA
  rw [if_pos ⟨by rw [hd, hl]; omega, by rw [hp]; exact h⟩, hp]; rfl
theorem text_parse {s : List UInt8} (h1 : dotAt s < s.length) (h2 : rightV (partsV s) = true) : textV (partsV s) = s := by
  obtain ⟨g1, g2, g3, g4⟩ := right_parts h2
  unfold textV
  have a1 : (partsV s).r.toNat = numB (s.take (dotAt s)) := Int.toNat_natCast _
  have a2 : (partsV s).c.toNat = numB (s.drop (dotAt s + 1)) := Int.toNat_natCast _
  rw [a1, a2, digits_of_num (by omega), digits_of_num (by omega)]
  have h46 : s[dotAt s] = 46 := by
    have := List.findIdx_getElem (p := (· == (46 : UInt8))) (w := h1)
    exact eq_of_beq this
  rw [List.append_assoc, ← h46]
  show s.take (dotAt s) ++ (s[dotAt s] :: s.drop (dotAt s + 1)) = s
  rw [← List.drop_eq_getElem_cons h1, List.take_append_drop]

theorem textV_len {r c : Int} (h : rightV ⟨r, c⟩ = true) : (textV ⟨r, c⟩).length ≤ 4611686018427387903 := by
  obtain ⟨h1, h2, h3, h4⟩ := right_parts h
  simp only at h1 h2 h3 h4
  have l1 := digN_len r.toNat
  have l2 := digN_len c.toNat
  have e : (textV ⟨r, c⟩).length = (digN r.toNat).length + 1 + (digN c.toNat).length := by simp [textV]; omega
  omega
theorem ok_law12_VersionTexts : codeOK Try.prog T12m Try.f6.ntmps (Try.f6.body.getD .skip) = true := by kernel_rfl
theorem c_law12_VersionTexts (r c : Int) (s : List UInt8) (hs : s.length ≤ 9223372036854775807) : CallA Try.prog 6 [.agg [.int .i64 r, .int .i64 c], .str s] (· = .bool true) := by
  refine callA_of_body T12m_ok mixed Try.func6 rfl (Nat.le_of_ble_eq_true rfl) ok_law12_VersionTexts ?_
  unfold Try.f6
  by_cases h1 : (300 : Int) < s.length
  · simp -implicitDefEqProofs (maxSteps := 600000) (disch := (first | omega | decide)) only [go_sem, ↓reduceIte, Nat.reduceEqDiff, reduceCtorEq, Nat.reduceAdd, Nat.reduceSub, Nat.reduceMul, Nat.reduceLeDiff, Nat.reduceLT, Nat.reduceBEq, Nat.reduceBNe, Int.reduceLE, Int.reduceLT, Int.reduceBEq, Int.reduceBNe, Int.reduceEq, Int.reduceNe, Int.reduceAdd, Int.reduceSub, Int.reduceMul, Int.reduceNeg, Int.reduceToNat, h1]
  have bi : ∀ p : Int, (p == p) = true := fun p => by simp
  have hps : (∃ r' c', rightV ⟨r', c'⟩ = true ∧ textV ⟨r', c'⟩ = s ∧ parseA s = .tup [.agg [.int .i64 r', .int .i64 c'], .int .i64 0]) ∨ parseA s = .tup [.agg [.int .i64 0, .int .i64 0], .int .i64 11] := by
    by_cases h : dotAt s < s.length ∧ rightV (partsV s) = true
    · refine .inl ⟨(partsV s).r, (partsV s).c, h.2, text_parse h.1 h.2, ?_⟩
      unfold parseA; rw [if_pos h]; rfl
    · exact .inr (by unfold parseA; rw [if_neg h])
  cases hr : rightV ⟨r, c⟩ with
  | false =>
    have e1 : textA ⟨r, c⟩ = .tup [.str [], .int .i64 2] := by unfold textA; rw [if_neg (by rw [hr]; simp)]
    rcases hps with ⟨r', c', g1, g2, g3⟩ | g
    · have g4 : (s == s) = true := by simp
      simp -implicitDefEqProofs (maxSteps := 600000) (disch := (first | omega | decide)) only [go_sem, ↓reduceIte, Nat.reduceEqDiff, reduceCtorEq, Nat.reduceAdd, Nat.reduceSub, Nat.reduceMul, Nat.reduceLeDiff, Nat.reduceLT, Nat.reduceBEq, Nat.reduceBNe, Int.reduceLE, Int.reduceLT, Int.reduceBEq, Int.reduceBNe, Int.reduceEq, Int.reduceNe, Int.reduceAdd, Int.reduceSub, Int.reduceMul, Int.reduceNeg, Int.reduceToNat, h1, hr, e1, g1, g2, g3, g4]
    · simp -implicitDefEqProofs (maxSteps := 600000) (disch := (first | omega | decide)) only [go_sem, ↓reduceIte, Nat.reduceEqDiff, reduceCtorEq, Nat.reduceAdd, Nat.reduceSub, Nat.reduceMul, Nat.reduceLeDiff, Nat.reduceLT, Nat.reduceBEq, Nat.reduceBNe, Int.reduceLE, Int.reduceLT, Int.reduceBEq, Int.reduceBNe, Int.reduceEq, Int.reduceNe, Int.reduceAdd, Int.reduceSub, Int.reduceMul, Int.reduceNeg, Int.reduceToNat, h1, hr, e1, g]
  | true =>
    have e1 : textA ⟨r, c⟩ = .tup [.str (textV ⟨r, c⟩), .int .i64 0] := by unfold textA; rw [if_pos hr]
    have e2 := parse_text hr
    have e3 := textV_len hr
    have e4 := bi r
    have e5 := bi c
    have e6 : (textV ⟨r, c⟩ == textV ⟨r, c⟩) = true := by simp
    rcases hps with ⟨r', c', g1, g2, g3⟩ | g
    · have g4 : (s == s) = true := by simp
      simp -implicitDefEqProofs (maxSteps := 600000) (disch := (first | omega | decide)) only [go_sem, ↓reduceIte, Nat.reduceEqDiff, reduceCtorEq, Nat.reduceAdd, Nat.reduceSub, Nat.reduceMul, Nat.reduceLeDiff, Nat.reduceLT, Nat.reduceBEq, Nat.reduceBNe, Int.reduceLE, Int.reduceLT, Int.reduceBEq, Int.reduceBNe, Int.reduceEq, Int.reduceNe, Int.reduceAdd, Int.reduceSub, Int.reduceMul, Int.reduceNeg, Int.reduceToNat, h1, hr, e1, e2, e4, e5, e6, g1, g2, g3, g4]
    · simp -implicitDefEqProofs (maxSteps := 600000) (disch := (first | omega | decide)) only [go_sem, ↓reduceIte, Nat.reduceEqDiff, reduceCtorEq, Nat.reduceAdd, Nat.reduceSub, Nat.reduceMul, Nat.reduceLeDiff, Nat.reduceLT, Nat.reduceBEq, Nat.reduceBNe, Int.reduceLE, Int.reduceLT, Int.reduceBEq, Int.reduceBNe, Int.reduceEq, Int.reduceNe, Int.reduceAdd, Int.reduceSub, Int.reduceMul, Int.reduceNeg, Int.reduceToNat, h1, hr, e1, e2, e4, e5, e6, g]

theorem sortedV_mem {l : List Ver} {v : Ver} : v ∈ sortedV l ↔ v ∈ l ∧ rightV v = true := by
  unfold sortedV
  rw [compL_mem, (sortL_spec swoV (l.filter rightV)).1.mem_iff, List.mem_filter]
theorem sortedV_len (l : List Ver) : (sortedV l).length ≤ l.length := by
  unfold sortedV
  refine Nat.le_trans (compL_len _) ?_
  rw [(sortL_spec swoV (l.filter rightV)).1.length_eq]
  exact List.length_filter_le _ _
theorem ltV_of {a b : Ver} (hne : a ≠ b) (h : ¬ ltV b a = true) : ltV a b = true := by
  rw [ltV_iff] at *
  have hc : ¬ (a.r = b.r ∧ a.c = b.c) := fun ⟨x, y⟩ => hne (ver_ext x y)
  omega
theorem sortedV_lt (l : List Ver) (i : Nat) (h : i + 1 < (sortedV l).length) : ltV (sortedV l)[i] (sortedV l)[i + 1] = true := by
  have h' : i + 1 < (compL (sortL cmpV (l.filter rightV))).length := h
  have hne := compL_ne (sortL cmpV (l.filter rightV)) i h'
  have hp := ((sortL_spec swoV (l.filter rightV)).2).sublist (compL_sub _)
  rw [List.pairwise_iff_getElem] at hp
  have := hp i (i + 1) (Nat.lt_of_succ_lt h') h' (Nat.lt_succ_self i)
  rw [cmpV_lt] at this
  exact ltV_of hne this
theorem ok_law12_VersionSorted : codeOK Try.prog T12m Try.f7.ntmps (Try.f7.body.getD .skip) = true := by kernel_rfl
theorem c_law12_VersionSorted (l : List Ver) (hl : l.length ≤ 9223372036854775807) : CallA Try.prog 7 [.slc (l.map Ver.enc)] (· = .bool true) := by
  refine callA_of_body T12m_ok mixed Try.func7 rfl (Nat.le_of_ble_eq_true rfl) ok_law12_VersionSorted ?_
  unfold Try.f7
  by_cases h1 : (60 : Int) < l.length
  · simp -implicitDefEqProofs (maxSteps := 600000) (disch := (first | omega | decide)) only [go_sem, ↓reduceIte, Nat.reduceEqDiff, reduceCtorEq, Nat.reduceAdd, Nat.reduceSub, Nat.reduceMul, Nat.reduceLeDiff, Nat.reduceLT, Nat.reduceBEq, Nat.reduceBNe, Int.reduceLE, Int.reduceLT, Int.reduceBEq, Int.reduceBNe, Int.reduceEq, Int.reduceNe, Int.reduceAdd, Int.reduceSub, Int.reduceMul, Int.reduceNeg, Int.reduceToNat, h1, List.length_map]
  obtain ⟨z, hz, hsl, hsm, hlt⟩ : ∃ z, sortedV l = z ∧ z.length ≤ l.length ∧ (∀ {v : Ver}, v ∈ z ↔ v ∈ l ∧ rightV v = true) ∧ (∀ (i : Nat) (h : i + 1 < z.length), ltV z[i] z[i + 1] = true) := ⟨_, rfl, sortedV_len l, sortedV_mem, sortedV_lt l⟩
  simp -implicitDefEqProofs (maxSteps := 600000) (disch := (first | omega | decide)) only [go_sem, ↓reduceIte, Nat.reduceEqDiff, reduceCtorEq, Nat.reduceAdd, Nat.reduceSub, Nat.reduceMul, Nat.reduceLeDiff, Nat.reduceLT, Nat.reduceBEq, Nat.reduceBNe, Int.reduceLE, Int.reduceLT, Int.reduceBEq, Int.reduceBNe, Int.reduceEq, Int.reduceNe, Int.reduceAdd, Int.reduceSub, Int.reduceMul, Int.reduceNeg, Int.reduceToNat, h1, hz, List.length_map]
  refine wpA_loop [0, 3, 15, 16] (ι := {k : Nat // k ≤ z.length}) (fun p => [(17, .int .i64 p.1)]) (fun _ => []) (fun p => z.length - p.1) ⟨0, by omega⟩ (Nat.zero_le _) ?_ ?_
  · simp -implicitDefEqProofs (maxSteps := 600000) (disch := (first | omega | decide)) only [go_sem, ↓reduceIte, Nat.reduceEqDiff, reduceCtorEq, Nat.reduceAdd, Nat.reduceSub, Nat.reduceMul, Nat.reduceLeDiff, Nat.reduceLT, Nat.reduceBEq, Nat.reduceBNe, Int.reduceLE, Int.reduceLT, Int.reduceBEq, Int.reduceBNe, Int.reduceEq, Int.reduceNe, Int.reduceAdd, Int.reduceSub, Int.reduceMul, Int.reduceNeg, Int.reduceToNat]
  · rintro ⟨k, hk⟩
    simp only
    by_cases hk' : k < z.length
    · have hk2 : (k : Int) < (z.length : Int) := by omega
      have hm := (hsm (v := z[k])).1 (List.getElem_mem hk')
      have e1 : (z.map Ver.enc)[k]? = some (.agg [.int .i64 z[k].r, .int .i64 z[k].c]) := by
        rw [List.getElem?_map, List.getElem?_eq_getElem hk']; rfl
      have hl2 : 0 < k → ltV z[k - 1] z[k] = true := fun h => by
        have := hlt (k - 1) (by omega)
        simp only [show k - 1 + 1 = k by omega] at this
        exact this
      generalize hx : z[k] = x at *
      obtain ⟨r, c⟩ := x
      have hh : hasV l ⟨r, c⟩ = true := by simpa [hasV] using hm.1
      have hr := hm.2
      by_cases h0 : 0 < k
      · have h0' : (0 : Int) < (k : Int) := by omega
        have e0 : (z.map Ver.enc)[k - 1]? = some (.agg [.int .i64 z[k - 1].r, .int .i64 z[k - 1].c]) := by
          rw [List.getElem?_map, List.getElem?_eq_getElem (by omega)]; rfl
        have t0 : ((k : Int) - 1).toNat = k - 1 := by omega
        have b0 : (0 : Int) ≤ (k : Int) - 1 := by omega
        have b1 : (k : Int) - 1 < (z.length : Int) := by omega
        have hl3 := hl2 h0
        have hl4 : ltV ⟨z[k - 1].r, z[k - 1].c⟩ ⟨r, c⟩ = true := hl3
        simp -implicitDefEqProofs (maxSteps := 600000) (disch := (first | omega | decide)) only [go_sem, ↓reduceIte, Nat.reduceEqDiff, reduceCtorEq, Nat.reduceAdd, Nat.reduceSub, Nat.reduceMul, Nat.reduceLeDiff, Nat.reduceLT, Nat.reduceBEq, Nat.reduceBNe, Int.reduceLE, Int.reduceLT, Int.reduceBEq, Int.reduceBNe, Int.reduceEq, Int.reduceNe, Int.reduceAdd, Int.reduceSub, Int.reduceMul, Int.reduceNeg, Int.reduceToNat, hk2, e1, e0, hh, hr, h0', t0, b0, b1, hl4, wrap_i64, List.length_map]
        exact ⟨⟨k + 1, hk'⟩, by simp, by show z.length - (k + 1) < z.length - k; omega⟩
      · have h0' : ¬ (0 : Int) < (k : Int) := by omega
        simp -implicitDefEqProofs (maxSteps := 600000) (disch := (first | omega | decide)) only [go_sem, ↓reduceIte, Nat.reduceEqDiff, reduceCtorEq, Nat.reduceAdd, Nat.reduceSub, Nat.reduceMul, Nat.reduceLeDiff, Nat.reduceLT, Nat.reduceBEq, Nat.reduceBNe, Int.reduceLE, Int.reduceLT, Int.reduceBEq, Int.reduceBNe, Int.reduceEq, Int.reduceNe, Int.reduceAdd, Int.reduceSub, Int.reduceMul, Int.reduceNeg, Int.reduceToNat, hk2, e1, hh, hr, h0', wrap_i64, List.length_map]
        exact ⟨⟨k + 1, hk'⟩, by simp, by show z.length - (k + 1) < z.length - k; omega⟩
    · have hk2 : ¬ (k : Int) < (z.length : Int) := by omega
      simp -implicitDefEqProofs (maxSteps := 600000) (disch := (first | omega | decide)) only [go_sem, ↓reduceIte, Nat.reduceEqDiff, reduceCtorEq, Nat.reduceAdd, Nat.reduceSub, Nat.reduceMul, Nat.reduceLeDiff, Nat.reduceLT, Nat.reduceBEq, Nat.reduceBNe, Int.reduceLE, Int.reduceLT, Int.reduceBEq, Int.reduceBNe, Int.reduceEq, Int.reduceNe, Int.reduceAdd, Int.reduceSub, Int.reduceMul, Int.reduceNeg, Int.reduceToNat, hk2, List.length_map]
      refine wpA_loop [0, 3, 46, 47] (ι := {k : Nat // k ≤ l.length}) (fun p => [(48, .int .i64 p.1)]) (fun _ => []) (fun p => l.length - p.1) ⟨0, by omega⟩ (Nat.zero_le _) ?_ ?_
      · simp -implicitDefEqProofs (maxSteps := 600000) (disch := (first | omega | decide)) only [go_sem, ↓reduceIte, Nat.reduceEqDiff, reduceCtorEq, Nat.reduceAdd, Nat.reduceSub, Nat.reduceMul, Nat.reduceLeDiff, Nat.reduceLT, Nat.reduceBEq, Nat.reduceBNe, Int.reduceLE, Int.reduceLT, Int.reduceBEq, Int.reduceBNe, Int.reduceEq, Int.reduceNe, Int.reduceAdd, Int.reduceSub, Int.reduceMul, Int.reduceNeg, Int.reduceToNat]
      · rintro ⟨j, hj⟩
        simp only
        by_cases hj' : j < l.length
        · have hj2 : (j : Int) < (l.length : Int) := by omega
          have e1 : (l.map Ver.enc)[j]? = some (.agg [.int .i64 l[j].r, .int .i64 l[j].c]) := by
            rw [List.getElem?_map, List.getElem?_eq_getElem hj']; rfl
          have hm : rightV l[j] = true → l[j] ∈ z := fun h => hsm.2 ⟨List.getElem_mem hj', h⟩
          generalize hx : l[j] = x at *
          obtain ⟨r, c⟩ := x
          cases hr : rightV ⟨r, c⟩ with
          | true =>
            have hh : hasV z ⟨r, c⟩ = true := by simpa [hasV] using hm hr
            simp -implicitDefEqProofs (maxSteps := 600000) (disch := (first | omega | decide)) only [go_sem, ↓reduceIte, Nat.reduceEqDiff, reduceCtorEq, Nat.reduceAdd, Nat.reduceSub, Nat.reduceMul, Nat.reduceLeDiff, Nat.reduceLT, Nat.reduceBEq, Nat.reduceBNe, Int.reduceLE, Int.reduceLT, Int.reduceBEq, Int.reduceBNe, Int.reduceEq, Int.reduceNe, Int.reduceAdd, Int.reduceSub, Int.reduceMul, Int.reduceNeg, Int.reduceToNat, hj2, e1, hh, hr, wrap_i64, List.length_map]
            exact ⟨⟨j + 1, hj'⟩, by simp, by show l.length - (j + 1) < l.length - j; omega⟩
          | false =>
            simp -implicitDefEqProofs (maxSteps := 600000) (disch := (first | omega | decide)) only [go_sem, ↓reduceIte, Nat.reduceEqDiff, reduceCtorEq, Nat.reduceAdd, Nat.reduceSub, Nat.reduceMul, Nat.reduceLeDiff, Nat.reduceLT, Nat.reduceBEq, Nat.reduceBNe, Int.reduceLE, Int.reduceLT, Int.reduceBEq, Int.reduceBNe, Int.reduceEq, Int.reduceNe, Int.reduceAdd, Int.reduceSub, Int.reduceMul, Int.reduceNeg, Int.reduceToNat, hj2, e1, hr, wrap_i64, List.length_map]
            exact ⟨⟨j + 1, hj'⟩, by simp, by show l.length - (j + 1) < l.length - j; omega⟩
        · have hj2 : ¬ (j : Int) < (l.length : Int) := by omega
          simp -implicitDefEqProofs (maxSteps := 600000) (disch := (first | omega | decide)) only [go_sem, ↓reduceIte, Nat.reduceEqDiff, reduceCtorEq, Nat.reduceAdd, Nat.reduceSub, Nat.reduceMul, Nat.reduceLeDiff, Nat.reduceLT, Nat.reduceBEq, Nat.reduceBNe, Int.reduceLE, Int.reduceLT, Int.reduceBEq, Int.reduceBNe, Int.reduceEq, Int.reduceNe, Int.reduceAdd, Int.reduceSub, Int.reduceMul, Int.reduceNeg, Int.reduceToNat, hj2, List.length_map]
end Go.Proofs.Ytfcjemfgdeoinaa
