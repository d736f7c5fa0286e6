/- Chapter 08: the edges of right lists, walked. -/
import Derived.Test.YtnmkojglcgaobaaK08H
namespace Go.Proofs.Ytnmkojglcgaobaa
open Go.Abs
set_option linter.unusedSimpArgs false
set_option linter.unusedVariables false
set_option maxRecDepth 20000
set_option maxHeartbeats 8000000

theorem raw_one {m : List Rng} (h : (rawE [[]] m).length = 1) : rawE [[]] m = [[]] := by
  cases m with
  | nil => rfl
  | cons r l =>
    have h1 := (rawE_len l (rawS [[]] r)).1
    have h2 : 2 ≤ (rawS [[]] r).length := by unfold rawS; split <;> simp
    have e : rawE [[]] (r :: l) = rawE (rawS [[]] r) l := rfl
    rw [e] at h; omega
theorem acc_raw (a b : List Rng) (o : Nat) : ∃ m, accE a b o = rawE [[]] m := ⟨_, rfl⟩
theorem head0 {σ : St} {E : List (List UInt8)} {u : List (Nat × A)} : True := trivial
theorem ok_ranges_edges : codeOK Try.prog E8 Try.f95.ntmps (Try.f95.body.getD .skip) = true := by kernel_rfl
theorem c_ranges_edges (a b : List Rng) (ha : a.length ≤ 1000000) (hb : b.length ≤ 1000000) (ra : ∀ r ∈ a, rightR r = true) (rb : ∀ r ∈ b, rightR r = true) : CallA Try.prog 95 [.slc (a.map Rng.enc), .slc (b.map Rng.enc)] (· = .slc ((edgesT a b).map .str)) := by
  refine callA_of_body E8_ok mixed Try.func95 rfl (Nat.le_of_ble_eq_true rfl) ok_ranges_edges ?_
  unfold Try.f95
  simp -implicitDefEqProofs (maxSteps := 600000) (disch := (first | omega | decide)) only [go_sem, ↓reduceIte, Nat.reduceEqDiff, reduceCtorEq, Nat.reduceAdd, Nat.reduceSub, Nat.reduceMul, Nat.reduceLeDiff, Nat.reduceLT, Nat.reduceBEq, Nat.reduceBNe, Int.reduceLE, Int.reduceLT, Int.reduceBEq, Int.reduceBNe, Int.reduceEq, Int.reduceNe, Int.reduceAdd, Int.reduceSub, Int.reduceMul, Int.reduceNeg, Int.reduceToNat, List.length_map]
  refine wpA_loopH [4, 13] (ι := {o : Nat // o ≤ 2}) (fun p => [(14, .int .i64 p.1), (5, sh5 (accE a b p.1))]) (fun p => shH (accE a b p.1)) (fun p => 2 - p.1) ⟨0, by omega⟩ (fun _ => Nat.zero_le _) ?_ ?_
  · simp only [accE0]
    simp -implicitDefEqProofs (maxSteps := 600000) (disch := (first | omega | decide)) only [go_sem, ↓reduceIte, Nat.reduceEqDiff, reduceCtorEq, Nat.reduceAdd, Nat.reduceSub, Nat.reduceMul, Nat.reduceLeDiff, Nat.reduceLT, Nat.reduceBEq, Nat.reduceBNe, Int.reduceLE, Int.reduceLT, Int.reduceBEq, Int.reduceBNe, Int.reduceEq, Int.reduceNe, Int.reduceAdd, Int.reduceSub, Int.reduceMul, Int.reduceNeg, Int.reduceToNat, sh5, shH]
  · rintro ⟨o, ho⟩
    simp only
    by_cases ho2 : o < 2
    · have ho' : (o : Int) < 2 := by omega
      have ho0 : (0 : Int) ≤ (o : Int) := by omega
      obtain ⟨l, hd, hacc, hl⟩ := acc_get a b o ho2
      have hll : l.length ≤ 1000000 := by rcases hl with rfl | rfl <;> assumption
      have hlr : ∀ r ∈ l, rightR r = true := by rcases hl with rfl | rfl <;> assumption
      obtain ⟨m0, hm0⟩ := acc_raw a b o
      have hel : (accE a b o).length ≤ 3000001 := by
        unfold accE
        have h1 := (rawE_len (if o = 0 then [] else if o = 1 then a else a ++ b) [[]]).2
        have h2 : (if o = 0 then [] else if o = 1 then a else a ++ b).length ≤ 1000000 := by
          rcases (by omega : o = 0 ∨ o = 1) with rfl | rfl
          · simp
          · simpa using ha
        simp only [List.length_singleton] at h1
        omega
      have hfin : ∃ j : {o : Nat // o ≤ 2}, (o : Int) + 1 = (j.1 : Int) ∧ accE a b (o + 1) = accE a b j.1 ∧ 2 - j.1 < 2 - o := ⟨⟨o + 1, ho2⟩, by simp, rfl, by show 2 - (o + 1) < 2 - o; omega⟩
      rw [← hacc] at hfin
      generalize accE a b o = E0 at *
      have hE5 : (sh5 E0).under (shH E0).length = true := sh_under
      have hE5b : leH (shH E0).length (shH E0) (shH E0) := by
        by_cases hE0 : E0.length = 1
        · rw [(sh_one hE0).2]; simp [leH]
        · rw [(sh_more hE0).2]; simp [leH, leO, leL]
      simp -implicitDefEqProofs (maxSteps := 600000) (disch := (first | omega | decide)) only [go_sem, ↓reduceIte, Nat.reduceEqDiff, reduceCtorEq, Nat.reduceAdd, Nat.reduceSub, Nat.reduceMul, Nat.reduceLeDiff, Nat.reduceLT, Nat.reduceBEq, Nat.reduceBNe, Int.reduceLE, Int.reduceLT, Int.reduceBEq, Int.reduceBNe, Int.reduceEq, Int.reduceNe, Int.reduceAdd, Int.reduceSub, Int.reduceMul, Int.reduceNeg, Int.reduceToNat, ho', ho0, hd, Nat.mul_one, List.length_map]
      refine wpA_loopH [4, 13, 14, 17, 18] (ι := {j : Nat // j ≤ l.length}) (fun p => [(19, .int .i64 p.1), (5, sh5 (rawE E0 (l.take p.1)))]) (fun p => shH (rawE E0 (l.take p.1))) (fun p => l.length - p.1) ⟨0, by omega⟩ (fun _ => Nat.zero_le _) ?_ ?_
      · have e : rawE E0 (l.take 0) = E0 := rfl
        simp only [e]
        simp -implicitDefEqProofs (maxSteps := 600000) (disch := (first | omega | decide)) only [go_sem, ↓reduceIte, Nat.reduceEqDiff, reduceCtorEq, Nat.reduceAdd, Nat.reduceSub, Nat.reduceMul, Nat.reduceLeDiff, Nat.reduceLT, Nat.reduceBEq, Nat.reduceBNe, Int.reduceLE, Int.reduceLT, Int.reduceBEq, Int.reduceBNe, Int.reduceEq, Int.reduceNe, Int.reduceAdd, Int.reduceSub, Int.reduceMul, Int.reduceNeg, Int.reduceToNat, hE5, hE5b]
      · rintro ⟨j, hj⟩
        simp only
        obtain ⟨m1, hm1⟩ : ∃ m, rawE E0 (l.take j) = rawE [[]] m := ⟨m0 ++ l.take j, by rw [hm0, rawE_app]⟩
        have hlenE := (rawE_len (l.take j) E0).2
        rw [List.length_take, Nat.min_eq_left hj] at hlenE
        have hgeE := (rawE_len m1 [[]]).1
        rw [← hm1, List.length_singleton] at hgeE
        by_cases hlt : j < l.length
        · have hlt' : (j : Int) < (l.length : Int) := by omega
          have e1 := rng_get hlt
          have hrr := hlr _ (List.getElem_mem hlt)
          have hst := rawE_step l E0 j hlt
          have next : ∀ E', rawE E0 (l.take (j + 1)) = E' → E'.length ≠ 1 → ∃ i : {j : Nat // j ≤ l.length}, (j : Int) + 1 = (i.1 : Int) ∧ (sh5 (rawE E0 (l.take i.1)) = .row 1 0 1 E'.length false ∧ shH (rawE E0 (l.take i.1)) = [.box [.any, .any, .any], .row 1 (E'.map .str)]) ∧ l.length - i.1 < l.length - j := fun E' h1 h2 => ⟨⟨j + 1, hlt⟩, by simp, by rw [h1]; exact sh_more h2, by show l.length - (j + 1) < l.length - j; omega⟩
          generalize rawE E0 (l.take j) = E at *
          generalize hx : l[j] = x at *
          obtain ⟨lo, hi, op⟩ := x
          unfold rawS at hst
          by_cases hE : E.length = 1
          · have hE1 : E = [[]] := by rw [hm1] at hE ⊢; exact raw_one hE
            rw [(sh_one hE).1, (sh_one hE).2]
            subst hE1
            cases op with
            | true =>
              obtain ⟨i, n1, ⟨n2, n3⟩, n4⟩ := next _ hst (by simp)
              simp -implicitDefEqProofs (maxSteps := 600000) (disch := (first | omega | decide)) only [go_sem, ↓reduceIte, Nat.reduceEqDiff, reduceCtorEq, Nat.reduceAdd, Nat.reduceSub, Nat.reduceMul, Nat.reduceLeDiff, Nat.reduceLT, Nat.reduceBEq, Nat.reduceBNe, Int.reduceLE, Int.reduceLT, Int.reduceBEq, Int.reduceBNe, Int.reduceEq, Int.reduceNe, Int.reduceAdd, Int.reduceSub, Int.reduceMul, Int.reduceNeg, Int.reduceToNat, hlt', e1, wrap_i64, List.length_map]
              refine ⟨i, ?_, n4⟩
              rw [n2, n3]
              simp -implicitDefEqProofs (maxSteps := 600000) (disch := (first | omega | decide)) only [go_sem, ↓reduceIte, Nat.reduceEqDiff, reduceCtorEq, Nat.reduceAdd, Nat.reduceSub, Nat.reduceMul, Nat.reduceLeDiff, Nat.reduceLT, Nat.reduceBEq, Nat.reduceBNe, Int.reduceLE, Int.reduceLT, Int.reduceBEq, Int.reduceBNe, Int.reduceEq, Int.reduceNe, Int.reduceAdd, Int.reduceSub, Int.reduceMul, Int.reduceNeg, Int.reduceToNat, n1]
              try simp
            | false =>
              obtain ⟨i, n1, ⟨n2, n3⟩, n4⟩ := next _ hst (by simp)
              simp -implicitDefEqProofs (maxSteps := 600000) (disch := (first | omega | decide)) only [go_sem, ↓reduceIte, Nat.reduceEqDiff, reduceCtorEq, Nat.reduceAdd, Nat.reduceSub, Nat.reduceMul, Nat.reduceLeDiff, Nat.reduceLT, Nat.reduceBEq, Nat.reduceBNe, Int.reduceLE, Int.reduceLT, Int.reduceBEq, Int.reduceBNe, Int.reduceEq, Int.reduceNe, Int.reduceAdd, Int.reduceSub, Int.reduceMul, Int.reduceNeg, Int.reduceToNat, hlt', e1, wrap_i64, List.length_map]
              refine ⟨i, ?_, n4⟩
              rw [n2, n3]
              simp -implicitDefEqProofs (maxSteps := 600000) (disch := (first | omega | decide)) only [go_sem, ↓reduceIte, Nat.reduceEqDiff, reduceCtorEq, Nat.reduceAdd, Nat.reduceSub, Nat.reduceMul, Nat.reduceLeDiff, Nat.reduceLT, Nat.reduceBEq, Nat.reduceBNe, Int.reduceLE, Int.reduceLT, Int.reduceBEq, Int.reduceBNe, Int.reduceEq, Int.reduceNe, Int.reduceAdd, Int.reduceSub, Int.reduceMul, Int.reduceNeg, Int.reduceToNat, n1]
              try simp
          · rw [(sh_more hE).1, (sh_more hE).2]
            have tl : (E.map A.str).take E.length = E.map A.str := List.take_of_length_le (by simp)
            have tl2 : (E.map A.str ++ [A.str lo]).take (E.length + 1) = E.map A.str ++ [A.str lo] := List.take_of_length_le (by simp)
            have ll2 : (E.map A.str ++ [A.str lo]).length = E.length + 1 := by simp
            cases op with
            | true =>
              obtain ⟨i, n1, ⟨n2, n3⟩, n4⟩ := next _ hst (by rw [List.length_append]; show E.length + 1 ≠ 1; omega)
              simp -implicitDefEqProofs (maxSteps := 600000) (disch := (first | omega | decide)) only [go_sem, ↓reduceIte, Nat.reduceEqDiff, reduceCtorEq, Nat.reduceAdd, Nat.reduceSub, Nat.reduceMul, Nat.reduceLeDiff, Nat.reduceLT, Nat.reduceBEq, Nat.reduceBNe, Int.reduceLE, Int.reduceLT, Int.reduceBEq, Int.reduceBNe, Int.reduceEq, Int.reduceNe, Int.reduceAdd, Int.reduceSub, Int.reduceMul, Int.reduceNeg, Int.reduceToNat, hlt', e1, tl, wrap_i64, List.length_map]
              refine ⟨⟨Nat.le_refl _, by omega⟩, i, ?_, n4⟩
              rw [n2, n3]
              simp -implicitDefEqProofs (maxSteps := 600000) (disch := (first | omega | decide)) only [go_sem, ↓reduceIte, Nat.reduceEqDiff, reduceCtorEq, Nat.reduceAdd, Nat.reduceSub, Nat.reduceMul, Nat.reduceLeDiff, Nat.reduceLT, Nat.reduceBEq, Nat.reduceBNe, Int.reduceLE, Int.reduceLT, Int.reduceBEq, Int.reduceBNe, Int.reduceEq, Int.reduceNe, Int.reduceAdd, Int.reduceSub, Int.reduceMul, Int.reduceNeg, Int.reduceToNat, n1]
              try simp
            | false =>
              obtain ⟨i, n1, ⟨n2, n3⟩, n4⟩ := next _ hst (by simp)
              simp -implicitDefEqProofs (maxSteps := 600000) (disch := (first | omega | decide)) only [go_sem, ↓reduceIte, Nat.reduceEqDiff, reduceCtorEq, Nat.reduceAdd, Nat.reduceSub, Nat.reduceMul, Nat.reduceLeDiff, Nat.reduceLT, Nat.reduceBEq, Nat.reduceBNe, Int.reduceLE, Int.reduceLT, Int.reduceBEq, Int.reduceBNe, Int.reduceEq, Int.reduceNe, Int.reduceAdd, Int.reduceSub, Int.reduceMul, Int.reduceNeg, Int.reduceToNat, hlt', e1, tl, tl2, ll2, wrap_i64, List.length_map]
              refine ⟨⟨Nat.le_refl _, by omega⟩, ⟨Nat.le_refl _, by omega⟩, i, ?_, n4⟩
              rw [n2, n3]
              simp -implicitDefEqProofs (maxSteps := 600000) (disch := (first | omega | decide)) only [go_sem, ↓reduceIte, Nat.reduceEqDiff, reduceCtorEq, Nat.reduceAdd, Nat.reduceSub, Nat.reduceMul, Nat.reduceLeDiff, Nat.reduceLT, Nat.reduceBEq, Nat.reduceBNe, Int.reduceLE, Int.reduceLT, Int.reduceBEq, Int.reduceBNe, Int.reduceEq, Int.reduceNe, Int.reduceAdd, Int.reduceSub, Int.reduceMul, Int.reduceNeg, Int.reduceToNat, n1]
              try simp
        · have hlt' : ¬ (j : Int) < (l.length : Int) := by omega
          rw [List.take_of_length_le (by omega)] at *
          obtain ⟨i, n1, n2, n3⟩ := hfin
          rw [n2]
          have hU : (sh5 (accE a b i.1)).under (shH (accE a b i.1)).length = true := sh_under
          have hUb : leH (shH (accE a b i.1)).length (shH (accE a b i.1)) (shH (accE a b i.1)) := by
            by_cases hE0 : (accE a b i.1).length = 1
            · rw [(sh_one hE0).2]; simp [leH]
            · rw [(sh_more hE0).2]; simp [leH, leO, leL]
          have w : IntKind.i64.wrap ((o : Int) + 1) = (o : Int) + 1 := wrap_i64 (by omega)
          simp -implicitDefEqProofs (maxSteps := 600000) (disch := (first | omega | decide)) only [go_sem, ↓reduceIte, Nat.reduceEqDiff, reduceCtorEq, Nat.reduceAdd, Nat.reduceSub, Nat.reduceMul, Nat.reduceLeDiff, Nat.reduceLT, Nat.reduceBEq, Nat.reduceBNe, Int.reduceLE, Int.reduceLT, Int.reduceBEq, Int.reduceBNe, Int.reduceEq, Int.reduceNe, Int.reduceAdd, Int.reduceSub, Int.reduceMul, Int.reduceNeg, Int.reduceToNat, hlt', w, List.length_map]
          refine ⟨i, ?_, n3⟩
          simp -implicitDefEqProofs (maxSteps := 600000) (disch := (first | omega | decide)) only [go_sem, ↓reduceIte, Nat.reduceEqDiff, reduceCtorEq, Nat.reduceAdd, Nat.reduceSub, Nat.reduceMul, Nat.reduceLeDiff, Nat.reduceLT, Nat.reduceBEq, Nat.reduceBNe, Int.reduceLE, Int.reduceLT, Int.reduceBEq, Int.reduceBNe, Int.reduceEq, Int.reduceNe, Int.reduceAdd, Int.reduceSub, Int.reduceMul, Int.reduceNeg, Int.reduceToNat, n1, hU, hUb]
    · have ho' : ¬ (o : Int) < 2 := by omega
      have ho2' : o = 2 := by omega
      subst ho2'
      have hE2 : accE a b 2 = rawE [[]] (a ++ b) := rfl
      have h17 : ∀ s ∈ rawE [[]] (a ++ b), s.length ≤ 17 := fun s hs => by
        rcases (rawE_mem _ _ _).1 hs with h | ⟨r, hr, h⟩
        · simp at h; subst h; simp
        · have hrr : rightR r = true := by
            rcases List.mem_append.1 hr with hr | hr
            · exact ra r hr
            · exact rb r hr
          obtain ⟨k1, k2, _, _⟩ := right_parts hrr
          rcases h with rfl | ⟨_, rfl⟩
          · exact k1
          · exact k2
      have hel := (rawE_len (a ++ b) [[]]).2
      rw [List.length_append, List.length_singleton] at hel
      rw [hE2]
      unfold edgesT
      have hone := @raw_one (a ++ b)
      generalize rawE [[]] (a ++ b) = E at *
      by_cases hE : E.length = 1
      · have hE1 := hone hE
        rw [(sh_one hE).1, (sh_one hE).2]
        subst hE1
        have s1 := E8_st (.inr []) trivial
        have s2 := E8_cp (.inr []) trivial
        simp only [stE, stO, stR] at s1
        simp only [cpE, cpO, cpR] at s2
        have hs : sortT [[]] = [[]] := by
          have := (sortT_spec h17).1
          exact (List.perm_replicate (n := 1) (a := ([] : List UInt8))).1 this
        rw [hs]
        simp -implicitDefEqProofs (maxSteps := 600000) (disch := (first | omega | decide)) only [go_sem, ↓reduceIte, Nat.reduceEqDiff, reduceCtorEq, Nat.reduceAdd, Nat.reduceSub, Nat.reduceMul, Nat.reduceLeDiff, Nat.reduceLT, Nat.reduceBEq, Nat.reduceBNe, Int.reduceLE, Int.reduceLT, Int.reduceBEq, Int.reduceBNe, Int.reduceEq, Int.reduceNe, Int.reduceAdd, Int.reduceSub, Int.reduceMul, Int.reduceNeg, Int.reduceToNat, ho', s1, s2, compL, List.contains_nil, List.contains_cons, List.length_map]
      · rw [(sh_more hE).1, (sh_more hE).2]
        have s1 := E8_st (.inl (asB E h17)) (by show (asB E h17).length < _; rw [asB_len]; omega)
        simp only [stE, stO, stR, asB_enc, asB_len, sortT_enc] at s1
        have hp := (sortT_spec h17).1.length_eq
        have s2 := E8_cp (.inl (sortT E)) (by show (sortT E).length ≤ _; rw [hp]; omega)
        simp only [cpE, cpO, cpR, hp] at s2
        have hcl : (compL (sortT E)).length = ((compL (sortT E)).map A.str).length := by simp
        simp -implicitDefEqProofs (maxSteps := 600000) (disch := (first | omega | decide)) only [go_sem, ↓reduceIte, Nat.reduceEqDiff, reduceCtorEq, Nat.reduceAdd, Nat.reduceSub, Nat.reduceMul, Nat.reduceLeDiff, Nat.reduceLT, Nat.reduceBEq, Nat.reduceBNe, Int.reduceLE, Int.reduceLT, Int.reduceBEq, Int.reduceBNe, Int.reduceEq, Int.reduceNe, Int.reduceAdd, Int.reduceSub, Int.reduceMul, Int.reduceNeg, Int.reduceToNat, ho', s1, s2, List.contains_nil, List.contains_cons, List.length_map]
        refine ⟨by rw [List.length_append]; omega, ?_⟩
        rw [List.map_append, List.take_append_of_le_length (by simp), List.take_of_length_le (by simp)]
end Go.Proofs.Ytnmkojglcgaobaa
