/- Chapter 13: the right list of runs; some counts more. -/
import Derived.Test.YtbnmicpgbcfooaaK13F
namespace Go.Proofs.Ytbnmicpgbcfooaa
open Go.Abs
set_option linter.unusedSimpArgs false
set_option linter.unusedVariables false
set_option maxRecDepth 20000
set_option maxHeartbeats 4000000

/-- The row that stands for runs, the last first. -/
def rowG (acc : List Run) : List A := acc.reverse.map Run.enc
theorem rowG_cons (q : Run) (qs : List Run) : rowG (q :: qs) = rowG qs ++ [.agg [.int .i64 q.f, .int .i64 q.t]] := by
  simp [rowG, Run.enc, Run.cells]
theorem rowG_len (l : List Run) : (rowG l).length = l.length := by simp [rowG]
theorem rowG_nil : rowG [] = [] := rfl
theorem fold_step (l : List Run) (k : Nat) (h : k < l.length) : (l.take (k + 1)).foldl pushJ [] = pushJ ((l.take k).foldl pushJ []) l[k] := by
  rw [← List.take_append_getElem h, List.foldl_append]; rfl
theorem fold_len : ∀ (l : List Run) (a : List Run), (l.foldl pushJ a).length ≤ a.length + l.length
  | [], a => by simp
  | r :: l, a => by
    have h1 := fold_len l (pushJ a r)
    have h2 := pushJ_len a r
    simp only [List.foldl_cons, List.length_cons]; omega
theorem ok_counts_Of : codeOK Try.prog C13S Try.f52.ntmps (Try.f52.body.getD .skip) = true := by kernel_rfl
theorem c_counts_Of (l : List Run) (hl : l.length ≤ 4398046511104) : CallA Try.prog 52 [.slc (l.map Run.enc)] (· = .slc ((setR (hasL13 l)).map Run.enc)) := by
  refine callA_of_body C13S_ok mixed Try.func52 rfl (Nat.le_of_ble_eq_true rfl) ok_counts_Of ?_
  unfold Try.f52
  cases hr : rightL l with
  | true =>
    have e := setR_eq hr (fun _ => rfl)
    simp -implicitDefEqProofs (maxSteps := 600000) (disch := (first | omega | decide)) only [go_sem, ↓reduceIte, Nat.reduceEqDiff, reduceCtorEq, Nat.reduceAdd, Nat.reduceSub, Nat.reduceMul, Nat.reduceLeDiff, Nat.reduceLT, Nat.reduceBEq, Nat.reduceBNe, Int.reduceLE, Int.reduceLT, Int.reduceBEq, Int.reduceBNe, Int.reduceEq, Int.reduceNe, Int.reduceAdd, Int.reduceSub, Int.reduceMul, Int.reduceNeg, Int.reduceToNat, hr, List.length_map]
    rw [← e]
  | false =>
    simp -implicitDefEqProofs (maxSteps := 600000) (disch := (first | omega | decide)) only [go_sem, ↓reduceIte, Nat.reduceEqDiff, reduceCtorEq, Nat.reduceAdd, Nat.reduceSub, Nat.reduceMul, Nat.reduceLeDiff, Nat.reduceLT, Nat.reduceBEq, Nat.reduceBNe, Int.reduceLE, Int.reduceLT, Int.reduceBEq, Int.reduceBNe, Int.reduceEq, Int.reduceNe, Int.reduceAdd, Int.reduceSub, Int.reduceMul, Int.reduceNeg, Int.reduceToNat, hr, List.length_map]
    refine wpA_loop_nil 3 2 rfl ?_
    refine wpA_loop [2, 14, 15] (ι := {k : Nat // k ≤ l.length}) (fun p => [(16, .int .i64 p.1), (3, .row 0 0 2 ((l.take p.1).filter oneR).length false)]) (fun p => [(0, .row 2 (((l.take p.1).filter oneR).map Run.enc))]) (fun p => l.length - p.1) ⟨0, by omega⟩ (Nat.zero_le _) ?_ ?_
    · simp -implicitDefEqProofs (maxSteps := 600000) (disch := (first | omega | decide)) only [go_sem, ↓reduceIte, Nat.reduceEqDiff, reduceCtorEq, Nat.reduceAdd, Nat.reduceSub, Nat.reduceMul, Nat.reduceLeDiff, Nat.reduceLT, Nat.reduceBEq, Nat.reduceBNe, Int.reduceLE, Int.reduceLT, Int.reduceBEq, Int.reduceBNe, Int.reduceEq, Int.reduceNe, Int.reduceAdd, Int.reduceSub, Int.reduceMul, Int.reduceNeg, Int.reduceToNat]
      simp
    · rintro ⟨k, hk⟩
      simp only
      have hf : ((l.take k).filter oneR).length ≤ k := Nat.le_trans (List.length_filter_le _ _) (by rw [List.length_take]; omega)
      by_cases hlt : k < l.length
      · have hlt' : (k : Int) < (l.length : Int) := by omega
        have ht : l.take (k + 1) = l.take k ++ [l[k]] := (List.take_append_getElem hlt).symm
        have e1 := run_get hlt
        generalize hx : l[k] = x at *
        obtain ⟨f, t⟩ := x
        cases h1 : oneR ⟨f, t⟩ with
        | true =>
          simp -implicitDefEqProofs (maxSteps := 600000) (disch := (first | omega | decide)) only [go_sem, ↓reduceIte, Nat.reduceEqDiff, reduceCtorEq, Nat.reduceAdd, Nat.reduceSub, Nat.reduceMul, Nat.reduceLeDiff, Nat.reduceLT, Nat.reduceBEq, Nat.reduceBNe, Int.reduceLE, Int.reduceLT, Int.reduceBEq, Int.reduceBNe, Int.reduceEq, Int.reduceNe, Int.reduceAdd, Int.reduceSub, Int.reduceMul, Int.reduceNeg, Int.reduceToNat, hlt', e1, h1, wrap_i64, List.length_map]
          refine ⟨⟨Nat.le_refl _, by omega⟩, ⟨k + 1, hlt⟩, ⟨⟨by simp, ?_⟩, ?_⟩, by show l.length - (k + 1) < l.length - k; omega⟩
          · rw [ht, List.filter_append]; simp [h1]
          · rw [ht, List.filter_append, List.take_of_length_le (by simp)]; simp [h1, Run.enc, Run.cells]
        | false =>
          simp -implicitDefEqProofs (maxSteps := 600000) (disch := (first | omega | decide)) only [go_sem, ↓reduceIte, Nat.reduceEqDiff, reduceCtorEq, Nat.reduceAdd, Nat.reduceSub, Nat.reduceMul, Nat.reduceLeDiff, Nat.reduceLT, Nat.reduceBEq, Nat.reduceBNe, Int.reduceLE, Int.reduceLT, Int.reduceBEq, Int.reduceBNe, Int.reduceEq, Int.reduceNe, Int.reduceAdd, Int.reduceSub, Int.reduceMul, Int.reduceNeg, Int.reduceToNat, hlt', e1, h1, wrap_i64, List.length_map]
          refine ⟨⟨k + 1, hlt⟩, ⟨⟨by simp, ?_⟩, ?_⟩, by show l.length - (k + 1) < l.length - k; omega⟩
          · rw [ht, List.filter_append]; simp [h1]
          · rw [ht, List.filter_append]; simp [h1]
      · have hlt' : ¬ (k : Int) < (l.length : Int) := by omega
        rw [List.take_of_length_le (by omega)] at *
        have hs := C13S_sort (l := l) rfl (by omega)
        have hp := (srtL_perm l).length_eq
        have hall := srtL_all l
        have hone := srtL_one l
        have hup := srtL_up l
        rw [← hp] at hf
        simp -implicitDefEqProofs (maxSteps := 600000) (disch := (first | omega | decide)) only [go_sem, ↓reduceIte, Nat.reduceEqDiff, reduceCtorEq, Nat.reduceAdd, Nat.reduceSub, Nat.reduceMul, Nat.reduceLeDiff, Nat.reduceLT, Nat.reduceBEq, Nat.reduceBNe, Int.reduceLE, Int.reduceLT, Int.reduceBEq, Int.reduceBNe, Int.reduceEq, Int.reduceNe, Int.reduceAdd, Int.reduceSub, Int.reduceMul, Int.reduceNeg, Int.reduceToNat, hlt', hs, List.length_map, List.contains_nil, List.contains_cons]
        rw [← hp]
        generalize srtL l = s at *
        refine wpA_loop_nil 6 2 rfl ?_
        refine wpA_loop [2, 29, 30] (ι := {j : Nat // j ≤ s.length}) (fun p => [(31, .int .i64 p.1), (6, .row 1 0 2 ((s.take p.1).foldl pushJ []).length false)]) (fun p => [(1, .row 2 (rowG ((s.take p.1).foldl pushJ [])))]) (fun p => s.length - p.1) ⟨0, by omega⟩ (Nat.zero_le _) ?_ ?_
        · simp -implicitDefEqProofs (maxSteps := 600000) (disch := (first | omega | decide)) only [go_sem, ↓reduceIte, Nat.reduceEqDiff, reduceCtorEq, Nat.reduceAdd, Nat.reduceSub, Nat.reduceMul, Nat.reduceLeDiff, Nat.reduceLT, Nat.reduceBEq, Nat.reduceBNe, Int.reduceLE, Int.reduceLT, Int.reduceBEq, Int.reduceBNe, Int.reduceEq, Int.reduceNe, Int.reduceAdd, Int.reduceSub, Int.reduceMul, Int.reduceNeg, Int.reduceToNat]
          simp [rowG]
        · rintro ⟨j, hj⟩
          simp only
          have hml := fold_len (s.take j) []
          rw [List.length_take, List.length_nil, Nat.min_eq_left hj, Nat.zero_add] at hml
          by_cases hltj : j < s.length
          · have hltj' : (j : Int) < (s.length : Int) := by omega
            have e2 := run_get hltj
            have hst := fold_step s j hltj
            have ho := hone _ (List.getElem_mem hltj)
            have hR : RR ((s.take j).foldl pushJ []) := (fold_push (a := []) trivial (fun r hr => hone r (List.mem_of_mem_take hr)) (hup.sublist (List.take_sublist _ _)) (fun _ _ => trivial)).1
            have fin : ∀ m', (s.take (j + 1)).foldl pushJ [] = m' → ∃ i : {j : Nat // j ≤ s.length}, (((j : Int) + 1 = (i.1 : Int) ∧ m'.length = ((s.take i.1).foldl pushJ []).length) ∧ rowG m' = rowG ((s.take i.1).foldl pushJ [])) ∧ s.length - i.1 < s.length - j := fun m' hm' => ⟨⟨j + 1, hltj⟩, ⟨⟨by simp, by rw [hm']⟩, by rw [hm']⟩, by show s.length - (j + 1) < s.length - j; omega⟩
            generalize hx : s[j] = x at *
            generalize (s.take j).foldl pushJ [] = m at *
            obtain ⟨f, t⟩ := x
            obtain ⟨o1, o2, o3⟩ := one_parts ho
            simp only at o1 o2 o3
            have fin' := fin _ hst
            cases m with
            | nil =>
              rw [rowG_nil]
              simp -implicitDefEqProofs (maxSteps := 600000) (disch := (first | omega | decide)) only [go_sem, ↓reduceIte, Nat.reduceEqDiff, reduceCtorEq, Nat.reduceAdd, Nat.reduceSub, Nat.reduceMul, Nat.reduceLeDiff, Nat.reduceLT, Nat.reduceBEq, Nat.reduceBNe, Int.reduceLE, Int.reduceLT, Int.reduceBEq, Int.reduceBNe, Int.reduceEq, Int.reduceNe, Int.reduceAdd, Int.reduceSub, Int.reduceMul, Int.reduceNeg, Int.reduceToNat, hltj', e2, wrap_i64, List.length_map]
              exact fin'
            | cons q qs =>
              obtain ⟨p1, p2, p3⟩ := one_parts (rr_one hR)
              rw [rowG_cons] at *
              have hlq : qs.length + 1 ≤ j := hml
              have c0 : (0 : Int) < ((qs.length + 1 : Nat) : Int) := by omega
              have c1 : (((qs.length + 1 : Nat) : Int) - 1).toNat = qs.length := by omega
              have c2 : (0 : Int) ≤ ((qs.length + 1 : Nat) : Int) - 1 := by omega
              have c3 : ((qs.length + 1 : Nat) : Int) - 1 < ((qs.length + 1 : Nat) : Int) := by omega
              have g1 : (rowG qs ++ [A.agg [.int .i64 q.f, .int .i64 q.t]])[qs.length]? = some (.agg [.int .i64 q.f, .int .i64 q.t]) := by
                have := get_last (x := A.agg [.int .i64 q.f, .int .i64 q.t]) (l := rowG qs)
                rwa [rowG_len] at this
              have g2 : ∀ v, setNth (rowG qs ++ [A.agg [.int .i64 q.f, .int .i64 q.t]]) qs.length v = rowG qs ++ [v] := fun v => by
                have := setNth_last (x := A.agg [.int .i64 q.f, .int .i64 q.t]) (v := v) (l := rowG qs)
                rwa [rowG_len] at this
              have gl : (rowG qs ++ [A.agg [.int .i64 q.f, .int .i64 q.t]]).length = qs.length + 1 := by rw [List.length_append, rowG_len]; rfl
              have gt : (rowG qs ++ [A.agg [.int .i64 q.f, .int .i64 q.t]]).take (qs.length + 1) = rowG qs ++ [A.agg [.int .i64 q.f, .int .i64 q.t]] := List.take_of_length_le (Nat.le_of_eq gl)
              by_cases hq : f - q.t < 2
              · have hpj : pushJ (q :: qs) ⟨f, t⟩ = ⟨q.f, if t > q.t then t else q.t⟩ :: qs := by
                  simp only [pushJ]
                  rw [if_pos (by omega)]
                rw [hpj, rowG_cons] at fin'
                simp -implicitDefEqProofs (maxSteps := 600000) (disch := (first | omega | decide)) only [go_sem, ↓reduceIte, Nat.reduceEqDiff, reduceCtorEq, Nat.reduceAdd, Nat.reduceSub, Nat.reduceMul, Nat.reduceLeDiff, Nat.reduceLT, Nat.reduceBEq, Nat.reduceBNe, Int.reduceLE, Int.reduceLT, Int.reduceBEq, Int.reduceBNe, Int.reduceEq, Int.reduceNe, Int.reduceAdd, Int.reduceSub, Int.reduceMul, Int.reduceNeg, Int.reduceToNat, hltj', e2, c0, c1, c2, c3, g1, g2, hq, wrap_i64, List.length_map]
                exact fin'
              · have hpj : pushJ (q :: qs) ⟨f, t⟩ = ⟨f, t⟩ :: q :: qs := by
                  simp only [pushJ]
                  rw [if_neg (by omega)]
                rw [hpj, rowG_cons, rowG_cons] at fin'
                simp -implicitDefEqProofs (maxSteps := 600000) (disch := (first | omega | decide)) only [go_sem, ↓reduceIte, Nat.reduceEqDiff, reduceCtorEq, Nat.reduceAdd, Nat.reduceSub, Nat.reduceMul, Nat.reduceLeDiff, Nat.reduceLT, Nat.reduceBEq, Nat.reduceBNe, Int.reduceLE, Int.reduceLT, Int.reduceBEq, Int.reduceBNe, Int.reduceEq, Int.reduceNe, Int.reduceAdd, Int.reduceSub, Int.reduceMul, Int.reduceNeg, Int.reduceToNat, hltj', e2, c0, c1, c2, c3, g1, g2, gl, gt, hq, wrap_i64, List.length_map]
                exact ⟨⟨Nat.le_refl _, by omega⟩, fin'⟩
          · have hltj' : ¬ (j : Int) < (s.length : Int) := by omega
            rw [List.take_of_length_le (by omega)] at *
            have hfin : rowG (s.foldl pushJ []) = (setR (hasL13 l)).map Run.enc := by unfold rowG; rw [hall]
            have hll : (s.foldl pushJ []).length = (rowG (s.foldl pushJ [])).length := by rw [rowG_len]
            simp -implicitDefEqProofs (maxSteps := 600000) (disch := (first | omega | decide)) only [go_sem, ↓reduceIte, Nat.reduceEqDiff, reduceCtorEq, Nat.reduceAdd, Nat.reduceSub, Nat.reduceMul, Nat.reduceLeDiff, Nat.reduceLT, Nat.reduceBEq, Nat.reduceBNe, Int.reduceLE, Int.reduceLT, Int.reduceBEq, Int.reduceBNe, Int.reduceEq, Int.reduceNe, Int.reduceAdd, Int.reduceSub, Int.reduceMul, Int.reduceNeg, Int.reduceToNat, hltj', wrap_i64, hll, List.length_map, List.take_length]
            rw [hfin]
            exact ⟨Nat.le_refl _, rfl⟩
end Go.Proofs.Ytbnmicpgbcfooaa
