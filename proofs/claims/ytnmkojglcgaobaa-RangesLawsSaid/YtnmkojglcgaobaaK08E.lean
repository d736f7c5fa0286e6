/- Chapter 08: the right list of ranges. -/
import Derived.Test.YtnmkojglcgaobaaK08B
import Derived.Test.YtnmkojglcgaobaaK08D
import Derived.Test.YtnmkojglcgaobaaAbsW
import Derived.Test.YtnmkojglcgaobaaAbsZ
import Derived.Test.YtnmkojglcgaobaaSortRng
namespace Go.Proofs.Ytnmkojglcgaobaa
open Go.Abs
set_option linter.unusedSimpArgs false
set_option linter.unusedVariables false
set_option maxRecDepth 20000
set_option maxHeartbeats 8000000

theorem ok_ranges_Of_1 : codeOK Try.prog T07 Try.f74.ntmps (Try.f74.body.getD .skip) = true := by kernel_rfl
theorem c_rOf1 (a b : Rng) (ha : a.ok) (hb : b.ok) : CallA Try.prog 74 [.agg [.str a.lo, .str a.hi, .bool a.op], .agg [.str b.lo, .str b.hi, .bool b.op]] (· = .int .i64 (cmpB a.lo b.lo)) := by
  refine callA_of_body T07_ok mixed Try.func74 rfl (Nat.le_of_ble_eq_true rfl) ok_ranges_Of_1 ?_
  unfold Try.f74
  obtain ⟨a1, a2⟩ := ha
  obtain ⟨b1, b2⟩ := hb
  simp -implicitDefEqProofs (maxSteps := 600000) (disch := (first | omega | decide)) only [go_sem, ↓reduceIte, Nat.reduceEqDiff, reduceCtorEq, Nat.reduceAdd, Nat.reduceSub, Nat.reduceMul, Nat.reduceLeDiff, Nat.reduceLT, Nat.reduceBEq, Nat.reduceBNe, Int.reduceLE, Int.reduceLT, Int.reduceBEq, Int.reduceBNe, Int.reduceEq, Int.reduceNe, Int.reduceAdd, Int.reduceSub, Int.reduceMul, Int.reduceNeg, Int.reduceToNat, a1, b1]
abbrev RngB := {r : Rng // rightR r = true}
instance : Inhabited RngB := ⟨⟨⟨[], [], true⟩, by decide⟩⟩
def cfR (a b : RngB) : Int := cmpB a.1.lo b.1.lo
def RngB.cells (r : RngB) : List A := [.str r.1.lo, .str r.1.hi, .bool r.1.op]
theorem cmp_neg_iff {a b : List UInt8} : cmpB a b < 0 ↔ ltB a b = true := by
  have := @cmp_lt0 a b
  rw [← this, decide_eq_true_iff]
theorem swoR : Go.Sort.SWO (Go.Proofs.ltOf cfR) := by
  have hl : ∀ a b, Go.Proofs.ltOf cfR a b = ltB a.1.lo b.1.lo := fun a b => by
    unfold Go.Proofs.ltOf cfR
    exact cmp_lt0
  refine ⟨fun x => ?_, fun x y z h1 h2 => ?_, fun x y z h1 h2 => ?_⟩
  · rw [hl]; exact lt_irrefl _
  · rw [hl] at *; exact lt_trans' h1 h2
  · rw [hl] at *; exact not_lt_trans h2 h1
theorem rng_ok17 {r : Rng} (h : rightR r = true) : r.ok := by
  obtain ⟨k1, k2, _, _⟩ := right_parts h
  exact ⟨by omega, by omega⟩
theorem c_SortFunc_Rng (l : List RngB) (hl : l.length < 4611686018427387904) : CallH Try.prog 73 [.row 0 0 3 l.length false, .fn 74 []] [.row 3 (l.map fun x => .agg x.cells)]
    (.tup []) [.row 3 ((sortL cfR l).map fun x => .agg x.cells)] [] :=
  sort_struct Go.Proofs.Ytnmkojglcgaobaa.sortRng (by omega) Try.isAgg74 Try.sizeOf74 RngB.cells (fun _ => rfl) (fun x a ha => by
    simp only [RngB.cells, List.mem_cons, List.not_mem_nil, or_false] at ha
    rcases ha with rfl | rfl | rfl <;> rfl) cfR swoR (callable_of Try.func74 (by kernel_rfl) (by kernel_rfl)) (fun x y => c_rOf1 x.1 y.1 (rng_ok17 x.2) (rng_ok17 y.2)) l hl false
def pickR (l : List Rng) : List RngB := (l.filter rightR).attach.map fun x => ⟨x.1, (List.mem_filter.1 x.2).2⟩
theorem pickR_val (l : List Rng) : (pickR l).map (·.1) = l.filter rightR := by
  unfold pickR
  rw [List.map_map]
  exact List.attach_map_subtype_val _
theorem pickR_cells (l : List Rng) : (pickR l).map (fun x => A.agg x.cells) = (l.filter rightR).map Rng.enc := by
  rw [← pickR_val, List.map_map]; rfl
/-- Right ranges, by their beginnings. -/
noncomputable def srtR (l : List Rng) : List Rng := (sortL cfR (pickR l)).map (·.1)
theorem srtR_cells (l : List Rng) : (sortL cfR (pickR l)).map (fun x => A.agg x.cells) = (srtR l).map Rng.enc := by
  unfold srtR; rw [List.map_map]; rfl
theorem srtR_perm (l : List Rng) : (srtR l).Perm (l.filter rightR) := by
  rw [← pickR_val]; exact (sortL_spec swoR (pickR l)).1.map _
theorem srtR_one (l : List Rng) : ∀ r ∈ srtR l, rightR r = true := fun r hr => by
  unfold srtR at hr
  obtain ⟨x, _, rfl⟩ := List.mem_map.1 hr
  exact x.2
theorem srtR_up (l : List Rng) : (srtR l).Pairwise (fun x y => ltB y.lo x.lo = false) := by
  unfold srtR
  rw [List.pairwise_map]
  exact (sortL_spec swoR (pickR l)).2.imp fun {x y} h => by
    unfold cfR at h
    rw [cmp_neg_iff] at h
    simpa using h
theorem srtR_has (l : List Rng) (s : List UInt8) : hasRs (srtR l) s = hasRs l s := by
  rw [hasRs_perm (srtR_perm l), hasRs_filter]
theorem srtR_all (l : List Rng) : ((srtR l).foldl pushS []).reverse = setS (hasRs l) := by
  rw [foldS_all (srtR_one l) (srtR_up l)]
  congr 1; funext s; exact srtR_has l s
def rgE (l : List RngB) : List A := [.row 0 0 3 l.length false, .fn 74 []]
def rgO (l : List RngB) : List Go.Abs.Obj := [.row 3 (l.map fun x => .agg x.cells)]
def rgK (l : List RngB) : Prop := l.length < 4611686018427387904
noncomputable def rgR (l : List RngB) : A × List Go.Abs.Obj × List Nat := (.tup [], [.row 3 ((sortL cfR l).map fun x => .agg x.cells)], [])
theorem rngB_inj (x y : RngB) (h : A.agg x.cells = A.agg y.cells) : x = y := Subtype.ext (Rng.enc_inj _ _ h)
theorem rgO_inj (i j : List RngB) (h : rgO i = rgO j) : i = j := by
  simp only [rgO, List.cons.injEq, Go.Abs.Obj.row.injEq, true_and, and_true] at h
  rwa [map_inj rngB_inj] at h
noncomputable def R8a : Tab := T07.addH 73 (entryH rgE rgO rgK rgR)
noncomputable def R8 : Tab := { R8a with eff := fun f => f == 73, ords := fun n => if n = 17 then [[0, 1, 2, 3, 4, 5, 6, 7, 8, 10, 11, 9, 12, 13, 14, 15], [0, 1, 2, 3, 4, 5, 6, 7, 8, 10, 11, 12, 9, 13, 14, 15]] else [] }
theorem R8a_ok : TabOK Try.prog R8a := T07_ok.addH (callable_of Try.func73 (by kernel_rfl) (by kernel_rfl)) (entryH_ok fun l h => c_SortFunc_Rng l h)
theorem R8_ok : TabOK Try.prog R8 := ⟨R8a_ok.f, R8a_ok.hp⟩
@[go_sem] theorem R8_f : R8.f = T07.f := rfl
@[go_sem] theorem R8_eff {g : FuncId} : R8.eff g = (g == 73) := rfl
@[go_sem] theorem R8_effT : R8.effT = false := rfl
@[go_sem] theorem R8_frz {g : FuncId} : R8.frz g = T07.frz g := rfl
@[go_sem] theorem R8_fix {n : Nat} : R8.fix n = false := rfl
@[go_sem] theorem R8_nf : R8.nf = 0 := rfl
@[go_sem] theorem R8_ords17 : R8.ords 17 = [[0, 1, 2, 3, 4, 5, 6, 7, 8, 10, 11, 9, 12, 13, 14, 15], [0, 1, 2, 3, 4, 5, 6, 7, 8, 10, 11, 12, 9, 13, 14, 15]] := rfl
@[go_sem] theorem R8_ords {n : Nat} (h : n ≠ 17) : R8.ords n = [] := if_neg h
theorem R8_sort {l : List Rng} {n : Nat} (hn : n = (l.filter rightR).length) (h : l.length < 4611686018427387904) : R8.hp 73 [.row 0 0 3 n false, .fn 74 []] [.row 3 ((l.filter rightR).map Rng.enc)] = some (.tup [], [.row 3 ((srtR l).map Rng.enc)], []) := by
  subst hn
  have hlen : (pickR l).length = (l.filter rightR).length := by rw [← pickR_val]; simp
  have h0 : R8a.hp 73 (rgE (pickR l)) (rgO (pickR l)) = entryH rgE rgO rgK rgR (rgE (pickR l)) (rgO (pickR l)) := Tab.addH_eq
  have h1 : R8.hp 73 (rgE (pickR l)) (rgO (pickR l)) = entryH rgE rgO rgK rgR (rgE (pickR l)) (rgO (pickR l)) := h0
  have h2 := h1.trans (entryH_eq (fun i j _ h => rgO_inj i j h) (pickR l) (show (pickR l).length < 4611686018427387904 by rw [hlen]; exact Nat.lt_of_le_of_lt (List.length_filter_le _ _) h))
  simp only [rgE, rgO, rgR, hlen, pickR_cells, srtR_cells] at h2
  exact h2
theorem foldS_step (l : List Rng) (k : Nat) (h : k < l.length) : (l.take (k + 1)).foldl pushS [] = pushS ((l.take k).foldl pushS []) l[k] := by
  rw [← List.take_append_getElem h, List.foldl_append]; rfl
theorem foldS_len : ∀ (l : List Rng) (a : List Rng), (l.foldl pushS a).length ≤ a.length + l.length
  | [], a => by simp
  | r :: l, a => by
    have h1 := foldS_len l (pushS a r)
    have h2 := pushS_len a r
    simp only [List.foldl_cons, List.length_cons]; omega
theorem ok_ranges_Of : codeOK Try.prog R8 Try.f36.ntmps (Try.f36.body.getD .skip) = true := by kernel_rfl
theorem c_ranges_Of (l : List Rng) (hl : l.length ≤ 1000000) (hok : okL l) : CallA Try.prog 36 [.slc (l.map Rng.enc)] (· = .slc ((setS (hasRs l)).map Rng.enc)) := by
  refine callA_of_body R8_ok mixed Try.func36 rfl (Nat.le_of_ble_eq_true rfl) ok_ranges_Of ?_
  unfold Try.f36
  simp -implicitDefEqProofs (maxSteps := 600000) (disch := (first | omega | decide)) only [go_sem, ↓reduceIte, Nat.reduceEqDiff, reduceCtorEq, Nat.reduceAdd, Nat.reduceSub, Nat.reduceMul, Nat.reduceLeDiff, Nat.reduceLT, Nat.reduceBEq, Nat.reduceBNe, Int.reduceLE, Int.reduceLT, Int.reduceBEq, Int.reduceBNe, Int.reduceEq, Int.reduceNe, Int.reduceAdd, Int.reduceSub, Int.reduceMul, Int.reduceNeg, Int.reduceToNat, List.length_map]
  refine wpA_loop_nil 3 3 rfl ?_
  refine wpA_loop [2, 10, 11] (ι := {k : Nat // k ≤ l.length}) (fun p => [(12, .int .i64 p.1), (3, .row 0 0 3 ((l.take p.1).filter rightR).length false)]) (fun p => [(0, .row 3 (((l.take p.1).filter rightR).map Rng.enc))]) (fun p => l.length - p.1) ⟨0, by omega⟩ (Nat.zero_le _) ?_ ?_
  · simp -implicitDefEqProofs (maxSteps := 600000) (disch := (first | omega | decide)) only [go_sem, ↓reduceIte, Nat.reduceEqDiff, reduceCtorEq, Nat.reduceAdd, Nat.reduceSub, Nat.reduceMul, Nat.reduceLeDiff, Nat.reduceLT, Nat.reduceBEq, Nat.reduceBNe, Int.reduceLE, Int.reduceLT, Int.reduceBEq, Int.reduceBNe, Int.reduceEq, Int.reduceNe, Int.reduceAdd, Int.reduceSub, Int.reduceMul, Int.reduceNeg, Int.reduceToNat]
    simp
  · rintro ⟨k, hk⟩
    simp only
    have hf : ((l.take k).filter rightR).length ≤ k := Nat.le_trans (List.length_filter_le _ _) (by rw [List.length_take]; omega)
    by_cases hlt : k < l.length
    · have hlt' : (k : Int) < (l.length : Int) := by omega
      have ht : l.take (k + 1) = l.take k ++ [l[k]] := (List.take_append_getElem hlt).symm
      have e1 := rng_get hlt
      have ok1 := okL_get hok hlt
      generalize hx : l[k] = x at *
      obtain ⟨lo, hi, op⟩ := x
      simp only at ok1
      cases h1 : rightR ⟨lo, hi, op⟩ with
      | true =>
        simp -implicitDefEqProofs (maxSteps := 600000) (disch := (first | omega | decide)) only [go_sem, ↓reduceIte, Nat.reduceEqDiff, reduceCtorEq, Nat.reduceAdd, Nat.reduceSub, Nat.reduceMul, Nat.reduceLeDiff, Nat.reduceLT, Nat.reduceBEq, Nat.reduceBNe, Int.reduceLE, Int.reduceLT, Int.reduceBEq, Int.reduceBNe, Int.reduceEq, Int.reduceNe, Int.reduceAdd, Int.reduceSub, Int.reduceMul, Int.reduceNeg, Int.reduceToNat, hlt', e1, ok1, h1, wrap_i64, List.length_map]
        refine ⟨⟨Nat.le_refl _, by omega⟩, ⟨k + 1, hlt⟩, ⟨⟨by simp, ?_⟩, ?_⟩, by show l.length - (k + 1) < l.length - k; omega⟩
        · rw [ht, List.filter_append]; simp [h1]
        · rw [ht, List.filter_append, List.take_of_length_le (by simp)]; simp [h1, Rng.enc]
      | false =>
        simp -implicitDefEqProofs (maxSteps := 600000) (disch := (first | omega | decide)) only [go_sem, ↓reduceIte, Nat.reduceEqDiff, reduceCtorEq, Nat.reduceAdd, Nat.reduceSub, Nat.reduceMul, Nat.reduceLeDiff, Nat.reduceLT, Nat.reduceBEq, Nat.reduceBNe, Int.reduceLE, Int.reduceLT, Int.reduceBEq, Int.reduceBNe, Int.reduceEq, Int.reduceNe, Int.reduceAdd, Int.reduceSub, Int.reduceMul, Int.reduceNeg, Int.reduceToNat, hlt', e1, ok1, h1, wrap_i64, List.length_map]
        refine ⟨⟨k + 1, hlt⟩, ⟨⟨by simp, ?_⟩, ?_⟩, by show l.length - (k + 1) < l.length - k; omega⟩
        · rw [ht, List.filter_append]; simp [h1]
        · rw [ht, List.filter_append]; simp [h1]
    · have hlt' : ¬ (k : Int) < (l.length : Int) := by omega
      rw [List.take_of_length_le (by omega)] at *
      have hs := R8_sort (l := l) rfl (by omega)
      have hp := (srtR_perm l).length_eq
      have hall := srtR_all l
      have hone := srtR_one l
      have hup := srtR_up l
      rw [← hp] at hf
      simp -implicitDefEqProofs (maxSteps := 600000) (disch := (first | omega | decide)) only [go_sem, ↓reduceIte, Nat.reduceEqDiff, reduceCtorEq, Nat.reduceAdd, Nat.reduceSub, Nat.reduceMul, Nat.reduceLeDiff, Nat.reduceLT, Nat.reduceBEq, Nat.reduceBNe, Int.reduceLE, Int.reduceLT, Int.reduceBEq, Int.reduceBNe, Int.reduceEq, Int.reduceNe, Int.reduceAdd, Int.reduceSub, Int.reduceMul, Int.reduceNeg, Int.reduceToNat, hlt', hs, List.length_map, List.contains_nil, List.contains_cons]
      rw [← hp]
      generalize srtR l = s at *
      refine wpA_loop_nil 6 3 rfl ?_
      refine wpA_loop [2, 25, 26] (ι := {j : Nat // j ≤ s.length}) (fun p => [(27, .int .i64 p.1), (6, .row 1 0 3 ((s.take p.1).foldl pushS []).length false)]) (fun p => [(1, .row 3 (rowS ((s.take p.1).foldl pushS [])))]) (fun p => s.length - p.1) ⟨0, by omega⟩ (Nat.zero_le _) ?_ ?_
      · simp -implicitDefEqProofs (maxSteps := 600000) (disch := (first | omega | decide)) only [go_sem, ↓reduceIte, Nat.reduceEqDiff, reduceCtorEq, Nat.reduceAdd, Nat.reduceSub, Nat.reduceMul, Nat.reduceLeDiff, Nat.reduceLT, Nat.reduceBEq, Nat.reduceBNe, Int.reduceLE, Int.reduceLT, Int.reduceBEq, Int.reduceBNe, Int.reduceEq, Int.reduceNe, Int.reduceAdd, Int.reduceSub, Int.reduceMul, Int.reduceNeg, Int.reduceToNat]
        simp [rowS]
      · rintro ⟨j, hj⟩
        simp only
        have hml := foldS_len (s.take j) []
        rw [List.length_take, List.length_nil, Nat.min_eq_left hj, Nat.zero_add] at hml
        by_cases hltj : j < s.length
        · have hltj' : (j : Int) < (s.length : Int) := by omega
          have e2 := rng_get hltj
          have hst := foldS_step s j hltj
          have ho := hone _ (List.getElem_mem hltj)
          have hR : RS ((s.take j).foldl pushS []) := (foldS_push (a := []) trivial (fun r hr => hone r (List.mem_of_mem_take hr)) (hup.sublist (List.take_sublist _ _)) (fun _ _ => trivial)).1
          have fin : ∀ m', (s.take (j + 1)).foldl pushS [] = m' → ∃ i : {j : Nat // j ≤ s.length}, (((j : Int) + 1 = (i.1 : Int) ∧ m'.length = ((s.take i.1).foldl pushS []).length) ∧ rowS m' = rowS ((s.take i.1).foldl pushS [])) ∧ s.length - i.1 < s.length - j := fun m' hm' => ⟨⟨j + 1, hltj⟩, ⟨⟨by simp, by rw [hm']⟩, by rw [hm']⟩, by show s.length - (j + 1) < s.length - j; omega⟩
          generalize hx : s[j] = x at *
          generalize (s.take j).foldl pushS [] = m at *
          have okx := rng_ok17 ho
          obtain ⟨lo, hi, op⟩ := x
          have okx' : lo.length ≤ 9223372036854775807 ∧ hi.length ≤ 9223372036854775807 := okx
          have fin' := fin _ hst
          cases m with
          | nil =>
            rw [rowS_nil]
            simp -implicitDefEqProofs (maxSteps := 600000) (disch := (first | omega | decide)) only [go_sem, ↓reduceIte, Nat.reduceEqDiff, reduceCtorEq, Nat.reduceAdd, Nat.reduceSub, Nat.reduceMul, Nat.reduceLeDiff, Nat.reduceLT, Nat.reduceBEq, Nat.reduceBNe, Int.reduceLE, Int.reduceLT, Int.reduceBEq, Int.reduceBNe, Int.reduceEq, Int.reduceNe, Int.reduceAdd, Int.reduceSub, Int.reduceMul, Int.reduceNeg, Int.reduceToNat, hltj', e2, wrap_i64, List.length_map]
            exact fin'
          | cons q qs =>
            have hq := rs_one hR
            have okq := rng_ok17 hq
            obtain ⟨qlo, qhi, qop⟩ := q
            have okq' : qlo.length ≤ 9223372036854775807 ∧ qhi.length ≤ 9223372036854775807 := okq
            rw [rowS_cons] at *
            have hlq : qs.length + 1 ≤ j := hml
            have cz : (((qs.length + 1 : Nat) : Int) == 0) = false := by
              have : ((qs.length + 1 : Nat) : Int) ≠ 0 := by omega
              simpa using this
            have c1 : (((qs.length + 1 : Nat) : Int) - 1).toNat = qs.length := by omega
            have c2 : (0 : Int) ≤ ((qs.length + 1 : Nat) : Int) - 1 := by omega
            have c3 : ((qs.length + 1 : Nat) : Int) - 1 < ((qs.length + 1 : Nat) : Int) := by omega
            have merge : (qop || !ltB qhi lo) = true → pushS (⟨qlo, qhi, qop⟩ :: qs) ⟨lo, hi, op⟩ = mergeR ⟨qlo, qhi, qop⟩ ⟨lo, hi, op⟩ :: qs := fun h => by
              simp only [pushS]; rw [if_pos h]
            cases hqo : qop with
            | true =>
              subst hqo
              have hpj := merge (by simp)
              by_cases he : endsR ⟨qlo, qhi, true⟩ ⟨lo, hi, op⟩ < 0
              · have hm : mergeR ⟨qlo, qhi, true⟩ ⟨lo, hi, op⟩ = ⟨qlo, hi, op⟩ := by unfold mergeR; rw [if_pos he]
                rw [hpj, hm, rowS_cons] at fin'
                simp -implicitDefEqProofs (maxSteps := 600000) (disch := (first | omega | decide)) only [go_sem, ↓reduceIte, Nat.reduceEqDiff, reduceCtorEq, Nat.reduceAdd, Nat.reduceSub, Nat.reduceMul, Nat.reduceLeDiff, Nat.reduceLT, Nat.reduceBEq, Nat.reduceBNe, Int.reduceLE, Int.reduceLT, Int.reduceBEq, Int.reduceBNe, Int.reduceEq, Int.reduceNe, Int.reduceAdd, Int.reduceSub, Int.reduceMul, Int.reduceNeg, Int.reduceToNat, hltj', e2, okx', okq', cz, c1, c2, c3, he, rowS_get', rowS_set, wrap_i64, List.length_map]
                exact fin'
              · have hm : mergeR ⟨qlo, qhi, true⟩ ⟨lo, hi, op⟩ = ⟨qlo, qhi, true⟩ := by unfold mergeR; rw [if_neg he]
                rw [hpj, hm, rowS_cons] at fin'
                simp -implicitDefEqProofs (maxSteps := 600000) (disch := (first | omega | decide)) only [go_sem, ↓reduceIte, Nat.reduceEqDiff, reduceCtorEq, Nat.reduceAdd, Nat.reduceSub, Nat.reduceMul, Nat.reduceLeDiff, Nat.reduceLT, Nat.reduceBEq, Nat.reduceBNe, Int.reduceLE, Int.reduceLT, Int.reduceBEq, Int.reduceBNe, Int.reduceEq, Int.reduceNe, Int.reduceAdd, Int.reduceSub, Int.reduceMul, Int.reduceNeg, Int.reduceToNat, hltj', e2, okx', okq', cz, c1, c2, c3, he, rowS_get', rowS_set, wrap_i64, List.length_map]
                exact fin'
            | false =>
              subst hqo
              cases hto : ltB qhi lo with
              | false =>
                have hpj := merge (by rw [hto]; rfl)
                by_cases he : endsR ⟨qlo, qhi, false⟩ ⟨lo, hi, op⟩ < 0
                · have hm : mergeR ⟨qlo, qhi, false⟩ ⟨lo, hi, op⟩ = ⟨qlo, hi, op⟩ := by unfold mergeR; rw [if_pos he]
                  rw [hpj, hm, rowS_cons] at fin'
                  simp -implicitDefEqProofs (maxSteps := 600000) (disch := (first | omega | decide)) only [go_sem, ↓reduceIte, Nat.reduceEqDiff, reduceCtorEq, Nat.reduceAdd, Nat.reduceSub, Nat.reduceMul, Nat.reduceLeDiff, Nat.reduceLT, Nat.reduceBEq, Nat.reduceBNe, Int.reduceLE, Int.reduceLT, Int.reduceBEq, Int.reduceBNe, Int.reduceEq, Int.reduceNe, Int.reduceAdd, Int.reduceSub, Int.reduceMul, Int.reduceNeg, Int.reduceToNat, hltj', e2, okx', okq', cz, c1, c2, c3, he, hto, rowS_get', rowS_set, wrap_i64, List.length_map]
                  exact fin'
                · have hm : mergeR ⟨qlo, qhi, false⟩ ⟨lo, hi, op⟩ = ⟨qlo, qhi, false⟩ := by unfold mergeR; rw [if_neg he]
                  rw [hpj, hm, rowS_cons] at fin'
                  simp -implicitDefEqProofs (maxSteps := 600000) (disch := (first | omega | decide)) only [go_sem, ↓reduceIte, Nat.reduceEqDiff, reduceCtorEq, Nat.reduceAdd, Nat.reduceSub, Nat.reduceMul, Nat.reduceLeDiff, Nat.reduceLT, Nat.reduceBEq, Nat.reduceBNe, Int.reduceLE, Int.reduceLT, Int.reduceBEq, Int.reduceBNe, Int.reduceEq, Int.reduceNe, Int.reduceAdd, Int.reduceSub, Int.reduceMul, Int.reduceNeg, Int.reduceToNat, hltj', e2, okx', okq', cz, c1, c2, c3, he, hto, rowS_get', rowS_set, wrap_i64, List.length_map]
                  exact fin'
              | true =>
                have hpj : pushS (⟨qlo, qhi, false⟩ :: qs) ⟨lo, hi, op⟩ = ⟨lo, hi, op⟩ :: ⟨qlo, qhi, false⟩ :: qs := by
                  simp only [pushS]; rw [if_neg (by rw [hto]; simp)]
                rw [hpj, rowS_cons, rowS_cons] at fin'
                simp -implicitDefEqProofs (maxSteps := 600000) (disch := (first | omega | decide)) only [go_sem, ↓reduceIte, Nat.reduceEqDiff, reduceCtorEq, Nat.reduceAdd, Nat.reduceSub, Nat.reduceMul, Nat.reduceLeDiff, Nat.reduceLT, Nat.reduceBEq, Nat.reduceBNe, Int.reduceLE, Int.reduceLT, Int.reduceBEq, Int.reduceBNe, Int.reduceEq, Int.reduceNe, Int.reduceAdd, Int.reduceSub, Int.reduceMul, Int.reduceNeg, Int.reduceToNat, hltj', e2, okx', okq', cz, c1, c2, c3, hto, rowS_get', rowS_set, rowS_full, rowS_take, wrap_i64, List.length_map]
                exact ⟨⟨Nat.le_refl _, by omega⟩, fin'⟩
        · have hltj' : ¬ (j : Int) < (s.length : Int) := by omega
          rw [List.take_of_length_le (by omega)] at *
          have hfin : rowS (s.foldl pushS []) = (setS (hasRs l)).map Rng.enc := by unfold rowS; rw [hall]
          have hll : (s.foldl pushS []).length = (rowS (s.foldl pushS [])).length := by rw [rowS_len]
          simp -implicitDefEqProofs (maxSteps := 600000) (disch := (first | omega | decide)) only [go_sem, ↓reduceIte, Nat.reduceEqDiff, reduceCtorEq, Nat.reduceAdd, Nat.reduceSub, Nat.reduceMul, Nat.reduceLeDiff, Nat.reduceLT, Nat.reduceBEq, Nat.reduceBNe, Int.reduceLE, Int.reduceLT, Int.reduceBEq, Int.reduceBNe, Int.reduceEq, Int.reduceNe, Int.reduceAdd, Int.reduceSub, Int.reduceMul, Int.reduceNeg, Int.reduceToNat, hltj', wrap_i64, hll, List.length_map, List.take_length]
          rw [hfin]
          exact ⟨Nat.le_refl _, rfl⟩
end Go.Proofs.Ytnmkojglcgaobaa
