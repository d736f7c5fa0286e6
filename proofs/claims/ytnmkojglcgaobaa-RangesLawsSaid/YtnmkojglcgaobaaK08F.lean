/- Chapter 08: texts sorted, each once. -/
import Derived.Test.YtnmkojglcgaobaaK08A
import Derived.Test.YtnmkojglcgaobaaAbsW
import Derived.Test.YtnmkojglcgaobaaAbsZ
import Derived.Test.YtnmkojglcgaobaaCompL
import Derived.Test.YtnmkojglcgaobaaSortStr
namespace Go.Proofs.Ytnmkojglcgaobaa
open Go.Abs
set_option linter.unusedSimpArgs false
set_option linter.unusedVariables false
set_option maxRecDepth 20000
set_option maxHeartbeats 8000000

abbrev StrB := {s : List UInt8 // s.length ≤ 17}
instance : Inhabited StrB := ⟨⟨[], by decide⟩⟩
def cfS (a b : StrB) : Int := cmpB a.1 b.1
def StrB.enc (s : StrB) : A := .str s.1
theorem swoS : Go.Sort.SWO (Go.Proofs.ltOf cfS) := by
  have hl : ∀ a b, Go.Proofs.ltOf cfS a b = ltB a.1 b.1 := fun a b => by
    unfold Go.Proofs.ltOf cfS
    exact cmp_lt0
  refine ⟨fun x => ?_, fun x y z h1 h2 => ?_, fun x y z h1 h2 => ?_⟩
  · rw [hl]; exact lt_irrefl _
  · rw [hl] at *; exact lt_trans' h1 h2
  · rw [hl] at *; exact not_lt_trans h2 h1
theorem c_SortFunc_Str (l : List StrB) (hl : l.length < 4611686018427387904) : CallH Try.prog 107 [.row 0 0 1 l.length false, .fn 75 []] [.row 1 (l.map StrB.enc)]
    (.tup []) [.row 1 ((sortL cfS l).map StrB.enc)] [] :=
  sort_scalar Go.Proofs.Ytnmkojglcgaobaa.sortStr Go.Proofs.Ytnmkojglcgaobaa.sortStr0 StrB.enc (fun _ => rfl) cfS swoS (callable_of Try.func75 (by kernel_rfl) (by kernel_rfl)) (fun x y => c_key_Cmp x.1 y.1 (by have := x.2; omega) (by have := y.2; omega)) l hl false
/-- Texts of 17 signs at most, as such. -/
def asB : (l : List (List UInt8)) → (∀ s ∈ l, s.length ≤ 17) → List StrB
  | [], _ => []
  | s :: l, h => ⟨s, h s (by simp)⟩ :: asB l (fun x hx => h x (by simp [hx]))
theorem asB_val : ∀ (l : List (List UInt8)) (h : ∀ s ∈ l, s.length ≤ 17), (asB l h).map (·.1) = l
  | [], _ => rfl
  | s :: l, h => by simp [asB, asB_val l]
theorem asB_enc (l : List (List UInt8)) (h : ∀ s ∈ l, s.length ≤ 17) : (asB l h).map StrB.enc = l.map A.str := by
  have := asB_val l h
  conv => rhs; rw [← this]
  rw [List.map_map]; rfl
theorem asB_len (l : List (List UInt8)) (h : ∀ s ∈ l, s.length ≤ 17) : (asB l h).length = l.length := by
  have := congrArg List.length (asB_val l h)
  simpa using this
open Classical in
/-- Texts, sorted. -/
noncomputable def sortT (l : List (List UInt8)) : List (List UInt8) := if h : ∀ s ∈ l, s.length ≤ 17 then (sortL cfS (asB l h)).map (·.1) else l
theorem sortT_spec {l : List (List UInt8)} (h : ∀ s ∈ l, s.length ≤ 17) : (sortT l).Perm l ∧ (sortT l).Pairwise (fun x y => ltB y x = false) := by
  unfold sortT
  rw [dif_pos h]
  obtain ⟨h1, h2⟩ := sortL_spec swoS (asB l h)
  refine ⟨?_, ?_⟩
  · have := h1.map (·.1)
    rwa [asB_val] at this
  · rw [List.pairwise_map]
    exact h2.imp fun {x y} hh => by
      unfold cfS at hh
      have := @cmp_lt0 y.1 x.1
      rw [← this]; exact decide_eq_false hh
theorem sortT_enc {l : List (List UInt8)} (h : ∀ s ∈ l, s.length ≤ 17) : (sortL cfS (asB l h)).map StrB.enc = (sortT l).map A.str := by
  unfold sortT
  rw [dif_pos h, List.map_map]; rfl
theorem comp_up : ∀ {l : List (List UInt8)}, l.Pairwise (fun x y => ltB y x = false) → (compL l).Pairwise (fun x y => ltB x y = true)
  | [], _ => by simp [compL]
  | [x], _ => by simp [compL]
  | x :: y :: l, h => by
    rw [List.pairwise_cons] at h
    have ih := comp_up h.2
    simp only [compL]
    split
    · exact ih
    · rename_i hne
      have hxy : ltB x y = true := by
        rcases lt_tri x y with h1 | h1 | h1
        · exact h1
        · exact absurd h1 hne
        · have := h.1 y (by simp); rw [h1] at this; cases this
      rw [List.pairwise_cons]
      refine ⟨fun z hz => ?_, ih⟩
      rw [compL_mem] at hz
      rcases List.mem_cons.1 hz with rfl | hz
      · exact hxy
      · exact lt_of_lt_not hxy ((List.pairwise_cons.1 h.2).1 z hz)
/-- Compact's own walk. -/
noncomputable def TCs : Tab := { T07 with fix := fun n => n == 0, nf := 1 }
theorem TCs_ok : TabOK Try.prog TCs := ⟨T07_ok.f, T07_ok.hp⟩
@[go_sem] theorem TCs_f : TCs.f = T07.f := rfl
@[go_sem] theorem TCs_eff {g : FuncId} : TCs.eff g = T07.eff g := rfl
@[go_sem] theorem TCs_effT : TCs.effT = false := rfl
@[go_sem] theorem TCs_fix {n : Nat} : TCs.fix n = (n == 0) := rfl
@[go_sem] theorem TCs_nf : TCs.nf = 1 := rfl
@[go_sem] theorem TCs_ords {n : Nat} : TCs.ords n = [] := rfl
theorem ok_slices_Compact_string_string : codeOK Try.prog TCs Try.f108.ntmps (Try.f108.body.getD .skip) = true := by kernel_rfl
theorem c_Compact_Str (l : List (List UInt8)) (hl : l.length ≤ 4611686018427387903) : CallH Try.prog 108 [.row 0 0 1 l.length false] [.row 1 (l.map A.str)]
    (.row 0 0 1 (compL l).length false) [.row 1 ((compL l ++ List.replicate (l.length - (compL l).length) ([] : List UInt8)).map A.str)] [] := by
  refine callH_of_body TCs_ok mixed Try.func108 rfl (Nat.le_of_ble_eq_true rfl) (fun n h _ => by simp at h; subst h; rfl) (by show _ ≤ 1; simp) (by show 1 ≤ _; simp) ok_slices_Compact_string_string ?_
  unfold Try.f108
  by_cases h2 : (l.length : Int) < 2
  · have hc : compL l = l := by
      match l, h2 with
      | [], _ => rfl
      | [x], _ => rfl
      | _ :: _ :: _, h => simp at h; omega
    rw [hc]
    simp -implicitDefEqProofs (maxSteps := 600000) (disch := (first | omega | decide)) only [go_sem, ↓reduceIte, Nat.reduceEqDiff, reduceCtorEq, Nat.reduceAdd, Nat.reduceSub, Nat.reduceMul, Nat.reduceLeDiff, Nat.reduceLT, Nat.reduceBEq, Nat.reduceBNe, Int.reduceLE, Int.reduceLT, Int.reduceBEq, Int.reduceBNe, Int.reduceEq, Int.reduceNe, Int.reduceAdd, Int.reduceSub, Int.reduceMul, Int.reduceNeg, Int.reduceToNat, h2, List.length_map]
    simp
  · simp -implicitDefEqProofs (maxSteps := 600000) (disch := (first | omega | decide)) only [go_sem, ↓reduceIte, Nat.reduceEqDiff, reduceCtorEq, Nat.reduceAdd, Nat.reduceSub, Nat.reduceMul, Nat.reduceLeDiff, Nat.reduceLT, Nat.reduceBEq, Nat.reduceBNe, Int.reduceLE, Int.reduceLT, Int.reduceBEq, Int.reduceBNe, Int.reduceEq, Int.reduceNe, Int.reduceAdd, Int.reduceSub, Int.reduceMul, Int.reduceNeg, Int.reduceToNat, h2, List.length_map]
    refine wpA_loop [0] (ι := {k : Nat // 1 ≤ k ∧ k ≤ l.length ∧ compL (l.take k) = l.take k}) (fun p => [(3, .int .i64 p.1)]) (fun _ => []) (fun p => l.length - p.1) ⟨1, by omega, by omega, by match l with | [] => rfl | [x] => rfl | x :: y :: l => rfl⟩ (by show 1 ≤ _; simp) ?_ ?_
    · simp -implicitDefEqProofs (maxSteps := 600000) (disch := (first | omega | decide)) only [go_sem, ↓reduceIte, Nat.reduceEqDiff, reduceCtorEq, Nat.reduceAdd, Nat.reduceSub, Nat.reduceMul, Nat.reduceLeDiff, Nat.reduceLT, Nat.reduceBEq, Nat.reduceBNe, Int.reduceLE, Int.reduceLT, Int.reduceBEq, Int.reduceBNe, Int.reduceEq, Int.reduceNe, Int.reduceAdd, Int.reduceSub, Int.reduceMul, Int.reduceNeg, Int.reduceToNat]
    · rintro ⟨k, hk1, hk, hd⟩
      simp only
      by_cases hlt : k < l.length
      · have hlt' : (k : Int) < (l.length : Int) := by omega
        have hstep := compL_step hk1 hlt
        have e1 : (l.map A.str)[k]? = some (.str l[k]) := by
          rw [List.getElem?_map, List.getElem?_eq_getElem hlt]; rfl
        have e0 : (l.map A.str)[k - 1]? = some (.str l[k - 1]) := by
          rw [List.getElem?_map, List.getElem?_eq_getElem (by omega)]; rfl
        have t0 : ((k : Int) - 1).toNat = k - 1 := by omega
        have b0 : (0 : Int) ≤ (k : Int) - 1 := by omega
        have b1 : (k : Int) - 1 < (l.length : Int) := by omega
        generalize hx : l[k] = x at e1 hstep
        generalize hy : l[k - 1] = y at e0 hstep
        have next : y ≠ x → compL (l.take (k + 1)) = l.take (k + 1) := fun hne => by
          rw [hstep, if_neg hne, hd, ← hx]; exact List.take_append_getElem hlt
        cases h3 : x == y with
        | true =>
          obtain rfl : x = y := by simpa using h3
          have b2 : (k : Int) ≤ (l.length : Int) := by omega
          rw [if_pos rfl] at hstep
          have hlen : (compL (l.take (k + 1))).length = k := by rw [hstep, hd, List.length_take]; omega
          have tk : ((l.length : Int) - (k : Int)).toNat = l.length - k := by omega
          simp -implicitDefEqProofs (maxSteps := 600000) (disch := (first | omega | decide)) only [go_sem, ↓reduceIte, Nat.reduceEqDiff, reduceCtorEq, Nat.reduceAdd, Nat.reduceSub, Nat.reduceMul, Nat.reduceLeDiff, Nat.reduceLT, Nat.reduceBEq, Nat.reduceBNe, Int.reduceLE, Int.reduceLT, Int.reduceBEq, Int.reduceBNe, Int.reduceEq, Int.reduceNe, Int.reduceAdd, Int.reduceSub, Int.reduceMul, Int.reduceNeg, Int.reduceToNat, hlt', e1, e0, t0, b0, b1, b2, tk, h3, wrap_i64, List.length_map, Int.le_refl]
          clear next e1 e0 hx hy h3 t0 b0
          refine wpA_loop [0, 4] (ι := {p : Nat × Nat × List (List UInt8) // 1 ≤ p.1 ∧ k + p.1 ≤ l.length ∧ p.2.1 = (compL (l.take (k + p.1))).length ∧ p.2.2.length = l.length ∧ p.2.2.take p.2.1 = compL (l.take (k + p.1)) ∧ p.2.2.drop (k + p.1 - 1) = l.drop (k + p.1 - 1) ∧ p.2.1 ≤ k + p.1 - 1}) (fun p => [(3, .int .i64 p.1.2.1), (5, .int .i64 p.1.1)]) (fun p => [(0, .row 1 (p.1.2.2.map A.str))]) (fun p => l.length - p.1.1) ⟨(1, k, l), by omega, hlt, hlen.symm, rfl, by rw [hstep, hd], rfl, by show k ≤ k + 1 - 1; omega⟩ (by show 1 ≤ _; simp) ?_ ?_
          · simp -implicitDefEqProofs (maxSteps := 600000) (disch := (first | omega | decide)) only [go_sem, ↓reduceIte, Nat.reduceEqDiff, reduceCtorEq, Nat.reduceAdd, Nat.reduceSub, Nat.reduceMul, Nat.reduceLeDiff, Nat.reduceLT, Nat.reduceBEq, Nat.reduceBNe, Int.reduceLE, Int.reduceLT, Int.reduceBEq, Int.reduceBNe, Int.reduceEq, Int.reduceNe, Int.reduceAdd, Int.reduceSub, Int.reduceMul, Int.reduceNeg, Int.reduceToNat]
          · rintro ⟨⟨j, m, e⟩, hj1, hj, hm, he, htk, hdr, hmj⟩
            simp only at hj1 hj hm he htk hdr hmj
            have get : ∀ i, k + j - 1 ≤ i → e[i]? = l[i]? := fun i hi => by
              have := congrArg (fun x : List (List UInt8) => x[i - (k + j - 1)]?) hdr
              simp only [List.getElem?_drop] at this
              rwa [show k + j - 1 + (i - (k + j - 1)) = i by omega] at this
            by_cases hq : k + j < l.length
            · have hq' : (j : Int) < ((l.length - k : Nat) : Int) := by omega
              have hstep := compL_step (l := l) (k := k + j) (by omega) hq
              have e1 : (e.map A.str)[k + j]? = some (.str l[k + j]) := by
                rw [List.getElem?_map, get _ (by omega), List.getElem?_eq_getElem hq]; rfl
              have e0 : (e.map A.str)[k + (j - 1)]? = some (.str l[k + j - 1]) := by
                rw [List.getElem?_map, get _ (by omega), show k + (j - 1) = k + j - 1 by omega, List.getElem?_eq_getElem (by omega)]; rfl
              have t0 : ((j : Int) - 1).toNat = j - 1 := by omega
              have b0 : (0 : Int) ≤ (j : Int) - 1 := by omega
              have b3 : (j : Int) - 1 < ((l.length - k : Nat) : Int) := by omega
              generalize hx : l[k + j] = x at e1 hstep
              generalize hy : l[k + j - 1] = y at e0 hstep
              have hdr2 : e.drop (k + (j + 1) - 1) = l.drop (k + (j + 1) - 1) := by
                have := congrArg (List.drop 1) hdr
                rwa [List.drop_drop, List.drop_drop, show k + j - 1 + 1 = k + (j + 1) - 1 by omega] at this
              have b4 : (m : Int) < (l.length : Int) := by omega
              have b5 : m < e.length := by omega
              have next : y ≠ x → (m + 1 = (compL (l.take (k + (j + 1)))).length ∧ (e.set m x).length = l.length ∧ (e.set m x).take (m + 1) = compL (l.take (k + (j + 1))) ∧ (e.set m x).drop (k + (j + 1) - 1) = l.drop (k + (j + 1) - 1) ∧ m + 1 ≤ k + (j + 1) - 1) := fun hne => by
                rw [if_neg hne] at hstep
                have hstep' : compL (l.take (k + (j + 1))) = compL (l.take (k + j)) ++ [x] := hstep
                refine ⟨by rw [hstep', List.length_append, ← hm]; rfl, by rw [List.length_set, he], ?_, ?_, by omega⟩
                · rw [hstep', ← htk, ← List.take_append_getElem (by rw [List.length_set]; exact b5), List.take_set_of_le (Nat.le_refl _)]
                  simp
                · rw [List.drop_set_of_lt (by omega)]; exact hdr2
              have hset : setNth (e.map A.str) m (.str x) = (e.set m x).map A.str := by
                rw [setNth_eq, List.map_set]
              have em : (e.map A.str)[m]? = some (.str e[m]) := by
                rw [List.getElem?_map, List.getElem?_eq_getElem b5]; rfl
              cases h3 : x == y with
              | true =>
                obtain rfl : x = y := by simpa using h3
                rw [if_pos rfl] at hstep
                simp -implicitDefEqProofs (maxSteps := 600000) (disch := (first | omega | decide)) only [go_sem, ↓reduceIte, Nat.reduceEqDiff, reduceCtorEq, Nat.reduceAdd, Nat.reduceSub, Nat.reduceMul, Nat.reduceLeDiff, Nat.reduceLT, Nat.reduceBEq, Nat.reduceBNe, Int.reduceLE, Int.reduceLT, Int.reduceBEq, Int.reduceBNe, Int.reduceEq, Int.reduceNe, Int.reduceAdd, Int.reduceSub, Int.reduceMul, Int.reduceNeg, Int.reduceToNat, hq', e1, e0, t0, b0, b3, h3, wrap_i64, List.length_map, Int.le_refl]
                exact ⟨⟨(j + 1, m, e), by show 1 ≤ j + 1; omega, by show k + (j + 1) ≤ _; omega, by show m = (compL (l.take (k + j + 1))).length; rw [hstep, hm], he, by show e.take m = compL (l.take (k + j + 1)); rw [hstep, htk], hdr2, by show m ≤ k + (j + 1) - 1; omega⟩, ⟨⟨rfl, by simp⟩, rfl⟩, by show l.length - (j + 1) < l.length - j; omega⟩
              | false =>
                have hne : x ≠ y := by simpa using h3
                simp -implicitDefEqProofs (maxSteps := 600000) (disch := (first | omega | decide)) only [go_sem, ↓reduceIte, Nat.reduceEqDiff, reduceCtorEq, Nat.reduceAdd, Nat.reduceSub, Nat.reduceMul, Nat.reduceLeDiff, Nat.reduceLT, Nat.reduceBEq, Nat.reduceBNe, Int.reduceLE, Int.reduceLT, Int.reduceBEq, Int.reduceBNe, Int.reduceEq, Int.reduceNe, Int.reduceAdd, Int.reduceSub, Int.reduceMul, Int.reduceNeg, Int.reduceToNat, hq', e1, e0, t0, b0, b3, b4, h3, em, hset, wrap_i64, List.length_map, Int.le_refl]
                exact ⟨⟨(j + 1, m + 1, e.set m x), by show 1 ≤ j + 1; omega, by show k + (j + 1) ≤ _; omega, next (Ne.symm hne)⟩, ⟨⟨by simp, by simp⟩, rfl⟩, by show l.length - (j + 1) < l.length - j; omega⟩
            · have hq' : ¬ (j : Int) < ((l.length - k : Nat) : Int) := by omega
              have b4 : (m : Int) ≤ (l.length : Int) := by omega
              have tm : ((l.length : Int) - (m : Int)).toNat = l.length - m := by omega
              have hjl : k + j = l.length := by omega
              rw [hjl, List.take_of_length_le (Nat.le_refl _)] at hm htk
              have b6 : m + (l.length - m) = l.length := by omega
              have b7 : l.length ≤ e.length := by omega
              have b8 : (e.map A.str).drop l.length = [] := by rw [List.drop_of_length_le (by rw [List.length_map]; omega)]
              have tm0 : ((m : Int) - 0).toNat = m := by omega
              simp -implicitDefEqProofs (maxSteps := 600000) (disch := (first | omega | decide)) only [go_sem, ↓reduceIte, Nat.reduceEqDiff, reduceCtorEq, Nat.reduceAdd, Nat.reduceSub, Nat.reduceMul, Nat.reduceLeDiff, Nat.reduceLT, Nat.reduceBEq, Nat.reduceBNe, Int.reduceLE, Int.reduceLT, Int.reduceBEq, Int.reduceBNe, Int.reduceEq, Int.reduceNe, Int.reduceAdd, Int.reduceSub, Int.reduceMul, Int.reduceNeg, Int.reduceToNat, hq', b4, tm, tm0, b6, b7, b8, List.length_map, Int.le_refl]
              refine ⟨hm, ?_⟩
              rw [List.map_append, ← htk, List.map_take, List.map_replicate, htk, ← hm]
        | false =>
          have hne : x ≠ y := by simpa using h3
          simp -implicitDefEqProofs (maxSteps := 600000) (disch := (first | omega | decide)) only [go_sem, ↓reduceIte, Nat.reduceEqDiff, reduceCtorEq, Nat.reduceAdd, Nat.reduceSub, Nat.reduceMul, Nat.reduceLeDiff, Nat.reduceLT, Nat.reduceBEq, Nat.reduceBNe, Int.reduceLE, Int.reduceLT, Int.reduceBEq, Int.reduceBNe, Int.reduceEq, Int.reduceNe, Int.reduceAdd, Int.reduceSub, Int.reduceMul, Int.reduceNeg, Int.reduceToNat, hlt', e1, e0, t0, b0, b1, h3, wrap_i64, List.length_map]
          exact ⟨⟨k + 1, by omega, hlt, next (Ne.symm hne)⟩, by simp, by show l.length - (k + 1) < l.length - k; omega⟩
      · have hlt' : ¬ (k : Int) < (l.length : Int) := by omega
        have hc : compL l = l := by rw [List.take_of_length_le (by omega)] at hd; exact hd
        rw [hc]
        simp -implicitDefEqProofs (maxSteps := 600000) (disch := (first | omega | decide)) only [go_sem, ↓reduceIte, Nat.reduceEqDiff, reduceCtorEq, Nat.reduceAdd, Nat.reduceSub, Nat.reduceMul, Nat.reduceLeDiff, Nat.reduceLT, Nat.reduceBEq, Nat.reduceBNe, Int.reduceLE, Int.reduceLT, Int.reduceBEq, Int.reduceBNe, Int.reduceEq, Int.reduceNe, Int.reduceAdd, Int.reduceSub, Int.reduceMul, Int.reduceNeg, Int.reduceToNat, hlt', List.length_map]
        simp
end Go.Proofs.Ytnmkojglcgaobaa
