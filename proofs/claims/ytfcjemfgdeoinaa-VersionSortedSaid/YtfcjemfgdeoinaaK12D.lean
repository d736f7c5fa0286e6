/- Chapter 12: versions in order, each once. -/
import Derived.Test.YtfcjemfgdeoinaaK12C
import Derived.Test.YtfcjemfgdeoinaaAbsZ
import Derived.Test.YtfcjemfgdeoinaaSortVer
namespace Go.Proofs.Ytfcjemfgdeoinaa
open Go.Abs
set_option linter.unusedSimpArgs false
set_option linter.unusedVariables false
set_option maxRecDepth 20000
set_option maxHeartbeats 4000000

/-- Neighbours that are one, once. -/
def compL {α : Type} [DecidableEq α] : List α → List α
  | [] => []
  | [x] => [x]
  | x :: y :: l => if x = y then compL (y :: l) else x :: compL (y :: l)
section
variable {α : Type} [DecidableEq α]
theorem compL_snoc : ∀ (l : List α) (x y : α), compL (l ++ [x, y]) = if x = y then compL (l ++ [x]) else compL (l ++ [x]) ++ [y]
  | [], x, y => by by_cases h : x = y <;> simp [compL, h]
  | [z], x, y => by
    by_cases h : x = y
    · by_cases h2 : z = x <;> simp [compL, h, h2]
    · by_cases h2 : z = x <;> simp [compL, h, h2]
  | z :: w :: l, x, y => by
    have ih := compL_snoc (w :: l) x y
    simp only [List.cons_append, compL] at ih ⊢
    by_cases h2 : z = w
    · rw [if_pos h2, if_pos h2]; exact ih
    · rw [if_neg h2, if_neg h2, ih]
      by_cases h : x = y <;> simp [h]
theorem compL_len : ∀ l : List α, (compL l).length ≤ l.length
  | [] => by simp [compL]
  | [x] => by simp [compL]
  | x :: y :: l => by
    have := compL_len (y :: l)
    simp only [compL]
    split <;> simp at * <;> omega
theorem compL_mem : ∀ {l : List α} {z : α}, z ∈ compL l ↔ z ∈ l
  | [], z => by simp [compL]
  | [x], z => by simp [compL]
  | x :: y :: l, z => by
    have ih := @compL_mem (y :: l) z
    simp only [compL]
    split
    · rename_i h; subst h; rw [ih]; simp
    · rw [List.mem_cons, ih, List.mem_cons (l := y :: l)]
theorem compL_sub : ∀ l : List α, (compL l).Sublist l
  | [] => by simp [compL]
  | [x] => by simp [compL]
  | x :: y :: l => by
    have ih := compL_sub (y :: l)
    simp only [compL]
    split
    · exact ih.cons x
    · exact ih.cons_cons x
theorem compL_head : ∀ (x : α) (l : List α), ∃ m, compL (x :: l) = x :: m
  | x, [] => ⟨[], rfl⟩
  | x, y :: l => by
    simp only [compL]
    split
    · rename_i h; subst h; exact compL_head _ l
    · exact ⟨_, rfl⟩
theorem compL_ne : ∀ (l : List α) (i : Nat) (h : i + 1 < (compL l).length), (compL l)[i] ≠ (compL l)[i + 1]
  | [], i, h => by simp [compL] at h
  | [x], i, h => by simp [compL] at h
  | x :: y :: l, i, h => by
    have ih := compL_ne (y :: l)
    by_cases e : x = y
    · have hc : compL (x :: y :: l) = compL (y :: l) := by simp only [compL]; rw [if_pos e]
      simp only [hc] at h ⊢
      exact ih i h
    · have hc : compL (x :: y :: l) = x :: compL (y :: l) := by simp only [compL]; rw [if_neg e]
      simp only [hc] at h ⊢
      cases i with
      | zero =>
        obtain ⟨m, hm⟩ := compL_head y l
        simp only [hm]
        simpa using e
      | succ i => exact ih i (by simpa using h)
end

theorem ltV_iff {a b : Ver} : ltV a b = true ↔ a.r < b.r ∨ (a.r = b.r ∧ a.c < b.c) := by
  simp [ltV]
theorem ver_ext {a b : Ver} (h1 : a.r = b.r) (h2 : a.c = b.c) : a = b := by cases a; cases b; simp_all
theorem cmpV_lt {a b : Ver} : cmpV a b < 0 ↔ ltV a b = true := by
  unfold cmpV
  by_cases h : a = b
  · subst h
    have : ¬ ltV a a = true := by rw [ltV_iff]; omega
    simp [this]
  · cases hl : ltV a b <;> simp [h]
theorem swoV : Go.Sort.SWO (Go.Proofs.ltOf cmpV) := by
  have hl : ∀ a b, Go.Proofs.ltOf cmpV a b = ltV a b := fun a b => by
    unfold Go.Proofs.ltOf
    cases h : ltV a b
    · have : ¬ cmpV a b < 0 := by rw [cmpV_lt, h]; simp
      simpa using this
    · have : cmpV a b < 0 := by rw [cmpV_lt, h]
      simpa using this
  refine ⟨fun x => ?_, fun x y z h1 h2 => ?_, fun x y z h1 h2 => ?_⟩
  · rw [hl]; cases h : ltV x x
    · rfl
    · rw [ltV_iff] at h; omega
  · rw [hl] at *
    rw [ltV_iff] at *; omega
  · rw [hl] at *
    rw [← Bool.not_eq_true] at *
    rw [ltV_iff] at *; omega

theorem compL_step {α : Type} [DecidableEq α] {l : List α} {k : Nat} (h1 : 1 ≤ k) (h : k < l.length) : compL (l.take (k + 1)) = if l[k - 1] = l[k] then compL (l.take k) else compL (l.take k) ++ [l[k]] := by
  have e1 : l.take k = l.take (k - 1) ++ [l[k - 1]] := by
    have := List.take_append_getElem (l := l) (i := k - 1) (by omega)
    rw [show k - 1 + 1 = k by omega] at this
    exact this.symm
  have e2 : l.take (k + 1) = l.take (k - 1) ++ [l[k - 1], l[k]] := by
    rw [← List.take_append_getElem h, e1, List.append_assoc]; rfl
  rw [e2, compL_snoc, ← e1]
/-- Compact's own walk. -/
def TC : Tab := { T0 with fix := fun n => n == 0, nf := 1 }
theorem TC_ok : TabOK Try.prog TC := ⟨T0_ok.f, T0_ok.hp⟩
@[go_sem] theorem TC_eff {g : FuncId} : TC.eff g = false := rfl
@[go_sem] theorem TC_effT : TC.effT = false := rfl
@[go_sem] theorem TC_fix {n : Nat} : TC.fix n = (n == 0) := rfl
@[go_sem] theorem TC_nf : TC.nf = 1 := rfl
theorem ok_slices_Compact_winnower_api_Version_winnower_api_Version : codeOK Try.prog TC Try.f46.ntmps (Try.f46.body.getD .skip) = true := by kernel_rfl
theorem c_Compact_Version (l : List Ver) (hl : l.length ≤ 4611686018427387903) : CallH Try.prog 46 [.row 0 0 2 l.length false] [.row 2 (l.map Ver.enc)]
    (.row 0 0 2 (compL l).length false) [.row 2 ((compL l ++ List.replicate (l.length - (compL l).length) (⟨0, 0⟩ : Ver)).map Ver.enc)] [] := by
  refine callH_of_body TC_ok mixed Try.func46 rfl (Nat.le_of_ble_eq_true rfl) (fun n h _ => by simp at h; subst h; rfl) (by show _ ≤ 1; simp) (by show 1 ≤ _; simp) ok_slices_Compact_winnower_api_Version_winnower_api_Version ?_
  unfold Try.f46
  by_cases h2 : (l.length : Int) < 2
  · have hc : compL l = l := by
      match l, h2 with
      | [], _ => rfl
      | [x], _ => rfl
      | _ :: _ :: _, h => simp at h; omega
    rw [hc]
    simp -implicitDefEqProofs (maxSteps := 600000) (disch := (first | omega | decide)) only [go_sem, ↓reduceIte, Nat.reduceEqDiff, reduceCtorEq, Nat.reduceAdd, Nat.reduceSub, Nat.reduceMul, Nat.reduceLeDiff, Nat.reduceLT, Nat.reduceBEq, Nat.reduceBNe, Int.reduceLE, Int.reduceLT, Int.reduceBEq, Int.reduceBNe, Int.reduceEq, Int.reduceNe, Int.reduceAdd, Int.reduceSub, Int.reduceMul, Int.reduceNeg, Int.reduceToNat, h2, List.length_map]
    simp
  · simp -implicitDefEqProofs (maxSteps := 600000) (disch := (first | omega | decide)) only [go_sem, ↓reduceIte, Nat.reduceEqDiff, reduceCtorEq, Nat.reduceAdd, Nat.reduceSub, Nat.reduceMul, Nat.reduceLeDiff, Nat.reduceLT, Nat.reduceBEq, Nat.reduceBNe, Int.reduceLE, Int.reduceLT, Int.reduceBEq, Int.reduceBNe, Int.reduceEq, Int.reduceNe, Int.reduceAdd, Int.reduceSub, Int.reduceMul, Int.reduceNeg, Int.reduceToNat, h2, List.length_map]
    refine wpA_loop [0] (ι := {k : Nat // 1 ≤ k ∧ k ≤ l.length ∧ compL (l.take k) = l.take k}) (fun p => [(3, .int .i64 p.1)]) (fun _ => []) (fun p => l.length - p.1) ⟨1, by omega, by omega, by match l with | [] => rfl | [x] => rfl | x :: y :: l => rfl⟩ (by show 1 ≤ _; simp) ?_ ?_
    · simp -implicitDefEqProofs (maxSteps := 600000) (disch := (first | omega | decide)) only [go_sem, ↓reduceIte, Nat.reduceEqDiff, reduceCtorEq, Nat.reduceAdd, Nat.reduceSub, Nat.reduceMul, Nat.reduceLeDiff, Nat.reduceLT, Nat.reduceBEq, Nat.reduceBNe, Int.reduceLE, Int.reduceLT, Int.reduceBEq, Int.reduceBNe, Int.reduceEq, Int.reduceNe, Int.reduceAdd, Int.reduceSub, Int.reduceMul, Int.reduceNeg, Int.reduceToNat]
    · rintro ⟨k, hk1, hk, hd⟩
      simp only
      by_cases hlt : k < l.length
      · have hlt' : (k : Int) < (l.length : Int) := by omega
        have hstep := compL_step hk1 hlt
        have e1 : (l.map Ver.enc)[k]? = some (.agg [.int .i64 l[k].r, .int .i64 l[k].c]) := by
          rw [List.getElem?_map, List.getElem?_eq_getElem hlt]; rfl
        have e0 : (l.map Ver.enc)[k - 1]? = some (.agg [.int .i64 l[k - 1].r, .int .i64 l[k - 1].c]) := by
          rw [List.getElem?_map, List.getElem?_eq_getElem (by omega)]; rfl
        have t0 : ((k : Int) - 1).toNat = k - 1 := by omega
        have b0 : (0 : Int) ≤ (k : Int) - 1 := by omega
        have b1 : (k : Int) - 1 < (l.length : Int) := by omega
        generalize hx : l[k] = x at e1 hstep
        generalize hy : l[k - 1] = y at e0 hstep
        obtain ⟨r, c1⟩ := x
        obtain ⟨r', c1'⟩ := y
        have next : (⟨r', c1'⟩ : Ver) ≠ ⟨r, c1⟩ → compL (l.take (k + 1)) = l.take (k + 1) := fun hne => by
          rw [hstep, if_neg hne, hd, ← hx]; exact List.take_append_getElem hlt
        cases h3 : r == r' with
        | true =>
          cases h4 : c1 == c1' with
          | true =>
            obtain rfl : r = r' := by simpa using h3
            obtain rfl : c1 = c1' := by simpa using h4
            have b2 : (k : Int) ≤ (l.length : Int) := by omega
            rw [if_pos rfl] at hstep
            have hlen : (compL (l.take (k + 1))).length = k := by rw [hstep, hd, List.length_take]; omega
            have tk : ((l.length : Int) - (k : Int)).toNat = l.length - k := by omega
            simp -implicitDefEqProofs (maxSteps := 600000) (disch := (first | omega | decide)) only [go_sem, ↓reduceIte, Nat.reduceEqDiff, reduceCtorEq, Nat.reduceAdd, Nat.reduceSub, Nat.reduceMul, Nat.reduceLeDiff, Nat.reduceLT, Nat.reduceBEq, Nat.reduceBNe, Int.reduceLE, Int.reduceLT, Int.reduceBEq, Int.reduceBNe, Int.reduceEq, Int.reduceNe, Int.reduceAdd, Int.reduceSub, Int.reduceMul, Int.reduceNeg, Int.reduceToNat, hlt', e1, e0, t0, b0, b1, b2, tk, h3, h4, wrap_i64, List.length_map, Int.le_refl]
            clear next e1 e0 hx hy h3 h4 t0 b0
            refine wpA_loop [0, 4] (ι := {p : Nat × Nat × List Ver // 1 ≤ p.1 ∧ k + p.1 ≤ l.length ∧ p.2.1 = (compL (l.take (k + p.1))).length ∧ p.2.2.length = l.length ∧ p.2.2.take p.2.1 = compL (l.take (k + p.1)) ∧ p.2.2.drop (k + p.1 - 1) = l.drop (k + p.1 - 1) ∧ p.2.1 ≤ k + p.1 - 1}) (fun p => [(3, .int .i64 p.1.2.1), (5, .int .i64 p.1.1)]) (fun p => [(0, .row 2 (p.1.2.2.map Ver.enc))]) (fun p => l.length - p.1.1) ⟨(1, k, l), by omega, hlt, hlen.symm, rfl, by rw [hstep, hd], rfl, by show k ≤ k + 1 - 1; omega⟩ (by show 1 ≤ _; simp) ?_ ?_
            · simp -implicitDefEqProofs (maxSteps := 600000) (disch := (first | omega | decide)) only [go_sem, ↓reduceIte, Nat.reduceEqDiff, reduceCtorEq, Nat.reduceAdd, Nat.reduceSub, Nat.reduceMul, Nat.reduceLeDiff, Nat.reduceLT, Nat.reduceBEq, Nat.reduceBNe, Int.reduceLE, Int.reduceLT, Int.reduceBEq, Int.reduceBNe, Int.reduceEq, Int.reduceNe, Int.reduceAdd, Int.reduceSub, Int.reduceMul, Int.reduceNeg, Int.reduceToNat]
            · rintro ⟨⟨j, m, e⟩, hj1, hj, hm, he, htk, hdr, hmj⟩
              simp only at hj1 hj hm he htk hdr hmj
              have get : ∀ i, k + j - 1 ≤ i → e[i]? = l[i]? := fun i hi => by
                have := congrArg (fun x : List Ver => x[i - (k + j - 1)]?) hdr
                simp only [List.getElem?_drop] at this
                rwa [show k + j - 1 + (i - (k + j - 1)) = i by omega] at this
              by_cases hq : k + j < l.length
              · have hq' : (j : Int) < ((l.length - k : Nat) : Int) := by omega
                have hstep := compL_step (l := l) (k := k + j) (by omega) hq
                have e1 : (e.map Ver.enc)[k + j]? = some (.agg [.int .i64 l[k + j].r, .int .i64 l[k + j].c]) := by
                  rw [List.getElem?_map, get _ (by omega), List.getElem?_eq_getElem hq]; rfl
                have e0 : (e.map Ver.enc)[k + (j - 1)]? = some (.agg [.int .i64 l[k + j - 1].r, .int .i64 l[k + j - 1].c]) := by
                  rw [List.getElem?_map, get _ (by omega), show k + (j - 1) = k + j - 1 by omega, List.getElem?_eq_getElem (by omega)]; rfl
                have t0 : ((j : Int) - 1).toNat = j - 1 := by omega
                have b0 : (0 : Int) ≤ (j : Int) - 1 := by omega
                have b3 : (j : Int) - 1 < ((l.length - k : Nat) : Int) := by omega
                generalize hx : l[k + j] = x at e1 hstep
                generalize hy : l[k + j - 1] = y at e0 hstep
                obtain ⟨r, c1⟩ := x
                obtain ⟨r', c1'⟩ := y
                have hdr2 : e.drop (k + (j + 1) - 1) = l.drop (k + (j + 1) - 1) := by
                  have := congrArg (List.drop 1) hdr
                  rwa [List.drop_drop, List.drop_drop, show k + j - 1 + 1 = k + (j + 1) - 1 by omega] at this
                have b4 : (m : Int) < (l.length : Int) := by omega
                have b5 : m < e.length := by omega
                have next : (⟨r', c1'⟩ : Ver) ≠ ⟨r, c1⟩ → (m + 1 = (compL (l.take (k + (j + 1)))).length ∧ (e.set m ⟨r, c1⟩).length = l.length ∧ (e.set m ⟨r, c1⟩).take (m + 1) = compL (l.take (k + (j + 1))) ∧ (e.set m ⟨r, c1⟩).drop (k + (j + 1) - 1) = l.drop (k + (j + 1) - 1) ∧ m + 1 ≤ k + (j + 1) - 1) := fun hne => by
                  rw [if_neg hne] at hstep
                  have hstep' : compL (l.take (k + (j + 1))) = compL (l.take (k + j)) ++ [⟨r, c1⟩] := hstep
                  refine ⟨by rw [hstep', List.length_append, ← hm]; rfl, by rw [List.length_set, he], ?_, ?_, by omega⟩
                  · rw [hstep', ← htk, ← List.take_append_getElem (by rw [List.length_set]; exact b5), List.take_set_of_le (Nat.le_refl _)]
                    simp
                  · rw [List.drop_set_of_lt (by omega)]; exact hdr2
                have hset : setNth (e.map Ver.enc) m (.agg [.int .i64 r, .int .i64 c1]) = (e.set m ⟨r, c1⟩).map Ver.enc := by
                  rw [setNth_eq, List.map_set]; rfl
                have em : (e.map Ver.enc)[m]? = some (.agg [.int .i64 e[m].r, .int .i64 e[m].c]) := by
                  rw [List.getElem?_map, List.getElem?_eq_getElem b5]; rfl
                have spl2 : ∀ a b x y : A, spliceA [a, b] 0 [x, y] = [x, y] := fun _ _ _ _ => rfl
                cases h3 : r == r' with
                | true =>
                  cases h4 : c1 == c1' with
                  | true =>
                    obtain rfl : r = r' := by simpa using h3
                    obtain rfl : c1 = c1' := by simpa using h4
                    rw [if_pos rfl] at hstep
                    simp -implicitDefEqProofs (maxSteps := 600000) (disch := (first | omega | decide)) only [go_sem, ↓reduceIte, Nat.reduceEqDiff, reduceCtorEq, Nat.reduceAdd, Nat.reduceSub, Nat.reduceMul, Nat.reduceLeDiff, Nat.reduceLT, Nat.reduceBEq, Nat.reduceBNe, Int.reduceLE, Int.reduceLT, Int.reduceBEq, Int.reduceBNe, Int.reduceEq, Int.reduceNe, Int.reduceAdd, Int.reduceSub, Int.reduceMul, Int.reduceNeg, Int.reduceToNat, hq', e1, e0, t0, b0, b3, h3, h4, wrap_i64, List.length_map, Int.le_refl]
                    exact ⟨⟨(j + 1, m, e), by show 1 ≤ j + 1; omega, by show k + (j + 1) ≤ _; omega, by show m = (compL (l.take (k + j + 1))).length; rw [hstep, hm], he, by show e.take m = compL (l.take (k + j + 1)); rw [hstep, htk], hdr2, by show m ≤ k + (j + 1) - 1; omega⟩, ⟨⟨rfl, by simp⟩, rfl⟩, by show l.length - (j + 1) < l.length - j; omega⟩
                  | false =>
                    have hne : c1 ≠ c1' := by simpa using h4
                    simp -implicitDefEqProofs (maxSteps := 600000) (disch := (first | omega | decide)) only [go_sem, ↓reduceIte, Nat.reduceEqDiff, reduceCtorEq, Nat.reduceAdd, Nat.reduceSub, Nat.reduceMul, Nat.reduceLeDiff, Nat.reduceLT, Nat.reduceBEq, Nat.reduceBNe, Int.reduceLE, Int.reduceLT, Int.reduceBEq, Int.reduceBNe, Int.reduceEq, Int.reduceNe, Int.reduceAdd, Int.reduceSub, Int.reduceMul, Int.reduceNeg, Int.reduceToNat, hq', e1, e0, t0, b0, b3, b4, h3, h4, em, hset, spl2, wrap_i64, List.length_map, Int.le_refl]
                    exact ⟨⟨(j + 1, m + 1, e.set m ⟨r, c1⟩), by show 1 ≤ j + 1; omega, by show k + (j + 1) ≤ _; omega, next (by simp [Ne.symm hne])⟩, ⟨⟨by simp, by simp⟩, rfl⟩, by show l.length - (j + 1) < l.length - j; omega⟩
                | false =>
                  have hne : r ≠ r' := by simpa using h3
                  simp -implicitDefEqProofs (maxSteps := 600000) (disch := (first | omega | decide)) only [go_sem, ↓reduceIte, Nat.reduceEqDiff, reduceCtorEq, Nat.reduceAdd, Nat.reduceSub, Nat.reduceMul, Nat.reduceLeDiff, Nat.reduceLT, Nat.reduceBEq, Nat.reduceBNe, Int.reduceLE, Int.reduceLT, Int.reduceBEq, Int.reduceBNe, Int.reduceEq, Int.reduceNe, Int.reduceAdd, Int.reduceSub, Int.reduceMul, Int.reduceNeg, Int.reduceToNat, hq', e1, e0, t0, b0, b3, b4, h3, em, hset, spl2, wrap_i64, List.length_map, Int.le_refl]
                  exact ⟨⟨(j + 1, m + 1, e.set m ⟨r, c1⟩), by show 1 ≤ j + 1; omega, by show k + (j + 1) ≤ _; omega, next (by simp [Ne.symm hne])⟩, ⟨⟨by simp, by simp⟩, rfl⟩, by show l.length - (j + 1) < l.length - j; omega⟩
              · have hq' : ¬ (j : Int) < ((l.length - k : Nat) : Int) := by omega
                have b4 : (m : Int) ≤ (l.length : Int) := by omega
                have tm : ((l.length : Int) - (m : Int)).toNat = l.length - m := by omega
                have hjl : k + j = l.length := by omega
                rw [hjl, List.take_of_length_le (Nat.le_refl _)] at hm htk
                have b6 : m + (l.length - m) = l.length := by omega
                have b7 : l.length ≤ e.length := by omega
                have b8 : (e.map Ver.enc).drop l.length = [] := by rw [List.drop_of_length_le (by rw [List.length_map]; omega)]
                have tm0 : ((m : Int) - 0).toNat = m := by omega
                simp -implicitDefEqProofs (maxSteps := 600000) (disch := (first | omega | decide)) only [go_sem, ↓reduceIte, Nat.reduceEqDiff, reduceCtorEq, Nat.reduceAdd, Nat.reduceSub, Nat.reduceMul, Nat.reduceLeDiff, Nat.reduceLT, Nat.reduceBEq, Nat.reduceBNe, Int.reduceLE, Int.reduceLT, Int.reduceBEq, Int.reduceBNe, Int.reduceEq, Int.reduceNe, Int.reduceAdd, Int.reduceSub, Int.reduceMul, Int.reduceNeg, Int.reduceToNat, hq', b4, tm, tm0, b6, b7, b8, clear_row (j := 0), List.length_map, Int.le_refl]
                refine ⟨hm, ?_⟩
                rw [List.map_append, ← htk, List.map_take, List.map_replicate, htk, ← hm]; rfl
          | false =>
            have hne : c1 ≠ c1' := by simpa using h4
            simp -implicitDefEqProofs (maxSteps := 600000) (disch := (first | omega | decide)) only [go_sem, ↓reduceIte, Nat.reduceEqDiff, reduceCtorEq, Nat.reduceAdd, Nat.reduceSub, Nat.reduceMul, Nat.reduceLeDiff, Nat.reduceLT, Nat.reduceBEq, Nat.reduceBNe, Int.reduceLE, Int.reduceLT, Int.reduceBEq, Int.reduceBNe, Int.reduceEq, Int.reduceNe, Int.reduceAdd, Int.reduceSub, Int.reduceMul, Int.reduceNeg, Int.reduceToNat, hlt', e1, e0, t0, b0, b1, h3, h4, wrap_i64, List.length_map]
            exact ⟨⟨k + 1, by omega, hlt, next (by simp [Ne.symm hne])⟩, by simp, by show l.length - (k + 1) < l.length - k; omega⟩
        | false =>
          have hne : r ≠ r' := by simpa using h3
          simp -implicitDefEqProofs (maxSteps := 600000) (disch := (first | omega | decide)) only [go_sem, ↓reduceIte, Nat.reduceEqDiff, reduceCtorEq, Nat.reduceAdd, Nat.reduceSub, Nat.reduceMul, Nat.reduceLeDiff, Nat.reduceLT, Nat.reduceBEq, Nat.reduceBNe, Int.reduceLE, Int.reduceLT, Int.reduceBEq, Int.reduceBNe, Int.reduceEq, Int.reduceNe, Int.reduceAdd, Int.reduceSub, Int.reduceMul, Int.reduceNeg, Int.reduceToNat, hlt', e1, e0, t0, b0, b1, h3, wrap_i64, List.length_map]
          exact ⟨⟨k + 1, by omega, hlt, next (by simp [Ne.symm hne])⟩, by simp, by show l.length - (k + 1) < l.length - k; omega⟩
      · have hlt' : ¬ (k : Int) < (l.length : Int) := by omega
        have hc : compL l = l := by rw [List.take_of_length_le (by omega)] at hd; exact hd
        rw [hc]
        simp -implicitDefEqProofs (maxSteps := 600000) (disch := (first | omega | decide)) only [go_sem, ↓reduceIte, Nat.reduceEqDiff, reduceCtorEq, Nat.reduceAdd, Nat.reduceSub, Nat.reduceMul, Nat.reduceLeDiff, Nat.reduceLT, Nat.reduceBEq, Nat.reduceBNe, Int.reduceLE, Int.reduceLT, Int.reduceBEq, Int.reduceBNe, Int.reduceEq, Int.reduceNe, Int.reduceAdd, Int.reduceSub, Int.reduceMul, Int.reduceNeg, Int.reduceToNat, hlt', List.length_map]
        simp
end Go.Proofs.Ytfcjemfgdeoinaa
