/- Chapter 13: the laws' walks, continued. -/
import Derived.Test.YtfcjemfgdeoinaaK13L
namespace Go.Proofs.Ytfcjemfgdeoinaa
open Go.Abs
set_option linter.unusedSimpArgs false
set_option linter.unusedVariables false
set_option maxRecDepth 20000
set_option maxHeartbeats 1000000

noncomputable def C13Lo : Tab := { C13Lw with eff := fun f => f == 22, frz := fun f => f == 22 }
theorem C13Lo_ok : TabOK Try.prog C13Lo := ⟨C13Lw_ok.f, C13Lw_ok.hp⟩
@[go_sem] theorem C13Lo_f : C13Lo.f = C13Lw.f := rfl
@[go_sem] theorem C13Lo_eff {g : FuncId} : C13Lo.eff g = (g == 22) := rfl
@[go_sem] theorem C13Lo_effT : C13Lo.effT = false := rfl
@[go_sem] theorem C13Lo_frz {g : FuncId} : C13Lo.frz g = (g == 22) := rfl
@[go_sem] theorem C13Lo_fix {n : Nat} : C13Lo.fix n = false := rfl
@[go_sem] theorem C13Lo_nf : C13Lo.nf = 0 := rfl
theorem ok_law13_CountsOf : codeOK Try.prog C13Lo Try.f4.ntmps (Try.f4.body.getD .skip) = true := by kernel_rfl
theorem c_law13_CountsOf (l : List Run) (m : List Int) (n : Int) (hl : l.length ≤ maxLen) (hm : m.length ≤ maxLen) : CallA Try.prog 4 [.slc (l.map Run.enc), .slc (m.map (A.int .i64)), .int .i64 n] (· = .bool true) := by
  refine callA_of_body C13Lo_ok mixed Try.func4 rfl (Nat.le_of_ble_eq_true rfl) ok_law13_CountsOf ?_
  unfold Try.f4
  have ml := maxLen_le
  by_cases h1 : (40 : Int) < (l.length : Int)
  · simp -implicitDefEqProofs (maxSteps := 600000) (disch := (first | omega | decide)) only [go_sem, ↓reduceIte, Nat.reduceEqDiff, reduceCtorEq, Nat.reduceAdd, Nat.reduceSub, Nat.reduceMul, Nat.reduceLeDiff, Nat.reduceLT, Nat.reduceBEq, Nat.reduceBNe, Int.reduceLE, Int.reduceLT, Int.reduceBEq, Int.reduceBNe, Int.reduceEq, Int.reduceNe, Int.reduceAdd, Int.reduceSub, Int.reduceMul, Int.reduceNeg, Int.reduceToNat, h1, List.length_map]
  · by_cases h2 : (40 : Int) < (m.length : Int)
    · simp -implicitDefEqProofs (maxSteps := 600000) (disch := (first | omega | decide)) only [go_sem, ↓reduceIte, Nat.reduceEqDiff, reduceCtorEq, Nat.reduceAdd, Nat.reduceSub, Nat.reduceMul, Nat.reduceLeDiff, Nat.reduceLT, Nat.reduceBEq, Nat.reduceBNe, Int.reduceLE, Int.reduceLT, Int.reduceBEq, Int.reduceBNe, Int.reduceEq, Int.reduceNe, Int.reduceAdd, Int.reduceSub, Int.reduceMul, Int.reduceNeg, Int.reduceToNat, h1, h2, List.length_map]
    · have l1 : l.length ≤ 40 := by omega
      have l2 : m.length ≤ 40 := by omega
      have st : ((l.map Run.enc).isEmpty || strideOf (l.map Run.enc) == 2) = true := by cases l <;> rfl
      simp -implicitDefEqProofs (maxSteps := 600000) (disch := (first | omega | decide)) only [go_sem, ↓reduceIte, Nat.reduceEqDiff, reduceCtorEq, Nat.reduceAdd, Nat.reduceSub, Nat.reduceMul, Nat.reduceLeDiff, Nat.reduceLT, Nat.reduceBEq, Nat.reduceBNe, Int.reduceLE, Int.reduceLT, Int.reduceBEq, Int.reduceBNe, Int.reduceEq, Int.reduceNe, Int.reduceAdd, Int.reduceSub, Int.reduceMul, Int.reduceNeg, Int.reduceToNat, h1, h2, st, List.length_map]
      refine ⟨by omega, ?_⟩
      refine wpA_loop [0, 1, 2, 6, 23, 24] (ι := {k : Nat // k ≤ m.length}) (fun p => [(25, .int .i64 p.1), (7, .row 0 0 2 (l.length + p.1) false)]) (fun p => [(0, .row 2 ((l ++ oneL (m.take p.1)).map Run.enc))]) (fun p => m.length - p.1) ⟨0, by omega⟩ (Nat.zero_le _) ?_ ?_
      · simp -implicitDefEqProofs (maxSteps := 600000) (disch := (first | omega | decide)) only [go_sem, ↓reduceIte, Nat.reduceEqDiff, reduceCtorEq, Nat.reduceAdd, Nat.reduceSub, Nat.reduceMul, Nat.reduceLeDiff, Nat.reduceLT, Nat.reduceBEq, Nat.reduceBNe, Int.reduceLE, Int.reduceLT, Int.reduceBEq, Int.reduceBNe, Int.reduceEq, Int.reduceNe, Int.reduceAdd, Int.reduceSub, Int.reduceMul, Int.reduceNeg, Int.reduceToNat]
        simp [oneL]
      · rintro ⟨k, hk⟩
        simp only
        have hlen : (l ++ oneL (m.take k)).length = l.length + k := by simp [oneL]; omega
        by_cases hlt : k < m.length
        · have hlt' : (k : Int) < (m.length : Int) := by omega
          have e1 : (m.map (A.int .i64))[k]? = some (.int .i64 m[k]) := by
            rw [List.getElem?_map, List.getElem?_eq_getElem hlt]; rfl
          have ht : m.take (k + 1) = m.take k ++ [m[k]] := (List.take_append_getElem hlt).symm
          have hh : l ++ oneL (m.take (k + 1)) = (l ++ oneL (m.take k)) ++ [⟨m[k], m[k]⟩] := by
            rw [ht]; unfold oneL; rw [List.map_append, ← List.append_assoc]; rfl
          have tl : ((l ++ oneL (m.take k)).map Run.enc).take (l.length + k) = (l ++ oneL (m.take k)).map Run.enc := List.take_of_length_le (Nat.le_of_eq (by rw [List.length_map, hlen]))
          simp -implicitDefEqProofs (maxSteps := 600000) (disch := (first | omega | decide)) only [go_sem, ↓reduceIte, Nat.reduceEqDiff, reduceCtorEq, Nat.reduceAdd, Nat.reduceSub, Nat.reduceMul, Nat.reduceLeDiff, Nat.reduceLT, Nat.reduceBEq, Nat.reduceBNe, Int.reduceLE, Int.reduceLT, Int.reduceBEq, Int.reduceBNe, Int.reduceEq, Int.reduceNe, Int.reduceAdd, Int.reduceSub, Int.reduceMul, Int.reduceNeg, Int.reduceToNat, hlt', e1, tl, hlen, wrap_i64, List.length_map]
          exact ⟨⟨Nat.le_refl _, by omega⟩, ⟨k + 1, hlt⟩, ⟨⟨by simp, by show l.length + k + 1 = l.length + (k + 1); omega⟩, by rw [hh, List.map_append (l₁ := l ++ oneL (m.take k))]; rfl⟩, by show m.length - (k + 1) < m.length - k; omega⟩
        · have hlt' : ¬ (k : Int) < (m.length : Int) := by omega
          have tl : ((l ++ oneL (m.take k)).map Run.enc).take (l.length + k) = (l ++ oneL (m.take k)).map Run.enc := List.take_of_length_le (Nat.le_of_eq (by rw [List.length_map, hlen]))
          rw [List.take_of_length_le (show m.length ≤ k by omega)] at *
          have s1 := set_len (hasL13 l)
          have s2 := set_len (hasL13 (l ++ oneL m))
          have w2 : ∀ x : Bool, (x == x) = true := fun x => by simp
          simp -implicitDefEqProofs (maxSteps := 600000) (disch := (first | omega | decide)) only [go_sem, ↓reduceIte, Nat.reduceEqDiff, reduceCtorEq, Nat.reduceAdd, Nat.reduceSub, Nat.reduceMul, Nat.reduceLeDiff, Nat.reduceLT, Nat.reduceBEq, Nat.reduceBNe, Int.reduceLE, Int.reduceLT, Int.reduceBEq, Int.reduceBNe, Int.reduceEq, Int.reduceNe, Int.reduceAdd, Int.reduceSub, Int.reduceMul, Int.reduceNeg, Int.reduceToNat, hlt', tl, hlen, w2, same_self, List.length_map, List.contains_nil, List.contains_cons]
          exact Nat.le_refl _
end Go.Proofs.Ytfcjemfgdeoinaa
