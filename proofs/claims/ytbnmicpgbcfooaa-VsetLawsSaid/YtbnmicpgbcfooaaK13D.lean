/- Chapter 13: all edges. -/
import Derived.Test.YtbnmicpgbcfooaaK13C
namespace Go.Proofs.Ytbnmicpgbcfooaa
open Go.Abs
set_option linter.unusedSimpArgs false
set_option linter.unusedVariables false
set_option maxRecDepth 20000
set_option maxHeartbeats 4000000

noncomputable def T13c : Tab := T13b.add 62 (entry (fun (v : List Int × Int) => [.slc (v.1.map (A.int .i64)), .int .i64 v.2]) (fun v => v.1.length ≤ 1000000) (fun v => .slc ((putI v.1 v.2).map (A.int .i64))))
theorem T13c_ok : TabOK Try.prog T13c := T13b_ok.add (callable_of Try.func62 (by kernel_rfl) (by kernel_rfl)) (entry_ok fun v h => c_ref13_put v.1 v.2 h)
@[go_sem] theorem T13c_old {g : FuncId} {xs : List A} (h : g ≠ 62) : T13c.f g xs = T13b.f g xs := Tab.add_ne h
@[go_sem] theorem T13c_eff {g : FuncId} : T13c.eff g = T13b.eff g := rfl
@[go_sem] theorem T13c_frz {g : FuncId} : T13c.frz g = T13b.frz g := rfl
@[go_sem] theorem T13c_effT : T13c.effT = T13b.effT := rfl
@[go_sem] theorem T13c_fix : T13c.fix = T13b.fix := rfl
@[go_sem] theorem T13c_nf : T13c.nf = T13b.nf := rfl
@[go_sem] theorem T13c_ords {n : Nat} : T13c.ords n = T13b.ords n := rfl
@[go_sem] theorem T13c_hp : T13c.hp = T13b.hp := rfl
theorem T13c_ref13_put (v : List Int × Int) (h : v.1.length ≤ 1000000) : T13c.f 62 [.slc (v.1.map (A.int .i64)), .int .i64 v.2] = some (.slc ((putI v.1 v.2).map (A.int .i64))) :=
  (Tab.add_eq : T13c.f 62 [.slc (v.1.map (A.int .i64)), .int .i64 v.2] = (entry (fun (v : List Int × Int) => [.slc (v.1.map (A.int .i64)), .int .i64 v.2]) (fun v => v.1.length ≤ 1000000) (fun v => .slc ((putI v.1 v.2).map (A.int .i64)))) [.slc (v.1.map (A.int .i64)), .int .i64 v.2]).trans (entry_eq (fun i j h => by first | (cases i; cases j; rfl; done) | simpa [Prod.ext_iff, and_assoc] using h | (simp at h; omega)) v h)
@[go_sem] theorem t_ref13_put {l : List Int} {n : Int} (h : l.length ≤ 1000000) : T13c.f 62 [.slc (l.map (A.int .i64)), .int .i64 n] = some (.slc ((putI l n).map (A.int .i64))) := T13c_ref13_put (l, n) h
@[go_sem] theorem t_ref13_put0 {n : Int} : T13c.f 62 [.slc [], .int .i64 n] = some (.slc ((putI [] n).map (A.int .i64))) := t_ref13_put (l := []) (by simp)
/-- A slice that is nil as long as it is empty. -/
def slI : List Int → A
  | [] => .nils
  | x :: xs => .slc ((x :: xs).map (A.int .i64))
theorem slI_ne {l : List Int} (h : l ≠ []) : slI l = .slc (l.map (A.int .i64)) := by
  cases l with
  | nil => exact absurd rfl h
  | cons x xs => rfl
theorem slI_under {m : Nat} (l : List Int) : (slI l).under m = true := by
  cases l <;> rfl
@[go_sem] theorem view_slI {H : List Go.Abs.Obj} {l : List Int} : view H (slI l) = some (.slc (l.map (A.int .i64))) := by
  cases l <;> rfl
@[go_sem] theorem pure_slI {l : List Int} : (slI l).pure = true := by
  cases l <;> rfl
theorem ok_ref13_Edges : codeOK Try.prog T13c Try.f53.ntmps (Try.f53.body.getD .skip) = true := by kernel_rfl
theorem c_ref13_Edges (a b : List Run) (ha : a.length ≤ 1000) (hb : b.length ≤ 1000) : CallA Try.prog 53 [.slc (a.map Run.enc), .slc (b.map Run.enc)] (· = .slc ((edges2 a b).map (A.int .i64))) := by
  refine callA_of_body T13c_ok mixed Try.func53 rfl (Nat.le_of_ble_eq_true rfl) ok_ref13_Edges ?_
  unfold Try.f53
  simp -implicitDefEqProofs (maxSteps := 600000) (disch := (first | omega | decide)) only [go_sem, ↓reduceIte, Nat.reduceEqDiff, reduceCtorEq, Nat.reduceAdd, Nat.reduceSub, Nat.reduceMul, Nat.reduceLeDiff, Nat.reduceLT, Nat.reduceBEq, Nat.reduceBNe, Int.reduceLE, Int.reduceLT, Int.reduceBEq, Int.reduceBNe, Int.reduceEq, Int.reduceNe, Int.reduceAdd, Int.reduceSub, Int.reduceMul, Int.reduceNeg, Int.reduceToNat, List.length_map]
  refine wpA_loop [0, 1, 4] (ι := {k : Nat // k ≤ a.length}) (fun p => [(6, .int .i64 p.1), (5, slI (edgesR [] (a.take p.1)))]) (fun _ => []) (fun p => a.length - p.1) ⟨0, by omega⟩ (Nat.zero_le _) ?_ ?_
  · simp -implicitDefEqProofs (maxSteps := 600000) (disch := (first | omega | decide)) only [go_sem, ↓reduceIte, Nat.reduceEqDiff, reduceCtorEq, Nat.reduceAdd, Nat.reduceSub, Nat.reduceMul, Nat.reduceLeDiff, Nat.reduceLT, Nat.reduceBEq, Nat.reduceBNe, Int.reduceLE, Int.reduceLT, Int.reduceBEq, Int.reduceBNe, Int.reduceEq, Int.reduceNe, Int.reduceAdd, Int.reduceSub, Int.reduceMul, Int.reduceNeg, Int.reduceToNat]
    simp [edgesR, slI, A.under]
  · rintro ⟨k, hk⟩
    simp only
    have hlen := edgesR_len [] (a.take k)
    have htk : (a.take k).length = k := by rw [List.length_take]; omega
    by_cases hlt : k < a.length
    · have hlt' : (k : Int) < (a.length : Int) := by omega
      have e1 := run_get hlt
      have ht : a.take (k + 1) = a.take k ++ [a[k]] := (List.take_append_getElem hlt).symm
      generalize hx : a[k] = x at *
      obtain ⟨f, t⟩ := x
      have hs := edgesR_snoc [] (a.take k) ⟨f, t⟩
      rw [← ht] at hs
      generalize hes : edgesR [] (a.take k) = es at *
      simp only [List.length_nil] at hlen
      cases h1 : oneR ⟨f, t⟩ with
      | false =>
        rw [h1] at hs
        simp -implicitDefEqProofs (maxSteps := 600000) (disch := (first | omega | decide)) only [go_sem, ↓reduceIte, Nat.reduceEqDiff, reduceCtorEq, Nat.reduceAdd, Nat.reduceSub, Nat.reduceMul, Nat.reduceLeDiff, Nat.reduceLT, Nat.reduceBEq, Nat.reduceBNe, Int.reduceLE, Int.reduceLT, Int.reduceBEq, Int.reduceBNe, Int.reduceEq, Int.reduceNe, Int.reduceAdd, Int.reduceSub, Int.reduceMul, Int.reduceNeg, Int.reduceToNat, hlt', e1, h1, wrap_i64, List.length_map]
        exact ⟨⟨k + 1, hlt⟩, by simp [hs, slI_under], by show a.length - (k + 1) < a.length - k; omega⟩
      | true =>
        rw [h1, if_pos rfl] at hs
        obtain ⟨o1, o2, o3⟩ := one_parts h1
        simp only at o1 o2 o3 hs
        have p1 := putI_len es f
        have hfin := slI_ne (putI_ne (putI es f) (t + 1))
        simp -implicitDefEqProofs (maxSteps := 600000) (disch := (first | omega | decide)) only [go_sem, ↓reduceIte, Nat.reduceEqDiff, reduceCtorEq, Nat.reduceAdd, Nat.reduceSub, Nat.reduceMul, Nat.reduceLeDiff, Nat.reduceLT, Nat.reduceBEq, Nat.reduceBNe, Int.reduceLE, Int.reduceLT, Int.reduceBEq, Int.reduceBNe, Int.reduceEq, Int.reduceNe, Int.reduceAdd, Int.reduceSub, Int.reduceMul, Int.reduceNeg, Int.reduceToNat, hlt', e1, h1, wrap_i64, List.length_map]
        exact ⟨⟨k + 1, hlt⟩, by simp [hs, hfin, A.under], by show a.length - (k + 1) < a.length - k; omega⟩
    · have hlt' : ¬ (k : Int) < (a.length : Int) := by omega
      rw [List.take_of_length_le (by omega)] at *
      simp -implicitDefEqProofs (maxSteps := 600000) (disch := (first | omega | decide)) only [go_sem, ↓reduceIte, Nat.reduceEqDiff, reduceCtorEq, Nat.reduceAdd, Nat.reduceSub, Nat.reduceMul, Nat.reduceLeDiff, Nat.reduceLT, Nat.reduceBEq, Nat.reduceBNe, Int.reduceLE, Int.reduceLT, Int.reduceBEq, Int.reduceBNe, Int.reduceEq, Int.reduceNe, Int.reduceAdd, Int.reduceSub, Int.reduceMul, Int.reduceNeg, Int.reduceToNat, hlt', List.length_map]
      generalize hea : edgesR [] a = ea at *
      simp only [List.length_nil] at hlen
      refine wpA_loop [1, 4] (ι := {k : Nat // k ≤ b.length}) (fun p => [(7, .int .i64 p.1), (5, slI (edgesR ea (b.take p.1)))]) (fun _ => []) (fun p => b.length - p.1) ⟨0, by omega⟩ (Nat.zero_le _) ?_ ?_
      · simp -implicitDefEqProofs (maxSteps := 600000) (disch := (first | omega | decide)) only [go_sem, ↓reduceIte, Nat.reduceEqDiff, reduceCtorEq, Nat.reduceAdd, Nat.reduceSub, Nat.reduceMul, Nat.reduceLeDiff, Nat.reduceLT, Nat.reduceBEq, Nat.reduceBNe, Int.reduceLE, Int.reduceLT, Int.reduceBEq, Int.reduceBNe, Int.reduceEq, Int.reduceNe, Int.reduceAdd, Int.reduceSub, Int.reduceMul, Int.reduceNeg, Int.reduceToNat]
        simp [edgesR, slI_under]
      · rintro ⟨j, hj⟩
        simp only
        have hlen2 := edgesR_len ea (b.take j)
        have htj : (b.take j).length = j := by rw [List.length_take]; omega
        by_cases hltb : j < b.length
        · have hltb' : (j : Int) < (b.length : Int) := by omega
          have e1 := run_get hltb
          have ht : b.take (j + 1) = b.take j ++ [b[j]] := (List.take_append_getElem hltb).symm
          generalize hx : b[j] = x at *
          obtain ⟨f, t⟩ := x
          have hs := edgesR_snoc ea (b.take j) ⟨f, t⟩
          rw [← ht] at hs
          generalize hes : edgesR ea (b.take j) = es at *
          cases h1 : oneR ⟨f, t⟩ with
          | false =>
            rw [h1] at hs
            simp -implicitDefEqProofs (maxSteps := 600000) (disch := (first | omega | decide)) only [go_sem, ↓reduceIte, Nat.reduceEqDiff, reduceCtorEq, Nat.reduceAdd, Nat.reduceSub, Nat.reduceMul, Nat.reduceLeDiff, Nat.reduceLT, Nat.reduceBEq, Nat.reduceBNe, Int.reduceLE, Int.reduceLT, Int.reduceBEq, Int.reduceBNe, Int.reduceEq, Int.reduceNe, Int.reduceAdd, Int.reduceSub, Int.reduceMul, Int.reduceNeg, Int.reduceToNat, hltb', e1, h1, wrap_i64, List.length_map]
            exact ⟨⟨j + 1, hltb⟩, by simp [hs, slI_under], by show b.length - (j + 1) < b.length - j; omega⟩
          | true =>
            rw [h1, if_pos rfl] at hs
            obtain ⟨o1, o2, o3⟩ := one_parts h1
            simp only at o1 o2 o3 hs
            have p1 := putI_len es f
            have hfin := slI_ne (putI_ne (putI es f) (t + 1))
            simp -implicitDefEqProofs (maxSteps := 600000) (disch := (first | omega | decide)) only [go_sem, ↓reduceIte, Nat.reduceEqDiff, reduceCtorEq, Nat.reduceAdd, Nat.reduceSub, Nat.reduceMul, Nat.reduceLeDiff, Nat.reduceLT, Nat.reduceBEq, Nat.reduceBNe, Int.reduceLE, Int.reduceLT, Int.reduceBEq, Int.reduceBNe, Int.reduceEq, Int.reduceNe, Int.reduceAdd, Int.reduceSub, Int.reduceMul, Int.reduceNeg, Int.reduceToNat, hltb', e1, h1, wrap_i64, List.length_map]
            exact ⟨⟨j + 1, hltb⟩, by simp [hs, hfin, A.under], by show b.length - (j + 1) < b.length - j; omega⟩
        · have hltb' : ¬ (j : Int) < (b.length : Int) := by omega
          rw [List.take_of_length_le (by omega)] at *
          have hfin : edgesR ea b = edges2 a b := by rw [← hea]; rfl
          simp -implicitDefEqProofs (maxSteps := 600000) (disch := (first | omega | decide)) only [go_sem, ↓reduceIte, Nat.reduceEqDiff, reduceCtorEq, Nat.reduceAdd, Nat.reduceSub, Nat.reduceMul, Nat.reduceLeDiff, Nat.reduceLT, Nat.reduceBEq, Nat.reduceBNe, Int.reduceLE, Int.reduceLT, Int.reduceBEq, Int.reduceBNe, Int.reduceEq, Int.reduceNe, Int.reduceAdd, Int.reduceSub, Int.reduceMul, Int.reduceNeg, Int.reduceToNat, hltb', hfin, List.length_map]
end Go.Proofs.Ytbnmicpgbcfooaa
