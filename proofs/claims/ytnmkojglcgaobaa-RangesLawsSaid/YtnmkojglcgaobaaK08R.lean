/- Chapter 08: the example; the laws' walks. -/
import Derived.Test.YtnmkojglcgaobaaK08L
namespace Go.Proofs.Ytnmkojglcgaobaa
open Go.Abs
set_option linter.unusedSimpArgs false
set_option linter.unusedVariables false
set_option linter.unusedSectionVars false
set_option maxRecDepth 20000
set_option maxHeartbeats 8000000

theorem setS_has' (p : List UInt8 → Bool) : setS (hasRs (setS p)) = setS p := setS_self (setS_right p)
theorem aw1 : setS (hasRs [⟨[99], [100], false⟩, ⟨[97], [99], false⟩]) = [⟨[97], [100], false⟩] := (setS_eq (by decide) fun s => by
  have r1 : rightR ⟨[97], [100], false⟩ = true := by decide
  have r2 : rightR ⟨[99], [100], false⟩ = true := by decide
  have r3 : rightR ⟨[97], [99], false⟩ = true := by decide
  have l1 : ltB [97] [99] = true := by decide
  have l2 : ltB [99] [100] = true := by decide
  simp only [hasRs_cons, hasRs_nil, hasR_eq, r1, r2, r3, upTo, Bool.true_and, Bool.false_or, Bool.or_false]
  cases h1 : ltB s [97]
  · cases h2 : ltB s [99]
    · cases h3 : ltB s [100] <;> rfl
    · have := lt_trans' h2 l2
      rw [this]; rfl
  · have h2 := lt_trans' h1 l1
    have h3 := lt_trans' h2 l2
    rw [h2, h3]; rfl).symm
theorem aw2 : setS (fun s => !hasRs [] s) = [⟨[], [], true⟩] := (setS_eq (by decide) fun s => by
  rw [hasRs_cons, hasRs_nil, all_has]; rfl).symm
theorem aw3 : setS (fun s => !hasRs [⟨[], [], true⟩] s) = [] := (setS_eq (l := []) rfl fun s => by
  rw [hasRs_cons, hasRs_nil, all_has]; rfl).symm
theorem ok_law08_awake : codeOK Try.prog RL12 Try.f27.ntmps (Try.f27.body.getD .skip) = true := by kernel_rfl
theorem c_law08_awake : CallA Try.prog 27 [] (· = .bool true) := by
  refine callA_of_body RL12_ok mixed Try.func27 rfl (Nat.le_of_ble_eq_true rfl) ok_law08_awake ?_
  unfold Try.f27
  have h1 := r_ranges_Of (l := [⟨[99], [100], false⟩, ⟨[97], [99], false⟩]) ⟨by simp, by intro r hr; simp at hr; rcases hr with rfl | rfl <;> exact ⟨by simp, by simp⟩⟩
  have h2 := r_ranges_Not (l := []) ⟨by simp, okL_nil⟩
  have h3 := r_ranges_Not (l := [⟨[], [], true⟩]) ⟨by simp, by intro r hr; simp at hr; rcases hr with rfl; exact ⟨by simp, by simp⟩⟩
  rw [aw1] at h1; rw [aw2] at h2; rw [aw3] at h3
  simp only [List.map_cons, List.map_nil, Rng.enc] at h1 h2 h3
  have b1 : (([97] : List UInt8) == [97]) = true := by decide
  have b2 : (([100] : List UInt8) == [100]) = true := by decide
  have b3 : (([] : List UInt8) == []) = true := by decide
  simp -implicitDefEqProofs (maxSteps := 600000) (disch := (first | omega | decide)) only [go_sem, ↓reduceIte, Nat.reduceEqDiff, reduceCtorEq, Nat.reduceAdd, Nat.reduceSub, Nat.reduceMul, Nat.reduceLeDiff, Nat.reduceLT, Nat.reduceBEq, Nat.reduceBNe, Int.reduceLE, Int.reduceLT, Int.reduceBEq, Int.reduceBNe, Int.reduceEq, Int.reduceNe, Int.reduceAdd, Int.reduceSub, Int.reduceMul, Int.reduceNeg, Int.reduceToNat, h1, h2, h3, b1, b2, b3]
noncomputable def RLw : Tab := RL12.add 27 (entry (fun (u : Unit) => []) (fun u => True) (fun u => .bool true))
theorem RLw_ok : TabOK Try.prog RLw := RL12_ok.add (callable_of Try.func27 (by kernel_rfl) (by kernel_rfl)) (entry_ok fun u h => c_law08_awake)
@[go_sem] theorem RLw_old {g : FuncId} {xs : List A} (h : g ≠ 27) : RLw.f g xs = RL12.f g xs := Tab.add_ne h
@[go_sem] theorem RLw_eff {g : FuncId} : RLw.eff g = RL12.eff g := rfl
@[go_sem] theorem RLw_frz {g : FuncId} : RLw.frz g = RL12.frz g := rfl
@[go_sem] theorem RLw_effT : RLw.effT = RL12.effT := rfl
@[go_sem] theorem RLw_fix : RLw.fix = RL12.fix := rfl
@[go_sem] theorem RLw_nf : RLw.nf = RL12.nf := rfl
@[go_sem] theorem RLw_ords {n : Nat} : RLw.ords n = RL12.ords n := rfl
@[go_sem] theorem RLw_hp : RLw.hp = RL12.hp := rfl
theorem RLw_law08_awake (u : Unit) (h : True) : RLw.f 27 [] = some (.bool true) :=
  (Tab.add_eq : RLw.f 27 [] = (entry (fun (u : Unit) => []) (fun u => True) (fun u => .bool true)) []).trans (entry_eq (fun i j h => by first | (cases i; cases j; rfl; done) | simpa [Prod.ext_iff, and_assoc] using h | (simp at h; omega)) u h)
@[go_sem] theorem r_awake : RLw.f 27 [] = some (.bool true) := RLw_law08_awake () trivial
noncomputable def RLx : Tab := RLw.add 35 (entry (fun (v : List Rng × List UInt8) => [.slc (v.1.map Rng.enc), .str v.2]) (fun v => v.1.length ≤ 100000 ∧ okL v.1 ∧ v.2.length ≤ 9223372036854775807) (fun v => .bool (hasRs v.1 v.2)))
theorem RLx_ok : TabOK Try.prog RLx := RLw_ok.add (callable_of Try.func35 (by kernel_rfl) (by kernel_rfl)) (entry_ok fun v h => c_ref08_Has v.1 v.2 (by omega) h.2.1 h.2.2)
@[go_sem] theorem RLx_old {g : FuncId} {xs : List A} (h : g ≠ 35) : RLx.f g xs = RLw.f g xs := Tab.add_ne h
@[go_sem] theorem RLx_eff {g : FuncId} : RLx.eff g = RLw.eff g := rfl
@[go_sem] theorem RLx_frz {g : FuncId} : RLx.frz g = RLw.frz g := rfl
@[go_sem] theorem RLx_effT : RLx.effT = RLw.effT := rfl
@[go_sem] theorem RLx_fix : RLx.fix = RLw.fix := rfl
@[go_sem] theorem RLx_nf : RLx.nf = RLw.nf := rfl
@[go_sem] theorem RLx_ords {n : Nat} : RLx.ords n = RLw.ords n := rfl
@[go_sem] theorem RLx_hp : RLx.hp = RLw.hp := rfl
theorem RLx_ref08_Has (v : List Rng × List UInt8) (h : v.1.length ≤ 100000 ∧ okL v.1 ∧ v.2.length ≤ 9223372036854775807) : RLx.f 35 [.slc (v.1.map Rng.enc), .str v.2] = some (.bool (hasRs v.1 v.2)) :=
  (Tab.add_eq : RLx.f 35 [.slc (v.1.map Rng.enc), .str v.2] = (entry (fun (v : List Rng × List UInt8) => [.slc (v.1.map Rng.enc), .str v.2]) (fun v => v.1.length ≤ 100000 ∧ okL v.1 ∧ v.2.length ≤ 9223372036854775807) (fun v => .bool (hasRs v.1 v.2))) [.slc (v.1.map Rng.enc), .str v.2]).trans (entry_eq (fun i j h => by first | (cases i; cases j; rfl; done) | simpa [Prod.ext_iff, and_assoc] using h | (simp at h; omega)) v h)
@[go_sem] theorem r_ref08_Has {a : List Rng} {b : List UInt8} (h : a.length ≤ 100000 ∧ okL a ∧ b.length ≤ 9223372036854775807) : RLx.f 35 [.slc (a.map Rng.enc), .str b] = some (.bool (hasRs a b)) := RLx_ref08_Has (a, b) h
theorem c_ref08_Long2 (l : List Rng) (m : Int) (hl : l.length ≤ 9223372036854775807) : CallA Try.prog 28 [.slc (l.map Rng.enc), .int .i64 m] (· = .bool (longRs l m)) := by
  refine callA_of_body T07_ok mixed Try.func28 rfl (Nat.le_of_ble_eq_true rfl) ok_ref08_Long ?_
  unfold Try.f28
  by_cases h0 : m < (l.length : Int)
  · have hh : longRs l m = true := by simp [longRs, h0]
    simp -implicitDefEqProofs (maxSteps := 600000) (disch := (first | omega | decide)) only [go_sem, ↓reduceIte, Nat.reduceEqDiff, reduceCtorEq, Nat.reduceAdd, Nat.reduceSub, Nat.reduceMul, Nat.reduceLeDiff, Nat.reduceLT, Nat.reduceBEq, Nat.reduceBNe, Int.reduceLE, Int.reduceLT, Int.reduceBEq, Int.reduceBNe, Int.reduceEq, Int.reduceNe, Int.reduceAdd, Int.reduceSub, Int.reduceMul, Int.reduceNeg, Int.reduceToNat, h0, hh, List.length_map]
  · have hh : longRs l m = l.any fun r => decide (40 < r.lo.length) || decide (40 < r.hi.length) := by simp [longRs, h0]
    simp -implicitDefEqProofs (maxSteps := 600000) (disch := (first | omega | decide)) only [go_sem, ↓reduceIte, Nat.reduceEqDiff, reduceCtorEq, Nat.reduceAdd, Nat.reduceSub, Nat.reduceMul, Nat.reduceLeDiff, Nat.reduceLT, Nat.reduceBEq, Nat.reduceBNe, Int.reduceLE, Int.reduceLT, Int.reduceBEq, Int.reduceBNe, Int.reduceEq, Int.reduceNe, Int.reduceAdd, Int.reduceSub, Int.reduceMul, Int.reduceNeg, Int.reduceToNat, h0, List.length_map]
    rw [hh]
    refine wpA_loop [0] (ι := {k : Nat // k ≤ l.length ∧ (l.any fun r => decide (40 < r.lo.length) || decide (40 < r.hi.length)) = ((l.drop k).any fun r => decide (40 < r.lo.length) || decide (40 < r.hi.length))}) (fun p => [(5, .int .i64 p.1), (4, .bool false)]) (fun _ => []) (fun p => l.length - p.1) ⟨0, by omega, rfl⟩ (Nat.zero_le _) ?_ ?_
    · simp -implicitDefEqProofs (maxSteps := 600000) (disch := (first | omega | decide)) only [go_sem, ↓reduceIte, Nat.reduceEqDiff, reduceCtorEq, Nat.reduceAdd, Nat.reduceSub, Nat.reduceMul, Nat.reduceLeDiff, Nat.reduceLT, Nat.reduceBEq, Nat.reduceBNe, Int.reduceLE, Int.reduceLT, Int.reduceBEq, Int.reduceBNe, Int.reduceEq, Int.reduceNe, Int.reduceAdd, Int.reduceSub, Int.reduceMul, Int.reduceNeg, Int.reduceToNat]
    · rintro ⟨k, hk, hd⟩
      simp only
      by_cases hlt : k < l.length
      · have hlt' : (k : Int) < (l.length : Int) := by omega
        have e1 := rng_get hlt
        rw [List.drop_eq_getElem_cons hlt, List.any_cons] at hd
        generalize hx : l[k] = x at *
        obtain ⟨lo, hi, op⟩ := x
        simp only at hd
        by_cases h1 : 40 < lo.length
        · have h1' : (40 : Int) < (lo.length : Int) := by omega
          rw [decide_eq_true h1, Bool.true_or, Bool.true_or] at hd
          simp -implicitDefEqProofs (maxSteps := 600000) (disch := (first | omega | decide)) only [go_sem, ↓reduceIte, Nat.reduceEqDiff, reduceCtorEq, Nat.reduceAdd, Nat.reduceSub, Nat.reduceMul, Nat.reduceLeDiff, Nat.reduceLT, Nat.reduceBEq, Nat.reduceBNe, Int.reduceLE, Int.reduceLT, Int.reduceBEq, Int.reduceBNe, Int.reduceEq, Int.reduceNe, Int.reduceAdd, Int.reduceSub, Int.reduceMul, Int.reduceNeg, Int.reduceToNat, hlt', e1, h1', hd, wrap_i64, List.length_map]
        · have h1' : ¬ (40 : Int) < (lo.length : Int) := by omega
          by_cases h2 : 40 < hi.length
          · have h2' : (40 : Int) < (hi.length : Int) := by omega
            rw [decide_eq_true h2, Bool.or_true, Bool.true_or] at hd
            simp -implicitDefEqProofs (maxSteps := 600000) (disch := (first | omega | decide)) only [go_sem, ↓reduceIte, Nat.reduceEqDiff, reduceCtorEq, Nat.reduceAdd, Nat.reduceSub, Nat.reduceMul, Nat.reduceLeDiff, Nat.reduceLT, Nat.reduceBEq, Nat.reduceBNe, Int.reduceLE, Int.reduceLT, Int.reduceBEq, Int.reduceBNe, Int.reduceEq, Int.reduceNe, Int.reduceAdd, Int.reduceSub, Int.reduceMul, Int.reduceNeg, Int.reduceToNat, hlt', e1, h1', h2', hd, wrap_i64, List.length_map]
          · have h2' : ¬ (40 : Int) < (hi.length : Int) := by omega
            rw [decide_eq_false h1, decide_eq_false h2, Bool.or_false, Bool.false_or] at hd
            simp -implicitDefEqProofs (maxSteps := 600000) (disch := (first | omega | decide)) only [go_sem, ↓reduceIte, Nat.reduceEqDiff, reduceCtorEq, Nat.reduceAdd, Nat.reduceSub, Nat.reduceMul, Nat.reduceLeDiff, Nat.reduceLT, Nat.reduceBEq, Nat.reduceBNe, Int.reduceLE, Int.reduceLT, Int.reduceBEq, Int.reduceBNe, Int.reduceEq, Int.reduceNe, Int.reduceAdd, Int.reduceSub, Int.reduceMul, Int.reduceNeg, Int.reduceToNat, hlt', e1, h1', h2', wrap_i64, List.length_map]
            exact ⟨⟨k + 1, hlt, hd⟩, by simp, by show l.length - (k + 1) < l.length - k; omega⟩
      · have hlt' : ¬ (k : Int) < (l.length : Int) := by omega
        rw [List.drop_of_length_le (by omega)] at hd
        simp -implicitDefEqProofs (maxSteps := 600000) (disch := (first | omega | decide)) only [go_sem, ↓reduceIte, Nat.reduceEqDiff, reduceCtorEq, Nat.reduceAdd, Nat.reduceSub, Nat.reduceMul, Nat.reduceLeDiff, Nat.reduceLT, Nat.reduceBEq, Nat.reduceBNe, Int.reduceLE, Int.reduceLT, Int.reduceBEq, Int.reduceBNe, Int.reduceEq, Int.reduceNe, Int.reduceAdd, Int.reduceSub, Int.reduceMul, Int.reduceNeg, Int.reduceToNat, hlt', hd, List.length_map]
noncomputable def RLy : Tab := RLx.add 28 (entry (fun (v : List Rng × Int) => [.slc (v.1.map Rng.enc), .int .i64 v.2]) (fun v => v.1.length ≤ 9223372036854775807) (fun v => .bool (longRs v.1 v.2)))
theorem RLy_ok : TabOK Try.prog RLy := RLx_ok.add (callable_of Try.func28 (by kernel_rfl) (by kernel_rfl)) (entry_ok fun v h => c_ref08_Long2 v.1 v.2 h)
@[go_sem] theorem RLy_old {g : FuncId} {xs : List A} (h : g ≠ 28) : RLy.f g xs = RLx.f g xs := Tab.add_ne h
@[go_sem] theorem RLy_eff {g : FuncId} : RLy.eff g = RLx.eff g := rfl
@[go_sem] theorem RLy_frz {g : FuncId} : RLy.frz g = RLx.frz g := rfl
@[go_sem] theorem RLy_effT : RLy.effT = RLx.effT := rfl
@[go_sem] theorem RLy_fix : RLy.fix = RLx.fix := rfl
@[go_sem] theorem RLy_nf : RLy.nf = RLx.nf := rfl
@[go_sem] theorem RLy_ords {n : Nat} : RLy.ords n = RLx.ords n := rfl
@[go_sem] theorem RLy_hp : RLy.hp = RLx.hp := rfl
theorem RLy_ref08_Long (v : List Rng × Int) (h : v.1.length ≤ 9223372036854775807) : RLy.f 28 [.slc (v.1.map Rng.enc), .int .i64 v.2] = some (.bool (longRs v.1 v.2)) :=
  (Tab.add_eq : RLy.f 28 [.slc (v.1.map Rng.enc), .int .i64 v.2] = (entry (fun (v : List Rng × Int) => [.slc (v.1.map Rng.enc), .int .i64 v.2]) (fun v => v.1.length ≤ 9223372036854775807) (fun v => .bool (longRs v.1 v.2))) [.slc (v.1.map Rng.enc), .int .i64 v.2]).trans (entry_eq (fun i j h => by first | (cases i; cases j; rfl; done) | simpa [Prod.ext_iff, and_assoc] using h | (simp at h; omega)) v h)
@[go_sem] theorem y_ref08_Long {a : List Rng} {b : Int} (h : a.length ≤ 9223372036854775807) : RLy.f 28 [.slc (a.map Rng.enc), .int .i64 b] = some (.bool (longRs a b)) := RLy_ref08_Long (a, b) h
theorem long_len {l : List Rng} {m : Int} (h : longRs l m = false) : ¬ m < (l.length : Int) := by
  unfold longRs at h
  simp only [Bool.or_eq_false_iff, decide_eq_false_iff_not] at h
  exact h.1
theorem ok_law08_RangesOf : codeOK Try.prog RLy Try.f7.ntmps (Try.f7.body.getD .skip) = true := by kernel_rfl
theorem c_law08_RangesOf (l : List Rng) (s : List UInt8) (hl : l.length ≤ maxLen) (ol : okL l) (hs : s.length ≤ 9223372036854775807) : CallA Try.prog 7 [.slc (l.map Rng.enc), .str s] (· = .bool true) := by
  refine callA_of_body RLy_ok mixed Try.func7 rfl (Nat.le_of_ble_eq_true rfl) ok_law08_RangesOf ?_
  unfold Try.f7
  have ml := maxLen_le
  have g1 := y_ref08_Long (a := l) (b := 30) (by omega)
  cases hg : longRs l 30 with
  | true =>
    rw [hg] at g1
    simp -implicitDefEqProofs (maxSteps := 600000) (disch := (first | omega | decide)) only [go_sem, ↓reduceIte, Nat.reduceEqDiff, reduceCtorEq, Nat.reduceAdd, Nat.reduceSub, Nat.reduceMul, Nat.reduceLeDiff, Nat.reduceLT, Nat.reduceBEq, Nat.reduceBNe, Int.reduceLE, Int.reduceLT, Int.reduceBEq, Int.reduceBNe, Int.reduceEq, Int.reduceNe, Int.reduceAdd, Int.reduceSub, Int.reduceMul, Int.reduceNeg, Int.reduceToNat, g1, List.length_map]
  | false =>
    have hlen := long_len hg
    rw [hg] at g1
    by_cases h2 : (300 : Int) < (s.length : Int)
    · simp -implicitDefEqProofs (maxSteps := 600000) (disch := (first | omega | decide)) only [go_sem, ↓reduceIte, Nat.reduceEqDiff, reduceCtorEq, Nat.reduceAdd, Nat.reduceSub, Nat.reduceMul, Nat.reduceLeDiff, Nat.reduceLT, Nat.reduceBEq, Nat.reduceBNe, Int.reduceLE, Int.reduceLT, Int.reduceBEq, Int.reduceBNe, Int.reduceEq, Int.reduceNe, Int.reduceAdd, Int.reduceSub, Int.reduceMul, Int.reduceNeg, Int.reduceToNat, g1, h2, List.length_map]
    · have lu := setS_len l
      have ou := setS_ok (hasRs l)
      have f1 := r_ranges_Of (l := l) ⟨by omega, ol⟩
      have f2 := r_ranges_Right (l := l) ⟨by omega, ol⟩
      have f3 := r_ref08_Right (l := l) ⟨by omega, ol⟩
      have f4 := r_ranges_Has (a := l) (b := s) ⟨by omega, ol, hs⟩
      have f5 := r_ref08_Has (a := l) (b := s) ⟨by omega, ol, hs⟩
      have f6 := r_ref08_Of (l := l) ⟨by omega, ol⟩
      have f7 := r_ranges_Right (l := setS (hasRs l)) ⟨by omega, ou⟩
      have f8 := r_ref08_Same (a := setS (hasRs l)) (b := setS (hasRs l)) ⟨by omega, by omega⟩
      have f9 := r_ref08_Same (a := setS (hasRs l)) (b := l) ⟨by omega, by omega⟩
      rw [sameRs_self] at f8
      rw [setS_right] at f7
      have w2 : ∀ x : Bool, (x == x) = true := fun x => by simp
      cases hr : rightRs l with
      | true =>
        rw [setS_self hr, sameRs_self] at f9
        rw [setS_self hr] at f1 f6 f7 f8
        rw [hr] at f2 f3
        simp -implicitDefEqProofs (maxSteps := 600000) (disch := (first | omega | decide)) only [go_sem, ↓reduceIte, Nat.reduceEqDiff, reduceCtorEq, Nat.reduceAdd, Nat.reduceSub, Nat.reduceMul, Nat.reduceLeDiff, Nat.reduceLT, Nat.reduceBEq, Nat.reduceBNe, Int.reduceLE, Int.reduceLT, Int.reduceBEq, Int.reduceBNe, Int.reduceEq, Int.reduceNe, Int.reduceAdd, Int.reduceSub, Int.reduceMul, Int.reduceNeg, Int.reduceToNat, g1, h2, f1, f2, f3, f4, f5, f6, f7, f8, f9, w2, List.length_map]
      | false =>
        rw [hr] at f2 f3
        simp -implicitDefEqProofs (maxSteps := 600000) (disch := (first | omega | decide)) only [go_sem, ↓reduceIte, Nat.reduceEqDiff, reduceCtorEq, Nat.reduceAdd, Nat.reduceSub, Nat.reduceMul, Nat.reduceLeDiff, Nat.reduceLT, Nat.reduceBEq, Nat.reduceBNe, Int.reduceLE, Int.reduceLT, Int.reduceBEq, Int.reduceBNe, Int.reduceEq, Int.reduceNe, Int.reduceAdd, Int.reduceSub, Int.reduceMul, Int.reduceNeg, Int.reduceToNat, g1, h2, f1, f2, f3, f4, f5, f6, f7, f8, w2, List.length_map]
theorem setS_len2 (a b : List Rng) (kp : Bool → Bool → Bool) : (setS fun s => kp (hasRs a s) (hasRs b s)).length ≤ 1 + 2 * (a.length + b.length) := by
  rw [← (mk_of (kp := kp) (a := a) (b := b) (edgesS_up a b) (edgesS_nil a b) (edgesS_len17 a b) (fun r hr => edgesS_all a b r (by simp [hr])) (fun r hr => edgesS_all a b r (by simp [hr]))).1, List.length_reverse]
  have h1 := mkS_len (fun s => kp (hasRs a s) (hasRs b s)) (edgesS a b) ([], false)
  have h2 := edgesS_len a b
  have h3 : (mkS (fun s => kp (hasRs a s) (hasRs b s)) (edgesS a b)).1.length ≤ 0 + (edgesS a b).length := h1
  omega
theorem ok_law08_RangesSets : codeOK Try.prog RLy Try.f5.ntmps (Try.f5.body.getD .skip) = true := by kernel_rfl
theorem c_law08_RangesSets (a b : List Rng) (s : List UInt8) (hla : a.length ≤ maxLen) (hlb : b.length ≤ maxLen) (oa : okL a) (ob : okL b) (hs : s.length ≤ 9223372036854775807) : CallA Try.prog 5 [.slc (a.map Rng.enc), .slc (b.map Rng.enc), .str s] (· = .bool true) := by
  refine callA_of_body RLy_ok mixed Try.func5 rfl (Nat.le_of_ble_eq_true rfl) ok_law08_RangesSets ?_
  unfold Try.f5
  have ml := maxLen_le
  have g1 := y_ref08_Long (a := a) (b := 20) (by omega)
  have g2 := y_ref08_Long (a := b) (b := 20) (by omega)
  cases hg : longRs a 20 with
  | true =>
    rw [hg] at g1
    simp -implicitDefEqProofs (maxSteps := 600000) (disch := (first | omega | decide)) only [go_sem, ↓reduceIte, Nat.reduceEqDiff, reduceCtorEq, Nat.reduceAdd, Nat.reduceSub, Nat.reduceMul, Nat.reduceLeDiff, Nat.reduceLT, Nat.reduceBEq, Nat.reduceBNe, Int.reduceLE, Int.reduceLT, Int.reduceBEq, Int.reduceBNe, Int.reduceEq, Int.reduceNe, Int.reduceAdd, Int.reduceSub, Int.reduceMul, Int.reduceNeg, Int.reduceToNat, g1, List.length_map]
  | false =>
    have la := long_len hg
    rw [hg] at g1
    cases hg' : longRs b 20 with
    | true =>
      rw [hg'] at g2
      simp -implicitDefEqProofs (maxSteps := 600000) (disch := (first | omega | decide)) only [go_sem, ↓reduceIte, Nat.reduceEqDiff, reduceCtorEq, Nat.reduceAdd, Nat.reduceSub, Nat.reduceMul, Nat.reduceLeDiff, Nat.reduceLT, Nat.reduceBEq, Nat.reduceBNe, Int.reduceLE, Int.reduceLT, Int.reduceBEq, Int.reduceBNe, Int.reduceEq, Int.reduceNe, Int.reduceAdd, Int.reduceSub, Int.reduceMul, Int.reduceNeg, Int.reduceToNat, g1, g2, List.length_map]
    | false =>
      have lb := long_len hg'
      rw [hg'] at g2
      by_cases h2 : (300 : Int) < (s.length : Int)
      · simp -implicitDefEqProofs (maxSteps := 600000) (disch := (first | omega | decide)) only [go_sem, ↓reduceIte, Nat.reduceEqDiff, reduceCtorEq, Nat.reduceAdd, Nat.reduceSub, Nat.reduceMul, Nat.reduceLeDiff, Nat.reduceLT, Nat.reduceBEq, Nat.reduceBNe, Int.reduceLE, Int.reduceLT, Int.reduceBEq, Int.reduceBNe, Int.reduceEq, Int.reduceNe, Int.reduceAdd, Int.reduceSub, Int.reduceMul, Int.reduceNeg, Int.reduceToNat, g1, g2, h2, List.length_map]
      · have k : a.length ≤ 100000 ∧ b.length ≤ 100000 ∧ okL a ∧ okL b := ⟨by omega, by omega, oa, ob⟩
        have k' : a.length ≤ 1000 ∧ b.length ≤ 1000 ∧ okL a ∧ okL b := ⟨by omega, by omega, oa, ob⟩
        have u1 := r_ranges_Union k
        have u2 := r_ranges_Meet k
        have u3 := r_ranges_Less k
        have u4 := r_ranges_Not (l := a) ⟨by omega, oa⟩
        have m1 := r_Make1 k'
        have m2 := r_Make2 k'
        have m3 := r_Make3 k'
        have m4 := r_Make4 k'.1 oa
        have i1 := setS_has (isS_kp (fun x y => x || y) a b) s
        have i2 := setS_has (isS_kp (fun x y => x && y) a b) s
        have i3 := setS_has (isS_kp (fun x y => x && !y) a b) s
        have i4 := setS_has (isS_kp (fun x _ => !x) a b) s
        have ha := r_ref08_Has (a := a) (b := s) ⟨by omega, oa, hs⟩
        have hb := r_ref08_Has (a := b) (b := s) ⟨by omega, ob, hs⟩
        have o1 := setS_ok fun s => hasRs a s || hasRs b s
        have o2 := setS_ok fun s => hasRs a s && hasRs b s
        have o3 := setS_ok fun s => hasRs a s && !hasRs b s
        have o4 := setS_ok fun s => !hasRs a s
        have n1 := setS_len2 a b fun x y => x || y
        have n2 := setS_len2 a b fun x y => x && y
        have n3 := setS_len2 a b fun x y => x && !y
        have n4 := setS_len2 a b fun x _ => !x
        have w2 : ∀ x : Bool, (x == x) = true := fun x => by simp
        try simp only at i1 i2 i3 i4 n1 n2 n3 n4
        generalize (setS fun s => hasRs a s || hasRs b s) = U at *
        generalize (setS fun s => hasRs a s && hasRs b s) = M at *
        generalize (setS fun s => hasRs a s && !hasRs b s) = D at *
        generalize (setS fun s => !hasRs a s) = N at *
        have hu := r_ref08_Has (a := U) (b := s) ⟨by omega, o1, hs⟩
        have hm := r_ref08_Has (a := M) (b := s) ⟨by omega, o2, hs⟩
        have hd := r_ref08_Has (a := D) (b := s) ⟨by omega, o3, hs⟩
        have hn := r_ref08_Has (a := N) (b := s) ⟨by omega, o4, hs⟩
        have s1 := r_ref08_Same (a := U) (b := U) ⟨by omega, by omega⟩
        have s2 := r_ref08_Same (a := M) (b := M) ⟨by omega, by omega⟩
        have s3 := r_ref08_Same (a := D) (b := D) ⟨by omega, by omega⟩
        have s4 := r_ref08_Same (a := N) (b := N) ⟨by omega, by omega⟩
        rw [sameRs_self] at s1 s2 s3 s4
        rw [i1] at hu; rw [i2] at hm; rw [i3] at hd; rw [i4] at hn
        cases hx : hasRs a s <;> cases hy : hasRs b s <;> rw [hx] at ha hu hm hd hn <;> rw [hy] at hb hu hm hd <;> simp only [Bool.true_and, Bool.and_true, Bool.false_and, Bool.and_false, Bool.or_true, Bool.true_or, Bool.or_false, Bool.false_or, Bool.not_true, Bool.not_false] at hu hm hd hn <;> simp -implicitDefEqProofs (maxSteps := 600000) (disch := (first | omega | decide)) only [go_sem, ↓reduceIte, Nat.reduceEqDiff, reduceCtorEq, Nat.reduceAdd, Nat.reduceSub, Nat.reduceMul, Nat.reduceLeDiff, Nat.reduceLT, Nat.reduceBEq, Nat.reduceBNe, Int.reduceLE, Int.reduceLT, Int.reduceBEq, Int.reduceBNe, Int.reduceEq, Int.reduceNe, Int.reduceAdd, Int.reduceSub, Int.reduceMul, Int.reduceNeg, Int.reduceToNat, g1, g2, h2, u1, u2, u3, u4, m1, m2, m3, m4, ha, hb, hu, hm, hd, hn, s1, s2, s3, s4, List.length_map]
theorem same_iff {p q : List UInt8 → Bool} (hp : IsS p) (hq : IsS q) : sameRs (setS p) (setS q) = true ↔ ∀ s, p s = q s := by
  unfold sameRs
  rw [decide_eq_true_iff]
  constructor
  · intro e s
    have h1 := setS_has hp s
    rw [e, setS_has hq] at h1
    exact h1.symm
  · intro h
    have : p = q := funext h
    rw [this]
theorem same_within (a b : List Rng) : sameRs (setS (hasRs a)) (setS (hasRs b)) = (emptyS (fun s => hasRs a s && !hasRs b s) && emptyS (fun s => hasRs b s && !hasRs a s)) := by
  rw [Bool.eq_iff_iff, same_iff (isS_has a) (isS_has b), Bool.and_eq_true, empty_iff (isS_kp (fun x y => x && !y) a b), empty_iff (isS_kp (fun x y => x && !y) b a)]
  constructor
  · intro h
    exact ⟨fun s => by rw [h s]; cases hasRs b s <;> rfl, fun s => by rw [h s]; cases hasRs b s <;> rfl⟩
  · rintro ⟨h1, h2⟩ s
    have k1 := h1 s
    have k2 := h2 s
    cases h3 : hasRs a s <;> cases h4 : hasRs b s <;> rw [h3, h4] at k1 k2 <;> first | rfl | (cases k1; done) | (cases k2; done)
theorem isS_not (a : List Rng) : IsS fun s => !hasRs a s := isS_kp (fun x _ => !x) a a
theorem isS_or (a b : List Rng) : IsS fun s => hasRs a s || hasRs b s := isS_kp (fun x y => x || y) a b
theorem isS_and (a b : List Rng) : IsS fun s => hasRs a s && hasRs b s := isS_kp (fun x y => x && y) a b
theorem isS_less (a b : List Rng) : IsS fun s => hasRs a s && !hasRs b s := isS_kp (fun x y => x && !y) a b
theorem len_or (a b : List Rng) : (setS fun s => hasRs a s || hasRs b s).length ≤ 1 + 2 * (a.length + b.length) := setS_len2 a b fun x y => x || y
theorem len_and (a b : List Rng) : (setS fun s => hasRs a s && hasRs b s).length ≤ 1 + 2 * (a.length + b.length) := setS_len2 a b fun x y => x && y
theorem len_less (a b : List Rng) : (setS fun s => hasRs a s && !hasRs b s).length ≤ 1 + 2 * (a.length + b.length) := setS_len2 a b fun x y => x && !y
theorem len_not (a : List Rng) : (setS fun s => !hasRs a s).length ≤ 1 + 4 * a.length := by
  have := setS_len2 a a fun x _ => !x
  omega
theorem ok_law08_RangesSame : codeOK Try.prog RLy Try.f8.ntmps (Try.f8.body.getD .skip) = true := by kernel_rfl
theorem c_law08_RangesSame (a b : List Rng) (hla : a.length ≤ maxLen) (hlb : b.length ≤ maxLen) (oa : okL a) (ob : okL b) : CallA Try.prog 8 [.slc (a.map Rng.enc), .slc (b.map Rng.enc)] (· = .bool true) := by
  refine callA_of_body RLy_ok mixed Try.func8 rfl (Nat.le_of_ble_eq_true rfl) ok_law08_RangesSame ?_
  unfold Try.f8
  have ml := maxLen_le
  have g1 := y_ref08_Long (a := a) (b := 20) (by omega)
  have g2 := y_ref08_Long (a := b) (b := 20) (by omega)
  cases hg : longRs a 20 with
  | true =>
    rw [hg] at g1
    simp -implicitDefEqProofs (maxSteps := 600000) (disch := (first | omega | decide)) only [go_sem, ↓reduceIte, Nat.reduceEqDiff, reduceCtorEq, Nat.reduceAdd, Nat.reduceSub, Nat.reduceMul, Nat.reduceLeDiff, Nat.reduceLT, Nat.reduceBEq, Nat.reduceBNe, Int.reduceLE, Int.reduceLT, Int.reduceBEq, Int.reduceBNe, Int.reduceEq, Int.reduceNe, Int.reduceAdd, Int.reduceSub, Int.reduceMul, Int.reduceNeg, Int.reduceToNat, g1, List.length_map]
  | false =>
    have la := long_len hg
    rw [hg] at g1
    cases hg' : longRs b 20 with
    | true =>
      rw [hg'] at g2
      simp -implicitDefEqProofs (maxSteps := 600000) (disch := (first | omega | decide)) only [go_sem, ↓reduceIte, Nat.reduceEqDiff, reduceCtorEq, Nat.reduceAdd, Nat.reduceSub, Nat.reduceMul, Nat.reduceLeDiff, Nat.reduceLT, Nat.reduceBEq, Nat.reduceBNe, Int.reduceLE, Int.reduceLT, Int.reduceBEq, Int.reduceBNe, Int.reduceEq, Int.reduceNe, Int.reduceAdd, Int.reduceSub, Int.reduceMul, Int.reduceNeg, Int.reduceToNat, g1, g2, List.length_map]
    | false =>
      have lb := long_len hg'
      rw [hg'] at g2
      have k : a.length ≤ 100000 ∧ b.length ≤ 100000 ∧ okL a ∧ okL b := ⟨by omega, by omega, oa, ob⟩
      have kb : b.length ≤ 100000 ∧ a.length ≤ 100000 ∧ okL b ∧ okL a := ⟨by omega, by omega, ob, oa⟩
      have k' : a.length ≤ 1000 ∧ b.length ≤ 1000 ∧ okL a ∧ okL b := ⟨by omega, by omega, oa, ob⟩
      have f1 := r_ranges_Same k
      have f2 := r_ranges_Of (l := a) ⟨by omega, oa⟩
      have f3 := r_ranges_Of (l := b) ⟨by omega, ob⟩
      have la' := setS_len a
      have lb' := setS_len b
      have f4 := r_ref08_Same (a := setS (hasRs a)) (b := setS (hasRs b)) ⟨by omega, by omega⟩
      have f5 := r_ranges_Within k
      have f6 := r_ranges_Within kb
      have f7 := r_Make3 k'
      have hsw := same_within a b
      have n1 := len_not a
      have n2 := len_not b
      have n3 := len_or a b
      have n4 := len_and a b
      have n5 := len_less a b
      have f8 := r_ranges_Not (l := a) ⟨by omega, oa⟩
      have f9 := r_ranges_Not (l := b) ⟨by omega, ob⟩
      have f10 := r_ranges_Not (l := setS fun s => !hasRs a s) ⟨by omega, setS_ok _⟩
      have e10 : (setS fun s => !hasRs (setS fun s => !hasRs a s) s) = setS (hasRs a) := by
        congr 1; funext s; rw [setS_has (isS_not a), Bool.not_not]
      rw [e10] at f10
      have f11 := r_ranges_Same (a := setS (hasRs a)) (b := a) ⟨by omega, by omega, setS_ok _, oa⟩
      rw [setS_has', sameRs_self] at f11
      have f12 := r_ranges_Union k
      have f13 := r_ranges_Not (l := setS fun s => hasRs a s || hasRs b s) ⟨by omega, setS_ok _⟩
      have e13 : (setS fun s => !hasRs (setS fun s => hasRs a s || hasRs b s) s) = setS fun s => !(hasRs a s || hasRs b s) := by
        congr 1; funext s; rw [setS_has (isS_or a b)]
      rw [e13] at f13
      have f14 := r_ranges_Meet (a := setS fun s => !hasRs a s) (b := setS fun s => !hasRs b s) ⟨by omega, by omega, setS_ok _, setS_ok _⟩
      have e14 : (setS fun s => hasRs (setS fun s => !hasRs a s) s && hasRs (setS fun s => !hasRs b s) s) = setS fun s => !(hasRs a s || hasRs b s) := by
        congr 1; funext s; rw [setS_has (isS_not a), setS_has (isS_not b)]; cases hasRs a s <;> cases hasRs b s <;> rfl
      rw [e14] at f14
      have n6 : (setS fun s => !(hasRs a s || hasRs b s)).length ≤ 1 + 2 * (a.length + b.length) := setS_len2 a b fun x y => !(x || y)
      have f15 := r_ranges_Same (a := setS fun s => !(hasRs a s || hasRs b s)) (b := setS fun s => !(hasRs a s || hasRs b s)) ⟨by omega, by omega, setS_ok _, setS_ok _⟩
      rw [sameRs_self] at f15
      have f16 := r_ranges_Less k
      have f17 := r_ranges_Meet k
      have f18 := r_ranges_Union (a := setS fun s => hasRs a s && !hasRs b s) (b := setS fun s => hasRs a s && hasRs b s) ⟨by omega, by omega, setS_ok _, setS_ok _⟩
      have e18 : (setS fun s => hasRs (setS fun s => hasRs a s && !hasRs b s) s || hasRs (setS fun s => hasRs a s && hasRs b s) s) = setS (hasRs a) := by
        congr 1; funext s; rw [setS_has (isS_less a b), setS_has (isS_and a b)]; cases hasRs a s <;> cases hasRs b s <;> rfl
      rw [e18] at f18
      have w2 : ∀ x : Bool, (x == x) = true := fun x => by simp
      have hz : (((setS fun s => hasRs a s && !hasRs b s).length : Int) == 0) = emptyS fun s => hasRs a s && !hasRs b s := by
        unfold emptyS
        rw [Bool.eq_iff_iff, beq_iff_eq, decide_eq_true_iff]; omega
      rw [hsw] at f1 f4
      cases x1 : emptyS fun s => hasRs a s && !hasRs b s <;> cases x2 : emptyS fun s => hasRs b s && !hasRs a s <;> rw [x1] at f1 f4 f5 hz <;> rw [x2] at f1 f4 f6 <;> simp only [Bool.and_true, Bool.and_false] at f1 f4 <;> simp -implicitDefEqProofs (maxSteps := 600000) (disch := (first | omega | decide)) only [go_sem, ↓reduceIte, Nat.reduceEqDiff, reduceCtorEq, Nat.reduceAdd, Nat.reduceSub, Nat.reduceMul, Nat.reduceLeDiff, Nat.reduceLT, Nat.reduceBEq, Nat.reduceBNe, Int.reduceLE, Int.reduceLT, Int.reduceBEq, Int.reduceBNe, Int.reduceEq, Int.reduceNe, Int.reduceAdd, Int.reduceSub, Int.reduceMul, Int.reduceNeg, Int.reduceToNat, g1, g2, f1, f2, f3, f4, f5, f6, f7, f8, f9, f10, f11, f12, f13, f14, f15, f16, f17, f18, hz, w2, List.length_map]
noncomputable def RLz : Tab := { RLy with eff := fun f => f == 36, frz := fun f => f == 36 }
theorem RLz_ok : TabOK Try.prog RLz := ⟨RLy_ok.f, RLy_ok.hp⟩
@[go_sem] theorem RLz_f : RLz.f = RLy.f := rfl
@[go_sem] theorem RLz_eff {g : FuncId} : RLz.eff g = (g == 36) := rfl
@[go_sem] theorem RLz_effT : RLz.effT = false := rfl
@[go_sem] theorem RLz_frz {g : FuncId} : RLz.frz g = (g == 36) := rfl
@[go_sem] theorem RLz_fix {n : Nat} : RLz.fix n = false := rfl
@[go_sem] theorem RLz_nf : RLz.nf = 0 := rfl
@[go_sem] theorem RLz_ords {n : Nat} : RLz.ords n = [] := rfl
theorem ok_law08_RangesLaws : codeOK Try.prog RLz Try.f6.ntmps (Try.f6.body.getD .skip) = true := by kernel_rfl
theorem c_law08_RangesLaws (a b c : List Rng) (hla : a.length ≤ maxLen) (hlb : b.length ≤ maxLen) (hlc : c.length ≤ maxLen) (oa : okL a) (ob : okL b) (oc : okL c) : CallA Try.prog 6 [.slc (a.map Rng.enc), .slc (b.map Rng.enc), .slc (c.map Rng.enc)] (· = .bool true) := by
  refine callA_of_body RLz_ok mixed Try.func6 rfl (Nat.le_of_ble_eq_true rfl) ok_law08_RangesLaws ?_
  unfold Try.f6
  have ml := maxLen_le
  have g1 := y_ref08_Long (a := a) (b := 10) (by omega)
  have g2 := y_ref08_Long (a := b) (b := 10) (by omega)
  have g3 := y_ref08_Long (a := c) (b := 10) (by omega)
  cases hg : longRs a 10 with
  | true =>
    rw [hg] at g1
    simp -implicitDefEqProofs (maxSteps := 600000) (disch := (first | omega | decide)) only [go_sem, ↓reduceIte, Nat.reduceEqDiff, reduceCtorEq, Nat.reduceAdd, Nat.reduceSub, Nat.reduceMul, Nat.reduceLeDiff, Nat.reduceLT, Nat.reduceBEq, Nat.reduceBNe, Int.reduceLE, Int.reduceLT, Int.reduceBEq, Int.reduceBNe, Int.reduceEq, Int.reduceNe, Int.reduceAdd, Int.reduceSub, Int.reduceMul, Int.reduceNeg, Int.reduceToNat, g1, List.length_map]
  | false =>
    have la := long_len hg
    rw [hg] at g1
    cases hg' : longRs b 10 with
    | true =>
      rw [hg'] at g2
      simp -implicitDefEqProofs (maxSteps := 600000) (disch := (first | omega | decide)) only [go_sem, ↓reduceIte, Nat.reduceEqDiff, reduceCtorEq, Nat.reduceAdd, Nat.reduceSub, Nat.reduceMul, Nat.reduceLeDiff, Nat.reduceLT, Nat.reduceBEq, Nat.reduceBNe, Int.reduceLE, Int.reduceLT, Int.reduceBEq, Int.reduceBNe, Int.reduceEq, Int.reduceNe, Int.reduceAdd, Int.reduceSub, Int.reduceMul, Int.reduceNeg, Int.reduceToNat, g1, g2, List.length_map]
    | false =>
      have lb := long_len hg'
      rw [hg'] at g2
      cases hg'' : longRs c 10 with
      | true =>
        rw [hg''] at g3
        simp -implicitDefEqProofs (maxSteps := 600000) (disch := (first | omega | decide)) only [go_sem, ↓reduceIte, Nat.reduceEqDiff, reduceCtorEq, Nat.reduceAdd, Nat.reduceSub, Nat.reduceMul, Nat.reduceLeDiff, Nat.reduceLT, Nat.reduceBEq, Nat.reduceBNe, Int.reduceLE, Int.reduceLT, Int.reduceBEq, Int.reduceBNe, Int.reduceEq, Int.reduceNe, Int.reduceAdd, Int.reduceSub, Int.reduceMul, Int.reduceNeg, Int.reduceToNat, g1, g2, g3, List.length_map]
      | false =>
        have lc := long_len hg''
        rw [hg''] at g3
        have kab : a.length ≤ 100000 ∧ b.length ≤ 100000 ∧ okL a ∧ okL b := ⟨by omega, by omega, oa, ob⟩
        have kba : b.length ≤ 100000 ∧ a.length ≤ 100000 ∧ okL b ∧ okL a := ⟨by omega, by omega, ob, oa⟩
        have kac : a.length ≤ 100000 ∧ c.length ≤ 100000 ∧ okL a ∧ okL c := ⟨by omega, by omega, oa, oc⟩
        have kbc : b.length ≤ 100000 ∧ c.length ≤ 100000 ∧ okL b ∧ okL c := ⟨by omega, by omega, ob, oc⟩
        have n1 := len_or b c
        have n2 := len_and a b
        have n3 := len_and a c
        have n4 := len_and b c
        have n5 := len_or a b
        have n6 := len_or a c
        have n7 := len_less a c
        have n8 := len_less b c
        have u1 := r_ranges_Union kbc
        have u2 := r_ranges_Meet (a := a) (b := setS fun s => hasRs b s || hasRs c s) ⟨by omega, by omega, oa, setS_ok _⟩
        have u3 := r_ranges_Meet kab
        have u4 := r_ranges_Meet kac
        have u5 := r_ranges_Union (a := setS fun s => hasRs a s && hasRs b s) (b := setS fun s => hasRs a s && hasRs c s) ⟨by omega, by omega, setS_ok _, setS_ok _⟩
        have m1 := len_and a (setS fun s => hasRs b s || hasRs c s)
        have e2 : (setS fun s => hasRs a s && hasRs (setS fun s => hasRs b s || hasRs c s) s) = setS fun s => hasRs (setS fun s => hasRs a s && hasRs b s) s || hasRs (setS fun s => hasRs a s && hasRs c s) s := by
          congr 1; funext s; rw [setS_has (isS_or b c), setS_has (isS_and a b), setS_has (isS_and a c)]
          cases hasRs a s <;> cases hasRs b s <;> cases hasRs c s <;> rfl
        rw [e2] at u2 m1
        have s1 := r_ref08_Same (a := setS fun s => hasRs (setS fun s => hasRs a s && hasRs b s) s || hasRs (setS fun s => hasRs a s && hasRs c s) s) (b := setS fun s => hasRs (setS fun s => hasRs a s && hasRs b s) s || hasRs (setS fun s => hasRs a s && hasRs c s) s) ⟨by omega, by omega⟩
        rw [sameRs_self] at s1
        have v1 := r_ranges_Meet kbc
        have v2 := r_ranges_Union (a := a) (b := setS fun s => hasRs b s && hasRs c s) ⟨by omega, by omega, oa, setS_ok _⟩
        have v3 := r_ranges_Union kab
        have v4 := r_ranges_Union kac
        have v5 := r_ranges_Meet (a := setS fun s => hasRs a s || hasRs b s) (b := setS fun s => hasRs a s || hasRs c s) ⟨by omega, by omega, setS_ok _, setS_ok _⟩
        have m2 := len_or a (setS fun s => hasRs b s && hasRs c s)
        have e3 : (setS fun s => hasRs a s || hasRs (setS fun s => hasRs b s && hasRs c s) s) = setS fun s => hasRs (setS fun s => hasRs a s || hasRs b s) s && hasRs (setS fun s => hasRs a s || hasRs c s) s := by
          congr 1; funext s; rw [setS_has (isS_and b c), setS_has (isS_or a b), setS_has (isS_or a c)]
          cases hasRs a s <;> cases hasRs b s <;> cases hasRs c s <;> rfl
        rw [e3] at v2 m2
        have s2 := r_ref08_Same (a := setS fun s => hasRs (setS fun s => hasRs a s || hasRs b s) s && hasRs (setS fun s => hasRs a s || hasRs c s) s) (b := setS fun s => hasRs (setS fun s => hasRs a s || hasRs b s) s && hasRs (setS fun s => hasRs a s || hasRs c s) s) ⟨by omega, by omega⟩
        rw [sameRs_self] at s2
        have w1 := r_ranges_Less (a := setS fun s => hasRs a s || hasRs b s) (b := c) ⟨by omega, by omega, setS_ok _, oc⟩
        have w2 := r_ranges_Less kac
        have w3 := r_ranges_Less kbc
        have w4 := r_ranges_Union (a := setS fun s => hasRs a s && !hasRs c s) (b := setS fun s => hasRs b s && !hasRs c s) ⟨by omega, by omega, setS_ok _, setS_ok _⟩
        have m3 := len_less (setS fun s => hasRs a s || hasRs b s) c
        have e4 : (setS fun s => hasRs (setS fun s => hasRs a s || hasRs b s) s && !hasRs c s) = setS fun s => hasRs (setS fun s => hasRs a s && !hasRs c s) s || hasRs (setS fun s => hasRs b s && !hasRs c s) s := by
          congr 1; funext s; rw [setS_has (isS_or a b), setS_has (isS_less a c), setS_has (isS_less b c)]
          cases hasRs a s <;> cases hasRs b s <;> cases hasRs c s <;> rfl
        rw [e4] at w1 m3
        have s3 := r_ref08_Same (a := setS fun s => hasRs (setS fun s => hasRs a s && !hasRs c s) s || hasRs (setS fun s => hasRs b s && !hasRs c s) s) (b := setS fun s => hasRs (setS fun s => hasRs a s && !hasRs c s) s || hasRs (setS fun s => hasRs b s && !hasRs c s) s) ⟨by omega, by omega⟩
        rw [sameRs_self] at s3
        have x1 := r_ranges_Union kba
        have e5 : (setS fun s => hasRs b s || hasRs a s) = setS fun s => hasRs a s || hasRs b s := by
          congr 1; funext s; rw [Bool.or_comm]
        rw [e5] at x1
        have s4 := r_ref08_Same (a := setS fun s => hasRs a s || hasRs b s) (b := setS fun s => hasRs a s || hasRs b s) ⟨by omega, by omega⟩
        rw [sameRs_self] at s4
        have y1 := r_ranges_Of (l := a ++ b) ⟨by rw [List.length_append]; omega, fun r hr => by
          rcases List.mem_append.1 hr with hr | hr
          · exact oa r hr
          · exact ob r hr⟩
        have e6 : setS (hasRs (a ++ b)) = setS fun s => hasRs a s || hasRs b s := by
          congr 1; funext s; rw [hasRs_append]
        rw [e6, List.map_append] at y1
        have st : ((a.map Rng.enc).isEmpty || strideOf (a.map Rng.enc) == 3) = true := by cases a <;> rfl
        have st' : ((b.map Rng.enc).isEmpty || strideOf (b.map Rng.enc) == 3) = true := by cases b <;> rfl
        have tl : (a.map Rng.enc).take a.length = a.map Rng.enc := List.take_of_length_le (by simp)
        have tl2 : (a.map Rng.enc ++ b.map Rng.enc).take (a.length + b.length) = a.map Rng.enc ++ b.map Rng.enc := List.take_of_length_le (by simp)
        have ll2 : (a.map Rng.enc ++ b.map Rng.enc).length = a.length + b.length := by simp
        simp -implicitDefEqProofs (maxSteps := 600000) (disch := (first | omega | decide)) only [go_sem, ↓reduceIte, Nat.reduceEqDiff, reduceCtorEq, Nat.reduceAdd, Nat.reduceSub, Nat.reduceMul, Nat.reduceLeDiff, Nat.reduceLT, Nat.reduceBEq, Nat.reduceBNe, Int.reduceLE, Int.reduceLT, Int.reduceBEq, Int.reduceBNe, Int.reduceEq, Int.reduceNe, Int.reduceAdd, Int.reduceSub, Int.reduceMul, Int.reduceNeg, Int.reduceToNat, g1, g2, g3, u1, u2, u3, u4, u5, s1, v1, v2, v3, v4, v5, s2, w1, w2, w3, w4, s3, x1, s4, y1, st, st', tl, tl2, ll2, List.length_map, List.contains_nil, List.contains_cons]
        exact ⟨by omega, ⟨Nat.le_refl _, by omega⟩, Nat.le_refl _⟩
theorem fits_rng8 {x : List A} (h : fitsL [.str, .str, .bool] x) : ∃ r : Rng, x = [.str r.lo, .str r.hi, .bool r.op] ∧ r.ok := by
  have ml := maxLen_le
  simp only [fitsL, fits] at h
  obtain ⟨y1, z1, rfl, ⟨s1, rfl, h1⟩, y2, z2, rfl, ⟨s2, rfl, h2⟩, y3, z3, rfl, ⟨b, rfl⟩, rfl⟩ := h
  exact ⟨⟨s1, s2, b⟩, rfl, Nat.le_trans h1 ml, Nat.le_trans h2 ml⟩
theorem fits_rngs {x : A} (h : fits (.rows [.str, .str, .bool]) x) : ∃ l : List Rng, x = .slc (l.map Rng.enc) ∧ l.length ≤ maxLen ∧ okL l := by
  simp only [fits] at h
  obtain ⟨es, rfl, hl, he⟩ := h
  obtain ⟨l, rfl, hk⟩ := list_of (f := Rng.enc) (P := fun r => r.ok) (es := es) (fun e hx => by
    obtain ⟨ys, rfl, hy⟩ := he e hx
    obtain ⟨r, rfl, hr⟩ := fits_rng8 (by simpa only [fitsL, fits] using hy)
    exact ⟨r, rfl, hr⟩)
  exact ⟨l, rfl, by simpa using hl, hk⟩
end Go.Proofs.Ytnmkojglcgaobaa
