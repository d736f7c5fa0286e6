/- Chapter 08: what is made by sweeping; having, sameness; all contracts in one table. -/
import Derived.Test.YtnmkojglcgaobaaK08J
namespace Go.Proofs.Ytnmkojglcgaobaa
open Go.Abs
set_option linter.unusedSimpArgs false
set_option linter.unusedVariables false
set_option linter.unusedSectionVars false
set_option maxRecDepth 20000
set_option maxHeartbeats 8000000

theorem kpR_d {g : FuncId} (h : isOpR g = true) (x y : Bool) : S8d.f g [.bool x, .bool y] = some (.bool (kpR g x y)) := by
  have hz := kpR_z h x y
  have ne : ∀ f : FuncId, isOpR f = false → g ≠ f := fun f hf e => by rw [e, hf] at h; cases h
  exact (S8d_old (ne _ rfl)).trans ((S8c_old (ne _ rfl)).trans ((S8b_old (ne _ rfl)).trans ((S8a_old (ne _ rfl)).trans hz)))
noncomputable def S8e : Tab := S8d.add 64 (entry (fun (v : List Rng × List Rng × FuncId) => [.slc (v.1.map Rng.enc), .slc (v.2.1.map Rng.enc), .fn v.2.2 []]) (fun v => v.1.length ≤ 100000 ∧ v.2.1.length ≤ 100000 ∧ okL v.1 ∧ okL v.2.1 ∧ isOpR v.2.2 = true) (fun v => .slc ((setS fun s => kpR v.2.2 (hasRs v.1 s) (hasRs v.2.1 s)).map Rng.enc)))
theorem S8e_ok : TabOK Try.prog S8e := S8d_ok.add (callable_of Try.func64 (by kernel_rfl) (by kernel_rfl)) (entry_ok fun v h => c_rsweep v.1 v.2.1 v.2.2 (kpR v.2.2) (kpR_d h.2.2.2.2) h.1 h.2.1 h.2.2.1 h.2.2.2.1)
@[go_sem] theorem S8e_old {g : FuncId} {xs : List A} (h : g ≠ 64) : S8e.f g xs = S8d.f g xs := Tab.add_ne h
@[go_sem] theorem S8e_eff {g : FuncId} : S8e.eff g = S8d.eff g := rfl
@[go_sem] theorem S8e_frz {g : FuncId} : S8e.frz g = S8d.frz g := rfl
@[go_sem] theorem S8e_effT : S8e.effT = S8d.effT := rfl
@[go_sem] theorem S8e_fix : S8e.fix = S8d.fix := rfl
@[go_sem] theorem S8e_nf : S8e.nf = S8d.nf := rfl
@[go_sem] theorem S8e_ords {n : Nat} : S8e.ords n = S8d.ords n := rfl
@[go_sem] theorem S8e_hp : S8e.hp = S8d.hp := rfl
theorem S8e_ranges_sweep (v : List Rng × List Rng × FuncId) (h : v.1.length ≤ 100000 ∧ v.2.1.length ≤ 100000 ∧ okL v.1 ∧ okL v.2.1 ∧ isOpR v.2.2 = true) : S8e.f 64 [.slc (v.1.map Rng.enc), .slc (v.2.1.map Rng.enc), .fn v.2.2 []] = some (.slc ((setS fun s => kpR v.2.2 (hasRs v.1 s) (hasRs v.2.1 s)).map Rng.enc)) :=
  (Tab.add_eq : S8e.f 64 [.slc (v.1.map Rng.enc), .slc (v.2.1.map Rng.enc), .fn v.2.2 []] = (entry (fun (v : List Rng × List Rng × FuncId) => [.slc (v.1.map Rng.enc), .slc (v.2.1.map Rng.enc), .fn v.2.2 []]) (fun v => v.1.length ≤ 100000 ∧ v.2.1.length ≤ 100000 ∧ okL v.1 ∧ okL v.2.1 ∧ isOpR v.2.2 = true) (fun v => .slc ((setS fun s => kpR v.2.2 (hasRs v.1 s) (hasRs v.2.1 s)).map Rng.enc))) [.slc (v.1.map Rng.enc), .slc (v.2.1.map Rng.enc), .fn v.2.2 []]).trans (entry_eq (fun i j h => by first | (cases i; cases j; rfl; done) | simpa [Prod.ext_iff, and_assoc] using h | (simp at h; omega)) v h)
section
variable {a b : List Rng} (ha : a.length ≤ 100000) (hb : b.length ≤ 100000) (oa : okL a) (ob : okL b)
include ha hb oa ob
theorem s_sweepU : S8e.f 64 [.slc (a.map Rng.enc), .slc (b.map Rng.enc), .fn 65 []] = some (.slc ((setS fun s => hasRs a s || hasRs b s).map Rng.enc)) := S8e_ranges_sweep (a, b, _) ⟨ha, hb, oa, ob, rfl⟩
theorem s_sweepM : S8e.f 64 [.slc (a.map Rng.enc), .slc (b.map Rng.enc), .fn 66 []] = some (.slc ((setS fun s => hasRs a s && hasRs b s).map Rng.enc)) := S8e_ranges_sweep (a, b, _) ⟨ha, hb, oa, ob, rfl⟩
theorem s_sweepL : S8e.f 64 [.slc (a.map Rng.enc), .slc (b.map Rng.enc), .fn 67 []] = some (.slc ((setS fun s => hasRs a s && !hasRs b s).map Rng.enc)) := S8e_ranges_sweep (a, b, _) ⟨ha, hb, oa, ob, rfl⟩
end
theorem okL_nil : okL [] := fun _ h => by cases h
theorem s_sweepN {a : List Rng} (ha : a.length ≤ 100000) (oa : okL a) : S8e.f 64 [.slc (a.map Rng.enc), .slc [], .fn 68 []] = some (.slc ((setS fun s => !hasRs a s).map Rng.enc)) := S8e_ranges_sweep (a, [], _) ⟨ha, by simp, oa, okL_nil, rfl⟩
theorem ok_ranges_Union : codeOK Try.prog S8e Try.f29.ntmps (Try.f29.body.getD .skip) = true := by kernel_rfl
theorem c_ranges_Union (a b : List Rng) (ha : a.length ≤ 100000) (hb : b.length ≤ 100000) (oa : okL a) (ob : okL b) : CallA Try.prog 29 [.slc (a.map Rng.enc), .slc (b.map Rng.enc)] (· = .slc ((setS fun s => hasRs a s || hasRs b s).map Rng.enc)) := by
  refine callA_of_body S8e_ok mixed Try.func29 rfl (Nat.le_of_ble_eq_true rfl) ok_ranges_Union ?_
  unfold Try.f29
  have h := s_sweepU ha hb oa ob
  simp -implicitDefEqProofs (maxSteps := 600000) (disch := (first | omega | decide)) only [go_sem, ↓reduceIte, Nat.reduceEqDiff, reduceCtorEq, Nat.reduceAdd, Nat.reduceSub, Nat.reduceMul, Nat.reduceLeDiff, Nat.reduceLT, Nat.reduceBEq, Nat.reduceBNe, Int.reduceLE, Int.reduceLT, Int.reduceBEq, Int.reduceBNe, Int.reduceEq, Int.reduceNe, Int.reduceAdd, Int.reduceSub, Int.reduceMul, Int.reduceNeg, Int.reduceToNat, h, List.length_map]
theorem ok_ranges_Meet : codeOK Try.prog S8e Try.f30.ntmps (Try.f30.body.getD .skip) = true := by kernel_rfl
theorem c_ranges_Meet (a b : List Rng) (ha : a.length ≤ 100000) (hb : b.length ≤ 100000) (oa : okL a) (ob : okL b) : CallA Try.prog 30 [.slc (a.map Rng.enc), .slc (b.map Rng.enc)] (· = .slc ((setS fun s => hasRs a s && hasRs b s).map Rng.enc)) := by
  refine callA_of_body S8e_ok mixed Try.func30 rfl (Nat.le_of_ble_eq_true rfl) ok_ranges_Meet ?_
  unfold Try.f30
  have h := s_sweepM ha hb oa ob
  simp -implicitDefEqProofs (maxSteps := 600000) (disch := (first | omega | decide)) only [go_sem, ↓reduceIte, Nat.reduceEqDiff, reduceCtorEq, Nat.reduceAdd, Nat.reduceSub, Nat.reduceMul, Nat.reduceLeDiff, Nat.reduceLT, Nat.reduceBEq, Nat.reduceBNe, Int.reduceLE, Int.reduceLT, Int.reduceBEq, Int.reduceBNe, Int.reduceEq, Int.reduceNe, Int.reduceAdd, Int.reduceSub, Int.reduceMul, Int.reduceNeg, Int.reduceToNat, h, List.length_map]
theorem ok_ranges_Less : codeOK Try.prog S8e Try.f31.ntmps (Try.f31.body.getD .skip) = true := by kernel_rfl
theorem c_ranges_Less (a b : List Rng) (ha : a.length ≤ 100000) (hb : b.length ≤ 100000) (oa : okL a) (ob : okL b) : CallA Try.prog 31 [.slc (a.map Rng.enc), .slc (b.map Rng.enc)] (· = .slc ((setS fun s => hasRs a s && !hasRs b s).map Rng.enc)) := by
  refine callA_of_body S8e_ok mixed Try.func31 rfl (Nat.le_of_ble_eq_true rfl) ok_ranges_Less ?_
  unfold Try.f31
  have h := s_sweepL ha hb oa ob
  simp -implicitDefEqProofs (maxSteps := 600000) (disch := (first | omega | decide)) only [go_sem, ↓reduceIte, Nat.reduceEqDiff, reduceCtorEq, Nat.reduceAdd, Nat.reduceSub, Nat.reduceMul, Nat.reduceLeDiff, Nat.reduceLT, Nat.reduceBEq, Nat.reduceBNe, Int.reduceLE, Int.reduceLT, Int.reduceBEq, Int.reduceBNe, Int.reduceEq, Int.reduceNe, Int.reduceAdd, Int.reduceSub, Int.reduceMul, Int.reduceNeg, Int.reduceToNat, h, List.length_map]
theorem ok_ranges_Not : codeOK Try.prog S8e Try.f32.ntmps (Try.f32.body.getD .skip) = true := by kernel_rfl
theorem c_ranges_Not (a : List Rng) (ha : a.length ≤ 100000) (oa : okL a) : CallA Try.prog 32 [.slc (a.map Rng.enc)] (· = .slc ((setS fun s => !hasRs a s).map Rng.enc)) := by
  refine callA_of_body S8e_ok mixed Try.func32 rfl (Nat.le_of_ble_eq_true rfl) ok_ranges_Not ?_
  unfold Try.f32
  have h := s_sweepN ha oa
  simp -implicitDefEqProofs (maxSteps := 600000) (disch := (first | omega | decide)) only [go_sem, ↓reduceIte, Nat.reduceEqDiff, reduceCtorEq, Nat.reduceAdd, Nat.reduceSub, Nat.reduceMul, Nat.reduceLeDiff, Nat.reduceLT, Nat.reduceBEq, Nat.reduceBNe, Int.reduceLE, Int.reduceLT, Int.reduceBEq, Int.reduceBNe, Int.reduceEq, Int.reduceNe, Int.reduceAdd, Int.reduceSub, Int.reduceMul, Int.reduceNeg, Int.reduceToNat, h, List.length_map]
noncomputable def S8f : Tab := S8e.add 80 (entry (fun (v : List Rng × List UInt8) => [.slc (v.1.map Rng.enc), .str v.2]) (fun v => v.1.length ≤ 100000 ∧ okL v.1 ∧ v.2.length ≤ 9223372036854775807 ∧ rightRs v.1 = true) (fun v => .int .i64 (findS v.1 v.2)))
theorem S8f_ok : TabOK Try.prog S8f := S8e_ok.add (callable_of Try.func80 (by kernel_rfl) (by kernel_rfl)) (entry_ok fun v h => c_ranges_find v.1 v.2 (by omega) h.2.1 h.2.2.1 h.2.2.2)
@[go_sem] theorem S8f_old {g : FuncId} {xs : List A} (h : g ≠ 80) : S8f.f g xs = S8e.f g xs := Tab.add_ne h
@[go_sem] theorem S8f_eff {g : FuncId} : S8f.eff g = S8e.eff g := rfl
@[go_sem] theorem S8f_frz {g : FuncId} : S8f.frz g = S8e.frz g := rfl
@[go_sem] theorem S8f_effT : S8f.effT = S8e.effT := rfl
@[go_sem] theorem S8f_fix : S8f.fix = S8e.fix := rfl
@[go_sem] theorem S8f_nf : S8f.nf = S8e.nf := rfl
@[go_sem] theorem S8f_ords {n : Nat} : S8f.ords n = S8e.ords n := rfl
@[go_sem] theorem S8f_hp : S8f.hp = S8e.hp := rfl
theorem S8f_ranges_find (v : List Rng × List UInt8) (h : v.1.length ≤ 100000 ∧ okL v.1 ∧ v.2.length ≤ 9223372036854775807 ∧ rightRs v.1 = true) : S8f.f 80 [.slc (v.1.map Rng.enc), .str v.2] = some (.int .i64 (findS v.1 v.2)) :=
  (Tab.add_eq : S8f.f 80 [.slc (v.1.map Rng.enc), .str v.2] = (entry (fun (v : List Rng × List UInt8) => [.slc (v.1.map Rng.enc), .str v.2]) (fun v => v.1.length ≤ 100000 ∧ okL v.1 ∧ v.2.length ≤ 9223372036854775807 ∧ rightRs v.1 = true) (fun v => .int .i64 (findS v.1 v.2))) [.slc (v.1.map Rng.enc), .str v.2]).trans (entry_eq (fun i j h => by first | (cases i; cases j; rfl; done) | simpa [Prod.ext_iff, and_assoc] using h | (simp at h; omega)) v h)
theorem s_ranges_find {l : List Rng} {s : List UInt8} (h : l.length ≤ 100000) (h1 : okL l) (h2 : s.length ≤ 9223372036854775807) (h3 : rightRs l = true) : S8f.f 80 [.slc (l.map Rng.enc), .str s] = some (.int .i64 (findS l s)) := S8f_ranges_find (l, s) ⟨h, h1, h2, h3⟩
theorem ok_ranges_Has : codeOK Try.prog S8f Try.f39.ntmps (Try.f39.body.getD .skip) = true := by kernel_rfl
theorem c_ranges_Has (l : List Rng) (s : List UInt8) (hl : l.length ≤ 100000) (ol : okL l) (hs : s.length ≤ 9223372036854775807) : CallA Try.prog 39 [.slc (l.map Rng.enc), .str s] (· = .bool (hasRs l s)) := by
  refine callA_of_body S8f_ok mixed Try.func39 rfl (Nat.le_of_ble_eq_true rfl) ok_ranges_Has ?_
  unfold Try.f39
  have e1 := s_ranges_right (l := l) (by omega) ol
  have lu := setS_len l
  have ou := setS_ok (hasRs l)
  have ru := setS_right (hasRs l)
  have hu := has_setS l s
  have e2 := s_ranges_find (l := setS (hasRs l)) (s := s) (by omega) ou hs ru
  generalize setS (hasRs l) = u at *
  have fh := find_has ru s
  rw [← hu]
  by_cases hlt : findS u s < u.length
  · rw [dif_pos hlt] at fh
    have hlt' : ((findS u s : Nat) : Int) < (u.length : Int) := by omega
    have hat := findS_at u s hlt
    have hr := (rightRs_can.1 ru).1 _ (List.getElem_mem hlt)
    have eg := rng_get hlt
    have ok1 := okL_get ou hlt
    generalize u[findS u s] = x at *
    obtain ⟨lo, hi, op⟩ := x
    have hx : hasR ⟨lo, hi, op⟩ s = hasRs u s := by
      rw [fh, hasR_eq, hr]
      unfold upTo
      rw [hat]; simp
    simp only at ok1
    simp -implicitDefEqProofs (maxSteps := 600000) (disch := (first | omega | decide)) only [go_sem, ↓reduceIte, Nat.reduceEqDiff, reduceCtorEq, Nat.reduceAdd, Nat.reduceSub, Nat.reduceMul, Nat.reduceLeDiff, Nat.reduceLT, Nat.reduceBEq, Nat.reduceBNe, Int.reduceLE, Int.reduceLT, Int.reduceBEq, Int.reduceBNe, Int.reduceEq, Int.reduceNe, Int.reduceAdd, Int.reduceSub, Int.reduceMul, Int.reduceNeg, Int.reduceToNat, e1, e2, hlt', eg, ok1, hs, hx, List.length_map]
  · rw [dif_neg hlt] at fh
    have hlt' : ¬ ((findS u s : Nat) : Int) < (u.length : Int) := by omega
    simp -implicitDefEqProofs (maxSteps := 600000) (disch := (first | omega | decide)) only [go_sem, ↓reduceIte, Nat.reduceEqDiff, reduceCtorEq, Nat.reduceAdd, Nat.reduceSub, Nat.reduceMul, Nat.reduceLeDiff, Nat.reduceLT, Nat.reduceBEq, Nat.reduceBNe, Int.reduceLE, Int.reduceLT, Int.reduceBEq, Int.reduceBNe, Int.reduceEq, Int.reduceNe, Int.reduceAdd, Int.reduceSub, Int.reduceMul, Int.reduceNeg, Int.reduceToNat, e1, e2, hlt', fh, List.length_map]
noncomputable def S8g : Tab := S8f.add 82 (entry (fun (v : List Rng × List Rng) => [.slc (v.1.map Rng.enc), .slc (v.2.map Rng.enc)]) (fun v => v.1.length ≤ 100000 ∧ v.2.length ≤ 100000) (fun v => .bool (sameRs v.1 v.2)))
theorem S8g_ok : TabOK Try.prog S8g := S8f_ok.add (callable_of Try.func82 (by kernel_rfl) (by kernel_rfl)) (entry_ok fun v h => c_Equal_Range v.1 v.2 (by omega) (by omega))
@[go_sem] theorem S8g_old {g : FuncId} {xs : List A} (h : g ≠ 82) : S8g.f g xs = S8f.f g xs := Tab.add_ne h
@[go_sem] theorem S8g_eff {g : FuncId} : S8g.eff g = S8f.eff g := rfl
@[go_sem] theorem S8g_frz {g : FuncId} : S8g.frz g = S8f.frz g := rfl
@[go_sem] theorem S8g_effT : S8g.effT = S8f.effT := rfl
@[go_sem] theorem S8g_fix : S8g.fix = S8f.fix := rfl
@[go_sem] theorem S8g_nf : S8g.nf = S8f.nf := rfl
@[go_sem] theorem S8g_ords {n : Nat} : S8g.ords n = S8f.ords n := rfl
@[go_sem] theorem S8g_hp : S8g.hp = S8f.hp := rfl
theorem S8g_slices_Equal_winnower_api_Range_winnower_api_Range (v : List Rng × List Rng) (h : v.1.length ≤ 100000 ∧ v.2.length ≤ 100000) : S8g.f 82 [.slc (v.1.map Rng.enc), .slc (v.2.map Rng.enc)] = some (.bool (sameRs v.1 v.2)) :=
  (Tab.add_eq : S8g.f 82 [.slc (v.1.map Rng.enc), .slc (v.2.map Rng.enc)] = (entry (fun (v : List Rng × List Rng) => [.slc (v.1.map Rng.enc), .slc (v.2.map Rng.enc)]) (fun v => v.1.length ≤ 100000 ∧ v.2.length ≤ 100000) (fun v => .bool (sameRs v.1 v.2))) [.slc (v.1.map Rng.enc), .slc (v.2.map Rng.enc)]).trans (entry_eq (fun i j h => by first | (cases i; cases j; rfl; done) | simpa [Prod.ext_iff, and_assoc] using h | (simp at h; omega)) v h)
theorem s_Equal {a b : List Rng} (ha : a.length ≤ 100000) (hb : b.length ≤ 100000) : S8g.f 82 [.slc (a.map Rng.enc), .slc (b.map Rng.enc)] = some (.bool (sameRs a b)) := S8g_slices_Equal_winnower_api_Range_winnower_api_Range (a, b) ⟨ha, hb⟩
theorem ok_ranges_Same : codeOK Try.prog S8g Try.f41.ntmps (Try.f41.body.getD .skip) = true := by kernel_rfl
theorem c_ranges_Same (a b : List Rng) (ha : a.length ≤ 100000) (hb : b.length ≤ 100000) (oa : okL a) (ob : okL b) : CallA Try.prog 41 [.slc (a.map Rng.enc), .slc (b.map Rng.enc)] (· = .bool (sameRs (setS (hasRs a)) (setS (hasRs b)))) := by
  refine callA_of_body S8g_ok mixed Try.func41 rfl (Nat.le_of_ble_eq_true rfl) ok_ranges_Same ?_
  unfold Try.f41
  have e1 := s_ranges_right (l := a) (by omega) oa
  have e2 := s_ranges_right (l := b) (by omega) ob
  have l1 := setS_len a
  have l2 := setS_len b
  have e3 := s_Equal (a := setS (hasRs a)) (b := setS (hasRs b)) (by omega) (by omega)
  simp -implicitDefEqProofs (maxSteps := 600000) (disch := (first | omega | decide)) only [go_sem, ↓reduceIte, Nat.reduceEqDiff, reduceCtorEq, Nat.reduceAdd, Nat.reduceSub, Nat.reduceMul, Nat.reduceLeDiff, Nat.reduceLT, Nat.reduceBEq, Nat.reduceBNe, Int.reduceLE, Int.reduceLT, Int.reduceBEq, Int.reduceBNe, Int.reduceEq, Int.reduceNe, Int.reduceAdd, Int.reduceSub, Int.reduceMul, Int.reduceNeg, Int.reduceToNat, e1, e2, e3, List.length_map]
noncomputable def S8h : Tab := S8g.add 31 (entry (fun (v : List Rng × List Rng) => [.slc (v.1.map Rng.enc), .slc (v.2.map Rng.enc)]) (fun v => v.1.length ≤ 100000 ∧ v.2.length ≤ 100000 ∧ okL v.1 ∧ okL v.2) (fun v => .slc ((setS fun s => hasRs v.1 s && !hasRs v.2 s).map Rng.enc)))
theorem S8h_ok : TabOK Try.prog S8h := S8g_ok.add (callable_of Try.func31 (by kernel_rfl) (by kernel_rfl)) (entry_ok fun v h => c_ranges_Less v.1 v.2 h.1 h.2.1 h.2.2.1 h.2.2.2)
@[go_sem] theorem S8h_old {g : FuncId} {xs : List A} (h : g ≠ 31) : S8h.f g xs = S8g.f g xs := Tab.add_ne h
@[go_sem] theorem S8h_eff {g : FuncId} : S8h.eff g = S8g.eff g := rfl
@[go_sem] theorem S8h_frz {g : FuncId} : S8h.frz g = S8g.frz g := rfl
@[go_sem] theorem S8h_effT : S8h.effT = S8g.effT := rfl
@[go_sem] theorem S8h_fix : S8h.fix = S8g.fix := rfl
@[go_sem] theorem S8h_nf : S8h.nf = S8g.nf := rfl
@[go_sem] theorem S8h_ords {n : Nat} : S8h.ords n = S8g.ords n := rfl
@[go_sem] theorem S8h_hp : S8h.hp = S8g.hp := rfl
theorem S8h_ranges_Less (v : List Rng × List Rng) (h : v.1.length ≤ 100000 ∧ v.2.length ≤ 100000 ∧ okL v.1 ∧ okL v.2) : S8h.f 31 [.slc (v.1.map Rng.enc), .slc (v.2.map Rng.enc)] = some (.slc ((setS fun s => hasRs v.1 s && !hasRs v.2 s).map Rng.enc)) :=
  (Tab.add_eq : S8h.f 31 [.slc (v.1.map Rng.enc), .slc (v.2.map Rng.enc)] = (entry (fun (v : List Rng × List Rng) => [.slc (v.1.map Rng.enc), .slc (v.2.map Rng.enc)]) (fun v => v.1.length ≤ 100000 ∧ v.2.length ≤ 100000 ∧ okL v.1 ∧ okL v.2) (fun v => .slc ((setS fun s => hasRs v.1 s && !hasRs v.2 s).map Rng.enc))) [.slc (v.1.map Rng.enc), .slc (v.2.map Rng.enc)]).trans (entry_eq (fun i j h => by first | (cases i; cases j; rfl; done) | simpa [Prod.ext_iff, and_assoc] using h | (simp at h; omega)) v h)
theorem s_ranges_Less {a b : List Rng} (ha : a.length ≤ 100000) (hb : b.length ≤ 100000) (oa : okL a) (ob : okL b) : S8h.f 31 [.slc (a.map Rng.enc), .slc (b.map Rng.enc)] = some (.slc ((setS fun s => hasRs a s && !hasRs b s).map Rng.enc)) := S8h_ranges_Less (a, b) ⟨ha, hb, oa, ob⟩
noncomputable def emptyS (p : List UInt8 → Bool) : Bool := decide ((setS p).length = 0)
theorem ok_ranges_Within : codeOK Try.prog S8h Try.f42.ntmps (Try.f42.body.getD .skip) = true := by kernel_rfl
theorem c_ranges_Within (a b : List Rng) (ha : a.length ≤ 100000) (hb : b.length ≤ 100000) (oa : okL a) (ob : okL b) : CallA Try.prog 42 [.slc (a.map Rng.enc), .slc (b.map Rng.enc)] (· = .bool (emptyS fun s => hasRs a s && !hasRs b s)) := by
  refine callA_of_body S8h_ok mixed Try.func42 rfl (Nat.le_of_ble_eq_true rfl) ok_ranges_Within ?_
  unfold Try.f42
  have e1 := s_ranges_Less ha hb oa ob
  unfold emptyS
  generalize setS (fun s => hasRs a s && !hasRs b s) = u at *
  by_cases h : u.length = 0
  · have h' : ((u.length : Int) == 0) = true := by
      have : (u.length : Int) = 0 := by omega
      simpa using this
    simp -implicitDefEqProofs (maxSteps := 600000) (disch := (first | omega | decide)) only [go_sem, ↓reduceIte, Nat.reduceEqDiff, reduceCtorEq, Nat.reduceAdd, Nat.reduceSub, Nat.reduceMul, Nat.reduceLeDiff, Nat.reduceLT, Nat.reduceBEq, Nat.reduceBNe, Int.reduceLE, Int.reduceLT, Int.reduceBEq, Int.reduceBNe, Int.reduceEq, Int.reduceNe, Int.reduceAdd, Int.reduceSub, Int.reduceMul, Int.reduceNeg, Int.reduceToNat, e1, h', List.length_map]
    simp [h]
  · have h' : ((u.length : Int) == 0) = false := by
      have : (u.length : Int) ≠ 0 := by omega
      simpa using this
    simp -implicitDefEqProofs (maxSteps := 600000) (disch := (first | omega | decide)) only [go_sem, ↓reduceIte, Nat.reduceEqDiff, reduceCtorEq, Nat.reduceAdd, Nat.reduceSub, Nat.reduceMul, Nat.reduceLeDiff, Nat.reduceLT, Nat.reduceBEq, Nat.reduceBNe, Int.reduceLE, Int.reduceLT, Int.reduceBEq, Int.reduceBNe, Int.reduceEq, Int.reduceNe, Int.reduceAdd, Int.reduceSub, Int.reduceMul, Int.reduceNeg, Int.reduceToNat, e1, h', List.length_map]
    simp [h]
def opSOK (op : Int) : Prop := True
noncomputable def R0 : Tab := T08d.add 34 (entry (fun (v : Int × List Rng × List Rng) => [.int .i64 v.1, .slc (v.2.1.map Rng.enc), .slc (v.2.2.map Rng.enc)]) (fun v => v.2.1.length ≤ 1000 ∧ v.2.2.length ≤ 1000 ∧ okL v.2.1 ∧ okL v.2.2) (fun v => .slc ((setS fun s => opS v.1 (hasRs v.2.1 s) (hasRs v.2.2 s)).map Rng.enc)))
theorem R0_ok : TabOK Try.prog R0 := T08d_ok.add (callable_of Try.func34 (by kernel_rfl) (by kernel_rfl)) (entry_ok fun v h => c_ref08_Make v.1 v.2.1 v.2.2 h.1 h.2.1 h.2.2.1 h.2.2.2)
@[go_sem] theorem R0_old {g : FuncId} {xs : List A} (h : g ≠ 34) : R0.f g xs = T08d.f g xs := Tab.add_ne h
@[go_sem] theorem R0_eff {g : FuncId} : R0.eff g = T08d.eff g := rfl
@[go_sem] theorem R0_frz {g : FuncId} : R0.frz g = T08d.frz g := rfl
@[go_sem] theorem R0_effT : R0.effT = T08d.effT := rfl
@[go_sem] theorem R0_fix : R0.fix = T08d.fix := rfl
@[go_sem] theorem R0_nf : R0.nf = T08d.nf := rfl
@[go_sem] theorem R0_ords {n : Nat} : R0.ords n = T08d.ords n := rfl
@[go_sem] theorem R0_hp : R0.hp = T08d.hp := rfl
theorem R0_ref08_Make (v : Int × List Rng × List Rng) (h : v.2.1.length ≤ 1000 ∧ v.2.2.length ≤ 1000 ∧ okL v.2.1 ∧ okL v.2.2) : R0.f 34 [.int .i64 v.1, .slc (v.2.1.map Rng.enc), .slc (v.2.2.map Rng.enc)] = some (.slc ((setS fun s => opS v.1 (hasRs v.2.1 s) (hasRs v.2.2 s)).map Rng.enc)) :=
  (Tab.add_eq : R0.f 34 [.int .i64 v.1, .slc (v.2.1.map Rng.enc), .slc (v.2.2.map Rng.enc)] = (entry (fun (v : Int × List Rng × List Rng) => [.int .i64 v.1, .slc (v.2.1.map Rng.enc), .slc (v.2.2.map Rng.enc)]) (fun v => v.2.1.length ≤ 1000 ∧ v.2.2.length ≤ 1000 ∧ okL v.2.1 ∧ okL v.2.2) (fun v => .slc ((setS fun s => opS v.1 (hasRs v.2.1 s) (hasRs v.2.2 s)).map Rng.enc))) [.int .i64 v.1, .slc (v.2.1.map Rng.enc), .slc (v.2.2.map Rng.enc)]).trans (entry_eq (fun i j h => by first | (cases i; cases j; rfl; done) | simpa [Prod.ext_iff, and_assoc] using h | (simp at h; omega)) v h)
theorem r_Make {op : Int} {a b : List Rng} (h : a.length ≤ 1000 ∧ b.length ≤ 1000 ∧ okL a ∧ okL b) : R0.f 34 [.int .i64 op, .slc (a.map Rng.enc), .slc (b.map Rng.enc)] = some (.slc ((setS fun s => opS op (hasRs a s) (hasRs b s)).map Rng.enc)) := R0_ref08_Make (op, a, b) h
theorem r_Make1 {a b : List Rng} (h : a.length ≤ 1000 ∧ b.length ≤ 1000 ∧ okL a ∧ okL b) : R0.f 34 [.int .i64 1, .slc (a.map Rng.enc), .slc (b.map Rng.enc)] = some (.slc ((setS fun s => hasRs a s || hasRs b s).map Rng.enc)) := r_Make (op := 1) h
theorem r_Make2 {a b : List Rng} (h : a.length ≤ 1000 ∧ b.length ≤ 1000 ∧ okL a ∧ okL b) : R0.f 34 [.int .i64 2, .slc (a.map Rng.enc), .slc (b.map Rng.enc)] = some (.slc ((setS fun s => hasRs a s && hasRs b s).map Rng.enc)) := r_Make (op := 2) h
theorem r_Make3 {a b : List Rng} (h : a.length ≤ 1000 ∧ b.length ≤ 1000 ∧ okL a ∧ okL b) : R0.f 34 [.int .i64 3, .slc (a.map Rng.enc), .slc (b.map Rng.enc)] = some (.slc ((setS fun s => hasRs a s && !hasRs b s).map Rng.enc)) := r_Make (op := 3) h
theorem r_Make4 {a : List Rng} (h : a.length ≤ 1000) (oa : okL a) : R0.f 34 [.int .i64 4, .slc (a.map Rng.enc), .slc []] = some (.slc ((setS fun s => !hasRs a s).map Rng.enc)) := by
  have h1 := r_Make (op := 4) (a := a) (b := []) ⟨h, by simp, oa, okL_nil⟩
  have e : (fun s => opS 4 (hasRs a s) (hasRs [] s)) = fun s => !hasRs a s := by
    funext s; simp [opS, hasRs_nil]
  rw [e] at h1; exact h1
theorem r_Make10 {a : List Rng} (h : a.length ≤ 1000) (oa : okL a) : R0.f 34 [.int .i64 1, .slc (a.map Rng.enc), .slc []] = some (.slc ((setS (hasRs a)).map Rng.enc)) := by
  have h1 := r_Make1 (a := a) (b := []) ⟨h, by simp, oa, okL_nil⟩
  have e : (fun s => hasRs a s || hasRs [] s) = hasRs a := by
    funext s; rw [hasRs_nil, Bool.or_false]
  rw [e] at h1; exact h1
theorem ok_ref08_Of : codeOK Try.prog R0 Try.f40.ntmps (Try.f40.body.getD .skip) = true := by kernel_rfl
theorem c_ref08_Of (a : List Rng) (h : a.length ≤ 1000) (oa : okL a) : CallA Try.prog 40 [.slc (a.map Rng.enc)] (· = .slc ((setS (hasRs a)).map Rng.enc)) := by
  refine callA_of_body R0_ok mixed Try.func40 rfl (Nat.le_of_ble_eq_true rfl) ok_ref08_Of ?_
  unfold Try.f40
  have h1 := r_Make10 h oa
  simp -implicitDefEqProofs (maxSteps := 600000) (disch := (first | omega | decide)) only [go_sem, ↓reduceIte, Nat.reduceEqDiff, reduceCtorEq, Nat.reduceAdd, Nat.reduceSub, Nat.reduceMul, Nat.reduceLeDiff, Nat.reduceLT, Nat.reduceBEq, Nat.reduceBNe, Int.reduceLE, Int.reduceLT, Int.reduceBEq, Int.reduceBNe, Int.reduceEq, Int.reduceNe, Int.reduceAdd, Int.reduceSub, Int.reduceMul, Int.reduceNeg, Int.reduceToNat, h1, List.length_map]
noncomputable def RL0 : Tab := R0.add 36 (entry (fun (l : List Rng) => [.slc (l.map Rng.enc)]) (fun l => l.length ≤ 100000 ∧ okL l) (fun l => .slc ((setS (hasRs l)).map Rng.enc)))
theorem RL0_ok : TabOK Try.prog RL0 := R0_ok.add (callable_of Try.func36 (by kernel_rfl) (by kernel_rfl)) (entry_ok fun l h => c_ranges_Of l (by omega) h.2)
@[go_sem] theorem RL0_old {g : FuncId} {xs : List A} (h : g ≠ 36) : RL0.f g xs = R0.f g xs := Tab.add_ne h
@[go_sem] theorem RL0_eff {g : FuncId} : RL0.eff g = R0.eff g := rfl
@[go_sem] theorem RL0_frz {g : FuncId} : RL0.frz g = R0.frz g := rfl
@[go_sem] theorem RL0_effT : RL0.effT = R0.effT := rfl
@[go_sem] theorem RL0_fix : RL0.fix = R0.fix := rfl
@[go_sem] theorem RL0_nf : RL0.nf = R0.nf := rfl
@[go_sem] theorem RL0_ords {n : Nat} : RL0.ords n = R0.ords n := rfl
@[go_sem] theorem RL0_hp : RL0.hp = R0.hp := rfl
theorem RL0_ranges_Of (l : List Rng) (h : l.length ≤ 100000 ∧ okL l) : RL0.f 36 [.slc (l.map Rng.enc)] = some (.slc ((setS (hasRs l)).map Rng.enc)) :=
  (Tab.add_eq : RL0.f 36 [.slc (l.map Rng.enc)] = (entry (fun (l : List Rng) => [.slc (l.map Rng.enc)]) (fun l => l.length ≤ 100000 ∧ okL l) (fun l => .slc ((setS (hasRs l)).map Rng.enc))) [.slc (l.map Rng.enc)]).trans (entry_eq (fun i j h => by first | (cases i; cases j; rfl; done) | simpa [Prod.ext_iff, and_assoc] using h | (simp at h; omega)) l h)
@[go_sem] theorem r_ranges_Of {l : List Rng} (h : l.length ≤ 100000 ∧ okL l) : RL0.f 36 [.slc (l.map Rng.enc)] = some (.slc ((setS (hasRs l)).map Rng.enc)) := RL0_ranges_Of l h
noncomputable def RL1 : Tab := RL0.add 37 (entry (fun (l : List Rng) => [.slc (l.map Rng.enc)]) (fun l => l.length ≤ 100000 ∧ okL l) (fun l => .bool (rightRs l)))
theorem RL1_ok : TabOK Try.prog RL1 := RL0_ok.add (callable_of Try.func37 (by kernel_rfl) (by kernel_rfl)) (entry_ok fun l h => c_ranges_Right l (by omega) h.2)
@[go_sem] theorem RL1_old {g : FuncId} {xs : List A} (h : g ≠ 37) : RL1.f g xs = RL0.f g xs := Tab.add_ne h
@[go_sem] theorem RL1_eff {g : FuncId} : RL1.eff g = RL0.eff g := rfl
@[go_sem] theorem RL1_frz {g : FuncId} : RL1.frz g = RL0.frz g := rfl
@[go_sem] theorem RL1_effT : RL1.effT = RL0.effT := rfl
@[go_sem] theorem RL1_fix : RL1.fix = RL0.fix := rfl
@[go_sem] theorem RL1_nf : RL1.nf = RL0.nf := rfl
@[go_sem] theorem RL1_ords {n : Nat} : RL1.ords n = RL0.ords n := rfl
@[go_sem] theorem RL1_hp : RL1.hp = RL0.hp := rfl
theorem RL1_ranges_Right (l : List Rng) (h : l.length ≤ 100000 ∧ okL l) : RL1.f 37 [.slc (l.map Rng.enc)] = some (.bool (rightRs l)) :=
  (Tab.add_eq : RL1.f 37 [.slc (l.map Rng.enc)] = (entry (fun (l : List Rng) => [.slc (l.map Rng.enc)]) (fun l => l.length ≤ 100000 ∧ okL l) (fun l => .bool (rightRs l))) [.slc (l.map Rng.enc)]).trans (entry_eq (fun i j h => by first | (cases i; cases j; rfl; done) | simpa [Prod.ext_iff, and_assoc] using h | (simp at h; omega)) l h)
@[go_sem] theorem r_ranges_Right {l : List Rng} (h : l.length ≤ 100000 ∧ okL l) : RL1.f 37 [.slc (l.map Rng.enc)] = some (.bool (rightRs l)) := RL1_ranges_Right l h
noncomputable def RL2 : Tab := RL1.add 38 (entry (fun (l : List Rng) => [.slc (l.map Rng.enc)]) (fun l => l.length ≤ 100000 ∧ okL l) (fun l => .bool (rightRs l)))
theorem RL2_ok : TabOK Try.prog RL2 := RL1_ok.add (callable_of Try.func38 (by kernel_rfl) (by kernel_rfl)) (entry_ok fun l h => c_ref08_Right l (by omega) h.2)
@[go_sem] theorem RL2_old {g : FuncId} {xs : List A} (h : g ≠ 38) : RL2.f g xs = RL1.f g xs := Tab.add_ne h
@[go_sem] theorem RL2_eff {g : FuncId} : RL2.eff g = RL1.eff g := rfl
@[go_sem] theorem RL2_frz {g : FuncId} : RL2.frz g = RL1.frz g := rfl
@[go_sem] theorem RL2_effT : RL2.effT = RL1.effT := rfl
@[go_sem] theorem RL2_fix : RL2.fix = RL1.fix := rfl
@[go_sem] theorem RL2_nf : RL2.nf = RL1.nf := rfl
@[go_sem] theorem RL2_ords {n : Nat} : RL2.ords n = RL1.ords n := rfl
@[go_sem] theorem RL2_hp : RL2.hp = RL1.hp := rfl
theorem RL2_ref08_Right (l : List Rng) (h : l.length ≤ 100000 ∧ okL l) : RL2.f 38 [.slc (l.map Rng.enc)] = some (.bool (rightRs l)) :=
  (Tab.add_eq : RL2.f 38 [.slc (l.map Rng.enc)] = (entry (fun (l : List Rng) => [.slc (l.map Rng.enc)]) (fun l => l.length ≤ 100000 ∧ okL l) (fun l => .bool (rightRs l))) [.slc (l.map Rng.enc)]).trans (entry_eq (fun i j h => by first | (cases i; cases j; rfl; done) | simpa [Prod.ext_iff, and_assoc] using h | (simp at h; omega)) l h)
@[go_sem] theorem r_ref08_Right {l : List Rng} (h : l.length ≤ 100000 ∧ okL l) : RL2.f 38 [.slc (l.map Rng.enc)] = some (.bool (rightRs l)) := RL2_ref08_Right l h
noncomputable def RL3 : Tab := RL2.add 39 (entry (fun (v : List Rng × List UInt8) => [.slc (v.1.map Rng.enc), .str v.2]) (fun v => v.1.length ≤ 100000 ∧ okL v.1 ∧ v.2.length ≤ 9223372036854775807) (fun v => .bool (hasRs v.1 v.2)))
theorem RL3_ok : TabOK Try.prog RL3 := RL2_ok.add (callable_of Try.func39 (by kernel_rfl) (by kernel_rfl)) (entry_ok fun v h => c_ranges_Has v.1 v.2 h.1 h.2.1 h.2.2)
@[go_sem] theorem RL3_old {g : FuncId} {xs : List A} (h : g ≠ 39) : RL3.f g xs = RL2.f g xs := Tab.add_ne h
@[go_sem] theorem RL3_eff {g : FuncId} : RL3.eff g = RL2.eff g := rfl
@[go_sem] theorem RL3_frz {g : FuncId} : RL3.frz g = RL2.frz g := rfl
@[go_sem] theorem RL3_effT : RL3.effT = RL2.effT := rfl
@[go_sem] theorem RL3_fix : RL3.fix = RL2.fix := rfl
@[go_sem] theorem RL3_nf : RL3.nf = RL2.nf := rfl
@[go_sem] theorem RL3_ords {n : Nat} : RL3.ords n = RL2.ords n := rfl
@[go_sem] theorem RL3_hp : RL3.hp = RL2.hp := rfl
theorem RL3_ranges_Has (v : List Rng × List UInt8) (h : v.1.length ≤ 100000 ∧ okL v.1 ∧ v.2.length ≤ 9223372036854775807) : RL3.f 39 [.slc (v.1.map Rng.enc), .str v.2] = some (.bool (hasRs v.1 v.2)) :=
  (Tab.add_eq : RL3.f 39 [.slc (v.1.map Rng.enc), .str v.2] = (entry (fun (v : List Rng × List UInt8) => [.slc (v.1.map Rng.enc), .str v.2]) (fun v => v.1.length ≤ 100000 ∧ okL v.1 ∧ v.2.length ≤ 9223372036854775807) (fun v => .bool (hasRs v.1 v.2))) [.slc (v.1.map Rng.enc), .str v.2]).trans (entry_eq (fun i j h => by first | (cases i; cases j; rfl; done) | simpa [Prod.ext_iff, and_assoc] using h | (simp at h; omega)) v h)
@[go_sem] theorem r_ranges_Has {a : List Rng} {b : List UInt8} (h : a.length ≤ 100000 ∧ okL a ∧ b.length ≤ 9223372036854775807) : RL3.f 39 [.slc (a.map Rng.enc), .str b] = some (.bool (hasRs a b)) := RL3_ranges_Has (a, b) h
noncomputable def RL4 : Tab := RL3.add 28 (entry (fun (v : List Rng × Int) => [.slc (v.1.map Rng.enc), .int .i64 v.2]) (fun v => v.1.length ≤ 4611686018427387904) (fun v => .bool (longRs v.1 v.2)))
theorem RL4_ok : TabOK Try.prog RL4 := RL3_ok.add (callable_of Try.func28 (by kernel_rfl) (by kernel_rfl)) (entry_ok fun v h => c_ref08_Long v.1 v.2 h)
@[go_sem] theorem RL4_old {g : FuncId} {xs : List A} (h : g ≠ 28) : RL4.f g xs = RL3.f g xs := Tab.add_ne h
@[go_sem] theorem RL4_eff {g : FuncId} : RL4.eff g = RL3.eff g := rfl
@[go_sem] theorem RL4_frz {g : FuncId} : RL4.frz g = RL3.frz g := rfl
@[go_sem] theorem RL4_effT : RL4.effT = RL3.effT := rfl
@[go_sem] theorem RL4_fix : RL4.fix = RL3.fix := rfl
@[go_sem] theorem RL4_nf : RL4.nf = RL3.nf := rfl
@[go_sem] theorem RL4_ords {n : Nat} : RL4.ords n = RL3.ords n := rfl
@[go_sem] theorem RL4_hp : RL4.hp = RL3.hp := rfl
theorem RL4_ref08_Long (v : List Rng × Int) (h : v.1.length ≤ 4611686018427387904) : RL4.f 28 [.slc (v.1.map Rng.enc), .int .i64 v.2] = some (.bool (longRs v.1 v.2)) :=
  (Tab.add_eq : RL4.f 28 [.slc (v.1.map Rng.enc), .int .i64 v.2] = (entry (fun (v : List Rng × Int) => [.slc (v.1.map Rng.enc), .int .i64 v.2]) (fun v => v.1.length ≤ 4611686018427387904) (fun v => .bool (longRs v.1 v.2))) [.slc (v.1.map Rng.enc), .int .i64 v.2]).trans (entry_eq (fun i j h => by first | (cases i; cases j; rfl; done) | simpa [Prod.ext_iff, and_assoc] using h | (simp at h; omega)) v h)
@[go_sem] theorem r_ref08_Long {a : List Rng} {b : Int} (h : a.length ≤ 4611686018427387904) : RL4.f 28 [.slc (a.map Rng.enc), .int .i64 b] = some (.bool (longRs a b)) := RL4_ref08_Long (a, b) h
noncomputable def RL5 : Tab := RL4.add 33 (entry (fun (v : List Rng × List Rng) => [.slc (v.1.map Rng.enc), .slc (v.2.map Rng.enc)]) (fun v => v.1.length ≤ 100000 ∧ v.2.length ≤ 100000) (fun v => .bool (sameRs v.1 v.2)))
theorem RL5_ok : TabOK Try.prog RL5 := RL4_ok.add (callable_of Try.func33 (by kernel_rfl) (by kernel_rfl)) (entry_ok fun v h => c_ref08_Same v.1 v.2 (by omega) (by omega))
@[go_sem] theorem RL5_old {g : FuncId} {xs : List A} (h : g ≠ 33) : RL5.f g xs = RL4.f g xs := Tab.add_ne h
@[go_sem] theorem RL5_eff {g : FuncId} : RL5.eff g = RL4.eff g := rfl
@[go_sem] theorem RL5_frz {g : FuncId} : RL5.frz g = RL4.frz g := rfl
@[go_sem] theorem RL5_effT : RL5.effT = RL4.effT := rfl
@[go_sem] theorem RL5_fix : RL5.fix = RL4.fix := rfl
@[go_sem] theorem RL5_nf : RL5.nf = RL4.nf := rfl
@[go_sem] theorem RL5_ords {n : Nat} : RL5.ords n = RL4.ords n := rfl
@[go_sem] theorem RL5_hp : RL5.hp = RL4.hp := rfl
theorem RL5_ref08_Same (v : List Rng × List Rng) (h : v.1.length ≤ 100000 ∧ v.2.length ≤ 100000) : RL5.f 33 [.slc (v.1.map Rng.enc), .slc (v.2.map Rng.enc)] = some (.bool (sameRs v.1 v.2)) :=
  (Tab.add_eq : RL5.f 33 [.slc (v.1.map Rng.enc), .slc (v.2.map Rng.enc)] = (entry (fun (v : List Rng × List Rng) => [.slc (v.1.map Rng.enc), .slc (v.2.map Rng.enc)]) (fun v => v.1.length ≤ 100000 ∧ v.2.length ≤ 100000) (fun v => .bool (sameRs v.1 v.2))) [.slc (v.1.map Rng.enc), .slc (v.2.map Rng.enc)]).trans (entry_eq (fun i j h => by first | (cases i; cases j; rfl; done) | simpa [Prod.ext_iff, and_assoc] using h | (simp at h; omega)) v h)
@[go_sem] theorem r_ref08_Same {a : List Rng} {b : List Rng} (h : a.length ≤ 100000 ∧ b.length ≤ 100000) : RL5.f 33 [.slc (a.map Rng.enc), .slc (b.map Rng.enc)] = some (.bool (sameRs a b)) := RL5_ref08_Same (a, b) h
noncomputable def RL6 : Tab := RL5.add 40 (entry (fun (l : List Rng) => [.slc (l.map Rng.enc)]) (fun l => l.length ≤ 1000 ∧ okL l) (fun l => .slc ((setS (hasRs l)).map Rng.enc)))
theorem RL6_ok : TabOK Try.prog RL6 := RL5_ok.add (callable_of Try.func40 (by kernel_rfl) (by kernel_rfl)) (entry_ok fun l h => c_ref08_Of l h.1 h.2)
@[go_sem] theorem RL6_old {g : FuncId} {xs : List A} (h : g ≠ 40) : RL6.f g xs = RL5.f g xs := Tab.add_ne h
@[go_sem] theorem RL6_eff {g : FuncId} : RL6.eff g = RL5.eff g := rfl
@[go_sem] theorem RL6_frz {g : FuncId} : RL6.frz g = RL5.frz g := rfl
@[go_sem] theorem RL6_effT : RL6.effT = RL5.effT := rfl
@[go_sem] theorem RL6_fix : RL6.fix = RL5.fix := rfl
@[go_sem] theorem RL6_nf : RL6.nf = RL5.nf := rfl
@[go_sem] theorem RL6_ords {n : Nat} : RL6.ords n = RL5.ords n := rfl
@[go_sem] theorem RL6_hp : RL6.hp = RL5.hp := rfl
theorem RL6_ref08_Of (l : List Rng) (h : l.length ≤ 1000 ∧ okL l) : RL6.f 40 [.slc (l.map Rng.enc)] = some (.slc ((setS (hasRs l)).map Rng.enc)) :=
  (Tab.add_eq : RL6.f 40 [.slc (l.map Rng.enc)] = (entry (fun (l : List Rng) => [.slc (l.map Rng.enc)]) (fun l => l.length ≤ 1000 ∧ okL l) (fun l => .slc ((setS (hasRs l)).map Rng.enc))) [.slc (l.map Rng.enc)]).trans (entry_eq (fun i j h => by first | (cases i; cases j; rfl; done) | simpa [Prod.ext_iff, and_assoc] using h | (simp at h; omega)) l h)
@[go_sem] theorem r_ref08_Of {l : List Rng} (h : l.length ≤ 1000 ∧ okL l) : RL6.f 40 [.slc (l.map Rng.enc)] = some (.slc ((setS (hasRs l)).map Rng.enc)) := RL6_ref08_Of l h
noncomputable def RL7 : Tab := RL6.add 29 (entry (fun (v : List Rng × List Rng) => [.slc (v.1.map Rng.enc), .slc (v.2.map Rng.enc)]) (fun v => v.1.length ≤ 100000 ∧ v.2.length ≤ 100000 ∧ okL v.1 ∧ okL v.2) (fun v => .slc ((setS fun s => hasRs v.1 s || hasRs v.2 s).map Rng.enc)))
theorem RL7_ok : TabOK Try.prog RL7 := RL6_ok.add (callable_of Try.func29 (by kernel_rfl) (by kernel_rfl)) (entry_ok fun v h => c_ranges_Union v.1 v.2 h.1 h.2.1 h.2.2.1 h.2.2.2)
@[go_sem] theorem RL7_old {g : FuncId} {xs : List A} (h : g ≠ 29) : RL7.f g xs = RL6.f g xs := Tab.add_ne h
@[go_sem] theorem RL7_eff {g : FuncId} : RL7.eff g = RL6.eff g := rfl
@[go_sem] theorem RL7_frz {g : FuncId} : RL7.frz g = RL6.frz g := rfl
@[go_sem] theorem RL7_effT : RL7.effT = RL6.effT := rfl
@[go_sem] theorem RL7_fix : RL7.fix = RL6.fix := rfl
@[go_sem] theorem RL7_nf : RL7.nf = RL6.nf := rfl
@[go_sem] theorem RL7_ords {n : Nat} : RL7.ords n = RL6.ords n := rfl
@[go_sem] theorem RL7_hp : RL7.hp = RL6.hp := rfl
theorem RL7_ranges_Union (v : List Rng × List Rng) (h : v.1.length ≤ 100000 ∧ v.2.length ≤ 100000 ∧ okL v.1 ∧ okL v.2) : RL7.f 29 [.slc (v.1.map Rng.enc), .slc (v.2.map Rng.enc)] = some (.slc ((setS fun s => hasRs v.1 s || hasRs v.2 s).map Rng.enc)) :=
  (Tab.add_eq : RL7.f 29 [.slc (v.1.map Rng.enc), .slc (v.2.map Rng.enc)] = (entry (fun (v : List Rng × List Rng) => [.slc (v.1.map Rng.enc), .slc (v.2.map Rng.enc)]) (fun v => v.1.length ≤ 100000 ∧ v.2.length ≤ 100000 ∧ okL v.1 ∧ okL v.2) (fun v => .slc ((setS fun s => hasRs v.1 s || hasRs v.2 s).map Rng.enc))) [.slc (v.1.map Rng.enc), .slc (v.2.map Rng.enc)]).trans (entry_eq (fun i j h => by first | (cases i; cases j; rfl; done) | simpa [Prod.ext_iff, and_assoc] using h | (simp at h; omega)) v h)
@[go_sem] theorem r_ranges_Union {a : List Rng} {b : List Rng} (h : a.length ≤ 100000 ∧ b.length ≤ 100000 ∧ okL a ∧ okL b) : RL7.f 29 [.slc (a.map Rng.enc), .slc (b.map Rng.enc)] = some (.slc ((setS fun s => hasRs a s || hasRs b s).map Rng.enc)) := RL7_ranges_Union (a, b) h
noncomputable def RL8 : Tab := RL7.add 30 (entry (fun (v : List Rng × List Rng) => [.slc (v.1.map Rng.enc), .slc (v.2.map Rng.enc)]) (fun v => v.1.length ≤ 100000 ∧ v.2.length ≤ 100000 ∧ okL v.1 ∧ okL v.2) (fun v => .slc ((setS fun s => hasRs v.1 s && hasRs v.2 s).map Rng.enc)))
theorem RL8_ok : TabOK Try.prog RL8 := RL7_ok.add (callable_of Try.func30 (by kernel_rfl) (by kernel_rfl)) (entry_ok fun v h => c_ranges_Meet v.1 v.2 h.1 h.2.1 h.2.2.1 h.2.2.2)
@[go_sem] theorem RL8_old {g : FuncId} {xs : List A} (h : g ≠ 30) : RL8.f g xs = RL7.f g xs := Tab.add_ne h
@[go_sem] theorem RL8_eff {g : FuncId} : RL8.eff g = RL7.eff g := rfl
@[go_sem] theorem RL8_frz {g : FuncId} : RL8.frz g = RL7.frz g := rfl
@[go_sem] theorem RL8_effT : RL8.effT = RL7.effT := rfl
@[go_sem] theorem RL8_fix : RL8.fix = RL7.fix := rfl
@[go_sem] theorem RL8_nf : RL8.nf = RL7.nf := rfl
@[go_sem] theorem RL8_ords {n : Nat} : RL8.ords n = RL7.ords n := rfl
@[go_sem] theorem RL8_hp : RL8.hp = RL7.hp := rfl
theorem RL8_ranges_Meet (v : List Rng × List Rng) (h : v.1.length ≤ 100000 ∧ v.2.length ≤ 100000 ∧ okL v.1 ∧ okL v.2) : RL8.f 30 [.slc (v.1.map Rng.enc), .slc (v.2.map Rng.enc)] = some (.slc ((setS fun s => hasRs v.1 s && hasRs v.2 s).map Rng.enc)) :=
  (Tab.add_eq : RL8.f 30 [.slc (v.1.map Rng.enc), .slc (v.2.map Rng.enc)] = (entry (fun (v : List Rng × List Rng) => [.slc (v.1.map Rng.enc), .slc (v.2.map Rng.enc)]) (fun v => v.1.length ≤ 100000 ∧ v.2.length ≤ 100000 ∧ okL v.1 ∧ okL v.2) (fun v => .slc ((setS fun s => hasRs v.1 s && hasRs v.2 s).map Rng.enc))) [.slc (v.1.map Rng.enc), .slc (v.2.map Rng.enc)]).trans (entry_eq (fun i j h => by first | (cases i; cases j; rfl; done) | simpa [Prod.ext_iff, and_assoc] using h | (simp at h; omega)) v h)
@[go_sem] theorem r_ranges_Meet {a : List Rng} {b : List Rng} (h : a.length ≤ 100000 ∧ b.length ≤ 100000 ∧ okL a ∧ okL b) : RL8.f 30 [.slc (a.map Rng.enc), .slc (b.map Rng.enc)] = some (.slc ((setS fun s => hasRs a s && hasRs b s).map Rng.enc)) := RL8_ranges_Meet (a, b) h
noncomputable def RL9 : Tab := RL8.add 31 (entry (fun (v : List Rng × List Rng) => [.slc (v.1.map Rng.enc), .slc (v.2.map Rng.enc)]) (fun v => v.1.length ≤ 100000 ∧ v.2.length ≤ 100000 ∧ okL v.1 ∧ okL v.2) (fun v => .slc ((setS fun s => hasRs v.1 s && !hasRs v.2 s).map Rng.enc)))
theorem RL9_ok : TabOK Try.prog RL9 := RL8_ok.add (callable_of Try.func31 (by kernel_rfl) (by kernel_rfl)) (entry_ok fun v h => c_ranges_Less v.1 v.2 h.1 h.2.1 h.2.2.1 h.2.2.2)
@[go_sem] theorem RL9_old {g : FuncId} {xs : List A} (h : g ≠ 31) : RL9.f g xs = RL8.f g xs := Tab.add_ne h
@[go_sem] theorem RL9_eff {g : FuncId} : RL9.eff g = RL8.eff g := rfl
@[go_sem] theorem RL9_frz {g : FuncId} : RL9.frz g = RL8.frz g := rfl
@[go_sem] theorem RL9_effT : RL9.effT = RL8.effT := rfl
@[go_sem] theorem RL9_fix : RL9.fix = RL8.fix := rfl
@[go_sem] theorem RL9_nf : RL9.nf = RL8.nf := rfl
@[go_sem] theorem RL9_ords {n : Nat} : RL9.ords n = RL8.ords n := rfl
@[go_sem] theorem RL9_hp : RL9.hp = RL8.hp := rfl
theorem RL9_ranges_Less (v : List Rng × List Rng) (h : v.1.length ≤ 100000 ∧ v.2.length ≤ 100000 ∧ okL v.1 ∧ okL v.2) : RL9.f 31 [.slc (v.1.map Rng.enc), .slc (v.2.map Rng.enc)] = some (.slc ((setS fun s => hasRs v.1 s && !hasRs v.2 s).map Rng.enc)) :=
  (Tab.add_eq : RL9.f 31 [.slc (v.1.map Rng.enc), .slc (v.2.map Rng.enc)] = (entry (fun (v : List Rng × List Rng) => [.slc (v.1.map Rng.enc), .slc (v.2.map Rng.enc)]) (fun v => v.1.length ≤ 100000 ∧ v.2.length ≤ 100000 ∧ okL v.1 ∧ okL v.2) (fun v => .slc ((setS fun s => hasRs v.1 s && !hasRs v.2 s).map Rng.enc))) [.slc (v.1.map Rng.enc), .slc (v.2.map Rng.enc)]).trans (entry_eq (fun i j h => by first | (cases i; cases j; rfl; done) | simpa [Prod.ext_iff, and_assoc] using h | (simp at h; omega)) v h)
@[go_sem] theorem r_ranges_Less {a : List Rng} {b : List Rng} (h : a.length ≤ 100000 ∧ b.length ≤ 100000 ∧ okL a ∧ okL b) : RL9.f 31 [.slc (a.map Rng.enc), .slc (b.map Rng.enc)] = some (.slc ((setS fun s => hasRs a s && !hasRs b s).map Rng.enc)) := RL9_ranges_Less (a, b) h
noncomputable def RL10 : Tab := RL9.add 32 (entry (fun (l : List Rng) => [.slc (l.map Rng.enc)]) (fun l => l.length ≤ 100000 ∧ okL l) (fun l => .slc ((setS fun s => !hasRs l s).map Rng.enc)))
theorem RL10_ok : TabOK Try.prog RL10 := RL9_ok.add (callable_of Try.func32 (by kernel_rfl) (by kernel_rfl)) (entry_ok fun l h => c_ranges_Not l h.1 h.2)
@[go_sem] theorem RL10_old {g : FuncId} {xs : List A} (h : g ≠ 32) : RL10.f g xs = RL9.f g xs := Tab.add_ne h
@[go_sem] theorem RL10_eff {g : FuncId} : RL10.eff g = RL9.eff g := rfl
@[go_sem] theorem RL10_frz {g : FuncId} : RL10.frz g = RL9.frz g := rfl
@[go_sem] theorem RL10_effT : RL10.effT = RL9.effT := rfl
@[go_sem] theorem RL10_fix : RL10.fix = RL9.fix := rfl
@[go_sem] theorem RL10_nf : RL10.nf = RL9.nf := rfl
@[go_sem] theorem RL10_ords {n : Nat} : RL10.ords n = RL9.ords n := rfl
@[go_sem] theorem RL10_hp : RL10.hp = RL9.hp := rfl
theorem RL10_ranges_Not (l : List Rng) (h : l.length ≤ 100000 ∧ okL l) : RL10.f 32 [.slc (l.map Rng.enc)] = some (.slc ((setS fun s => !hasRs l s).map Rng.enc)) :=
  (Tab.add_eq : RL10.f 32 [.slc (l.map Rng.enc)] = (entry (fun (l : List Rng) => [.slc (l.map Rng.enc)]) (fun l => l.length ≤ 100000 ∧ okL l) (fun l => .slc ((setS fun s => !hasRs l s).map Rng.enc))) [.slc (l.map Rng.enc)]).trans (entry_eq (fun i j h => by first | (cases i; cases j; rfl; done) | simpa [Prod.ext_iff, and_assoc] using h | (simp at h; omega)) l h)
@[go_sem] theorem r_ranges_Not {l : List Rng} (h : l.length ≤ 100000 ∧ okL l) : RL10.f 32 [.slc (l.map Rng.enc)] = some (.slc ((setS fun s => !hasRs l s).map Rng.enc)) := RL10_ranges_Not l h
noncomputable def RL11 : Tab := RL10.add 41 (entry (fun (v : List Rng × List Rng) => [.slc (v.1.map Rng.enc), .slc (v.2.map Rng.enc)]) (fun v => v.1.length ≤ 100000 ∧ v.2.length ≤ 100000 ∧ okL v.1 ∧ okL v.2) (fun v => .bool (sameRs (setS (hasRs v.1)) (setS (hasRs v.2)))))
theorem RL11_ok : TabOK Try.prog RL11 := RL10_ok.add (callable_of Try.func41 (by kernel_rfl) (by kernel_rfl)) (entry_ok fun v h => c_ranges_Same v.1 v.2 h.1 h.2.1 h.2.2.1 h.2.2.2)
@[go_sem] theorem RL11_old {g : FuncId} {xs : List A} (h : g ≠ 41) : RL11.f g xs = RL10.f g xs := Tab.add_ne h
@[go_sem] theorem RL11_eff {g : FuncId} : RL11.eff g = RL10.eff g := rfl
@[go_sem] theorem RL11_frz {g : FuncId} : RL11.frz g = RL10.frz g := rfl
@[go_sem] theorem RL11_effT : RL11.effT = RL10.effT := rfl
@[go_sem] theorem RL11_fix : RL11.fix = RL10.fix := rfl
@[go_sem] theorem RL11_nf : RL11.nf = RL10.nf := rfl
@[go_sem] theorem RL11_ords {n : Nat} : RL11.ords n = RL10.ords n := rfl
@[go_sem] theorem RL11_hp : RL11.hp = RL10.hp := rfl
theorem RL11_ranges_Same (v : List Rng × List Rng) (h : v.1.length ≤ 100000 ∧ v.2.length ≤ 100000 ∧ okL v.1 ∧ okL v.2) : RL11.f 41 [.slc (v.1.map Rng.enc), .slc (v.2.map Rng.enc)] = some (.bool (sameRs (setS (hasRs v.1)) (setS (hasRs v.2)))) :=
  (Tab.add_eq : RL11.f 41 [.slc (v.1.map Rng.enc), .slc (v.2.map Rng.enc)] = (entry (fun (v : List Rng × List Rng) => [.slc (v.1.map Rng.enc), .slc (v.2.map Rng.enc)]) (fun v => v.1.length ≤ 100000 ∧ v.2.length ≤ 100000 ∧ okL v.1 ∧ okL v.2) (fun v => .bool (sameRs (setS (hasRs v.1)) (setS (hasRs v.2))))) [.slc (v.1.map Rng.enc), .slc (v.2.map Rng.enc)]).trans (entry_eq (fun i j h => by first | (cases i; cases j; rfl; done) | simpa [Prod.ext_iff, and_assoc] using h | (simp at h; omega)) v h)
@[go_sem] theorem r_ranges_Same {a : List Rng} {b : List Rng} (h : a.length ≤ 100000 ∧ b.length ≤ 100000 ∧ okL a ∧ okL b) : RL11.f 41 [.slc (a.map Rng.enc), .slc (b.map Rng.enc)] = some (.bool (sameRs (setS (hasRs a)) (setS (hasRs b)))) := RL11_ranges_Same (a, b) h
noncomputable def RL12 : Tab := RL11.add 42 (entry (fun (v : List Rng × List Rng) => [.slc (v.1.map Rng.enc), .slc (v.2.map Rng.enc)]) (fun v => v.1.length ≤ 100000 ∧ v.2.length ≤ 100000 ∧ okL v.1 ∧ okL v.2) (fun v => .bool (emptyS fun s => hasRs v.1 s && !hasRs v.2 s)))
theorem RL12_ok : TabOK Try.prog RL12 := RL11_ok.add (callable_of Try.func42 (by kernel_rfl) (by kernel_rfl)) (entry_ok fun v h => c_ranges_Within v.1 v.2 h.1 h.2.1 h.2.2.1 h.2.2.2)
@[go_sem] theorem RL12_old {g : FuncId} {xs : List A} (h : g ≠ 42) : RL12.f g xs = RL11.f g xs := Tab.add_ne h
@[go_sem] theorem RL12_eff {g : FuncId} : RL12.eff g = RL11.eff g := rfl
@[go_sem] theorem RL12_frz {g : FuncId} : RL12.frz g = RL11.frz g := rfl
@[go_sem] theorem RL12_effT : RL12.effT = RL11.effT := rfl
@[go_sem] theorem RL12_fix : RL12.fix = RL11.fix := rfl
@[go_sem] theorem RL12_nf : RL12.nf = RL11.nf := rfl
@[go_sem] theorem RL12_ords {n : Nat} : RL12.ords n = RL11.ords n := rfl
@[go_sem] theorem RL12_hp : RL12.hp = RL11.hp := rfl
theorem RL12_ranges_Within (v : List Rng × List Rng) (h : v.1.length ≤ 100000 ∧ v.2.length ≤ 100000 ∧ okL v.1 ∧ okL v.2) : RL12.f 42 [.slc (v.1.map Rng.enc), .slc (v.2.map Rng.enc)] = some (.bool (emptyS fun s => hasRs v.1 s && !hasRs v.2 s)) :=
  (Tab.add_eq : RL12.f 42 [.slc (v.1.map Rng.enc), .slc (v.2.map Rng.enc)] = (entry (fun (v : List Rng × List Rng) => [.slc (v.1.map Rng.enc), .slc (v.2.map Rng.enc)]) (fun v => v.1.length ≤ 100000 ∧ v.2.length ≤ 100000 ∧ okL v.1 ∧ okL v.2) (fun v => .bool (emptyS fun s => hasRs v.1 s && !hasRs v.2 s))) [.slc (v.1.map Rng.enc), .slc (v.2.map Rng.enc)]).trans (entry_eq (fun i j h => by first | (cases i; cases j; rfl; done) | simpa [Prod.ext_iff, and_assoc] using h | (simp at h; omega)) v h)
@[go_sem] theorem r_ranges_Within {a : List Rng} {b : List Rng} (h : a.length ≤ 100000 ∧ b.length ≤ 100000 ∧ okL a ∧ okL b) : RL12.f 42 [.slc (a.map Rng.enc), .slc (b.map Rng.enc)] = some (.bool (emptyS fun s => hasRs a s && !hasRs b s)) := RL12_ranges_Within (a, b) h

theorem sameRs_self (l : List Rng) : sameRs l l = true := by simp [sameRs]
theorem empty_iff {p : List UInt8 → Bool} (h : IsS p) : emptyS p = true ↔ ∀ s, p s = false := by
  unfold emptyS
  rw [decide_eq_true_iff, List.length_eq_zero_iff]
  constructor
  · intro e s
    have := setS_has h s
    rw [e] at this
    rw [← this]; rfl
  · intro hn
    exact (setS_eq (l := []) rfl fun s => by rw [hn s]; rfl).symm
end Go.Proofs.Ytnmkojglcgaobaa
