/- Chapter 14: replicas, right sets, what a set has; lists held against one another. -/
import Derived.Test.YtbnmicpgbcfooaaK14P
import Derived.Test.YtbnmicpgbcfooaaK13L
import Derived.Test.YtbnmicpgbcfooaaK12
namespace Go.Proofs.Ytbnmicpgbcfooaa
open Go.Abs
set_option linter.unusedSimpArgs false
set_option linter.unusedVariables false
set_option maxRecDepth 20000
set_option maxHeartbeats 8000000

@[go_sem] theorem Known.cells_eq {n : Int} {rs : List Run} : Known.cells ⟨n, rs⟩ = [.int .i64 n, .slc (rs.map Run.enc)] := rfl
@[go_sem] theorem Known.enc_eq {n : Int} {rs : List Run} : Known.enc ⟨n, rs⟩ = .agg [.int .i64 n, .slc (rs.map Run.enc)] := rfl
theorem Known.enc_inj (v w : Known) (h : v.enc = w.enc) : v = w := by
  cases v; cases w; simpa [Known.enc, Known.cells] using h
@[simp] theorem map_known_inj {l m : List Known} : (l.map Known.enc = m.map Known.enc) = (l = m) := map_inj Known.enc_inj
theorem known_get {l : List Known} {k : Nat} (h : k < l.length) : (l.map Known.enc)[k]? = some (.agg [.int .i64 l[k].n, .slc (l[k].rs.map Run.enc)]) := by
  rw [List.getElem?_map, List.getElem?_eq_getElem h]; rfl

theorem ok_vset_replica : codeOK Try.prog C13L12 Try.f32.ntmps (Try.f32.body.getD .skip) = true := by kernel_rfl
theorem c_replica (n : Int) : CallA Try.prog 32 [.int .i64 n] (· = .bool (repOK n)) := by
  refine callA_of_body C13L12_ok mixed Try.func32 rfl (Nat.le_of_ble_eq_true rfl) ok_vset_replica ?_
  unfold Try.f32
  by_cases h1 : 1 ≤ n
  · simp -implicitDefEqProofs (maxSteps := 600000) (disch := (first | omega | decide)) only [go_sem, ↓reduceIte, Nat.reduceEqDiff, reduceCtorEq, Nat.reduceAdd, Nat.reduceSub, Nat.reduceMul, Nat.reduceLeDiff, Nat.reduceLT, Nat.reduceBEq, Nat.reduceBNe, Int.reduceLE, Int.reduceLT, Int.reduceBEq, Int.reduceBNe, Int.reduceEq, Int.reduceNe, Int.reduceAdd, Int.reduceSub, Int.reduceMul, Int.reduceNeg, Int.reduceToNat, h1, repOK]
  · simp -implicitDefEqProofs (maxSteps := 600000) (disch := (first | omega | decide)) only [go_sem, ↓reduceIte, Nat.reduceEqDiff, reduceCtorEq, Nat.reduceAdd, Nat.reduceSub, Nat.reduceMul, Nat.reduceLeDiff, Nat.reduceLT, Nat.reduceBEq, Nat.reduceBNe, Int.reduceLE, Int.reduceLT, Int.reduceBEq, Int.reduceBNe, Int.reduceEq, Int.reduceNe, Int.reduceAdd, Int.reduceSub, Int.reduceMul, Int.reduceNeg, Int.reduceToNat, h1, repOK]
noncomputable def K14a : Tab := C13L12.add 32 (entry (fun (n : Int) => [.int .i64 n]) (fun n => True) (fun n => .bool (repOK n)))
theorem K14a_ok : TabOK Try.prog K14a := C13L12_ok.add (callable_of Try.func32 (by kernel_rfl) (by kernel_rfl)) (entry_ok fun n h => c_replica n)
@[go_sem] theorem K14a_old {g : FuncId} {xs : List A} (h : g ≠ 32) : K14a.f g xs = C13L12.f g xs := Tab.add_ne h
@[go_sem] theorem K14a_eff {g : FuncId} : K14a.eff g = C13L12.eff g := rfl
@[go_sem] theorem K14a_frz {g : FuncId} : K14a.frz g = C13L12.frz g := rfl
@[go_sem] theorem K14a_effT : K14a.effT = C13L12.effT := rfl
@[go_sem] theorem K14a_fix : K14a.fix = C13L12.fix := rfl
@[go_sem] theorem K14a_nf : K14a.nf = C13L12.nf := rfl
@[go_sem] theorem K14a_ords {n : Nat} : K14a.ords n = C13L12.ords n := rfl
@[go_sem] theorem K14a_hp : K14a.hp = C13L12.hp := rfl
theorem K14a_vset_replica (n : Int) (h : True) : K14a.f 32 [.int .i64 n] = some (.bool (repOK n)) :=
  (Tab.add_eq : K14a.f 32 [.int .i64 n] = (entry (fun (n : Int) => [.int .i64 n]) (fun n => True) (fun n => .bool (repOK n))) [.int .i64 n]).trans (entry_eq (fun i j h => by first | (cases i; cases j; rfl; done) | simpa [Prod.ext_iff, and_assoc] using h | (simp at h; omega)) n h)
@[go_sem] theorem k_replica {n : Int} : K14a.f 32 [.int .i64 n] = some (.bool (repOK n)) := K14a_vset_replica n trivial
noncomputable def K14b : Tab := K14a.add 36 (entry (fun (v : Int × Int) => [.agg [.int .i64 v.1, .int .i64 v.2]]) (fun v => True) (fun v => .bool (rightV ⟨v.1, v.2⟩)))
theorem K14b_ok : TabOK Try.prog K14b := K14a_ok.add (callable_of Try.func36 (by kernel_rfl) (by kernel_rfl)) (entry_ok fun v h => c_version_Right v.1 v.2)
@[go_sem] theorem K14b_old {g : FuncId} {xs : List A} (h : g ≠ 36) : K14b.f g xs = K14a.f g xs := Tab.add_ne h
@[go_sem] theorem K14b_eff {g : FuncId} : K14b.eff g = K14a.eff g := rfl
@[go_sem] theorem K14b_frz {g : FuncId} : K14b.frz g = K14a.frz g := rfl
@[go_sem] theorem K14b_effT : K14b.effT = K14a.effT := rfl
@[go_sem] theorem K14b_fix : K14b.fix = K14a.fix := rfl
@[go_sem] theorem K14b_nf : K14b.nf = K14a.nf := rfl
@[go_sem] theorem K14b_ords {n : Nat} : K14b.ords n = K14a.ords n := rfl
@[go_sem] theorem K14b_hp : K14b.hp = K14a.hp := rfl
theorem K14b_version_Right (v : Int × Int) (h : True) : K14b.f 36 [.agg [.int .i64 v.1, .int .i64 v.2]] = some (.bool (rightV ⟨v.1, v.2⟩)) :=
  (Tab.add_eq : K14b.f 36 [.agg [.int .i64 v.1, .int .i64 v.2]] = (entry (fun (v : Int × Int) => [.agg [.int .i64 v.1, .int .i64 v.2]]) (fun v => True) (fun v => .bool (rightV ⟨v.1, v.2⟩))) [.agg [.int .i64 v.1, .int .i64 v.2]]).trans (entry_eq (fun i j h => by first | (cases i; cases j; rfl; done) | simpa [Prod.ext_iff, and_assoc] using h | (simp at h; omega)) v h)
noncomputable def K14c : Tab := K14b.add 38 (entry (fun (v : Int × Int) => [.agg [.int .i64 v.1, .int .i64 v.2]]) (fun v => True) (fun v => .bool (rightV ⟨v.1, v.2⟩)))
theorem K14c_ok : TabOK Try.prog K14c := K14b_ok.add (callable_of Try.func38 (by kernel_rfl) (by kernel_rfl)) (entry_ok fun v h => c_ref12_Right v.1 v.2)
@[go_sem] theorem K14c_old {g : FuncId} {xs : List A} (h : g ≠ 38) : K14c.f g xs = K14b.f g xs := Tab.add_ne h
@[go_sem] theorem K14c_eff {g : FuncId} : K14c.eff g = K14b.eff g := rfl
@[go_sem] theorem K14c_frz {g : FuncId} : K14c.frz g = K14b.frz g := rfl
@[go_sem] theorem K14c_effT : K14c.effT = K14b.effT := rfl
@[go_sem] theorem K14c_fix : K14c.fix = K14b.fix := rfl
@[go_sem] theorem K14c_nf : K14c.nf = K14b.nf := rfl
@[go_sem] theorem K14c_ords {n : Nat} : K14c.ords n = K14b.ords n := rfl
@[go_sem] theorem K14c_hp : K14c.hp = K14b.hp := rfl
theorem K14c_ref12_Right (v : Int × Int) (h : True) : K14c.f 38 [.agg [.int .i64 v.1, .int .i64 v.2]] = some (.bool (rightV ⟨v.1, v.2⟩)) :=
  (Tab.add_eq : K14c.f 38 [.agg [.int .i64 v.1, .int .i64 v.2]] = (entry (fun (v : Int × Int) => [.agg [.int .i64 v.1, .int .i64 v.2]]) (fun v => True) (fun v => .bool (rightV ⟨v.1, v.2⟩))) [.agg [.int .i64 v.1, .int .i64 v.2]]).trans (entry_eq (fun i j h => by first | (cases i; cases j; rfl; done) | simpa [Prod.ext_iff, and_assoc] using h | (simp at h; omega)) v h)
@[go_sem] theorem k_version_Right {r c : Int} : K14b.f 36 [.agg [.int .i64 r, .int .i64 c]] = some (.bool (rightV ⟨r, c⟩)) := K14b_version_Right (r, c) trivial
@[go_sem] theorem k_ref12_Right {r c : Int} : K14c.f 38 [.agg [.int .i64 r, .int .i64 c]] = some (.bool (rightV ⟨r, c⟩)) := K14c_ref12_Right (r, c) trivial

/-- Sets that are not too long. -/
def sumK (s : List Known) : Nat := (s.map fun k => k.rs.length).sum
def smallK (s : List Known) : Prop := s.length ≤ 1000000 ∧ sumK s ≤ 1000000
theorem sumK_mem {s : List Known} {k : Known} (h : k ∈ s) : k.rs.length ≤ sumK s := by
  induction s with
  | nil => cases h
  | cons q s ih =>
    simp only [sumK, List.map_cons, List.sum_cons]
    rcases List.mem_cons.1 h with rfl | h
    · omega
    · have := ih h; simp only [sumK] at this; omega
theorem runsK_len (s : List Known) (n : Int) : (runsK s n).length ≤ sumK s := by
  induction s with
  | nil => simp [runsK, sumK]
  | cons q s ih =>
    simp only [runsK, sumK, List.map_cons, List.sum_cons] at ih ⊢
    split
    · rw [List.length_append]; omega
    · omega
theorem sumK_append (s t : List Known) : sumK (s ++ t) = sumK s + sumK t := by simp [sumK]
theorem sumK_take {s : List Known} {k : Nat} (h : k < s.length) : sumK (s.take k) + s[k].rs.length ≤ sumK s := by
  have e : s = s.take k ++ s[k] :: s.drop (k + 1) := by
    rw [← List.drop_eq_getElem_cons h, List.take_append_drop]
  have h2 : sumK s = sumK (s.take k) + sumK (s[k] :: s.drop (k + 1)) := by
    rw [← sumK_append, ← e]
  have h3 : sumK (s[k] :: s.drop (k + 1)) = s[k].rs.length + sumK (s.drop (k + 1)) := by unfold sumK; rw [List.map_cons, List.sum_cons]
  omega

theorem ok_vset_Right : codeOK Try.prog K14c Try.f14.ntmps (Try.f14.body.getD .skip) = true := by kernel_rfl
theorem c_vset_Right (s : List Known) (hs : smallK s) : CallA Try.prog 14 [.slc (s.map Known.enc)] (· = .bool (rightK s)) := by
  refine callA_of_body K14c_ok mixed Try.func14 rfl (Nat.le_of_ble_eq_true rfl) ok_vset_Right ?_
  unfold Try.f14
  obtain ⟨hs1, hs2⟩ := hs
  simp -implicitDefEqProofs (maxSteps := 600000) (disch := (first | omega | decide)) only [go_sem, ↓reduceIte, Nat.reduceEqDiff, reduceCtorEq, Nat.reduceAdd, Nat.reduceSub, Nat.reduceMul, Nat.reduceLeDiff, Nat.reduceLT, Nat.reduceBEq, Nat.reduceBNe, Int.reduceLE, Int.reduceLT, Int.reduceBEq, Int.reduceBNe, Int.reduceEq, Int.reduceNe, Int.reduceAdd, Int.reduceSub, Int.reduceMul, Int.reduceNeg, Int.reduceToNat, List.length_map]
  refine wpA_loop [0, 6, 7] (ι := {q : Nat × Int // q.1 ≤ s.length ∧ rightK s = goK q.2 (s.drop q.1)}) (fun q => [(8, .int .i64 q.1.1), (3, .int .i64 q.1.2)]) (fun _ => []) (fun q => s.length - q.1.1) ⟨(0, 0), by simp, rfl⟩ (Nat.zero_le _) ?_ ?_
  · simp -implicitDefEqProofs (maxSteps := 600000) (disch := (first | omega | decide)) only [go_sem, ↓reduceIte, Nat.reduceEqDiff, reduceCtorEq, Nat.reduceAdd, Nat.reduceSub, Nat.reduceMul, Nat.reduceLeDiff, Nat.reduceLT, Nat.reduceBEq, Nat.reduceBNe, Int.reduceLE, Int.reduceLT, Int.reduceBEq, Int.reduceBNe, Int.reduceEq, Int.reduceNe, Int.reduceAdd, Int.reduceSub, Int.reduceMul, Int.reduceNeg, Int.reduceToNat]
  · rintro ⟨⟨k, p⟩, hk, hd⟩
    simp only at hk hd ⊢
    by_cases hlt : k < s.length
    · have hlt' : (k : Int) < (s.length : Int) := by omega
      have e1 := known_get hlt
      have hm := sumK_mem (List.getElem_mem hlt)
      rw [List.drop_eq_getElem_cons hlt] at hd
      generalize hx : s[k] = x at *
      obtain ⟨n, rs⟩ := x
      simp only [goK, oneK] at hd hm
      have next : rightK s = goK n (s.drop (k + 1)) → ∃ j : {q : Nat × Int // q.1 ≤ s.length ∧ rightK s = goK q.2 (s.drop q.1)}, ((k : Int) + 1 = (j.1.1 : Int) ∧ n = j.1.2) ∧ s.length - j.1.1 < s.length - k := fun h => ⟨⟨(k + 1, n), hlt, h⟩, ⟨by simp, rfl⟩, by show s.length - (k + 1) < s.length - k; omega⟩
      cases h1 : repOK n with
      | false =>
        have hh : rightK s = false := by rw [hd, h1]; simp
        simp -implicitDefEqProofs (maxSteps := 600000) (disch := (first | omega | decide)) only [go_sem, ↓reduceIte, Nat.reduceEqDiff, reduceCtorEq, Nat.reduceAdd, Nat.reduceSub, Nat.reduceMul, Nat.reduceLeDiff, Nat.reduceLT, Nat.reduceBEq, Nat.reduceBNe, Int.reduceLE, Int.reduceLT, Int.reduceBEq, Int.reduceBNe, Int.reduceEq, Int.reduceNe, Int.reduceAdd, Int.reduceSub, Int.reduceMul, Int.reduceNeg, Int.reduceToNat, hlt', e1, h1, hh, List.length_map]
      | true =>
        by_cases h2 : n ≤ p
        · have hh : rightK s = false := by rw [hd, decide_eq_false (show ¬ p < n by omega)]; simp
          simp -implicitDefEqProofs (maxSteps := 600000) (disch := (first | omega | decide)) only [go_sem, ↓reduceIte, Nat.reduceEqDiff, reduceCtorEq, Nat.reduceAdd, Nat.reduceSub, Nat.reduceMul, Nat.reduceLeDiff, Nat.reduceLT, Nat.reduceBEq, Nat.reduceBNe, Int.reduceLE, Int.reduceLT, Int.reduceBEq, Int.reduceBNe, Int.reduceEq, Int.reduceNe, Int.reduceAdd, Int.reduceSub, Int.reduceMul, Int.reduceNeg, Int.reduceToNat, hlt', e1, h1, h2, hh, List.length_map]
        · cases h3 : ((rs.length : Int) == 0) with
          | true =>
            have : rs = [] := List.length_eq_zero_iff.1 (by have : (rs.length : Int) = 0 := by simpa using h3
                                                            omega)
            have hh : rightK s = false := by rw [hd, this]; simp
            simp -implicitDefEqProofs (maxSteps := 600000) (disch := (first | omega | decide)) only [go_sem, ↓reduceIte, Nat.reduceEqDiff, reduceCtorEq, Nat.reduceAdd, Nat.reduceSub, Nat.reduceMul, Nat.reduceLeDiff, Nat.reduceLT, Nat.reduceBEq, Nat.reduceBNe, Int.reduceLE, Int.reduceLT, Int.reduceBEq, Int.reduceBNe, Int.reduceEq, Int.reduceNe, Int.reduceAdd, Int.reduceSub, Int.reduceMul, Int.reduceNeg, Int.reduceToNat, hlt', e1, h1, h2, h3, hh, List.length_map]
          | false =>
            have hne : rs.isEmpty = false := by
              cases rs with
              | nil => simp at h3
              | cons _ _ => rfl
            cases h4 : rightL rs with
            | false =>
              have hh : rightK s = false := by rw [hd, h4]; simp
              simp -implicitDefEqProofs (maxSteps := 600000) (disch := (first | omega | decide)) only [go_sem, ↓reduceIte, Nat.reduceEqDiff, reduceCtorEq, Nat.reduceAdd, Nat.reduceSub, Nat.reduceMul, Nat.reduceLeDiff, Nat.reduceLT, Nat.reduceBEq, Nat.reduceBNe, Int.reduceLE, Int.reduceLT, Int.reduceBEq, Int.reduceBNe, Int.reduceEq, Int.reduceNe, Int.reduceAdd, Int.reduceSub, Int.reduceMul, Int.reduceNeg, Int.reduceToNat, hlt', e1, h1, h2, h3, h4, hh, List.length_map]
            | true =>
              have hh : rightK s = goK n (s.drop (k + 1)) := by rw [hd, h1, h4, hne, decide_eq_true (show p < n by omega)]; simp
              simp -implicitDefEqProofs (maxSteps := 600000) (disch := (first | omega | decide)) only [go_sem, ↓reduceIte, Nat.reduceEqDiff, reduceCtorEq, Nat.reduceAdd, Nat.reduceSub, Nat.reduceMul, Nat.reduceLeDiff, Nat.reduceLT, Nat.reduceBEq, Nat.reduceBNe, Int.reduceLE, Int.reduceLT, Int.reduceBEq, Int.reduceBNe, Int.reduceEq, Int.reduceNe, Int.reduceAdd, Int.reduceSub, Int.reduceMul, Int.reduceNeg, Int.reduceToNat, hlt', e1, h1, h2, h3, h4, wrap_i64, List.length_map]
              exact next hh
    · have hlt' : ¬ (k : Int) < (s.length : Int) := by omega
      have hh : rightK s = true := by rw [hd, List.drop_of_length_le (by omega)]; rfl
      simp -implicitDefEqProofs (maxSteps := 600000) (disch := (first | omega | decide)) only [go_sem, ↓reduceIte, Nat.reduceEqDiff, reduceCtorEq, Nat.reduceAdd, Nat.reduceSub, Nat.reduceMul, Nat.reduceLeDiff, Nat.reduceLT, Nat.reduceBEq, Nat.reduceBNe, Int.reduceLE, Int.reduceLT, Int.reduceBEq, Int.reduceBNe, Int.reduceEq, Int.reduceNe, Int.reduceAdd, Int.reduceSub, Int.reduceMul, Int.reduceNeg, Int.reduceToNat, hlt', hh, List.length_map]
end Go.Proofs.Ytbnmicpgbcfooaa
namespace Go.Proofs.Ytbnmicpgbcfooaa
open Go.Abs
set_option linter.unusedSimpArgs false
set_option linter.unusedVariables false
set_option maxRecDepth 20000
set_option maxHeartbeats 8000000

/-- The replica ahead of the k-th. -/
def prevK (s : List Known) (k : Nat) : Int := if k = 0 then 0 else s[k - 1]!.n
theorem ok_ref14_Right : codeOK Try.prog K14c Try.f15.ntmps (Try.f15.body.getD .skip) = true := by kernel_rfl
theorem c_ref14_Right (s : List Known) (hs : smallK s) : CallA Try.prog 15 [.slc (s.map Known.enc)] (· = .bool (rightK s)) := by
  refine callA_of_body K14c_ok mixed Try.func15 rfl (Nat.le_of_ble_eq_true rfl) ok_ref14_Right ?_
  unfold Try.f15
  obtain ⟨hs1, hs2⟩ := hs
  simp -implicitDefEqProofs (maxSteps := 600000) (disch := (first | omega | decide)) only [go_sem, ↓reduceIte, Nat.reduceEqDiff, reduceCtorEq, Nat.reduceAdd, Nat.reduceSub, Nat.reduceMul, Nat.reduceLeDiff, Nat.reduceLT, Nat.reduceBEq, Nat.reduceBNe, Int.reduceLE, Int.reduceLT, Int.reduceBEq, Int.reduceBNe, Int.reduceEq, Int.reduceNe, Int.reduceAdd, Int.reduceSub, Int.reduceMul, Int.reduceNeg, Int.reduceToNat, List.length_map]
  refine wpA_loop [0] (ι := {k : Nat // k ≤ s.length ∧ rightK s = goK (prevK s k) (s.drop k)}) (fun q => [(3, .int .i64 q.1)]) (fun _ => []) (fun q => s.length - q.1) ⟨0, by omega, rfl⟩ (Nat.zero_le _) ?_ ?_
  · simp -implicitDefEqProofs (maxSteps := 600000) (disch := (first | omega | decide)) only [go_sem, ↓reduceIte, Nat.reduceEqDiff, reduceCtorEq, Nat.reduceAdd, Nat.reduceSub, Nat.reduceMul, Nat.reduceLeDiff, Nat.reduceLT, Nat.reduceBEq, Nat.reduceBNe, Int.reduceLE, Int.reduceLT, Int.reduceBEq, Int.reduceBNe, Int.reduceEq, Int.reduceNe, Int.reduceAdd, Int.reduceSub, Int.reduceMul, Int.reduceNeg, Int.reduceToNat]
  · rintro ⟨k, hk, hd⟩
    simp only at hk hd ⊢
    by_cases hlt : k < s.length
    · have hlt' : (k : Int) < (s.length : Int) := by omega
      have e1 := known_get hlt
      have hm := sumK_mem (List.getElem_mem hlt)
      have hp : prevK s (k + 1) = s[k].n := by
        unfold prevK; rw [if_neg (by omega), Nat.add_sub_cancel, getElem!_pos s k hlt]
      rw [List.drop_eq_getElem_cons hlt] at hd
      generalize hx : s[k] = x at *
      obtain ⟨n, rs⟩ := x
      simp only [goK, oneK] at hd hm hp
      have next : rightK s = goK n (s.drop (k + 1)) → ∃ j : {k : Nat // k ≤ s.length ∧ rightK s = goK (prevK s k) (s.drop k)}, (k : Int) + 1 = (j.1 : Int) ∧ s.length - j.1 < s.length - k := fun h => ⟨⟨k + 1, hlt, by rw [hp]; exact h⟩, by simp, by show s.length - (k + 1) < s.length - k; omega⟩
      by_cases h1 : n < 1
      · have hh : rightK s = false := by
          rw [hd, show repOK n = false by rw [← Bool.not_eq_true, repOK_iff]; omega]; simp
        simp -implicitDefEqProofs (maxSteps := 600000) (disch := (first | omega | decide)) only [go_sem, ↓reduceIte, Nat.reduceEqDiff, reduceCtorEq, Nat.reduceAdd, Nat.reduceSub, Nat.reduceMul, Nat.reduceLeDiff, Nat.reduceLT, Nat.reduceBEq, Nat.reduceBNe, Int.reduceLE, Int.reduceLT, Int.reduceBEq, Int.reduceBNe, Int.reduceEq, Int.reduceNe, Int.reduceAdd, Int.reduceSub, Int.reduceMul, Int.reduceNeg, Int.reduceToNat, hlt', e1, h1, hh, List.length_map]
      · by_cases h2 : 16 < n
        · have hh : rightK s = false := by
            rw [hd, show repOK n = false by rw [← Bool.not_eq_true, repOK_iff]; omega]; simp
          simp -implicitDefEqProofs (maxSteps := 600000) (disch := (first | omega | decide)) only [go_sem, ↓reduceIte, Nat.reduceEqDiff, reduceCtorEq, Nat.reduceAdd, Nat.reduceSub, Nat.reduceMul, Nat.reduceLeDiff, Nat.reduceLT, Nat.reduceBEq, Nat.reduceBNe, Int.reduceLE, Int.reduceLT, Int.reduceBEq, Int.reduceBNe, Int.reduceEq, Int.reduceNe, Int.reduceAdd, Int.reduceSub, Int.reduceMul, Int.reduceNeg, Int.reduceToNat, hlt', e1, h1, h2, hh, List.length_map]
        · have hr : repOK n = true := repOK_iff.2 (by omega)
          have rest : prevK s k < n → ∀ (c : Bool), c = (!rs.isEmpty && rightL rs) → rightK s = (c && goK n (s.drop (k + 1))) := fun hp c hc => by
            rw [hd, hr, decide_eq_true hp, hc]; simp [Bool.and_assoc]
          by_cases hk0 : k = 0
          · have hz : ¬ (0 : Int) < (k : Int) := by omega
            have rest' := rest (by unfold prevK; rw [if_pos hk0]; omega)
            cases h3 : ((rs.length : Int) == 0) with
            | true =>
              have : rs = [] := List.length_eq_zero_iff.1 (by have : (rs.length : Int) = 0 := by simpa using h3
                                                              omega)
              have hh : rightK s = false := by rw [rest' false (by rw [this]; rfl)]; rfl
              simp -implicitDefEqProofs (maxSteps := 600000) (disch := (first | omega | decide)) only [go_sem, ↓reduceIte, Nat.reduceEqDiff, reduceCtorEq, Nat.reduceAdd, Nat.reduceSub, Nat.reduceMul, Nat.reduceLeDiff, Nat.reduceLT, Nat.reduceBEq, Nat.reduceBNe, Int.reduceLE, Int.reduceLT, Int.reduceBEq, Int.reduceBNe, Int.reduceEq, Int.reduceNe, Int.reduceAdd, Int.reduceSub, Int.reduceMul, Int.reduceNeg, Int.reduceToNat, hlt', e1, h1, h2, hz, h3, hh, List.length_map]
            | false =>
              have hne : rs.isEmpty = false := by
                cases rs with
                | nil => simp at h3
                | cons _ _ => rfl
              cases h4 : rightL rs with
              | false =>
                have hh : rightK s = false := by rw [rest' false (by rw [hne, h4]; rfl)]; rfl
                simp -implicitDefEqProofs (maxSteps := 600000) (disch := (first | omega | decide)) only [go_sem, ↓reduceIte, Nat.reduceEqDiff, reduceCtorEq, Nat.reduceAdd, Nat.reduceSub, Nat.reduceMul, Nat.reduceLeDiff, Nat.reduceLT, Nat.reduceBEq, Nat.reduceBNe, Int.reduceLE, Int.reduceLT, Int.reduceBEq, Int.reduceBNe, Int.reduceEq, Int.reduceNe, Int.reduceAdd, Int.reduceSub, Int.reduceMul, Int.reduceNeg, Int.reduceToNat, hlt', e1, h1, h2, hz, h3, h4, hh, List.length_map]
              | true =>
                have hh := rest' true (by rw [hne, h4]; rfl)
                simp -implicitDefEqProofs (maxSteps := 600000) (disch := (first | omega | decide)) only [go_sem, ↓reduceIte, Nat.reduceEqDiff, reduceCtorEq, Nat.reduceAdd, Nat.reduceSub, Nat.reduceMul, Nat.reduceLeDiff, Nat.reduceLT, Nat.reduceBEq, Nat.reduceBNe, Int.reduceLE, Int.reduceLT, Int.reduceBEq, Int.reduceBNe, Int.reduceEq, Int.reduceNe, Int.reduceAdd, Int.reduceSub, Int.reduceMul, Int.reduceNeg, Int.reduceToNat, hlt', e1, h1, h2, hz, h3, h4, wrap_i64, List.length_map]
                exact next hh
          · have hz : (0 : Int) < (k : Int) := by omega
            have hlt2 : k - 1 < s.length := by omega
            have e2 := known_get hlt2
            have hpk : prevK s k = s[k - 1].n := by unfold prevK; rw [if_neg hk0, getElem!_pos s (k - 1) hlt2]
            generalize hy : s[k - 1] = y at *
            obtain ⟨n', rs'⟩ := y
            simp only at hpk
            have c1 : ((k : Int) - 1).toNat = k - 1 := by omega
            have c2 : (0 : Int) ≤ (k : Int) - 1 := by omega
            by_cases h5 : n ≤ n'
            · have hh : rightK s = false := by rw [hd, hpk, decide_eq_false (show ¬ n' < n by omega)]; simp
              simp -implicitDefEqProofs (maxSteps := 600000) (disch := (first | omega | decide)) only [go_sem, ↓reduceIte, Nat.reduceEqDiff, reduceCtorEq, Nat.reduceAdd, Nat.reduceSub, Nat.reduceMul, Nat.reduceLeDiff, Nat.reduceLT, Nat.reduceBEq, Nat.reduceBNe, Int.reduceLE, Int.reduceLT, Int.reduceBEq, Int.reduceBNe, Int.reduceEq, Int.reduceNe, Int.reduceAdd, Int.reduceSub, Int.reduceMul, Int.reduceNeg, Int.reduceToNat, hlt', e1, h1, h2, hz, e2, c1, c2, h5, hh, wrap_i64, List.length_map]
            · have rest' := rest (by rw [hpk]; omega)
              cases h3 : ((rs.length : Int) == 0) with
              | true =>
                have : rs = [] := List.length_eq_zero_iff.1 (by have : (rs.length : Int) = 0 := by simpa using h3
                                                                omega)
                have hh : rightK s = false := by rw [rest' false (by rw [this]; rfl)]; rfl
                simp -implicitDefEqProofs (maxSteps := 600000) (disch := (first | omega | decide)) only [go_sem, ↓reduceIte, Nat.reduceEqDiff, reduceCtorEq, Nat.reduceAdd, Nat.reduceSub, Nat.reduceMul, Nat.reduceLeDiff, Nat.reduceLT, Nat.reduceBEq, Nat.reduceBNe, Int.reduceLE, Int.reduceLT, Int.reduceBEq, Int.reduceBNe, Int.reduceEq, Int.reduceNe, Int.reduceAdd, Int.reduceSub, Int.reduceMul, Int.reduceNeg, Int.reduceToNat, hlt', e1, h1, h2, hz, e2, c1, c2, h5, h3, hh, wrap_i64, List.length_map]
              | false =>
                have hne : rs.isEmpty = false := by
                  cases rs with
                  | nil => simp at h3
                  | cons _ _ => rfl
                cases h4 : rightL rs with
                | false =>
                  have hh : rightK s = false := by rw [rest' false (by rw [hne, h4]; rfl)]; rfl
                  simp -implicitDefEqProofs (maxSteps := 600000) (disch := (first | omega | decide)) only [go_sem, ↓reduceIte, Nat.reduceEqDiff, reduceCtorEq, Nat.reduceAdd, Nat.reduceSub, Nat.reduceMul, Nat.reduceLeDiff, Nat.reduceLT, Nat.reduceBEq, Nat.reduceBNe, Int.reduceLE, Int.reduceLT, Int.reduceBEq, Int.reduceBNe, Int.reduceEq, Int.reduceNe, Int.reduceAdd, Int.reduceSub, Int.reduceMul, Int.reduceNeg, Int.reduceToNat, hlt', e1, h1, h2, hz, e2, c1, c2, h5, h3, h4, hh, wrap_i64, List.length_map]
                | true =>
                  have hh := rest' true (by rw [hne, h4]; rfl)
                  simp -implicitDefEqProofs (maxSteps := 600000) (disch := (first | omega | decide)) only [go_sem, ↓reduceIte, Nat.reduceEqDiff, reduceCtorEq, Nat.reduceAdd, Nat.reduceSub, Nat.reduceMul, Nat.reduceLeDiff, Nat.reduceLT, Nat.reduceBEq, Nat.reduceBNe, Int.reduceLE, Int.reduceLT, Int.reduceBEq, Int.reduceBNe, Int.reduceEq, Int.reduceNe, Int.reduceAdd, Int.reduceSub, Int.reduceMul, Int.reduceNeg, Int.reduceToNat, hlt', e1, h1, h2, hz, e2, c1, c2, h5, h3, h4, wrap_i64, List.length_map]
                  exact next hh
    · have hlt' : ¬ (k : Int) < (s.length : Int) := by omega
      have hh : rightK s = true := by rw [hd, List.drop_of_length_le (by omega)]; rfl
      simp -implicitDefEqProofs (maxSteps := 600000) (disch := (first | omega | decide)) only [go_sem, ↓reduceIte, Nat.reduceEqDiff, reduceCtorEq, Nat.reduceAdd, Nat.reduceSub, Nat.reduceMul, Nat.reduceLeDiff, Nat.reduceLT, Nat.reduceBEq, Nat.reduceBNe, Int.reduceLE, Int.reduceLT, Int.reduceBEq, Int.reduceBNe, Int.reduceEq, Int.reduceNe, Int.reduceAdd, Int.reduceSub, Int.reduceMul, Int.reduceNeg, Int.reduceToNat, hlt', hh, List.length_map]

theorem right_ver {n c : Int} : rightV ⟨n, c⟩ = (repOK n && (decide (1 ≤ c) && decide (c ≤ 1099511627776))) := by simp [rightV, repOK, Bool.and_assoc]
theorem has_ver {s : List Known} {n c : Int} : (rightV ⟨n, c⟩ && hasL13 (runsK s n) c) = hasK s n c := by
  rw [right_ver]; unfold hasK
  cases h : hasL13 (runsK s n) c with
  | false => simp
  | true => have := has_range h; simp [this]
theorem ok_vset_Has : codeOK Try.prog K14c Try.f16.ntmps (Try.f16.body.getD .skip) = true := by kernel_rfl
theorem c_vset_Has (s : List Known) (n c : Int) (hs : smallK s) : CallA Try.prog 16 [.slc (s.map Known.enc), .agg [.int .i64 n, .int .i64 c]] (· = .bool (hasK s n c)) := by
  refine callA_of_body K14c_ok mixed Try.func16 rfl (Nat.le_of_ble_eq_true rfl) ok_vset_Has ?_
  unfold Try.f16
  obtain ⟨hs1, hs2⟩ := hs
  have hv := has_ver (s := s) (n := n) (c := c)
  cases h1 : rightV ⟨n, c⟩ with
  | false =>
    rw [h1, Bool.false_and] at hv
    simp -implicitDefEqProofs (maxSteps := 600000) (disch := (first | omega | decide)) only [go_sem, ↓reduceIte, Nat.reduceEqDiff, reduceCtorEq, Nat.reduceAdd, Nat.reduceSub, Nat.reduceMul, Nat.reduceLeDiff, Nat.reduceLT, Nat.reduceBEq, Nat.reduceBNe, Int.reduceLE, Int.reduceLT, Int.reduceBEq, Int.reduceBNe, Int.reduceEq, Int.reduceNe, Int.reduceAdd, Int.reduceSub, Int.reduceMul, Int.reduceNeg, Int.reduceToNat, h1, ← hv, List.length_map]
  | true =>
    rw [h1, Bool.true_and] at hv
    simp -implicitDefEqProofs (maxSteps := 600000) (disch := (first | omega | decide)) only [go_sem, ↓reduceIte, Nat.reduceEqDiff, reduceCtorEq, Nat.reduceAdd, Nat.reduceSub, Nat.reduceMul, Nat.reduceLeDiff, Nat.reduceLT, Nat.reduceBEq, Nat.reduceBNe, Int.reduceLE, Int.reduceLT, Int.reduceBEq, Int.reduceBNe, Int.reduceEq, Int.reduceNe, Int.reduceAdd, Int.reduceSub, Int.reduceMul, Int.reduceNeg, Int.reduceToNat, h1, ← hv, List.length_map]
    refine wpA_loop [0, 3, 10, 11] (ι := {k : Nat // k ≤ s.length ∧ hasL13 (runsK s n) c = hasL13 (runsK (s.drop k) n) c}) (fun p => [(12, .int .i64 p.1)]) (fun _ => []) (fun p => s.length - p.1) ⟨0, by omega, rfl⟩ (Nat.zero_le _) ?_ ?_
    · simp -implicitDefEqProofs (maxSteps := 600000) (disch := (first | omega | decide)) only [go_sem, ↓reduceIte, Nat.reduceEqDiff, reduceCtorEq, Nat.reduceAdd, Nat.reduceSub, Nat.reduceMul, Nat.reduceLeDiff, Nat.reduceLT, Nat.reduceBEq, Nat.reduceBNe, Int.reduceLE, Int.reduceLT, Int.reduceBEq, Int.reduceBNe, Int.reduceEq, Int.reduceNe, Int.reduceAdd, Int.reduceSub, Int.reduceMul, Int.reduceNeg, Int.reduceToNat]
    · rintro ⟨k, hk, hd⟩
      simp only at hk hd ⊢
      by_cases hlt : k < s.length
      · have hlt' : (k : Int) < (s.length : Int) := by omega
        have e1 := known_get hlt
        have hm := sumK_mem (List.getElem_mem hlt)
        rw [List.drop_eq_getElem_cons hlt] at hd
        generalize hx : s[k] = x at *
        obtain ⟨m, rs⟩ := x
        simp only [runsK] at hd hm
        have next : hasL13 (runsK s n) c = hasL13 (runsK (s.drop (k + 1)) n) c → ∃ j : {k : Nat // k ≤ s.length ∧ hasL13 (runsK s n) c = hasL13 (runsK (s.drop k) n) c}, (k : Int) + 1 = (j.1 : Int) ∧ s.length - j.1 < s.length - k := fun h => ⟨⟨k + 1, hlt, h⟩, by simp, by show s.length - (k + 1) < s.length - k; omega⟩
        cases h2 : m == n with
        | false =>
          have : m ≠ n := by simpa using h2
          rw [if_neg this] at hd
          simp -implicitDefEqProofs (maxSteps := 600000) (disch := (first | omega | decide)) only [go_sem, ↓reduceIte, Nat.reduceEqDiff, reduceCtorEq, Nat.reduceAdd, Nat.reduceSub, Nat.reduceMul, Nat.reduceLeDiff, Nat.reduceLT, Nat.reduceBEq, Nat.reduceBNe, Int.reduceLE, Int.reduceLT, Int.reduceBEq, Int.reduceBNe, Int.reduceEq, Int.reduceNe, Int.reduceAdd, Int.reduceSub, Int.reduceMul, Int.reduceNeg, Int.reduceToNat, hlt', e1, h2, wrap_i64, List.length_map]
          exact next hd
        | true =>
          have : m = n := by simpa using h2
          rw [if_pos this, has_append] at hd
          cases h3 : hasL13 rs c with
          | true =>
            have hh : hasL13 (runsK s n) c = true := by rw [hd, h3]; rfl
            simp -implicitDefEqProofs (maxSteps := 600000) (disch := (first | omega | decide)) only [go_sem, ↓reduceIte, Nat.reduceEqDiff, reduceCtorEq, Nat.reduceAdd, Nat.reduceSub, Nat.reduceMul, Nat.reduceLeDiff, Nat.reduceLT, Nat.reduceBEq, Nat.reduceBNe, Int.reduceLE, Int.reduceLT, Int.reduceBEq, Int.reduceBNe, Int.reduceEq, Int.reduceNe, Int.reduceAdd, Int.reduceSub, Int.reduceMul, Int.reduceNeg, Int.reduceToNat, hlt', e1, h2, h3, hh, List.length_map]
          | false =>
            rw [h3, Bool.false_or] at hd
            simp -implicitDefEqProofs (maxSteps := 600000) (disch := (first | omega | decide)) only [go_sem, ↓reduceIte, Nat.reduceEqDiff, reduceCtorEq, Nat.reduceAdd, Nat.reduceSub, Nat.reduceMul, Nat.reduceLeDiff, Nat.reduceLT, Nat.reduceBEq, Nat.reduceBNe, Int.reduceLE, Int.reduceLT, Int.reduceBEq, Int.reduceBNe, Int.reduceEq, Int.reduceNe, Int.reduceAdd, Int.reduceSub, Int.reduceMul, Int.reduceNeg, Int.reduceToNat, hlt', e1, h2, h3, wrap_i64, List.length_map]
            exact next hd
      · have hlt' : ¬ (k : Int) < (s.length : Int) := by omega
        have hh : hasL13 (runsK s n) c = false := by rw [hd, List.drop_of_length_le (by omega)]; rfl
        simp -implicitDefEqProofs (maxSteps := 600000) (disch := (first | omega | decide)) only [go_sem, ↓reduceIte, Nat.reduceEqDiff, reduceCtorEq, Nat.reduceAdd, Nat.reduceSub, Nat.reduceMul, Nat.reduceLeDiff, Nat.reduceLT, Nat.reduceBEq, Nat.reduceBNe, Int.reduceLE, Int.reduceLT, Int.reduceBEq, Int.reduceBNe, Int.reduceEq, Int.reduceNe, Int.reduceAdd, Int.reduceSub, Int.reduceMul, Int.reduceNeg, Int.reduceToNat, hlt', hh, List.length_map]
theorem stR (l : List Run) : ((l.map Run.enc).isEmpty || strideOf (l.map Run.enc) == 2) = true := by cases l <;> rfl
theorem runsK_snoc {s : List Known} {k : Nat} (h : k < s.length) (n : Int) : runsK (s.take (k + 1)) n = runsK (s.take k) n ++ (if s[k].n = n then s[k].rs else []) := by
  rw [← List.take_append_getElem h, runsK_append]
  simp only [runsK, List.append_nil]
theorem ok_ref14_Runs : codeOK Try.prog K14c Try.f12.ntmps (Try.f12.body.getD .skip) = true := by kernel_rfl
theorem c_ref14_Runs (s : List Known) (n : Int) (hs : smallK s) : CallA Try.prog 12 [.slc (s.map Known.enc), .int .i64 n] (· = .slc ((runsK s n).map Run.enc)) := by
  refine callA_of_body K14c_ok mixed Try.func12 rfl (Nat.le_of_ble_eq_true rfl) ok_ref14_Runs ?_
  unfold Try.f12
  obtain ⟨hs1, hs2⟩ := hs
  simp -implicitDefEqProofs (maxSteps := 600000) (disch := (first | omega | decide)) only [go_sem, ↓reduceIte, Nat.reduceEqDiff, reduceCtorEq, Nat.reduceAdd, Nat.reduceSub, Nat.reduceMul, Nat.reduceLeDiff, Nat.reduceLT, Nat.reduceBEq, Nat.reduceBNe, Int.reduceLE, Int.reduceLT, Int.reduceBEq, Int.reduceBNe, Int.reduceEq, Int.reduceNe, Int.reduceAdd, Int.reduceSub, Int.reduceMul, Int.reduceNeg, Int.reduceToNat, List.length_map]
  refine wpA_loop_nil 5 2 rfl ?_
  refine wpA_loop [0, 1] (ι := {k : Nat // k ≤ s.length}) (fun p => [(6, .int .i64 p.1), (5, .row 0 0 2 (runsK (s.take p.1) n).length false)]) (fun p => [(0, .row 2 ((runsK (s.take p.1) n).map Run.enc))]) (fun p => s.length - p.1) ⟨0, by omega⟩ (Nat.zero_le _) ?_ ?_
  · simp -implicitDefEqProofs (maxSteps := 600000) (disch := (first | omega | decide)) only [go_sem, ↓reduceIte, Nat.reduceEqDiff, reduceCtorEq, Nat.reduceAdd, Nat.reduceSub, Nat.reduceMul, Nat.reduceLeDiff, Nat.reduceLT, Nat.reduceBEq, Nat.reduceBNe, Int.reduceLE, Int.reduceLT, Int.reduceBEq, Int.reduceBNe, Int.reduceEq, Int.reduceNe, Int.reduceAdd, Int.reduceSub, Int.reduceMul, Int.reduceNeg, Int.reduceToNat]
    simp [runsK]
  · rintro ⟨k, hk⟩
    simp only
    have hl1 := runsK_len (s.take k) n
    by_cases hlt : k < s.length
    · have hlt' : (k : Int) < (s.length : Int) := by omega
      have e1 := known_get hlt
      have hm := sumK_take hlt
      have hsn := runsK_snoc hlt n
      generalize hx : s[k] = x at *
      obtain ⟨m, rs⟩ := x
      simp only at hm hsn
      have st := stR rs
      cases h2 : m == n with
      | false =>
        have : m ≠ n := by simpa using h2
        rw [if_neg this, List.append_nil] at hsn
        simp -implicitDefEqProofs (maxSteps := 600000) (disch := (first | omega | decide)) only [go_sem, ↓reduceIte, Nat.reduceEqDiff, reduceCtorEq, Nat.reduceAdd, Nat.reduceSub, Nat.reduceMul, Nat.reduceLeDiff, Nat.reduceLT, Nat.reduceBEq, Nat.reduceBNe, Int.reduceLE, Int.reduceLT, Int.reduceBEq, Int.reduceBNe, Int.reduceEq, Int.reduceNe, Int.reduceAdd, Int.reduceSub, Int.reduceMul, Int.reduceNeg, Int.reduceToNat, hlt', e1, h2, wrap_i64, List.length_map]
        exact ⟨⟨k + 1, hlt⟩, ⟨⟨by simp, by rw [hsn]⟩, by rw [hsn]⟩, by show s.length - (k + 1) < s.length - k; omega⟩
      | true =>
        have : m = n := by simpa using h2
        rw [if_pos this] at hsn
        simp -implicitDefEqProofs (maxSteps := 600000) (disch := (first | omega | decide)) only [go_sem, ↓reduceIte, Nat.reduceEqDiff, reduceCtorEq, Nat.reduceAdd, Nat.reduceSub, Nat.reduceMul, Nat.reduceLeDiff, Nat.reduceLT, Nat.reduceBEq, Nat.reduceBNe, Int.reduceLE, Int.reduceLT, Int.reduceBEq, Int.reduceBNe, Int.reduceEq, Int.reduceNe, Int.reduceAdd, Int.reduceSub, Int.reduceMul, Int.reduceNeg, Int.reduceToNat, hlt', e1, h2, st, wrap_i64, List.length_map]
        exact ⟨⟨Nat.le_refl _, by omega⟩, ⟨k + 1, hlt⟩, ⟨⟨by simp, by rw [hsn, List.length_append]⟩, by rw [hsn, List.map_append, List.take_of_length_le (by simp)]⟩, by show s.length - (k + 1) < s.length - k; omega⟩
    · have hlt' : ¬ (k : Int) < (s.length : Int) := by omega
      rw [List.take_of_length_le (by omega)] at *
      simp -implicitDefEqProofs (maxSteps := 600000) (disch := (first | omega | decide)) only [go_sem, ↓reduceIte, Nat.reduceEqDiff, reduceCtorEq, Nat.reduceAdd, Nat.reduceSub, Nat.reduceMul, Nat.reduceLeDiff, Nat.reduceLT, Nat.reduceBEq, Nat.reduceBNe, Int.reduceLE, Int.reduceLT, Int.reduceBEq, Int.reduceBNe, Int.reduceEq, Int.reduceNe, Int.reduceAdd, Int.reduceSub, Int.reduceMul, Int.reduceNeg, Int.reduceToNat, hlt', List.length_map]
      exact ⟨Nat.le_refl _, by rw [List.take_of_length_le (by simp)]⟩
noncomputable def K14d : Tab := K14c.add 14 (entry (fun (s : List Known) => [.slc (s.map Known.enc)]) (fun s => smallK s) (fun s => .bool (rightK s)))
theorem K14d_ok : TabOK Try.prog K14d := K14c_ok.add (callable_of Try.func14 (by kernel_rfl) (by kernel_rfl)) (entry_ok fun s h => c_vset_Right s h)
@[go_sem] theorem K14d_old {g : FuncId} {xs : List A} (h : g ≠ 14) : K14d.f g xs = K14c.f g xs := Tab.add_ne h
@[go_sem] theorem K14d_eff {g : FuncId} : K14d.eff g = K14c.eff g := rfl
@[go_sem] theorem K14d_frz {g : FuncId} : K14d.frz g = K14c.frz g := rfl
@[go_sem] theorem K14d_effT : K14d.effT = K14c.effT := rfl
@[go_sem] theorem K14d_fix : K14d.fix = K14c.fix := rfl
@[go_sem] theorem K14d_nf : K14d.nf = K14c.nf := rfl
@[go_sem] theorem K14d_ords {n : Nat} : K14d.ords n = K14c.ords n := rfl
@[go_sem] theorem K14d_hp : K14d.hp = K14c.hp := rfl
theorem K14d_vset_Right (s : List Known) (h : smallK s) : K14d.f 14 [.slc (s.map Known.enc)] = some (.bool (rightK s)) :=
  (Tab.add_eq : K14d.f 14 [.slc (s.map Known.enc)] = (entry (fun (s : List Known) => [.slc (s.map Known.enc)]) (fun s => smallK s) (fun s => .bool (rightK s))) [.slc (s.map Known.enc)]).trans (entry_eq (fun i j h => by first | (cases i; cases j; rfl; done) | simpa [Prod.ext_iff, and_assoc] using h | (simp at h; omega)) s h)
noncomputable def K14e : Tab := K14d.add 15 (entry (fun (s : List Known) => [.slc (s.map Known.enc)]) (fun s => smallK s) (fun s => .bool (rightK s)))
theorem K14e_ok : TabOK Try.prog K14e := K14d_ok.add (callable_of Try.func15 (by kernel_rfl) (by kernel_rfl)) (entry_ok fun s h => c_ref14_Right s h)
@[go_sem] theorem K14e_old {g : FuncId} {xs : List A} (h : g ≠ 15) : K14e.f g xs = K14d.f g xs := Tab.add_ne h
@[go_sem] theorem K14e_eff {g : FuncId} : K14e.eff g = K14d.eff g := rfl
@[go_sem] theorem K14e_frz {g : FuncId} : K14e.frz g = K14d.frz g := rfl
@[go_sem] theorem K14e_effT : K14e.effT = K14d.effT := rfl
@[go_sem] theorem K14e_fix : K14e.fix = K14d.fix := rfl
@[go_sem] theorem K14e_nf : K14e.nf = K14d.nf := rfl
@[go_sem] theorem K14e_ords {n : Nat} : K14e.ords n = K14d.ords n := rfl
@[go_sem] theorem K14e_hp : K14e.hp = K14d.hp := rfl
theorem K14e_ref14_Right (s : List Known) (h : smallK s) : K14e.f 15 [.slc (s.map Known.enc)] = some (.bool (rightK s)) :=
  (Tab.add_eq : K14e.f 15 [.slc (s.map Known.enc)] = (entry (fun (s : List Known) => [.slc (s.map Known.enc)]) (fun s => smallK s) (fun s => .bool (rightK s))) [.slc (s.map Known.enc)]).trans (entry_eq (fun i j h => by first | (cases i; cases j; rfl; done) | simpa [Prod.ext_iff, and_assoc] using h | (simp at h; omega)) s h)
noncomputable def K14f : Tab := K14e.add 16 (entry (fun (v : List Known × Int × Int) => [.slc (v.1.map Known.enc), .agg [.int .i64 v.2.1, .int .i64 v.2.2]]) (fun v => smallK v.1) (fun v => .bool (hasK v.1 v.2.1 v.2.2)))
theorem K14f_ok : TabOK Try.prog K14f := K14e_ok.add (callable_of Try.func16 (by kernel_rfl) (by kernel_rfl)) (entry_ok fun v h => c_vset_Has v.1 v.2.1 v.2.2 h)
@[go_sem] theorem K14f_old {g : FuncId} {xs : List A} (h : g ≠ 16) : K14f.f g xs = K14e.f g xs := Tab.add_ne h
@[go_sem] theorem K14f_eff {g : FuncId} : K14f.eff g = K14e.eff g := rfl
@[go_sem] theorem K14f_frz {g : FuncId} : K14f.frz g = K14e.frz g := rfl
@[go_sem] theorem K14f_effT : K14f.effT = K14e.effT := rfl
@[go_sem] theorem K14f_fix : K14f.fix = K14e.fix := rfl
@[go_sem] theorem K14f_nf : K14f.nf = K14e.nf := rfl
@[go_sem] theorem K14f_ords {n : Nat} : K14f.ords n = K14e.ords n := rfl
@[go_sem] theorem K14f_hp : K14f.hp = K14e.hp := rfl
theorem K14f_vset_Has (v : List Known × Int × Int) (h : smallK v.1) : K14f.f 16 [.slc (v.1.map Known.enc), .agg [.int .i64 v.2.1, .int .i64 v.2.2]] = some (.bool (hasK v.1 v.2.1 v.2.2)) :=
  (Tab.add_eq : K14f.f 16 [.slc (v.1.map Known.enc), .agg [.int .i64 v.2.1, .int .i64 v.2.2]] = (entry (fun (v : List Known × Int × Int) => [.slc (v.1.map Known.enc), .agg [.int .i64 v.2.1, .int .i64 v.2.2]]) (fun v => smallK v.1) (fun v => .bool (hasK v.1 v.2.1 v.2.2))) [.slc (v.1.map Known.enc), .agg [.int .i64 v.2.1, .int .i64 v.2.2]]).trans (entry_eq (fun i j h => by first | (cases i; cases j; rfl; done) | simpa [Prod.ext_iff, and_assoc] using h | (simp at h; omega)) v h)
noncomputable def K14g : Tab := K14f.add 12 (entry (fun (v : List Known × Int) => [.slc (v.1.map Known.enc), .int .i64 v.2]) (fun v => smallK v.1) (fun v => .slc ((runsK v.1 v.2).map Run.enc)))
theorem K14g_ok : TabOK Try.prog K14g := K14f_ok.add (callable_of Try.func12 (by kernel_rfl) (by kernel_rfl)) (entry_ok fun v h => c_ref14_Runs v.1 v.2 h)
@[go_sem] theorem K14g_old {g : FuncId} {xs : List A} (h : g ≠ 12) : K14g.f g xs = K14f.f g xs := Tab.add_ne h
@[go_sem] theorem K14g_eff {g : FuncId} : K14g.eff g = K14f.eff g := rfl
@[go_sem] theorem K14g_frz {g : FuncId} : K14g.frz g = K14f.frz g := rfl
@[go_sem] theorem K14g_effT : K14g.effT = K14f.effT := rfl
@[go_sem] theorem K14g_fix : K14g.fix = K14f.fix := rfl
@[go_sem] theorem K14g_nf : K14g.nf = K14f.nf := rfl
@[go_sem] theorem K14g_ords {n : Nat} : K14g.ords n = K14f.ords n := rfl
@[go_sem] theorem K14g_hp : K14g.hp = K14f.hp := rfl
theorem K14g_ref14_Runs (v : List Known × Int) (h : smallK v.1) : K14g.f 12 [.slc (v.1.map Known.enc), .int .i64 v.2] = some (.slc ((runsK v.1 v.2).map Run.enc)) :=
  (Tab.add_eq : K14g.f 12 [.slc (v.1.map Known.enc), .int .i64 v.2] = (entry (fun (v : List Known × Int) => [.slc (v.1.map Known.enc), .int .i64 v.2]) (fun v => smallK v.1) (fun v => .slc ((runsK v.1 v.2).map Run.enc))) [.slc (v.1.map Known.enc), .int .i64 v.2]).trans (entry_eq (fun i j h => by first | (cases i; cases j; rfl; done) | simpa [Prod.ext_iff, and_assoc] using h | (simp at h; omega)) v h)
@[go_sem] theorem k_vset_Right {s : List Known} (h : smallK s) : K14d.f 14 [.slc (s.map Known.enc)] = some (.bool (rightK s)) := K14d_vset_Right s h
@[go_sem] theorem k_ref14_Right {s : List Known} (h : smallK s) : K14e.f 15 [.slc (s.map Known.enc)] = some (.bool (rightK s)) := K14e_ref14_Right s h
@[go_sem] theorem k_vset_Has {s : List Known} {n c : Int} (h : smallK s) : K14f.f 16 [.slc (s.map Known.enc), .agg [.int .i64 n, .int .i64 c]] = some (.bool (hasK s n c)) := K14f_vset_Has (s, n, c) h
@[go_sem] theorem k_ref14_Runs {s : List Known} {n : Int} (h : smallK s) : K14g.f 12 [.slc (s.map Known.enc), .int .i64 n] = some (.slc ((runsK s n).map Run.enc)) := K14g_ref14_Runs (s, n) h
theorem ok_ref14_Has : codeOK Try.prog K14g Try.f17.ntmps (Try.f17.body.getD .skip) = true := by kernel_rfl
theorem c_ref14_Has (s : List Known) (n c : Int) (hs : smallK s) : CallA Try.prog 17 [.slc (s.map Known.enc), .agg [.int .i64 n, .int .i64 c]] (· = .bool (hasK s n c)) := by
  refine callA_of_body K14g_ok mixed Try.func17 rfl (Nat.le_of_ble_eq_true rfl) ok_ref14_Has ?_
  unfold Try.f17
  have hl := runsK_len s n
  have hs' := hs.2
  have hv := has_ver (s := s) (n := n) (c := c)
  have hr := k_ref14_Runs (n := n) hs
  cases h1 : rightV ⟨n, c⟩ with
  | false =>
    rw [h1, Bool.false_and] at hv
    simp -implicitDefEqProofs (maxSteps := 600000) (disch := (first | omega | decide)) only [go_sem, ↓reduceIte, Nat.reduceEqDiff, reduceCtorEq, Nat.reduceAdd, Nat.reduceSub, Nat.reduceMul, Nat.reduceLeDiff, Nat.reduceLT, Nat.reduceBEq, Nat.reduceBNe, Int.reduceLE, Int.reduceLT, Int.reduceBEq, Int.reduceBNe, Int.reduceEq, Int.reduceNe, Int.reduceAdd, Int.reduceSub, Int.reduceMul, Int.reduceNeg, Int.reduceToNat, h1, hr, ← hv, List.length_map]
  | true =>
    rw [h1, Bool.true_and] at hv
    simp -implicitDefEqProofs (maxSteps := 600000) (disch := (first | omega | decide)) only [go_sem, ↓reduceIte, Nat.reduceEqDiff, reduceCtorEq, Nat.reduceAdd, Nat.reduceSub, Nat.reduceMul, Nat.reduceLeDiff, Nat.reduceLT, Nat.reduceBEq, Nat.reduceBNe, Int.reduceLE, Int.reduceLT, Int.reduceBEq, Int.reduceBNe, Int.reduceEq, Int.reduceNe, Int.reduceAdd, Int.reduceSub, Int.reduceMul, Int.reduceNeg, Int.reduceToNat, h1, hr, ← hv, List.length_map]
noncomputable def K14h : Tab := K14g.add 17 (entry (fun (v : List Known × Int × Int) => [.slc (v.1.map Known.enc), .agg [.int .i64 v.2.1, .int .i64 v.2.2]]) (fun v => smallK v.1) (fun v => .bool (hasK v.1 v.2.1 v.2.2)))
theorem K14h_ok : TabOK Try.prog K14h := K14g_ok.add (callable_of Try.func17 (by kernel_rfl) (by kernel_rfl)) (entry_ok fun v h => c_ref14_Has v.1 v.2.1 v.2.2 h)
@[go_sem] theorem K14h_old {g : FuncId} {xs : List A} (h : g ≠ 17) : K14h.f g xs = K14g.f g xs := Tab.add_ne h
@[go_sem] theorem K14h_eff {g : FuncId} : K14h.eff g = K14g.eff g := rfl
@[go_sem] theorem K14h_frz {g : FuncId} : K14h.frz g = K14g.frz g := rfl
@[go_sem] theorem K14h_effT : K14h.effT = K14g.effT := rfl
@[go_sem] theorem K14h_fix : K14h.fix = K14g.fix := rfl
@[go_sem] theorem K14h_nf : K14h.nf = K14g.nf := rfl
@[go_sem] theorem K14h_ords {n : Nat} : K14h.ords n = K14g.ords n := rfl
@[go_sem] theorem K14h_hp : K14h.hp = K14g.hp := rfl
theorem K14h_ref14_Has (v : List Known × Int × Int) (h : smallK v.1) : K14h.f 17 [.slc (v.1.map Known.enc), .agg [.int .i64 v.2.1, .int .i64 v.2.2]] = some (.bool (hasK v.1 v.2.1 v.2.2)) :=
  (Tab.add_eq : K14h.f 17 [.slc (v.1.map Known.enc), .agg [.int .i64 v.2.1, .int .i64 v.2.2]] = (entry (fun (v : List Known × Int × Int) => [.slc (v.1.map Known.enc), .agg [.int .i64 v.2.1, .int .i64 v.2.2]]) (fun v => smallK v.1) (fun v => .bool (hasK v.1 v.2.1 v.2.2))) [.slc (v.1.map Known.enc), .agg [.int .i64 v.2.1, .int .i64 v.2.2]]).trans (entry_eq (fun i j h => by first | (cases i; cases j; rfl; done) | simpa [Prod.ext_iff, and_assoc] using h | (simp at h; omega)) v h)
@[go_sem] theorem k_ref14_Has {s : List Known} {n c : Int} (h : smallK s) : K14h.f 17 [.slc (s.map Known.enc), .agg [.int .i64 n, .int .i64 c]] = some (.bool (hasK s n c)) := K14h_ref14_Has (s, n, c) h
end Go.Proofs.Ytbnmicpgbcfooaa
namespace Go.Proofs.Ytbnmicpgbcfooaa
open Go.Abs
set_option linter.unusedSimpArgs false
set_option linter.unusedVariables false
set_option maxRecDepth 20000
set_option maxHeartbeats 8000000

def sameK (a b : List Known) : Bool := decide (a = b)
def sameO (x y : Known) : Bool := x.n == y.n && sameL x.rs y.rs
theorem sameO_iff {x y : Known} : sameO x y = true ↔ x = y := by
  cases x; cases y; simp [sameO, sameL]
theorem ok_slices_Equal_winnower_api_Run_winnower_api_Run : codeOK Try.prog K14h Try.f50.ntmps (Try.f50.body.getD .skip) = true := by kernel_rfl
theorem c_Equal_Run (a b : List Run) (hl : a.length ≤ 4398046511104) (hb : b.length ≤ 4398046511104) : CallA Try.prog 50 [.slc (a.map Run.enc), .slc (b.map Run.enc)] (· = .bool (sameL a b)) := by
  refine callA_of_body K14h_ok mixed Try.func50 rfl (Nat.le_of_ble_eq_true rfl) ok_slices_Equal_winnower_api_Run_winnower_api_Run ?_
  unfold Try.f50
  cases h0 : ((a.length : Int) == (b.length : Int)) with
  | false =>
    have hne : a.length ≠ b.length := by
      have : (a.length : Int) ≠ (b.length : Int) := by simpa using h0
      omega
    have hh : sameL a b = false := by unfold sameL; simp; intro e; exact hne (by rw [e])
    simp -implicitDefEqProofs (maxSteps := 600000) (disch := (first | omega | decide)) only [go_sem, ↓reduceIte, Nat.reduceEqDiff, reduceCtorEq, Nat.reduceAdd, Nat.reduceSub, Nat.reduceMul, Nat.reduceLeDiff, Nat.reduceLT, Nat.reduceBEq, Nat.reduceBNe, Int.reduceLE, Int.reduceLT, Int.reduceBEq, Int.reduceBNe, Int.reduceEq, Int.reduceNe, Int.reduceAdd, Int.reduceSub, Int.reduceMul, Int.reduceNeg, Int.reduceToNat, h0, hh, List.length_map]
  | true =>
    have he : a.length = b.length := by
      have : (a.length : Int) = (b.length : Int) := by simpa using h0
      omega
    simp -implicitDefEqProofs (maxSteps := 600000) (disch := (first | omega | decide)) only [go_sem, ↓reduceIte, Nat.reduceEqDiff, reduceCtorEq, Nat.reduceAdd, Nat.reduceSub, Nat.reduceMul, Nat.reduceLeDiff, Nat.reduceLT, Nat.reduceBEq, Nat.reduceBNe, Int.reduceLE, Int.reduceLT, Int.reduceBEq, Int.reduceBNe, Int.reduceEq, Int.reduceNe, Int.reduceAdd, Int.reduceSub, Int.reduceMul, Int.reduceNeg, Int.reduceToNat, h0, List.length_map]
    refine wpA_loop [0, 1, 12] (ι := {k : Nat // k ≤ a.length ∧ a.take k = b.take k}) (fun p => [(13, .int .i64 p.1)]) (fun _ => []) (fun p => a.length - p.1) ⟨0, by omega, rfl⟩ (Nat.zero_le _) ?_ ?_
    · simp -implicitDefEqProofs (maxSteps := 600000) (disch := (first | omega | decide)) only [go_sem, ↓reduceIte, Nat.reduceEqDiff, reduceCtorEq, Nat.reduceAdd, Nat.reduceSub, Nat.reduceMul, Nat.reduceLeDiff, Nat.reduceLT, Nat.reduceBEq, Nat.reduceBNe, Int.reduceLE, Int.reduceLT, Int.reduceBEq, Int.reduceBNe, Int.reduceEq, Int.reduceNe, Int.reduceAdd, Int.reduceSub, Int.reduceMul, Int.reduceNeg, Int.reduceToNat]
    · rintro ⟨k, hk, hd⟩
      simp only
      by_cases hlt : k < a.length
      · have hlt' : (k : Int) < (a.length : Int) := by omega
        have hlt3 : (k : Int) < (b.length : Int) := by omega
        have hltb : k < b.length := by omega
        have e1 := run_get hlt
        have e2 := run_get hltb
        have t1 := (List.take_append_getElem hlt).symm
        have t2 := (List.take_append_getElem hltb).symm
        have hno : a[k] ≠ b[k] → sameL a b = false := fun h => by
          unfold sameL; simp; intro e; subst e; exact h rfl
        generalize hx : a[k] = x at *
        generalize hy : b[k] = y at *
        obtain ⟨f, t⟩ := x
        obtain ⟨f', t'⟩ := y
        cases h1 : f == f' with
        | false =>
          have hh := hno (by have : f ≠ f' := by simpa using h1
                             simp [this])
          simp -implicitDefEqProofs (maxSteps := 600000) (disch := (first | omega | decide)) only [go_sem, ↓reduceIte, Nat.reduceEqDiff, reduceCtorEq, Nat.reduceAdd, Nat.reduceSub, Nat.reduceMul, Nat.reduceLeDiff, Nat.reduceLT, Nat.reduceBEq, Nat.reduceBNe, Int.reduceLE, Int.reduceLT, Int.reduceBEq, Int.reduceBNe, Int.reduceEq, Int.reduceNe, Int.reduceAdd, Int.reduceSub, Int.reduceMul, Int.reduceNeg, Int.reduceToNat, hlt', hlt3, e1, e2, h1, hh, List.length_map]
        | true =>
          cases h2 : t == t' with
          | false =>
            have hh := hno (by have : t ≠ t' := by simpa using h2
                               simp [this])
            simp -implicitDefEqProofs (maxSteps := 600000) (disch := (first | omega | decide)) only [go_sem, ↓reduceIte, Nat.reduceEqDiff, reduceCtorEq, Nat.reduceAdd, Nat.reduceSub, Nat.reduceMul, Nat.reduceLeDiff, Nat.reduceLT, Nat.reduceBEq, Nat.reduceBNe, Int.reduceLE, Int.reduceLT, Int.reduceBEq, Int.reduceBNe, Int.reduceEq, Int.reduceNe, Int.reduceAdd, Int.reduceSub, Int.reduceMul, Int.reduceNeg, Int.reduceToNat, hlt', hlt3, e1, e2, h1, h2, hh, List.length_map]
          | true =>
            obtain rfl : f = f' := by simpa using h1
            obtain rfl : t = t' := by simpa using h2
            simp -implicitDefEqProofs (maxSteps := 600000) (disch := (first | omega | decide)) only [go_sem, ↓reduceIte, Nat.reduceEqDiff, reduceCtorEq, Nat.reduceAdd, Nat.reduceSub, Nat.reduceMul, Nat.reduceLeDiff, Nat.reduceLT, Nat.reduceBEq, Nat.reduceBNe, Int.reduceLE, Int.reduceLT, Int.reduceBEq, Int.reduceBNe, Int.reduceEq, Int.reduceNe, Int.reduceAdd, Int.reduceSub, Int.reduceMul, Int.reduceNeg, Int.reduceToNat, hlt', hlt3, e1, e2, h1, h2, wrap_i64, List.length_map]
            exact ⟨⟨k + 1, hlt, by rw [t1, t2, hd]⟩, by simp, by show a.length - (k + 1) < a.length - k; omega⟩
      · have hlt' : ¬ (k : Int) < (a.length : Int) := by omega
        have hh : sameL a b = true := by
          rw [List.take_of_length_le (by omega), List.take_of_length_le (by omega)] at hd
          simp [sameL, hd]
        simp -implicitDefEqProofs (maxSteps := 600000) (disch := (first | omega | decide)) only [go_sem, ↓reduceIte, Nat.reduceEqDiff, reduceCtorEq, Nat.reduceAdd, Nat.reduceSub, Nat.reduceMul, Nat.reduceLeDiff, Nat.reduceLT, Nat.reduceBEq, Nat.reduceBNe, Int.reduceLE, Int.reduceLT, Int.reduceBEq, Int.reduceBNe, Int.reduceEq, Int.reduceNe, Int.reduceAdd, Int.reduceSub, Int.reduceMul, Int.reduceNeg, Int.reduceToNat, hlt', hh, List.length_map]
noncomputable def K14i : Tab := K14h.add 50 (entry (fun (v : List Run × List Run) => [.slc (v.1.map Run.enc), .slc (v.2.map Run.enc)]) (fun v => v.1.length ≤ 4398046511104 ∧ v.2.length ≤ 4398046511104) (fun v => .bool (sameL v.1 v.2)))
theorem K14i_ok : TabOK Try.prog K14i := K14h_ok.add (callable_of Try.func50 (by kernel_rfl) (by kernel_rfl)) (entry_ok fun v h => c_Equal_Run v.1 v.2 h.1 h.2)
@[go_sem] theorem K14i_old {g : FuncId} {xs : List A} (h : g ≠ 50) : K14i.f g xs = K14h.f g xs := Tab.add_ne h
@[go_sem] theorem K14i_eff {g : FuncId} : K14i.eff g = K14h.eff g := rfl
@[go_sem] theorem K14i_frz {g : FuncId} : K14i.frz g = K14h.frz g := rfl
@[go_sem] theorem K14i_effT : K14i.effT = K14h.effT := rfl
@[go_sem] theorem K14i_fix : K14i.fix = K14h.fix := rfl
@[go_sem] theorem K14i_nf : K14i.nf = K14h.nf := rfl
@[go_sem] theorem K14i_ords {n : Nat} : K14i.ords n = K14h.ords n := rfl
@[go_sem] theorem K14i_hp : K14i.hp = K14h.hp := rfl
theorem K14i_slices_Equal_winnower_api_Run_winnower_api_Run (v : List Run × List Run) (h : v.1.length ≤ 4398046511104 ∧ v.2.length ≤ 4398046511104) : K14i.f 50 [.slc (v.1.map Run.enc), .slc (v.2.map Run.enc)] = some (.bool (sameL v.1 v.2)) :=
  (Tab.add_eq : K14i.f 50 [.slc (v.1.map Run.enc), .slc (v.2.map Run.enc)] = (entry (fun (v : List Run × List Run) => [.slc (v.1.map Run.enc), .slc (v.2.map Run.enc)]) (fun v => v.1.length ≤ 4398046511104 ∧ v.2.length ≤ 4398046511104) (fun v => .bool (sameL v.1 v.2))) [.slc (v.1.map Run.enc), .slc (v.2.map Run.enc)]).trans (entry_eq (fun i j h => by first | (cases i; cases j; rfl; done) | simpa [Prod.ext_iff, and_assoc] using h | (simp at h; omega)) v h)
@[go_sem] theorem k_Equal_Run {a b : List Run} (ha : a.length ≤ 4398046511104) (hb : b.length ≤ 4398046511104) : K14i.f 50 [.slc (a.map Run.enc), .slc (b.map Run.enc)] = some (.bool (sameL a b)) := K14i_slices_Equal_winnower_api_Run_winnower_api_Run (a, b) ⟨ha, hb⟩
theorem ok_vset_Same_1 : codeOK Try.prog K14i Try.f49.ntmps (Try.f49.body.getD .skip) = true := by kernel_rfl
theorem c_vset_Same1 (x y : Known) (hx : x.rs.length ≤ 4398046511104) (hy : y.rs.length ≤ 4398046511104) : CallA Try.prog 49 [.agg [.int .i64 x.n, .slc (x.rs.map Run.enc)], .agg [.int .i64 y.n, .slc (y.rs.map Run.enc)]] (· = .bool (sameO x y)) := by
  refine callA_of_body K14i_ok mixed Try.func49 rfl (Nat.le_of_ble_eq_true rfl) ok_vset_Same_1 ?_
  unfold Try.f49
  unfold sameO
  cases h1 : x.n == y.n with
  | false => simp -implicitDefEqProofs (maxSteps := 600000) (disch := (first | omega | decide)) only [go_sem, ↓reduceIte, Nat.reduceEqDiff, reduceCtorEq, Nat.reduceAdd, Nat.reduceSub, Nat.reduceMul, Nat.reduceLeDiff, Nat.reduceLT, Nat.reduceBEq, Nat.reduceBNe, Int.reduceLE, Int.reduceLT, Int.reduceBEq, Int.reduceBNe, Int.reduceEq, Int.reduceNe, Int.reduceAdd, Int.reduceSub, Int.reduceMul, Int.reduceNeg, Int.reduceToNat, h1, List.length_map]
  | true => simp -implicitDefEqProofs (maxSteps := 600000) (disch := (first | omega | decide)) only [go_sem, ↓reduceIte, Nat.reduceEqDiff, reduceCtorEq, Nat.reduceAdd, Nat.reduceSub, Nat.reduceMul, Nat.reduceLeDiff, Nat.reduceLT, Nat.reduceBEq, Nat.reduceBNe, Int.reduceLE, Int.reduceLT, Int.reduceBEq, Int.reduceBNe, Int.reduceEq, Int.reduceNe, Int.reduceAdd, Int.reduceSub, Int.reduceMul, Int.reduceNeg, Int.reduceToNat, h1, hx, hy, List.length_map]
noncomputable def K14j : Tab := K14i.add 49 (entry (fun (v : (Int × List Run) × (Int × List Run)) => [.agg [.int .i64 v.1.1, .slc (v.1.2.map Run.enc)], .agg [.int .i64 v.2.1, .slc (v.2.2.map Run.enc)]]) (fun v => v.1.2.length ≤ 4398046511104 ∧ v.2.2.length ≤ 4398046511104) (fun v => .bool (sameO ⟨v.1.1, v.1.2⟩ ⟨v.2.1, v.2.2⟩)))
theorem K14j_ok : TabOK Try.prog K14j := K14i_ok.add (callable_of Try.func49 (by kernel_rfl) (by kernel_rfl)) (entry_ok fun v h => c_vset_Same1 ⟨v.1.1, v.1.2⟩ ⟨v.2.1, v.2.2⟩ h.1 h.2)
@[go_sem] theorem K14j_old {g : FuncId} {xs : List A} (h : g ≠ 49) : K14j.f g xs = K14i.f g xs := Tab.add_ne h
@[go_sem] theorem K14j_eff {g : FuncId} : K14j.eff g = K14i.eff g := rfl
@[go_sem] theorem K14j_frz {g : FuncId} : K14j.frz g = K14i.frz g := rfl
@[go_sem] theorem K14j_effT : K14j.effT = K14i.effT := rfl
@[go_sem] theorem K14j_fix : K14j.fix = K14i.fix := rfl
@[go_sem] theorem K14j_nf : K14j.nf = K14i.nf := rfl
@[go_sem] theorem K14j_ords {n : Nat} : K14j.ords n = K14i.ords n := rfl
@[go_sem] theorem K14j_hp : K14j.hp = K14i.hp := rfl
theorem K14j_vset_Same_1 (v : (Int × List Run) × (Int × List Run)) (h : v.1.2.length ≤ 4398046511104 ∧ v.2.2.length ≤ 4398046511104) : K14j.f 49 [.agg [.int .i64 v.1.1, .slc (v.1.2.map Run.enc)], .agg [.int .i64 v.2.1, .slc (v.2.2.map Run.enc)]] = some (.bool (sameO ⟨v.1.1, v.1.2⟩ ⟨v.2.1, v.2.2⟩)) :=
  (Tab.add_eq : K14j.f 49 [.agg [.int .i64 v.1.1, .slc (v.1.2.map Run.enc)], .agg [.int .i64 v.2.1, .slc (v.2.2.map Run.enc)]] = (entry (fun (v : (Int × List Run) × (Int × List Run)) => [.agg [.int .i64 v.1.1, .slc (v.1.2.map Run.enc)], .agg [.int .i64 v.2.1, .slc (v.2.2.map Run.enc)]]) (fun v => v.1.2.length ≤ 4398046511104 ∧ v.2.2.length ≤ 4398046511104) (fun v => .bool (sameO ⟨v.1.1, v.1.2⟩ ⟨v.2.1, v.2.2⟩))) [.agg [.int .i64 v.1.1, .slc (v.1.2.map Run.enc)], .agg [.int .i64 v.2.1, .slc (v.2.2.map Run.enc)]]).trans (entry_eq (fun i j h => by first | (cases i; cases j; rfl; done) | simpa [Prod.ext_iff, and_assoc] using h | (simp at h; omega)) v h)
@[go_sem] theorem k_vset_Same1 {n m : Int} {rs qs : List Run} (ha : rs.length ≤ 4398046511104) (hb : qs.length ≤ 4398046511104) : K14j.f 49 [.agg [.int .i64 n, .slc (rs.map Run.enc)], .agg [.int .i64 m, .slc (qs.map Run.enc)]] = some (.bool (sameO ⟨n, rs⟩ ⟨m, qs⟩)) := K14j_vset_Same_1 ((n, rs), (m, qs)) ⟨ha, hb⟩
theorem ok_slices_EqualFunc_winnower_api_Known_winnower_api_Known_winnower_api_Known_winnower_api_Known : codeOK Try.prog K14j Try.f48.ntmps (Try.f48.body.getD .skip) = true := by kernel_rfl
theorem c_EqualFunc (a b : List Known) (ha : smallK a) (hb : smallK b) : CallA Try.prog 48 [.slc (a.map Known.enc), .slc (b.map Known.enc), .fn 49 []] (· = .bool (sameK a b)) := by
  refine callA_of_body K14j_ok mixed Try.func48 rfl (Nat.le_of_ble_eq_true rfl) ok_slices_EqualFunc_winnower_api_Known_winnower_api_Known_winnower_api_Known_winnower_api_Known ?_
  unfold Try.f48
  obtain ⟨ha1, ha2⟩ := ha
  obtain ⟨hb1, hb2⟩ := hb
  cases h0 : ((a.length : Int) == (b.length : Int)) with
  | false =>
    have hne : a.length ≠ b.length := by
      have : (a.length : Int) ≠ (b.length : Int) := by simpa using h0
      omega
    have hh : sameK a b = false := by unfold sameK; simp; intro e; exact hne (by rw [e])
    simp -implicitDefEqProofs (maxSteps := 600000) (disch := (first | omega | decide)) only [go_sem, ↓reduceIte, Nat.reduceEqDiff, reduceCtorEq, Nat.reduceAdd, Nat.reduceSub, Nat.reduceMul, Nat.reduceLeDiff, Nat.reduceLT, Nat.reduceBEq, Nat.reduceBNe, Int.reduceLE, Int.reduceLT, Int.reduceBEq, Int.reduceBNe, Int.reduceEq, Int.reduceNe, Int.reduceAdd, Int.reduceSub, Int.reduceMul, Int.reduceNeg, Int.reduceToNat, h0, hh, List.length_map]
  | true =>
    have he : a.length = b.length := by
      have : (a.length : Int) = (b.length : Int) := by simpa using h0
      omega
    simp -implicitDefEqProofs (maxSteps := 600000) (disch := (first | omega | decide)) only [go_sem, ↓reduceIte, Nat.reduceEqDiff, reduceCtorEq, Nat.reduceAdd, Nat.reduceSub, Nat.reduceMul, Nat.reduceLeDiff, Nat.reduceLT, Nat.reduceBEq, Nat.reduceBNe, Int.reduceLE, Int.reduceLT, Int.reduceBEq, Int.reduceBNe, Int.reduceEq, Int.reduceNe, Int.reduceAdd, Int.reduceSub, Int.reduceMul, Int.reduceNeg, Int.reduceToNat, h0, List.length_map]
    refine wpA_loop [0, 1, 2, 15, 16] (ι := {k : Nat // k ≤ a.length ∧ a.take k = b.take k}) (fun p => [(17, .int .i64 p.1)]) (fun _ => []) (fun p => a.length - p.1) ⟨0, by omega, rfl⟩ (Nat.zero_le _) ?_ ?_
    · simp -implicitDefEqProofs (maxSteps := 600000) (disch := (first | omega | decide)) only [go_sem, ↓reduceIte, Nat.reduceEqDiff, reduceCtorEq, Nat.reduceAdd, Nat.reduceSub, Nat.reduceMul, Nat.reduceLeDiff, Nat.reduceLT, Nat.reduceBEq, Nat.reduceBNe, Int.reduceLE, Int.reduceLT, Int.reduceBEq, Int.reduceBNe, Int.reduceEq, Int.reduceNe, Int.reduceAdd, Int.reduceSub, Int.reduceMul, Int.reduceNeg, Int.reduceToNat]
    · rintro ⟨k, hk, hd⟩
      simp only
      by_cases hlt : k < a.length
      · have hlt' : (k : Int) < (a.length : Int) := by omega
        have hlt3 : (k : Int) < (b.length : Int) := by omega
        have hltb : k < b.length := by omega
        have e1 := known_get hlt
        have e2 := known_get hltb
        have m1 := sumK_mem (List.getElem_mem hlt)
        have m2 := sumK_mem (List.getElem_mem hltb)
        have t1 := (List.take_append_getElem hlt).symm
        have t2 := (List.take_append_getElem hltb).symm
        have hno : a[k] ≠ b[k] → sameK a b = false := fun h => by
          unfold sameK; simp; intro e; subst e; exact h rfl
        generalize hx : a[k] = x at *
        generalize hy : b[k] = y at *
        obtain ⟨n, rs⟩ := x
        obtain ⟨n', rs'⟩ := y
        simp only at m1 m2
        cases h1 : sameO ⟨n, rs⟩ ⟨n', rs'⟩ with
        | false =>
          have hh := hno (fun e => by rw [sameO_iff.2 e] at h1; cases h1)
          simp -implicitDefEqProofs (maxSteps := 600000) (disch := (first | omega | decide)) only [go_sem, ↓reduceIte, Nat.reduceEqDiff, reduceCtorEq, Nat.reduceAdd, Nat.reduceSub, Nat.reduceMul, Nat.reduceLeDiff, Nat.reduceLT, Nat.reduceBEq, Nat.reduceBNe, Int.reduceLE, Int.reduceLT, Int.reduceBEq, Int.reduceBNe, Int.reduceEq, Int.reduceNe, Int.reduceAdd, Int.reduceSub, Int.reduceMul, Int.reduceNeg, Int.reduceToNat, hlt', hlt3, e1, e2, h1, hh, List.length_map]
        | true =>
          have e := sameO_iff.1 h1
          simp -implicitDefEqProofs (maxSteps := 600000) (disch := (first | omega | decide)) only [go_sem, ↓reduceIte, Nat.reduceEqDiff, reduceCtorEq, Nat.reduceAdd, Nat.reduceSub, Nat.reduceMul, Nat.reduceLeDiff, Nat.reduceLT, Nat.reduceBEq, Nat.reduceBNe, Int.reduceLE, Int.reduceLT, Int.reduceBEq, Int.reduceBNe, Int.reduceEq, Int.reduceNe, Int.reduceAdd, Int.reduceSub, Int.reduceMul, Int.reduceNeg, Int.reduceToNat, hlt', hlt3, e1, e2, h1, wrap_i64, List.length_map]
          exact ⟨⟨k + 1, hlt, by rw [t1, t2, hd, e]⟩, by simp, by show a.length - (k + 1) < a.length - k; omega⟩
      · have hlt' : ¬ (k : Int) < (a.length : Int) := by omega
        have hh : sameK a b = true := by
          rw [List.take_of_length_le (by omega), List.take_of_length_le (by omega)] at hd
          simp [sameK, hd]
        simp -implicitDefEqProofs (maxSteps := 600000) (disch := (first | omega | decide)) only [go_sem, ↓reduceIte, Nat.reduceEqDiff, reduceCtorEq, Nat.reduceAdd, Nat.reduceSub, Nat.reduceMul, Nat.reduceLeDiff, Nat.reduceLT, Nat.reduceBEq, Nat.reduceBNe, Int.reduceLE, Int.reduceLT, Int.reduceBEq, Int.reduceBNe, Int.reduceEq, Int.reduceNe, Int.reduceAdd, Int.reduceSub, Int.reduceMul, Int.reduceNeg, Int.reduceToNat, hlt', hh, List.length_map]
theorem ok_ref14_Same : codeOK Try.prog K14j Try.f18.ntmps (Try.f18.body.getD .skip) = true := by kernel_rfl
theorem c_ref14_Same (a b : List Known) (ha : smallK a) (hb : smallK b) : CallA Try.prog 18 [.slc (a.map Known.enc), .slc (b.map Known.enc)] (· = .bool (sameK a b)) := by
  refine callA_of_body K14j_ok mixed Try.func18 rfl (Nat.le_of_ble_eq_true rfl) ok_ref14_Same ?_
  unfold Try.f18
  obtain ⟨ha1, ha2⟩ := ha
  obtain ⟨hb1, hb2⟩ := hb
  cases h0 : ((a.length : Int) == (b.length : Int)) with
  | false =>
    have hne : a.length ≠ b.length := by
      have : (a.length : Int) ≠ (b.length : Int) := by simpa using h0
      omega
    have hh : sameK a b = false := by unfold sameK; simp; intro e; exact hne (by rw [e])
    simp -implicitDefEqProofs (maxSteps := 600000) (disch := (first | omega | decide)) only [go_sem, ↓reduceIte, Nat.reduceEqDiff, reduceCtorEq, Nat.reduceAdd, Nat.reduceSub, Nat.reduceMul, Nat.reduceLeDiff, Nat.reduceLT, Nat.reduceBEq, Nat.reduceBNe, Int.reduceLE, Int.reduceLT, Int.reduceBEq, Int.reduceBNe, Int.reduceEq, Int.reduceNe, Int.reduceAdd, Int.reduceSub, Int.reduceMul, Int.reduceNeg, Int.reduceToNat, h0, hh, List.length_map]
  | true =>
    have he : a.length = b.length := by
      have : (a.length : Int) = (b.length : Int) := by simpa using h0
      omega
    simp -implicitDefEqProofs (maxSteps := 600000) (disch := (first | omega | decide)) only [go_sem, ↓reduceIte, Nat.reduceEqDiff, reduceCtorEq, Nat.reduceAdd, Nat.reduceSub, Nat.reduceMul, Nat.reduceLeDiff, Nat.reduceLT, Nat.reduceBEq, Nat.reduceBNe, Int.reduceLE, Int.reduceLT, Int.reduceBEq, Int.reduceBNe, Int.reduceEq, Int.reduceNe, Int.reduceAdd, Int.reduceSub, Int.reduceMul, Int.reduceNeg, Int.reduceToNat, h0, List.length_map]
    refine wpA_loop [0, 1] (ι := {k : Nat // k ≤ a.length ∧ a.take k = b.take k}) (fun p => [(5, .int .i64 p.1)]) (fun _ => []) (fun p => a.length - p.1) ⟨0, by omega, rfl⟩ (Nat.zero_le _) ?_ ?_
    · simp -implicitDefEqProofs (maxSteps := 600000) (disch := (first | omega | decide)) only [go_sem, ↓reduceIte, Nat.reduceEqDiff, reduceCtorEq, Nat.reduceAdd, Nat.reduceSub, Nat.reduceMul, Nat.reduceLeDiff, Nat.reduceLT, Nat.reduceBEq, Nat.reduceBNe, Int.reduceLE, Int.reduceLT, Int.reduceBEq, Int.reduceBNe, Int.reduceEq, Int.reduceNe, Int.reduceAdd, Int.reduceSub, Int.reduceMul, Int.reduceNeg, Int.reduceToNat]
    · rintro ⟨k, hk, hd⟩
      simp only
      by_cases hlt : k < a.length
      · have hlt' : (k : Int) < (a.length : Int) := by omega
        have hlt3 : (k : Int) < (b.length : Int) := by omega
        have hltb : k < b.length := by omega
        have e1 := known_get hlt
        have e2 := known_get hltb
        have m1 := sumK_mem (List.getElem_mem hlt)
        have m2 := sumK_mem (List.getElem_mem hltb)
        have t1 := (List.take_append_getElem hlt).symm
        have t2 := (List.take_append_getElem hltb).symm
        have hno : a[k] ≠ b[k] → sameK a b = false := fun h => by
          unfold sameK; simp; intro e; subst e; exact h rfl
        generalize hx : a[k] = x at *
        generalize hy : b[k] = y at *
        obtain ⟨n, rs⟩ := x
        obtain ⟨n', rs'⟩ := y
        simp only at m1 m2
        cases h1 : n == n' with
        | false =>
          have hh := hno (by have : n ≠ n' := by simpa using h1
                             simp [this])
          simp -implicitDefEqProofs (maxSteps := 600000) (disch := (first | omega | decide)) only [go_sem, ↓reduceIte, Nat.reduceEqDiff, reduceCtorEq, Nat.reduceAdd, Nat.reduceSub, Nat.reduceMul, Nat.reduceLeDiff, Nat.reduceLT, Nat.reduceBEq, Nat.reduceBNe, Int.reduceLE, Int.reduceLT, Int.reduceBEq, Int.reduceBNe, Int.reduceEq, Int.reduceNe, Int.reduceAdd, Int.reduceSub, Int.reduceMul, Int.reduceNeg, Int.reduceToNat, hlt', hlt3, e1, e2, h1, hh, List.length_map]
        | true =>
          obtain rfl : n = n' := by simpa using h1
          cases h2 : sameL rs rs' with
          | false =>
            have hh := hno (by have : rs ≠ rs' := by simpa [sameL] using h2
                               simp [this])
            simp -implicitDefEqProofs (maxSteps := 600000) (disch := (first | omega | decide)) only [go_sem, ↓reduceIte, Nat.reduceEqDiff, reduceCtorEq, Nat.reduceAdd, Nat.reduceSub, Nat.reduceMul, Nat.reduceLeDiff, Nat.reduceLT, Nat.reduceBEq, Nat.reduceBNe, Int.reduceLE, Int.reduceLT, Int.reduceBEq, Int.reduceBNe, Int.reduceEq, Int.reduceNe, Int.reduceAdd, Int.reduceSub, Int.reduceMul, Int.reduceNeg, Int.reduceToNat, hlt', hlt3, e1, e2, h1, h2, hh, List.length_map]
          | true =>
            obtain rfl : rs = rs' := by simpa [sameL] using h2
            simp -implicitDefEqProofs (maxSteps := 600000) (disch := (first | omega | decide)) only [go_sem, ↓reduceIte, Nat.reduceEqDiff, reduceCtorEq, Nat.reduceAdd, Nat.reduceSub, Nat.reduceMul, Nat.reduceLeDiff, Nat.reduceLT, Nat.reduceBEq, Nat.reduceBNe, Int.reduceLE, Int.reduceLT, Int.reduceBEq, Int.reduceBNe, Int.reduceEq, Int.reduceNe, Int.reduceAdd, Int.reduceSub, Int.reduceMul, Int.reduceNeg, Int.reduceToNat, hlt', hlt3, e1, e2, h1, h2, wrap_i64, List.length_map]
            exact ⟨⟨k + 1, hlt, by rw [t1, t2, hd]⟩, by simp, by show a.length - (k + 1) < a.length - k; omega⟩
      · have hlt' : ¬ (k : Int) < (a.length : Int) := by omega
        have hh : sameK a b = true := by
          rw [List.take_of_length_le (by omega), List.take_of_length_le (by omega)] at hd
          simp [sameK, hd]
        simp -implicitDefEqProofs (maxSteps := 600000) (disch := (first | omega | decide)) only [go_sem, ↓reduceIte, Nat.reduceEqDiff, reduceCtorEq, Nat.reduceAdd, Nat.reduceSub, Nat.reduceMul, Nat.reduceLeDiff, Nat.reduceLT, Nat.reduceBEq, Nat.reduceBNe, Int.reduceLE, Int.reduceLT, Int.reduceBEq, Int.reduceBNe, Int.reduceEq, Int.reduceNe, Int.reduceAdd, Int.reduceSub, Int.reduceMul, Int.reduceNeg, Int.reduceToNat, hlt', hh, List.length_map]
def longK (s : List Known) (m : Int) : Bool := decide (m < (s.length : Int)) || s.any fun k => decide (m < (k.rs.length : Int))
theorem ok_ref14_Long : codeOK Try.prog K14j Try.f9.ntmps (Try.f9.body.getD .skip) = true := by kernel_rfl
theorem c_ref14_Long (s : List Known) (m : Int) (hs : s.length ≤ 9223372036854775807) : CallA Try.prog 9 [.slc (s.map Known.enc), .int .i64 m] (· = .bool (longK s m)) := by
  refine callA_of_body K14j_ok mixed Try.func9 rfl (Nat.le_of_ble_eq_true rfl) ok_ref14_Long ?_
  unfold Try.f9
  by_cases h0 : m < (s.length : Int)
  · have hh : longK s m = true := by unfold longK; rw [decide_eq_true h0]; rfl
    simp -implicitDefEqProofs (maxSteps := 600000) (disch := (first | omega | decide)) only [go_sem, ↓reduceIte, Nat.reduceEqDiff, reduceCtorEq, Nat.reduceAdd, Nat.reduceSub, Nat.reduceMul, Nat.reduceLeDiff, Nat.reduceLT, Nat.reduceBEq, Nat.reduceBNe, Int.reduceLE, Int.reduceLT, Int.reduceBEq, Int.reduceBNe, Int.reduceEq, Int.reduceNe, Int.reduceAdd, Int.reduceSub, Int.reduceMul, Int.reduceNeg, Int.reduceToNat, h0, hh, List.length_map]
  · simp -implicitDefEqProofs (maxSteps := 600000) (disch := (first | omega | decide)) only [go_sem, ↓reduceIte, Nat.reduceEqDiff, reduceCtorEq, Nat.reduceAdd, Nat.reduceSub, Nat.reduceMul, Nat.reduceLeDiff, Nat.reduceLT, Nat.reduceBEq, Nat.reduceBNe, Int.reduceLE, Int.reduceLT, Int.reduceBEq, Int.reduceBNe, Int.reduceEq, Int.reduceNe, Int.reduceAdd, Int.reduceSub, Int.reduceMul, Int.reduceNeg, Int.reduceToNat, h0, List.length_map]
    refine wpA_loop [0, 1] (ι := {k : Nat // k ≤ s.length ∧ longK s m = (s.drop k).any fun k => decide (m < (k.rs.length : Int))}) (fun p => [(5, .int .i64 p.1)]) (fun _ => []) (fun p => s.length - p.1) ⟨0, by omega, by unfold longK; rw [decide_eq_false h0, Bool.false_or]; rfl⟩ (Nat.zero_le _) ?_ ?_
    · simp -implicitDefEqProofs (maxSteps := 600000) (disch := (first | omega | decide)) only [go_sem, ↓reduceIte, Nat.reduceEqDiff, reduceCtorEq, Nat.reduceAdd, Nat.reduceSub, Nat.reduceMul, Nat.reduceLeDiff, Nat.reduceLT, Nat.reduceBEq, Nat.reduceBNe, Int.reduceLE, Int.reduceLT, Int.reduceBEq, Int.reduceBNe, Int.reduceEq, Int.reduceNe, Int.reduceAdd, Int.reduceSub, Int.reduceMul, Int.reduceNeg, Int.reduceToNat]
    · rintro ⟨k, hk, hd⟩
      simp only at hk hd ⊢
      by_cases hlt : k < s.length
      · have hlt' : (k : Int) < (s.length : Int) := by omega
        have e1 := known_get hlt
        rw [List.drop_eq_getElem_cons hlt, List.any_cons] at hd
        generalize hx : s[k] = x at *
        obtain ⟨n, rs⟩ := x
        simp only at hd
        by_cases h1 : m < (rs.length : Int)
        · have hh : longK s m = true := by rw [hd, decide_eq_true h1]; rfl
          simp -implicitDefEqProofs (maxSteps := 600000) (disch := (first | omega | decide)) only [go_sem, ↓reduceIte, Nat.reduceEqDiff, reduceCtorEq, Nat.reduceAdd, Nat.reduceSub, Nat.reduceMul, Nat.reduceLeDiff, Nat.reduceLT, Nat.reduceBEq, Nat.reduceBNe, Int.reduceLE, Int.reduceLT, Int.reduceBEq, Int.reduceBNe, Int.reduceEq, Int.reduceNe, Int.reduceAdd, Int.reduceSub, Int.reduceMul, Int.reduceNeg, Int.reduceToNat, hlt', e1, h1, hh, List.length_map]
        · rw [decide_eq_false h1, Bool.false_or] at hd
          simp -implicitDefEqProofs (maxSteps := 600000) (disch := (first | omega | decide)) only [go_sem, ↓reduceIte, Nat.reduceEqDiff, reduceCtorEq, Nat.reduceAdd, Nat.reduceSub, Nat.reduceMul, Nat.reduceLeDiff, Nat.reduceLT, Nat.reduceBEq, Nat.reduceBNe, Int.reduceLE, Int.reduceLT, Int.reduceBEq, Int.reduceBNe, Int.reduceEq, Int.reduceNe, Int.reduceAdd, Int.reduceSub, Int.reduceMul, Int.reduceNeg, Int.reduceToNat, hlt', e1, h1, wrap_i64, List.length_map]
          exact ⟨⟨k + 1, hlt, hd⟩, by simp, by show s.length - (k + 1) < s.length - k; omega⟩
      · have hlt' : ¬ (k : Int) < (s.length : Int) := by omega
        have hh : longK s m = false := by rw [hd, List.drop_of_length_le (by omega)]; rfl
        simp -implicitDefEqProofs (maxSteps := 600000) (disch := (first | omega | decide)) only [go_sem, ↓reduceIte, Nat.reduceEqDiff, reduceCtorEq, Nat.reduceAdd, Nat.reduceSub, Nat.reduceMul, Nat.reduceLeDiff, Nat.reduceLT, Nat.reduceBEq, Nat.reduceBNe, Int.reduceLE, Int.reduceLT, Int.reduceBEq, Int.reduceBNe, Int.reduceEq, Int.reduceNe, Int.reduceAdd, Int.reduceSub, Int.reduceMul, Int.reduceNeg, Int.reduceToNat, hlt', hh, List.length_map]
theorem ok_ref14_One : codeOK Try.prog K14j Try.f43.ntmps (Try.f43.body.getD .skip) = true := by kernel_rfl
theorem c_ref14_One (n c : Int) : CallA Try.prog 43 [.agg [.int .i64 n, .int .i64 c]] (· = .slc ([⟨n, [⟨c, c⟩]⟩].map Known.enc)) := by
  refine callA_of_body K14j_ok mixed Try.func43 rfl (Nat.le_of_ble_eq_true rfl) ok_ref14_One ?_
  unfold Try.f43
  simp -implicitDefEqProofs (maxSteps := 600000) (disch := (first | omega | decide)) only [go_sem, ↓reduceIte, Nat.reduceEqDiff, reduceCtorEq, Nat.reduceAdd, Nat.reduceSub, Nat.reduceMul, Nat.reduceLeDiff, Nat.reduceLT, Nat.reduceBEq, Nat.reduceBNe, Int.reduceLE, Int.reduceLT, Int.reduceBEq, Int.reduceBNe, Int.reduceEq, Int.reduceNe, Int.reduceAdd, Int.reduceSub, Int.reduceMul, Int.reduceNeg, Int.reduceToNat, List.map_cons, List.map_nil]
noncomputable def K14k : Tab := K14j.add 48 (entry (fun (v : List Known × List Known) => [.slc (v.1.map Known.enc), .slc (v.2.map Known.enc), .fn 49 []]) (fun v => smallK v.1 ∧ smallK v.2) (fun v => .bool (sameK v.1 v.2)))
theorem K14k_ok : TabOK Try.prog K14k := K14j_ok.add (callable_of Try.func48 (by kernel_rfl) (by kernel_rfl)) (entry_ok fun v h => c_EqualFunc v.1 v.2 h.1 h.2)
@[go_sem] theorem K14k_old {g : FuncId} {xs : List A} (h : g ≠ 48) : K14k.f g xs = K14j.f g xs := Tab.add_ne h
@[go_sem] theorem K14k_eff {g : FuncId} : K14k.eff g = K14j.eff g := rfl
@[go_sem] theorem K14k_frz {g : FuncId} : K14k.frz g = K14j.frz g := rfl
@[go_sem] theorem K14k_effT : K14k.effT = K14j.effT := rfl
@[go_sem] theorem K14k_fix : K14k.fix = K14j.fix := rfl
@[go_sem] theorem K14k_nf : K14k.nf = K14j.nf := rfl
@[go_sem] theorem K14k_ords {n : Nat} : K14k.ords n = K14j.ords n := rfl
@[go_sem] theorem K14k_hp : K14k.hp = K14j.hp := rfl
theorem K14k_slices_EqualFunc_winnower_api_Known_winnower_api_Known_winnower_api_Known_winnower_api_Known (v : List Known × List Known) (h : smallK v.1 ∧ smallK v.2) : K14k.f 48 [.slc (v.1.map Known.enc), .slc (v.2.map Known.enc), .fn 49 []] = some (.bool (sameK v.1 v.2)) :=
  (Tab.add_eq : K14k.f 48 [.slc (v.1.map Known.enc), .slc (v.2.map Known.enc), .fn 49 []] = (entry (fun (v : List Known × List Known) => [.slc (v.1.map Known.enc), .slc (v.2.map Known.enc), .fn 49 []]) (fun v => smallK v.1 ∧ smallK v.2) (fun v => .bool (sameK v.1 v.2))) [.slc (v.1.map Known.enc), .slc (v.2.map Known.enc), .fn 49 []]).trans (entry_eq (fun i j h => by first | (cases i; cases j; rfl; done) | simpa [Prod.ext_iff, and_assoc] using h | (simp at h; omega)) v h)
noncomputable def K14l : Tab := K14k.add 18 (entry (fun (v : List Known × List Known) => [.slc (v.1.map Known.enc), .slc (v.2.map Known.enc)]) (fun v => smallK v.1 ∧ smallK v.2) (fun v => .bool (sameK v.1 v.2)))
theorem K14l_ok : TabOK Try.prog K14l := K14k_ok.add (callable_of Try.func18 (by kernel_rfl) (by kernel_rfl)) (entry_ok fun v h => c_ref14_Same v.1 v.2 h.1 h.2)
@[go_sem] theorem K14l_old {g : FuncId} {xs : List A} (h : g ≠ 18) : K14l.f g xs = K14k.f g xs := Tab.add_ne h
@[go_sem] theorem K14l_eff {g : FuncId} : K14l.eff g = K14k.eff g := rfl
@[go_sem] theorem K14l_frz {g : FuncId} : K14l.frz g = K14k.frz g := rfl
@[go_sem] theorem K14l_effT : K14l.effT = K14k.effT := rfl
@[go_sem] theorem K14l_fix : K14l.fix = K14k.fix := rfl
@[go_sem] theorem K14l_nf : K14l.nf = K14k.nf := rfl
@[go_sem] theorem K14l_ords {n : Nat} : K14l.ords n = K14k.ords n := rfl
@[go_sem] theorem K14l_hp : K14l.hp = K14k.hp := rfl
theorem K14l_ref14_Same (v : List Known × List Known) (h : smallK v.1 ∧ smallK v.2) : K14l.f 18 [.slc (v.1.map Known.enc), .slc (v.2.map Known.enc)] = some (.bool (sameK v.1 v.2)) :=
  (Tab.add_eq : K14l.f 18 [.slc (v.1.map Known.enc), .slc (v.2.map Known.enc)] = (entry (fun (v : List Known × List Known) => [.slc (v.1.map Known.enc), .slc (v.2.map Known.enc)]) (fun v => smallK v.1 ∧ smallK v.2) (fun v => .bool (sameK v.1 v.2))) [.slc (v.1.map Known.enc), .slc (v.2.map Known.enc)]).trans (entry_eq (fun i j h => by first | (cases i; cases j; rfl; done) | simpa [Prod.ext_iff, and_assoc] using h | (simp at h; omega)) v h)
noncomputable def K14m : Tab := K14l.add 9 (entry (fun (v : List Known × Int) => [.slc (v.1.map Known.enc), .int .i64 v.2]) (fun v => v.1.length ≤ 9223372036854775807) (fun v => .bool (longK v.1 v.2)))
theorem K14m_ok : TabOK Try.prog K14m := K14l_ok.add (callable_of Try.func9 (by kernel_rfl) (by kernel_rfl)) (entry_ok fun v h => c_ref14_Long v.1 v.2 h)
@[go_sem] theorem K14m_old {g : FuncId} {xs : List A} (h : g ≠ 9) : K14m.f g xs = K14l.f g xs := Tab.add_ne h
@[go_sem] theorem K14m_eff {g : FuncId} : K14m.eff g = K14l.eff g := rfl
@[go_sem] theorem K14m_frz {g : FuncId} : K14m.frz g = K14l.frz g := rfl
@[go_sem] theorem K14m_effT : K14m.effT = K14l.effT := rfl
@[go_sem] theorem K14m_fix : K14m.fix = K14l.fix := rfl
@[go_sem] theorem K14m_nf : K14m.nf = K14l.nf := rfl
@[go_sem] theorem K14m_ords {n : Nat} : K14m.ords n = K14l.ords n := rfl
@[go_sem] theorem K14m_hp : K14m.hp = K14l.hp := rfl
theorem K14m_ref14_Long (v : List Known × Int) (h : v.1.length ≤ 9223372036854775807) : K14m.f 9 [.slc (v.1.map Known.enc), .int .i64 v.2] = some (.bool (longK v.1 v.2)) :=
  (Tab.add_eq : K14m.f 9 [.slc (v.1.map Known.enc), .int .i64 v.2] = (entry (fun (v : List Known × Int) => [.slc (v.1.map Known.enc), .int .i64 v.2]) (fun v => v.1.length ≤ 9223372036854775807) (fun v => .bool (longK v.1 v.2))) [.slc (v.1.map Known.enc), .int .i64 v.2]).trans (entry_eq (fun i j h => by first | (cases i; cases j; rfl; done) | simpa [Prod.ext_iff, and_assoc] using h | (simp at h; omega)) v h)
noncomputable def K14n : Tab := K14m.add 43 (entry (fun (v : Int × Int) => [.agg [.int .i64 v.1, .int .i64 v.2]]) (fun v => True) (fun v => .slc ([⟨v.1, [⟨v.2, v.2⟩]⟩].map Known.enc)))
theorem K14n_ok : TabOK Try.prog K14n := K14m_ok.add (callable_of Try.func43 (by kernel_rfl) (by kernel_rfl)) (entry_ok fun v h => c_ref14_One v.1 v.2)
@[go_sem] theorem K14n_old {g : FuncId} {xs : List A} (h : g ≠ 43) : K14n.f g xs = K14m.f g xs := Tab.add_ne h
@[go_sem] theorem K14n_eff {g : FuncId} : K14n.eff g = K14m.eff g := rfl
@[go_sem] theorem K14n_frz {g : FuncId} : K14n.frz g = K14m.frz g := rfl
@[go_sem] theorem K14n_effT : K14n.effT = K14m.effT := rfl
@[go_sem] theorem K14n_fix : K14n.fix = K14m.fix := rfl
@[go_sem] theorem K14n_nf : K14n.nf = K14m.nf := rfl
@[go_sem] theorem K14n_ords {n : Nat} : K14n.ords n = K14m.ords n := rfl
@[go_sem] theorem K14n_hp : K14n.hp = K14m.hp := rfl
theorem K14n_ref14_One (v : Int × Int) (h : True) : K14n.f 43 [.agg [.int .i64 v.1, .int .i64 v.2]] = some (.slc ([⟨v.1, [⟨v.2, v.2⟩]⟩].map Known.enc)) :=
  (Tab.add_eq : K14n.f 43 [.agg [.int .i64 v.1, .int .i64 v.2]] = (entry (fun (v : Int × Int) => [.agg [.int .i64 v.1, .int .i64 v.2]]) (fun v => True) (fun v => .slc ([⟨v.1, [⟨v.2, v.2⟩]⟩].map Known.enc))) [.agg [.int .i64 v.1, .int .i64 v.2]]).trans (entry_eq (fun i j h => by first | (cases i; cases j; rfl; done) | simpa [Prod.ext_iff, and_assoc] using h | (simp at h; omega)) v h)
@[go_sem] theorem k_EqualFunc {a b : List Known} (ha : smallK a) (hb : smallK b) : K14k.f 48 [.slc (a.map Known.enc), .slc (b.map Known.enc), .fn 49 []] = some (.bool (sameK a b)) := K14k_slices_EqualFunc_winnower_api_Known_winnower_api_Known_winnower_api_Known_winnower_api_Known (a, b) ⟨ha, hb⟩
@[go_sem] theorem k_ref14_Same {a b : List Known} (ha : smallK a) (hb : smallK b) : K14l.f 18 [.slc (a.map Known.enc), .slc (b.map Known.enc)] = some (.bool (sameK a b)) := K14l_ref14_Same (a, b) ⟨ha, hb⟩
@[go_sem] theorem k_ref14_Long {s : List Known} {m : Int} (hs : s.length ≤ 9223372036854775807) : K14m.f 9 [.slc (s.map Known.enc), .int .i64 m] = some (.bool (longK s m)) := K14m_ref14_Long (s, m) hs
@[go_sem] theorem k_ref14_One {n c : Int} : K14n.f 43 [.agg [.int .i64 n, .int .i64 c]] = some (.slc ([⟨n, [⟨c, c⟩]⟩].map Known.enc)) := K14n_ref14_One (n, c) trivial
end Go.Proofs.Ytbnmicpgbcfooaa
