/- Chapter 06: the reference's functions, and what the texts have in common. -/
import Derived.Test.YtddkjenabjplmaaK06
namespace Go.Proofs.Ytddkjenabjplmaa
open Go.Abs
set_option linter.unusedSimpArgs false
set_option linter.unusedVariables false
set_option maxRecDepth 20000
set_option maxHeartbeats 4000000

theorem ok_ref06_Right : codeOK Try.prog T0 Try.f18.ntmps (Try.f18.body.getD .skip) = true := by kernel_rfl
theorem c_ref06_Right (s : List UInt8) (hs : s.length ≤ 9223372036854775807) : CallA Try.prog 18 [.str s] (· = .bool (decide (1 ≤ s.length ∧ s.length ≤ 16))) := by
  refine callA_of_body T0_ok mixed Try.func18 rfl (Nat.le_of_ble_eq_true rfl) ok_ref06_Right ?_
  unfold Try.f18
  by_cases h : (1 : Int) ≤ s.length
  · simp -implicitDefEqProofs (maxSteps := 600000) (disch := (first | omega | decide)) only [go_sem, ↓reduceIte, Nat.reduceEqDiff, reduceCtorEq, Nat.reduceAdd, Nat.reduceSub, Nat.reduceMul, Nat.reduceLeDiff, Nat.reduceLT, Nat.reduceBEq, Nat.reduceBNe, Int.reduceLE, Int.reduceLT, Int.reduceBEq, Int.reduceBNe, Int.reduceEq, Int.reduceNe, Int.reduceAdd, Int.reduceSub, Int.reduceMul, Int.reduceNeg, Int.reduceToNat, h]
    apply decide_eq_decide.2
    omega
  · simp -implicitDefEqProofs (maxSteps := 600000) (disch := (first | omega | decide)) only [go_sem, ↓reduceIte, Nat.reduceEqDiff, reduceCtorEq, Nat.reduceAdd, Nat.reduceSub, Nat.reduceMul, Nat.reduceLeDiff, Nat.reduceLT, Nat.reduceBEq, Nat.reduceBNe, Int.reduceLE, Int.reduceLT, Int.reduceBEq, Int.reduceBNe, Int.reduceEq, Int.reduceNe, Int.reduceAdd, Int.reduceSub, Int.reduceMul, Int.reduceNeg, Int.reduceToNat, h]
    symm
    apply decide_eq_false
    omega

theorem ok_ref06_Less : codeOK Try.prog T0 Try.f12.ntmps (Try.f12.body.getD .skip) = true := by kernel_rfl
theorem c_ref06_Less (a b : List UInt8) (ha : a.length ≤ 9223372036854775807) (hb : b.length ≤ 9223372036854775807) : CallA Try.prog 12 [.str a, .str b] (· = .bool (cmpB a b == -1)) := by
  refine callA_of_body T0_ok mixed Try.func12 rfl (Nat.le_of_ble_eq_true rfl) ok_ref06_Less ?_
  unfold Try.f12
  simp -implicitDefEqProofs (maxSteps := 600000) (disch := (first | omega | decide)) only [go_sem, ↓reduceIte, Nat.reduceEqDiff, reduceCtorEq, Nat.reduceAdd, Nat.reduceSub, Nat.reduceMul, Nat.reduceLeDiff, Nat.reduceLT, Nat.reduceBEq, Nat.reduceBNe, Int.reduceLE, Int.reduceLT, Int.reduceBEq, Int.reduceBNe, Int.reduceEq, Int.reduceNe, Int.reduceAdd, Int.reduceSub, Int.reduceMul, Int.reduceNeg, Int.reduceToNat]
  refine wpA_loop [0,1] (ι := {k : Nat // k ≤ a.length ∧ k ≤ b.length ∧ cmpB a b = cmpB (a.drop k) (b.drop k)}) (fun k => [(5, .int .i64 k.1)]) (fun _ => []) (fun k => a.length - k.1) ⟨0, by simp⟩ (by simp [T0, tab0]) ?_ ?_
  · simp -implicitDefEqProofs (maxSteps := 600000) (disch := (first | omega | decide)) only [go_sem, ↓reduceIte, Nat.reduceEqDiff, reduceCtorEq, Nat.reduceAdd, Nat.reduceSub, Nat.reduceMul, Nat.reduceLeDiff, Nat.reduceLT, Nat.reduceBEq, Nat.reduceBNe, Int.reduceLE, Int.reduceLT, Int.reduceBEq, Int.reduceBNe, Int.reduceEq, Int.reduceNe, Int.reduceAdd, Int.reduceSub, Int.reduceMul, Int.reduceNeg, Int.reduceToNat]
  · rintro ⟨k, hk1, hk2, hk3⟩
    by_cases hk : (k : Int) < a.length
    · have hka : k < a.length := by omega
      by_cases hk' : (b.length : Int) ≤ k
      · simp -implicitDefEqProofs (maxSteps := 600000) (disch := (first | omega | decide)) only [go_sem, ↓reduceIte, Nat.reduceEqDiff, reduceCtorEq, Nat.reduceAdd, Nat.reduceSub, Nat.reduceMul, Nat.reduceLeDiff, Nat.reduceLT, Nat.reduceBEq, Nat.reduceBNe, Int.reduceLE, Int.reduceLT, Int.reduceBEq, Int.reduceBNe, Int.reduceEq, Int.reduceNe, Int.reduceAdd, Int.reduceSub, Int.reduceMul, Int.reduceNeg, Int.reduceToNat, hk, hk', encU8, wrap_i64]
        have h2 : b.drop k = [] := List.drop_of_length_le (by omega)
        rw [hk3, h2, List.drop_eq_getElem_cons hka]
        rfl
      · have hkb : k < b.length := by omega
        have e1 : a[k]? = some a[k] := List.getElem?_eq_getElem hka
        have e2 : b[k]? = some b[k] := List.getElem?_eq_getElem hkb
        rw [cmpB_drop hka hkb] at hk3
        simp -implicitDefEqProofs (maxSteps := 600000) (disch := (first | omega | decide)) only [go_sem, ↓reduceIte, Nat.reduceEqDiff, reduceCtorEq, Nat.reduceAdd, Nat.reduceSub, Nat.reduceMul, Nat.reduceLeDiff, Nat.reduceLT, Nat.reduceBEq, Nat.reduceBNe, Int.reduceLE, Int.reduceLT, Int.reduceBEq, Int.reduceBNe, Int.reduceEq, Int.reduceNe, Int.reduceAdd, Int.reduceSub, Int.reduceMul, Int.reduceNeg, Int.reduceToNat, hk, hk', encU8, wrap_i64]
        refine ⟨fun h => ?_, fun h => ⟨⟨k + 1, hka, hkb, ?_⟩, by simp, by simp; omega⟩⟩
        · have hne : ¬ ((a[k].toNat : Int) = b[k].toNat) := by simpa using h
          have t : ∀ u v : UInt8, (u < v) = (u.toNat < v.toNat) := fun u v => rfl
          simp only [t] at hk3
          by_cases hl : a[k].toNat < b[k].toNat
          · rw [hk3, if_pos hl, decide_eq_true (by omega)]; rfl
          · rw [hk3, if_neg hl, if_pos (by omega), decide_eq_false (by omega)]; rfl
        · have he : ((a[k].toNat : Int) = b[k].toNat) := by simpa using h
          have t : ∀ u v : UInt8, (u < v) = (u.toNat < v.toNat) := fun u v => rfl
          simp only [t] at hk3
          rw [hk3, if_neg (by omega), if_neg (by omega)]
    · simp -implicitDefEqProofs (maxSteps := 600000) (disch := (first | omega | decide)) only [go_sem, ↓reduceIte, Nat.reduceEqDiff, reduceCtorEq, Nat.reduceAdd, Nat.reduceSub, Nat.reduceMul, Nat.reduceLeDiff, Nat.reduceLT, Nat.reduceBEq, Nat.reduceBNe, Int.reduceLE, Int.reduceLT, Int.reduceBEq, Int.reduceBNe, Int.reduceEq, Int.reduceNe, Int.reduceAdd, Int.reduceSub, Int.reduceMul, Int.reduceNeg, Int.reduceToNat, hk, encU8, wrap_i64]
      have h2 : a.drop k = [] := List.drop_of_length_le (by omega)
      rw [hk3, h2]
      by_cases h3 : k < b.length
      · rw [List.drop_eq_getElem_cons h3, decide_eq_true (by omega)]; rfl
      · rw [List.drop_of_length_le (by omega), decide_eq_false (by omega)]; rfl

def beginsB (s p : List UInt8) : Bool := decide (p.length ≤ s.length) && s.take p.length == p
theorem ok_ref06_Begins : codeOK Try.prog T0 Try.f15.ntmps (Try.f15.body.getD .skip) = true := by kernel_rfl
theorem c_ref06_Begins (s p : List UInt8) (hs : s.length ≤ 9223372036854775807) (hp : p.length ≤ 9223372036854775807) : CallA Try.prog 15 [.str s, .str p] (· = .bool (beginsB s p)) := by
  refine callA_of_body T0_ok mixed Try.func15 rfl (Nat.le_of_ble_eq_true rfl) ok_ref06_Begins ?_
  unfold Try.f15
  unfold beginsB
  by_cases h : (p.length : Int) ≤ s.length
  · have hm : ¬ (s.length : Int) < p.length := by omega
    have hz : (0 : Int) ≤ p.length := by omega
    simp -implicitDefEqProofs (maxSteps := 600000) (disch := (first | omega | decide)) only [go_sem, ↓reduceIte, Nat.reduceEqDiff, reduceCtorEq, Nat.reduceAdd, Nat.reduceSub, Nat.reduceMul, Nat.reduceLeDiff, Nat.reduceLT, Nat.reduceBEq, Nat.reduceBNe, Int.reduceLE, Int.reduceLT, Int.reduceBEq, Int.reduceBNe, Int.reduceEq, Int.reduceNe, Int.reduceAdd, Int.reduceSub, Int.reduceMul, Int.reduceNeg, Int.reduceToNat, h, hm, hz]
    rw [decide_eq_true (by omega), Bool.true_and]
  · simp -implicitDefEqProofs (maxSteps := 600000) (disch := (first | omega | decide)) only [go_sem, ↓reduceIte, Nat.reduceEqDiff, reduceCtorEq, Nat.reduceAdd, Nat.reduceSub, Nat.reduceMul, Nat.reduceLeDiff, Nat.reduceLT, Nat.reduceBEq, Nat.reduceBNe, Int.reduceLE, Int.reduceLT, Int.reduceBEq, Int.reduceBNe, Int.reduceEq, Int.reduceNe, Int.reduceAdd, Int.reduceSub, Int.reduceMul, Int.reduceNeg, Int.reduceToNat, h]
    rw [decide_eq_false (by omega), Bool.false_and]

theorem ok_ref06_End : codeOK Try.prog T0 Try.f14.ntmps (Try.f14.body.getD .skip) = true := by kernel_rfl
theorem c_ref06_End (p : List UInt8) (hp : p.length ≤ 9223372036854775807) : CallA Try.prog 14 [.str p] (· = endA (endB p)) := by
  refine callA_of_body T0_ok mixed Try.func14 rfl (Nat.le_of_ble_eq_true rfl) ok_ref06_End ?_
  unfold Try.f14
  simp -implicitDefEqProofs (maxSteps := 600000) (disch := (first | omega | decide)) only [go_sem, ↓reduceIte, Nat.reduceEqDiff, reduceCtorEq, Nat.reduceAdd, Nat.reduceSub, Nat.reduceMul, Nat.reduceLeDiff, Nat.reduceLT, Nat.reduceBEq, Nat.reduceBNe, Int.reduceLE, Int.reduceLT, Int.reduceBEq, Int.reduceBNe, Int.reduceEq, Int.reduceNe, Int.reduceAdd, Int.reduceSub, Int.reduceMul, Int.reduceNeg, Int.reduceToNat]
  refine wpA_loop [0] (ι := {k : Nat // k ≤ p.length ∧ cut p p.length = cut p k}) (fun k => [(4, .int .i64 k.1)]) (fun _ => []) (fun k => k.1) ⟨p.length, by simp⟩ (by simp [T0, tab0]) ?_ ?_
  · simp -implicitDefEqProofs (maxSteps := 600000) (disch := (first | omega | decide)) only [go_sem, ↓reduceIte, Nat.reduceEqDiff, reduceCtorEq, Nat.reduceAdd, Nat.reduceSub, Nat.reduceMul, Nat.reduceLeDiff, Nat.reduceLT, Nat.reduceBEq, Nat.reduceBNe, Int.reduceLE, Int.reduceLT, Int.reduceBEq, Int.reduceBNe, Int.reduceEq, Int.reduceNe, Int.reduceAdd, Int.reduceSub, Int.reduceMul, Int.reduceNeg, Int.reduceToNat]
  · rintro ⟨k, hk, hc⟩
    cases k with
    | zero =>
      have z : ((0 : Nat) : Int) = 0 := rfl
      have h0 : ¬ (0 : Int) < 0 := by omega
      have hz : ((0 : Int) == 0) = true := rfl
      simp -implicitDefEqProofs (maxSteps := 600000) (disch := (first | omega | decide)) only [go_sem, ↓reduceIte, Nat.reduceEqDiff, reduceCtorEq, Nat.reduceAdd, Nat.reduceSub, Nat.reduceMul, Nat.reduceLeDiff, Nat.reduceLT, Nat.reduceBEq, Nat.reduceBNe, Int.reduceLE, Int.reduceLT, Int.reduceBEq, Int.reduceBNe, Int.reduceEq, Int.reduceNe, Int.reduceAdd, Int.reduceSub, Int.reduceMul, Int.reduceNeg, Int.reduceToNat, z, h0, hz]
      simp [endB, endA, hc, cut]
    | succ k =>
      have h0 : (0 : Int) < ((k + 1 : Nat) : Int) := by omega
      have h1 : ((k + 1 : Nat) : Int) - 1 = (k : Int) := by omega
      have e1 : p[k]? = some p[k] := List.getElem?_eq_getElem (by omega)
      have hlt := (p[k]).toNat_lt
      by_cases h255 : p[k] = 255
      · have he : ¬ (((p[k]).toNat : Int) < 255) := by rw [h255]; decide
        simp -implicitDefEqProofs (maxSteps := 600000) (disch := (first | omega | decide)) only [go_sem, ↓reduceIte, Nat.reduceEqDiff, reduceCtorEq, Nat.reduceAdd, Nat.reduceSub, Nat.reduceMul, Nat.reduceLeDiff, Nat.reduceLT, Nat.reduceBEq, Nat.reduceBNe, Int.reduceLE, Int.reduceLT, Int.reduceBEq, Int.reduceBNe, Int.reduceEq, Int.reduceNe, Int.reduceAdd, Int.reduceSub, Int.reduceMul, Int.reduceNeg, Int.reduceToNat, h0, h1, he, wrap_i64, encU8]
        refine ⟨⟨k, by omega, ?_⟩, rfl, by simp⟩
        rw [hc]
        simp [cut, e1, h255]
      · have he : (((p[k]).toNat : Int) < 255) := by
          have : (p[k]).toNat ≠ 255 := fun e => h255 (UInt8.toNat_inj.1 (by rw [e]; rfl))
          omega
        have hcut : cut p p.length = k + 1 := by rw [hc]; simp [cut, e1, h255]
        have hw := inc_u8 h255
        have hkk : (0 : Int) ≤ 0 := by omega
        have hk0 : (0 : Int) ≤ k := by omega
        have hle : (k : Int) ≤ (p.length : Int) := by omega
        have hone := bytesOfA_bytesA [p[k] + 1]
        simp only [bytesA, List.map_cons, List.map_nil, encU8] at hone
        simp -implicitDefEqProofs (maxSteps := 600000) (disch := (first | omega | decide)) only [go_sem, ↓reduceIte, Nat.reduceEqDiff, reduceCtorEq, Nat.reduceAdd, Nat.reduceSub, Nat.reduceMul, Nat.reduceLeDiff, Nat.reduceLT, Nat.reduceBEq, Nat.reduceBNe, Int.reduceLE, Int.reduceLT, Int.reduceBEq, Int.reduceBNe, Int.reduceEq, Int.reduceNe, Int.reduceAdd, Int.reduceSub, Int.reduceMul, Int.reduceNeg, Int.reduceToNat, hcut, hw, hone, bytesOfA_bytesA, convB, h0, h1, he, hkk, hk0, hle, wrap_i64, encU8]
        refine ⟨by rw [List.length_take]; omega, ?_⟩
        rw [endB, if_neg (by rw [hcut]; omega), hcut]
        simp only [Nat.add_sub_cancel, endA]
        have : p.getD k 0 = p[k] := by simp [e1]
        rw [this]

noncomputable def T06f : Tab := T06e.add 18 (entry (fun (s : List UInt8) => [.str s]) (fun s => s.length ≤ 9223372036854775807) (fun s => .bool (decide (1 ≤ s.length ∧ s.length ≤ 16))))
theorem T06f_ok : TabOK Try.prog T06f := T06e_ok.add (callable_of Try.func18 (by kernel_rfl) (by kernel_rfl)) (entry_ok fun s h => c_ref06_Right s h)
@[go_sem] theorem T06f_old {g : FuncId} {xs : List A} (h : g ≠ 18) : T06f.f g xs = T06e.f g xs := Tab.add_ne h
@[go_sem] theorem T06f_eff {g : FuncId} : T06f.eff g = T06e.eff g := rfl
@[go_sem] theorem T06f_frz {g : FuncId} : T06f.frz g = T06e.frz g := rfl
@[go_sem] theorem T06f_effT : T06f.effT = T06e.effT := rfl
@[go_sem] theorem T06f_fix : T06f.fix = T06e.fix := rfl
@[go_sem] theorem T06f_nf : T06f.nf = T06e.nf := rfl
@[go_sem] theorem T06f_hp : T06f.hp = T06e.hp := rfl
theorem T06f_ref06_Right (s : List UInt8) (h : s.length ≤ 9223372036854775807) : T06f.f 18 [.str s] = some (.bool (decide (1 ≤ s.length ∧ s.length ≤ 16))) :=
  (Tab.add_eq : T06f.f 18 [.str s] = (entry (fun (s : List UInt8) => [.str s]) (fun s => s.length ≤ 9223372036854775807) (fun s => .bool (decide (1 ≤ s.length ∧ s.length ≤ 16)))) [.str s]).trans (entry_eq (fun i j h => by first | (cases i; cases j; rfl; done) | simpa [Prod.ext_iff, and_assoc] using h) s h)
noncomputable def T06g : Tab := T06f.add 12 (entry (fun (p : List UInt8 × List UInt8) => [.str p.1, .str p.2]) (fun p => p.1.length ≤ 9223372036854775807 ∧ p.2.length ≤ 9223372036854775807) (fun p => .bool (cmpB p.1 p.2 == -1)))
theorem T06g_ok : TabOK Try.prog T06g := T06f_ok.add (callable_of Try.func12 (by kernel_rfl) (by kernel_rfl)) (entry_ok fun p h => c_ref06_Less p.1 p.2 h.1 h.2)
@[go_sem] theorem T06g_old {g : FuncId} {xs : List A} (h : g ≠ 12) : T06g.f g xs = T06f.f g xs := Tab.add_ne h
@[go_sem] theorem T06g_eff {g : FuncId} : T06g.eff g = T06f.eff g := rfl
@[go_sem] theorem T06g_frz {g : FuncId} : T06g.frz g = T06f.frz g := rfl
@[go_sem] theorem T06g_effT : T06g.effT = T06f.effT := rfl
@[go_sem] theorem T06g_fix : T06g.fix = T06f.fix := rfl
@[go_sem] theorem T06g_nf : T06g.nf = T06f.nf := rfl
@[go_sem] theorem T06g_hp : T06g.hp = T06f.hp := rfl
theorem T06g_ref06_Less (p : List UInt8 × List UInt8) (h : p.1.length ≤ 9223372036854775807 ∧ p.2.length ≤ 9223372036854775807) : T06g.f 12 [.str p.1, .str p.2] = some (.bool (cmpB p.1 p.2 == -1)) :=
  (Tab.add_eq : T06g.f 12 [.str p.1, .str p.2] = (entry (fun (p : List UInt8 × List UInt8) => [.str p.1, .str p.2]) (fun p => p.1.length ≤ 9223372036854775807 ∧ p.2.length ≤ 9223372036854775807) (fun p => .bool (cmpB p.1 p.2 == -1))) [.str p.1, .str p.2]).trans (entry_eq (fun i j h => by first | (cases i; cases j; rfl; done) | simpa [Prod.ext_iff, and_assoc] using h) p h)
noncomputable def T06h : Tab := T06g.add 15 (entry (fun (p : List UInt8 × List UInt8) => [.str p.1, .str p.2]) (fun p => p.1.length ≤ 9223372036854775807 ∧ p.2.length ≤ 9223372036854775807) (fun p => .bool (beginsB p.1 p.2)))
theorem T06h_ok : TabOK Try.prog T06h := T06g_ok.add (callable_of Try.func15 (by kernel_rfl) (by kernel_rfl)) (entry_ok fun p h => c_ref06_Begins p.1 p.2 h.1 h.2)
@[go_sem] theorem T06h_old {g : FuncId} {xs : List A} (h : g ≠ 15) : T06h.f g xs = T06g.f g xs := Tab.add_ne h
@[go_sem] theorem T06h_eff {g : FuncId} : T06h.eff g = T06g.eff g := rfl
@[go_sem] theorem T06h_frz {g : FuncId} : T06h.frz g = T06g.frz g := rfl
@[go_sem] theorem T06h_effT : T06h.effT = T06g.effT := rfl
@[go_sem] theorem T06h_fix : T06h.fix = T06g.fix := rfl
@[go_sem] theorem T06h_nf : T06h.nf = T06g.nf := rfl
@[go_sem] theorem T06h_hp : T06h.hp = T06g.hp := rfl
theorem T06h_ref06_Begins (p : List UInt8 × List UInt8) (h : p.1.length ≤ 9223372036854775807 ∧ p.2.length ≤ 9223372036854775807) : T06h.f 15 [.str p.1, .str p.2] = some (.bool (beginsB p.1 p.2)) :=
  (Tab.add_eq : T06h.f 15 [.str p.1, .str p.2] = (entry (fun (p : List UInt8 × List UInt8) => [.str p.1, .str p.2]) (fun p => p.1.length ≤ 9223372036854775807 ∧ p.2.length ≤ 9223372036854775807) (fun p => .bool (beginsB p.1 p.2))) [.str p.1, .str p.2]).trans (entry_eq (fun i j h => by first | (cases i; cases j; rfl; done) | simpa [Prod.ext_iff, and_assoc] using h) p h)
noncomputable def T06i : Tab := T06h.add 14 (entry (fun (s : List UInt8) => [.str s]) (fun s => s.length ≤ 9223372036854775807) (fun s => endA (endB s)))
theorem T06i_ok : TabOK Try.prog T06i := T06h_ok.add (callable_of Try.func14 (by kernel_rfl) (by kernel_rfl)) (entry_ok fun s h => c_ref06_End s h)
@[go_sem] theorem T06i_old {g : FuncId} {xs : List A} (h : g ≠ 14) : T06i.f g xs = T06h.f g xs := Tab.add_ne h
@[go_sem] theorem T06i_eff {g : FuncId} : T06i.eff g = T06h.eff g := rfl
@[go_sem] theorem T06i_frz {g : FuncId} : T06i.frz g = T06h.frz g := rfl
@[go_sem] theorem T06i_effT : T06i.effT = T06h.effT := rfl
@[go_sem] theorem T06i_fix : T06i.fix = T06h.fix := rfl
@[go_sem] theorem T06i_nf : T06i.nf = T06h.nf := rfl
@[go_sem] theorem T06i_hp : T06i.hp = T06h.hp := rfl
theorem T06i_ref06_End (s : List UInt8) (h : s.length ≤ 9223372036854775807) : T06i.f 14 [.str s] = some (endA (endB s)) :=
  (Tab.add_eq : T06i.f 14 [.str s] = (entry (fun (s : List UInt8) => [.str s]) (fun s => s.length ≤ 9223372036854775807) (fun s => endA (endB s))) [.str s]).trans (entry_eq (fun i j h => by first | (cases i; cases j; rfl; done) | simpa [Prod.ext_iff, and_assoc] using h) s h)
@[go_sem] theorem t_ref06_Right {s : List UInt8} (h : s.length ≤ 9223372036854775807) : T06f.f 18 [.str s] = some (.bool (decide (1 ≤ s.length ∧ s.length ≤ 16))) := T06f_ref06_Right s h
@[go_sem] theorem t_ref06_Less {a b : List UInt8} (h : a.length ≤ 9223372036854775807) (h' : b.length ≤ 9223372036854775807) : T06g.f 12 [.str a, .str b] = some (.bool (cmpB a b == -1)) := T06g_ref06_Less (a, b) ⟨h, h'⟩
@[go_sem] theorem t_ref06_Begins {a b : List UInt8} (h : a.length ≤ 9223372036854775807) (h' : b.length ≤ 9223372036854775807) : T06h.f 15 [.str a, .str b] = some (.bool (beginsB a b)) := T06h_ref06_Begins (a, b) ⟨h, h'⟩
@[go_sem] theorem t_ref06_End {s : List UInt8} (h : s.length ≤ 9223372036854775807) : T06i.f 14 [.str s] = some (endA (endB s)) := T06i_ref06_End s h
end Go.Proofs.Ytddkjenabjplmaa
