/- Chapter 06: the reference's functions, and what the texts have in common. -/
import Derived.Test.YtnmkojglcgaobaaK06
namespace Go.Proofs.Ytnmkojglcgaobaa
open Go.Abs
set_option linter.unusedSimpArgs false
set_option linter.unusedVariables false
set_option maxRecDepth 20000
set_option maxHeartbeats 4000000

theorem ok_ref06_Less : codeOK Try.prog T0 Try.f78.ntmps (Try.f78.body.getD .skip) = true := by kernel_rfl
theorem c_ref06_Less (a b : List UInt8) (ha : a.length ≤ 9223372036854775807) (hb : b.length ≤ 9223372036854775807) : CallA Try.prog 78 [.str a, .str b] (· = .bool (cmpB a b == -1)) := by
  refine callA_of_body T0_ok mixed Try.func78 rfl (Nat.le_of_ble_eq_true rfl) ok_ref06_Less ?_
  unfold Try.f78
  simp -implicitDefEqProofs (maxSteps := 600000) (disch := (first | omega | decide)) only [go_sem, ↓reduceIte, Nat.reduceEqDiff, reduceCtorEq, Nat.reduceAdd, Nat.reduceSub, Nat.reduceMul, Nat.reduceLeDiff, Nat.reduceLT, Nat.reduceBEq, Nat.reduceBNe, Int.reduceLE, Int.reduceLT, Int.reduceBEq, Int.reduceBNe, Int.reduceEq, Int.reduceNe, Int.reduceAdd, Int.reduceSub, Int.reduceMul, Int.reduceNeg, Int.reduceToNat]
  refine wpA_loop [0,1] (ι := {k : Nat // k ≤ a.length ∧ k ≤ b.length ∧ cmpB a b = cmpB (a.drop k) (b.drop k)}) (fun k => [(5, .int .i64 k.1)]) (fun _ => []) (fun k => a.length - k.1) ⟨0, by simp⟩ (by simp [T0, tab0]) ?_ ?_
  · simp -implicitDefEqProofs (maxSteps := 600000) (disch := (first | omega | decide)) only [go_sem, ↓reduceIte, Nat.reduceEqDiff, reduceCtorEq, Nat.reduceAdd, Nat.reduceSub, Nat.reduceMul, Nat.reduceLeDiff, Nat.reduceLT, Nat.reduceBEq, Nat.reduceBNe, Int.reduceLE, Int.reduceLT, Int.reduceBEq, Int.reduceBNe, Int.reduceEq, Int.reduceNe, Int.reduceAdd, Int.reduceSub, Int.reduceMul, Int.reduceNeg, Int.reduceToNat]
  · rintro ⟨k, hk1, hk2, hk3⟩
    by_cases hk : (k : Int) < a.length
    · have hka : k < a.length := by omega
      by_cases hk' : (b.length : Int) ≤ k
      · simp -implicitDefEqProofs (maxSteps := 600000) (disch := (first | omega | decide)) only [go_sem, ↓reduceIte, Nat.reduceEqDiff, reduceCtorEq, Nat.reduceAdd, Nat.reduceSub, Nat.reduceMul, Nat.reduceLeDiff, Nat.reduceLT, Nat.reduceBEq, Nat.reduceBNe, Int.reduceLE, Int.reduceLT, Int.reduceBEq, Int.reduceBNe, Int.reduceEq, Int.reduceNe, Int.reduceAdd, Int.reduceSub, Int.reduceMul, Int.reduceNeg, Int.reduceToNat, hk, hk', encU8, wrap_i64]
        have h2 : b.drop k = [] := List.drop_of_length_le (by omega)
        rw [hk3, h2, List.drop_eq_getElem_cons hka]
        rfl
      · have hkb : k < b.length := by omega
        have e1 : a[k]? = some a[k] := List.getElem?_eq_getElem hka
        have e2 : b[k]? = some b[k] := List.getElem?_eq_getElem hkb
        rw [cmpB_drop hka hkb] at hk3
        simp -implicitDefEqProofs (maxSteps := 600000) (disch := (first | omega | decide)) only [go_sem, ↓reduceIte, Nat.reduceEqDiff, reduceCtorEq, Nat.reduceAdd, Nat.reduceSub, Nat.reduceMul, Nat.reduceLeDiff, Nat.reduceLT, Nat.reduceBEq, Nat.reduceBNe, Int.reduceLE, Int.reduceLT, Int.reduceBEq, Int.reduceBNe, Int.reduceEq, Int.reduceNe, Int.reduceAdd, Int.reduceSub, Int.reduceMul, Int.reduceNeg, Int.reduceToNat, hk, hk', encU8, wrap_i64]
        refine ⟨fun h => ?_, fun h => ⟨⟨k + 1, hka, hkb, ?_⟩, by simp, by simp; omega⟩⟩
        · have hne : ¬ ((a[k].toNat : Int) = b[k].toNat) := by simpa using h
          have t : ∀ u v : UInt8, (u < v) = (u.toNat < v.toNat) := fun u v => rfl
          simp only [t] at hk3
          by_cases hl : a[k].toNat < b[k].toNat
          · rw [hk3, if_pos hl, decide_eq_true (by omega)]; rfl
          · rw [hk3, if_neg hl, if_pos (by omega), decide_eq_false (by omega)]; rfl
        · have he : ((a[k].toNat : Int) = b[k].toNat) := by simpa using h
          have t : ∀ u v : UInt8, (u < v) = (u.toNat < v.toNat) := fun u v => rfl
          simp only [t] at hk3
          rw [hk3, if_neg (by omega), if_neg (by omega)]
    · simp -implicitDefEqProofs (maxSteps := 600000) (disch := (first | omega | decide)) only [go_sem, ↓reduceIte, Nat.reduceEqDiff, reduceCtorEq, Nat.reduceAdd, Nat.reduceSub, Nat.reduceMul, Nat.reduceLeDiff, Nat.reduceLT, Nat.reduceBEq, Nat.reduceBNe, Int.reduceLE, Int.reduceLT, Int.reduceBEq, Int.reduceBNe, Int.reduceEq, Int.reduceNe, Int.reduceAdd, Int.reduceSub, Int.reduceMul, Int.reduceNeg, Int.reduceToNat, hk, encU8, wrap_i64]
      have h2 : a.drop k = [] := List.drop_of_length_le (by omega)
      rw [hk3, h2]
      by_cases h3 : k < b.length
      · rw [List.drop_eq_getElem_cons h3, decide_eq_true (by omega)]; rfl
      · rw [List.drop_of_length_le (by omega), decide_eq_false (by omega)]; rfl

def beginsB (s p : List UInt8) : Bool := decide (p.length ≤ s.length) && s.take p.length == p
noncomputable def T06f : Tab := T06e
theorem T06f_ok : TabOK Try.prog T06f := T06e_ok
@[go_sem] theorem T06f_old {g : FuncId} {xs : List A} : T06f.f g xs = T06e.f g xs := rfl
@[go_sem] theorem T06f_eff {g : FuncId} : T06f.eff g = T06e.eff g := rfl
@[go_sem] theorem T06f_frz {g : FuncId} : T06f.frz g = T06e.frz g := rfl
@[go_sem] theorem T06f_effT : T06f.effT = T06e.effT := rfl
@[go_sem] theorem T06f_fix : T06f.fix = T06e.fix := rfl
@[go_sem] theorem T06f_nf : T06f.nf = T06e.nf := rfl
@[go_sem] theorem T06f_ords {n : Nat} : T06f.ords n = T06e.ords n := rfl
@[go_sem] theorem T06f_hp : T06f.hp = T06e.hp := rfl
noncomputable def T06g : Tab := T06f.add 78 (entry (fun (p : List UInt8 × List UInt8) => [.str p.1, .str p.2]) (fun p => p.1.length ≤ 9223372036854775807 ∧ p.2.length ≤ 9223372036854775807) (fun p => .bool (cmpB p.1 p.2 == -1)))
theorem T06g_ok : TabOK Try.prog T06g := T06f_ok.add (callable_of Try.func78 (by kernel_rfl) (by kernel_rfl)) (entry_ok fun p h => c_ref06_Less p.1 p.2 h.1 h.2)
@[go_sem] theorem T06g_old {g : FuncId} {xs : List A} (h : g ≠ 78) : T06g.f g xs = T06f.f g xs := Tab.add_ne h
@[go_sem] theorem T06g_eff {g : FuncId} : T06g.eff g = T06f.eff g := rfl
@[go_sem] theorem T06g_frz {g : FuncId} : T06g.frz g = T06f.frz g := rfl
@[go_sem] theorem T06g_effT : T06g.effT = T06f.effT := rfl
@[go_sem] theorem T06g_fix : T06g.fix = T06f.fix := rfl
@[go_sem] theorem T06g_nf : T06g.nf = T06f.nf := rfl
@[go_sem] theorem T06g_ords {n : Nat} : T06g.ords n = T06f.ords n := rfl
@[go_sem] theorem T06g_hp : T06g.hp = T06f.hp := rfl
theorem T06g_ref06_Less (p : List UInt8 × List UInt8) (h : p.1.length ≤ 9223372036854775807 ∧ p.2.length ≤ 9223372036854775807) : T06g.f 78 [.str p.1, .str p.2] = some (.bool (cmpB p.1 p.2 == -1)) :=
  (Tab.add_eq : T06g.f 78 [.str p.1, .str p.2] = (entry (fun (p : List UInt8 × List UInt8) => [.str p.1, .str p.2]) (fun p => p.1.length ≤ 9223372036854775807 ∧ p.2.length ≤ 9223372036854775807) (fun p => .bool (cmpB p.1 p.2 == -1))) [.str p.1, .str p.2]).trans (entry_eq (fun i j h => by first | (cases i; cases j; rfl; done) | simpa [Prod.ext_iff, and_assoc] using h | (simp at h; omega)) p h)
noncomputable def T06h : Tab := T06g
theorem T06h_ok : TabOK Try.prog T06h := T06g_ok
@[go_sem] theorem T06h_old {g : FuncId} {xs : List A} : T06h.f g xs = T06g.f g xs := rfl
@[go_sem] theorem T06h_eff {g : FuncId} : T06h.eff g = T06g.eff g := rfl
@[go_sem] theorem T06h_frz {g : FuncId} : T06h.frz g = T06g.frz g := rfl
@[go_sem] theorem T06h_effT : T06h.effT = T06g.effT := rfl
@[go_sem] theorem T06h_fix : T06h.fix = T06g.fix := rfl
@[go_sem] theorem T06h_nf : T06h.nf = T06g.nf := rfl
@[go_sem] theorem T06h_ords {n : Nat} : T06h.ords n = T06g.ords n := rfl
@[go_sem] theorem T06h_hp : T06h.hp = T06g.hp := rfl
noncomputable def T06i : Tab := T06h
theorem T06i_ok : TabOK Try.prog T06i := T06h_ok
@[go_sem] theorem T06i_old {g : FuncId} {xs : List A} : T06i.f g xs = T06h.f g xs := rfl
@[go_sem] theorem T06i_eff {g : FuncId} : T06i.eff g = T06h.eff g := rfl
@[go_sem] theorem T06i_frz {g : FuncId} : T06i.frz g = T06h.frz g := rfl
@[go_sem] theorem T06i_effT : T06i.effT = T06h.effT := rfl
@[go_sem] theorem T06i_fix : T06i.fix = T06h.fix := rfl
@[go_sem] theorem T06i_nf : T06i.nf = T06h.nf := rfl
@[go_sem] theorem T06i_ords {n : Nat} : T06i.ords n = T06h.ords n := rfl
@[go_sem] theorem T06i_hp : T06i.hp = T06h.hp := rfl
@[go_sem] theorem t_ref06_Less {a b : List UInt8} (h : a.length ≤ 9223372036854775807) (h' : b.length ≤ 9223372036854775807) : T06g.f 78 [.str a, .str b] = some (.bool (cmpB a b == -1)) := T06g_ref06_Less (a, b) ⟨h, h'⟩
end Go.Proofs.Ytnmkojglcgaobaa
