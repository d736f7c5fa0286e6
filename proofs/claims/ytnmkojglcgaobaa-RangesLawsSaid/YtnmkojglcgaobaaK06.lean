/- Chapter 06: what the functions of 'key' compute, on pure data. -/
import Derived.Test.YtnmkojglcgaobaaTy
import Derived.Test.YtnmkojglcgaobaaAbsY
namespace Go.Proofs.Ytnmkojglcgaobaa
open Go.Abs
set_option linter.unusedSimpArgs false
set_option linter.unusedVariables false
set_option maxRecDepth 20000

def T0 : Tab := tab0
theorem T0_ok : TabOK Try.prog T0 := tab0_ok _
@[go_sem] theorem T0_eq : T0 = tab0 := rfl

theorem ok_key_Edge : codeOK Try.prog T0 Try.f97.ntmps (Try.f97.body.getD .skip) = true := by kernel_rfl
theorem c_key_Edge (s : List UInt8) (hs : s.length ≤ 9223372036854775807) : CallA Try.prog 97 [.str s] (· = .bool (decide (s.length ≤ 17))) := by
  refine callA_of_body T0_ok mixed Try.func97 rfl (Nat.le_of_ble_eq_true rfl) ok_key_Edge ?_
  unfold Try.f97
  simp -implicitDefEqProofs (maxSteps := 600000) (disch := (first | omega | decide)) only [go_sem, ↓reduceIte, Nat.reduceEqDiff, reduceCtorEq, Nat.reduceAdd, Nat.reduceSub, Nat.reduceMul, Nat.reduceLeDiff, Nat.reduceLT, Nat.reduceBEq, Nat.reduceBNe, Int.reduceLE, Int.reduceLT, Int.reduceBEq, Int.reduceBNe, Int.reduceEq, Int.reduceNe, Int.reduceAdd, Int.reduceSub, Int.reduceMul, Int.reduceNeg, Int.reduceToNat]
  apply decide_eq_decide.2
  omega

def cmpB : List UInt8 → List UInt8 → Int
  | [], [] => 0
  | [], _ :: _ => -1
  | _ :: _, [] => 1
  | a :: x, b :: y => if a < b then -1 else if b < a then 1 else cmpB x y
theorem cmpB_drop {a b : List UInt8} {k : Nat} (ha : k < a.length) (hb : k < b.length) : cmpB (a.drop k) (b.drop k) = if a[k] < b[k] then -1 else if b[k] < a[k] then 1 else cmpB (a.drop (k+1)) (b.drop (k+1)) := by
  rw [List.drop_eq_getElem_cons ha, List.drop_eq_getElem_cons hb]; rfl

theorem ok_key_Cmp : codeOK Try.prog T0 Try.f75.ntmps (Try.f75.body.getD .skip) = true := by kernel_rfl
theorem c_key_Cmp (a b : List UInt8) (ha : a.length ≤ 9223372036854775807) (hb : b.length ≤ 9223372036854775807) : CallA Try.prog 75 [.str a, .str b] (· = .int .i64 (cmpB a b)) := by
  refine callA_of_body T0_ok mixed Try.func75 rfl (Nat.le_of_ble_eq_true rfl) ok_key_Cmp ?_
  unfold Try.f75
  simp -implicitDefEqProofs (maxSteps := 600000) (disch := (first | omega | decide)) only [go_sem, ↓reduceIte, Nat.reduceEqDiff, reduceCtorEq, Nat.reduceAdd, Nat.reduceSub, Nat.reduceMul, Nat.reduceLeDiff, Nat.reduceLT, Nat.reduceBEq, Nat.reduceBNe, Int.reduceLE, Int.reduceLT, Int.reduceBEq, Int.reduceBNe, Int.reduceEq, Int.reduceNe, Int.reduceAdd, Int.reduceSub, Int.reduceMul, Int.reduceNeg, Int.reduceToNat]
  refine wpA_loop [0,1,10] (ι := {k : Nat // k ≤ a.length ∧ k ≤ b.length ∧ cmpB a b = cmpB (a.drop k) (b.drop k)}) (fun k => [(11, .int .i64 k.1)]) (fun _ => []) (fun k => a.length - k.1) ⟨0, by simp⟩ (by simp [T0, tab0]) ?_ ?_
  · simp -implicitDefEqProofs (maxSteps := 600000) (disch := (first | omega | decide)) only [go_sem, ↓reduceIte, Nat.reduceEqDiff, reduceCtorEq, Nat.reduceAdd, Nat.reduceSub, Nat.reduceMul, Nat.reduceLeDiff, Nat.reduceLT, Nat.reduceBEq, Nat.reduceBNe, Int.reduceLE, Int.reduceLT, Int.reduceBEq, Int.reduceBNe, Int.reduceEq, Int.reduceNe, Int.reduceAdd, Int.reduceSub, Int.reduceMul, Int.reduceNeg, Int.reduceToNat]
  · rintro ⟨k, hk1, hk2, hk3⟩
    by_cases hk : k < a.length ∧ k < b.length
    · obtain ⟨hka, hkb⟩ := hk
      have hmin : (k:Int) < if (b.length:Int) < a.length then (b.length : Int) else a.length := by split <;> omega
      have e1 : a[k]? = some a[k] := List.getElem?_eq_getElem hka
      have e2 : b[k]? = some b[k] := List.getElem?_eq_getElem hkb
      rw [cmpB_drop hka hkb] at hk3
      simp -implicitDefEqProofs (maxSteps := 600000) (disch := (first | omega | decide)) only [go_sem, ↓reduceIte, Nat.reduceEqDiff, reduceCtorEq, Nat.reduceAdd, Nat.reduceSub, Nat.reduceMul, Nat.reduceLeDiff, Nat.reduceLT, Nat.reduceBEq, Nat.reduceBNe, Int.reduceLE, Int.reduceLT, Int.reduceBEq, Int.reduceBNe, Int.reduceEq, Int.reduceNe, Int.reduceAdd, Int.reduceSub, Int.reduceMul, Int.reduceNeg, Int.reduceToNat, hmin, encU8, wrap_i64]
      simp only [decide_eq_true_eq, decide_eq_false_iff_not, Int.ofNat_lt]
      refine ⟨fun h => ?_, fun h => ⟨fun h' => ?_, fun h' => ⟨⟨k + 1, hka, hkb, ?_⟩, by simp, by simp; omega⟩⟩⟩
      · have : a[k] < b[k] := h
        rw [hk3, if_pos this]
      · have g : ¬ a[k] < b[k] := h
        have g' : b[k] < a[k] := h'
        rw [hk3, if_neg g, if_pos g']
      · have g : ¬ a[k] < b[k] := h
        have g' : ¬ b[k] < a[k] := h'
        rw [hk3, if_neg g, if_neg g']
    · have hmin : ¬ ((k:Int) < if (b.length:Int) < a.length then (b.length : Int) else a.length) := by split <;> omega
      simp -implicitDefEqProofs (maxSteps := 600000) (disch := (first | omega | decide)) only [go_sem, ↓reduceIte, Nat.reduceEqDiff, reduceCtorEq, Nat.reduceAdd, Nat.reduceSub, Nat.reduceMul, Nat.reduceLeDiff, Nat.reduceLT, Nat.reduceBEq, Nat.reduceBNe, Int.reduceLE, Int.reduceLT, Int.reduceBEq, Int.reduceBNe, Int.reduceEq, Int.reduceNe, Int.reduceAdd, Int.reduceSub, Int.reduceMul, Int.reduceNeg, Int.reduceToNat, hmin, encU8, wrap_i64]
      simp only [decide_eq_true_eq, decide_eq_false_iff_not, Int.ofNat_lt]
      rw [hk3]
      by_cases h1 : k < a.length
      · have h2 : b.drop k = [] := List.drop_of_length_le (by omega)
        rw [h2, List.drop_eq_getElem_cons h1]
        simp only [cmpB]
        refine ⟨fun h => ?_, fun h => ⟨fun _ => trivial, fun h' => ?_⟩⟩ <;> exfalso <;> omega
      · have h2 : a.drop k = [] := List.drop_of_length_le (by omega)
        rw [h2]
        by_cases h3 : k < b.length
        · rw [List.drop_eq_getElem_cons h3]
          simp only [cmpB]
          refine ⟨fun _ => trivial, fun h => ⟨fun h' => ?_, fun h' => ?_⟩⟩ <;> exfalso <;> omega
        · have h4 : b.drop k = [] := List.drop_of_length_le (by omega)
          rw [h4]
          simp only [cmpB]
          refine ⟨fun h => ?_, fun h => ⟨fun h' => ?_, fun _ => trivial⟩⟩ <;> exfalso <;> omega

theorem inc_u8 {x : UInt8} (h : x ≠ 255) : IntKind.u8.wrap ((x.toNat : Int) + 1) = ((x + 1).toNat : Int) := by
  have h1 : x.toNat < 256 := x.toNat_lt
  have h2 : x.toNat ≠ 255 := fun e => h (UInt8.toNat_inj.1 (by rw [e]; rfl))
  have h3 : (x + 1).toNat = x.toNat + 1 := by
    rw [UInt8.toNat_add]
    have : (1 : UInt8).toNat = 1 := rfl
    rw [this]
    omega
  rw [h3]
  unfold IntKind.wrap
  simp [IntKind.bits, IntKind.signed]
  omega

theorem take_set : ∀ {p : List UInt8} {k : Nat}, k < p.length → ∀ x, (p.take (k + 1)).set k x = p.take k ++ [x]
  | _ :: p, 0, _, x => by simp
  | c :: p, k + 1, h, x => by
    have := take_set (p := p) (k := k) (by simpa using h) x
    simp [this]

def cut (p : List UInt8) : Nat → Nat
  | 0 => 0
  | n + 1 => if p.getD n 0 = 255 then cut p n else n + 1
def endB (p : List UInt8) : Option (List UInt8) := if cut p p.length = 0 then none else some (p.take (cut p p.length - 1) ++ [p.getD (cut p p.length - 1) 0 + 1])
def endA : Option (List UInt8) → A
  | none => .tup [.str [], .bool false]
  | some e => .tup [.str e, .bool true]

noncomputable def T06a : Tab := T0
theorem T06a_ok : TabOK Try.prog T06a := T0_ok
@[go_sem] theorem T06a_old {g : FuncId} {xs : List A} : T06a.f g xs = T0.f g xs := rfl
@[go_sem] theorem T06a_eff {g : FuncId} : T06a.eff g = T0.eff g := rfl
@[go_sem] theorem T06a_frz {g : FuncId} : T06a.frz g = T0.frz g := rfl
@[go_sem] theorem T06a_effT : T06a.effT = T0.effT := rfl
@[go_sem] theorem T06a_fix : T06a.fix = T0.fix := rfl
@[go_sem] theorem T06a_nf : T06a.nf = T0.nf := rfl
@[go_sem] theorem T06a_ords {n : Nat} : T06a.ords n = T0.ords n := rfl
@[go_sem] theorem T06a_hp : T06a.hp = T0.hp := rfl
noncomputable def T06b : Tab := T06a
theorem T06b_ok : TabOK Try.prog T06b := T06a_ok
@[go_sem] theorem T06b_old {g : FuncId} {xs : List A} : T06b.f g xs = T06a.f g xs := rfl
@[go_sem] theorem T06b_eff {g : FuncId} : T06b.eff g = T06a.eff g := rfl
@[go_sem] theorem T06b_frz {g : FuncId} : T06b.frz g = T06a.frz g := rfl
@[go_sem] theorem T06b_effT : T06b.effT = T06a.effT := rfl
@[go_sem] theorem T06b_fix : T06b.fix = T06a.fix := rfl
@[go_sem] theorem T06b_nf : T06b.nf = T06a.nf := rfl
@[go_sem] theorem T06b_ords {n : Nat} : T06b.ords n = T06a.ords n := rfl
@[go_sem] theorem T06b_hp : T06b.hp = T06a.hp := rfl
noncomputable def T06c : Tab := T06b.add 97 (entry (fun (s : List UInt8) => [.str s]) (fun s => s.length ≤ 9223372036854775807) (fun s => .bool (decide (s.length ≤ 17))))
theorem T06c_ok : TabOK Try.prog T06c := T06b_ok.add (callable_of Try.func97 (by kernel_rfl) (by kernel_rfl)) (entry_ok fun s h => c_key_Edge s h)
@[go_sem] theorem T06c_old {g : FuncId} {xs : List A} (h : g ≠ 97) : T06c.f g xs = T06b.f g xs := Tab.add_ne h
@[go_sem] theorem T06c_eff {g : FuncId} : T06c.eff g = T06b.eff g := rfl
@[go_sem] theorem T06c_frz {g : FuncId} : T06c.frz g = T06b.frz g := rfl
@[go_sem] theorem T06c_effT : T06c.effT = T06b.effT := rfl
@[go_sem] theorem T06c_fix : T06c.fix = T06b.fix := rfl
@[go_sem] theorem T06c_nf : T06c.nf = T06b.nf := rfl
@[go_sem] theorem T06c_ords {n : Nat} : T06c.ords n = T06b.ords n := rfl
@[go_sem] theorem T06c_hp : T06c.hp = T06b.hp := rfl
theorem T06c_key_Edge (s : List UInt8) (h : s.length ≤ 9223372036854775807) : T06c.f 97 [.str s] = some (.bool (decide (s.length ≤ 17))) :=
  (Tab.add_eq : T06c.f 97 [.str s] = (entry (fun (s : List UInt8) => [.str s]) (fun s => s.length ≤ 9223372036854775807) (fun s => .bool (decide (s.length ≤ 17)))) [.str s]).trans (entry_eq (fun i j h => by first | (cases i; cases j; rfl; done) | simpa [Prod.ext_iff, and_assoc] using h | (simp at h; omega)) s h)
noncomputable def T06d : Tab := T06c.add 75 (entry (fun (p : List UInt8 × List UInt8) => [.str p.1, .str p.2]) (fun p => p.1.length ≤ 9223372036854775807 ∧ p.2.length ≤ 9223372036854775807) (fun p => .int .i64 (cmpB p.1 p.2)))
theorem T06d_ok : TabOK Try.prog T06d := T06c_ok.add (callable_of Try.func75 (by kernel_rfl) (by kernel_rfl)) (entry_ok fun p h => c_key_Cmp p.1 p.2 h.1 h.2)
@[go_sem] theorem T06d_old {g : FuncId} {xs : List A} (h : g ≠ 75) : T06d.f g xs = T06c.f g xs := Tab.add_ne h
@[go_sem] theorem T06d_eff {g : FuncId} : T06d.eff g = T06c.eff g := rfl
@[go_sem] theorem T06d_frz {g : FuncId} : T06d.frz g = T06c.frz g := rfl
@[go_sem] theorem T06d_effT : T06d.effT = T06c.effT := rfl
@[go_sem] theorem T06d_fix : T06d.fix = T06c.fix := rfl
@[go_sem] theorem T06d_nf : T06d.nf = T06c.nf := rfl
@[go_sem] theorem T06d_ords {n : Nat} : T06d.ords n = T06c.ords n := rfl
@[go_sem] theorem T06d_hp : T06d.hp = T06c.hp := rfl
theorem T06d_key_Cmp (p : List UInt8 × List UInt8) (h : p.1.length ≤ 9223372036854775807 ∧ p.2.length ≤ 9223372036854775807) : T06d.f 75 [.str p.1, .str p.2] = some (.int .i64 (cmpB p.1 p.2)) :=
  (Tab.add_eq : T06d.f 75 [.str p.1, .str p.2] = (entry (fun (p : List UInt8 × List UInt8) => [.str p.1, .str p.2]) (fun p => p.1.length ≤ 9223372036854775807 ∧ p.2.length ≤ 9223372036854775807) (fun p => .int .i64 (cmpB p.1 p.2))) [.str p.1, .str p.2]).trans (entry_eq (fun i j h => by first | (cases i; cases j; rfl; done) | simpa [Prod.ext_iff, and_assoc] using h | (simp at h; omega)) p h)
noncomputable def T06e : Tab := T06d
theorem T06e_ok : TabOK Try.prog T06e := T06d_ok
@[go_sem] theorem T06e_old {g : FuncId} {xs : List A} : T06e.f g xs = T06d.f g xs := rfl
@[go_sem] theorem T06e_eff {g : FuncId} : T06e.eff g = T06d.eff g := rfl
@[go_sem] theorem T06e_frz {g : FuncId} : T06e.frz g = T06d.frz g := rfl
@[go_sem] theorem T06e_effT : T06e.effT = T06d.effT := rfl
@[go_sem] theorem T06e_fix : T06e.fix = T06d.fix := rfl
@[go_sem] theorem T06e_nf : T06e.nf = T06d.nf := rfl
@[go_sem] theorem T06e_ords {n : Nat} : T06e.ords n = T06d.ords n := rfl
@[go_sem] theorem T06e_hp : T06e.hp = T06d.hp := rfl
@[go_sem] theorem t_key_Edge {s : List UInt8} (h : s.length ≤ 9223372036854775807) : T06c.f 97 [.str s] = some (.bool (decide (s.length ≤ 17))) := T06c_key_Edge s h
@[go_sem] theorem t_key_Cmp {a b : List UInt8} (h : a.length ≤ 9223372036854775807) (h' : b.length ≤ 9223372036854775807) : T06d.f 75 [.str a, .str b] = some (.int .i64 (cmpB a b)) := T06d_key_Cmp (a, b) ⟨h, h'⟩
end Go.Proofs.Ytnmkojglcgaobaa
