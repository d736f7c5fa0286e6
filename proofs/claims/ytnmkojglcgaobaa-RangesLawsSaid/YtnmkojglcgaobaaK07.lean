/- Chapter 07: what the functions of 'span' and of its reference compute, on pure data. -/
import Derived.Test.YtnmkojglcgaobaaK06C
namespace Go.Proofs.Ytnmkojglcgaobaa
open Go.Abs
set_option linter.unusedSimpArgs false
set_option linter.unusedVariables false
set_option maxRecDepth 20000
set_option maxHeartbeats 4000000

@[go_sem] theorem cmp_le0 {a b : List UInt8} : decide (cmpB a b ≤ 0) = !ltB b a := by
  rcases lt_tri a b with h | h | h
  · rw [cmp_of_lt h, lt_asymm' h]; rfl
  · subst h; rw [cmp_self, lt_irrefl]; rfl
  · rw [cmp_of_gt h, h]; rfl
@[go_sem] theorem cmp_lt0 {a b : List UInt8} : decide (cmpB a b < 0) = ltB a b := by
  rcases lt_tri a b with h | h | h
  · rw [cmp_of_lt h, h]; rfl
  · subst h; rw [cmp_self, lt_irrefl]; rfl
  · rw [cmp_of_gt h, lt_asymm' h]; rfl
@[go_sem] theorem cmp_gt0 {a b : List UInt8} : decide (0 < cmpB a b) = ltB b a := by
  rcases lt_tri a b with h | h | h
  · rw [cmp_of_lt h, lt_asymm' h]; rfl
  · subst h; rw [cmp_self, lt_irrefl]; rfl
  · rw [cmp_of_gt h, h]; rfl
@[go_sem] theorem cmp_ge0 {a b : List UInt8} : decide (0 ≤ cmpB a b) = !ltB a b := by
  rcases lt_tri a b with h | h | h
  · rw [cmp_of_lt h, h]; rfl
  · subst h; rw [cmp_self, lt_irrefl]; rfl
  · rw [cmp_of_gt h, lt_asymm' h]; rfl
@[go_sem] theorem cmp_eqm1 {a b : List UInt8} : (cmpB a b == -1) = ltB a b := rfl

/-- A range. -/
structure Rng where
  lo : List UInt8
  hi : List UInt8
  op : Bool
  deriving DecidableEq
def Rng.enc (r : Rng) : A := .agg [.str r.lo, .str r.hi, .bool r.op]
@[go_sem] theorem Rng.enc_eq {a b : List UInt8} {c : Bool} : Rng.enc ⟨a, b, c⟩ = .agg [.str a, .str b, .bool c] := rfl
theorem Rng.enc_inj (r s : Rng) (h : r.enc = s.enc) : r = s := by
  cases r; cases s; simpa [Rng.enc] using h
def Rng.zero : Rng := ⟨[], [], false⟩
def Rng.ok (r : Rng) : Prop := r.lo.length ≤ 9223372036854775807 ∧ r.hi.length ≤ 9223372036854775807
def rightR (r : Rng) : Bool := decide (r.lo.length ≤ 17) && decide (r.hi.length ≤ 17) && (if r.op then r.hi == [] else ltB r.lo r.hi)
def hasR (r : Rng) (s : List UInt8) : Bool := rightR r && !ltB s r.lo && (r.op || ltB s r.hi)
def ofR (k : List UInt8) : Rng := if 16 < k.length then Rng.zero else ⟨k, k ++ [0], false⟩
def prefixR (p : List UInt8) : Rng := if 16 < p.length then Rng.zero else ⟨p, (endB p).getD [], (endB p).isNone⟩
def endsR (a b : Rng) : Int := if !rightR a || !rightR b || (a.op && b.op) then 0 else if a.op then 1 else if b.op then -1 else cmpB a.hi b.hi
def meetC (a b : Rng) : Rng := ⟨if ltB a.lo b.lo then b.lo else a.lo, (if endsR b a < 0 then b else a).hi, (if endsR b a < 0 then b else a).op⟩
def meetR (a b : Rng) : Option Rng := if rightR a && rightR b then (if rightR (meetC a b) then some (meetC a b) else none) else none
def meetA : Option Rng → A
  | some r => .tup [r.enc, .bool true]
  | none => .tup [Rng.zero.enc, .bool false]

theorem ok_span_Right : codeOK Try.prog T06l Try.f72.ntmps (Try.f72.body.getD .skip) = true := by kernel_rfl
theorem c_span_Right (lo hi : List UInt8) (op : Bool) (h1 : lo.length ≤ 9223372036854775807) (h2 : hi.length ≤ 9223372036854775807) : CallA Try.prog 72 [.agg [.str lo, .str hi, .bool op]] (· = .bool (rightR ⟨lo, hi, op⟩)) := by
  refine callA_of_body T06l_ok mixed Try.func72 rfl (Nat.le_of_ble_eq_true rfl) ok_span_Right ?_
  unfold Try.f72
  by_cases g1 : lo.length ≤ 17
  · by_cases g2 : hi.length ≤ 17
    · cases op <;> simp -implicitDefEqProofs (maxSteps := 600000) (disch := (first | omega | decide)) only [go_sem, ↓reduceIte, Nat.reduceEqDiff, reduceCtorEq, Nat.reduceAdd, Nat.reduceSub, Nat.reduceMul, Nat.reduceLeDiff, Nat.reduceLT, Nat.reduceBEq, Nat.reduceBNe, Int.reduceLE, Int.reduceLT, Int.reduceBEq, Int.reduceBNe, Int.reduceEq, Int.reduceNe, Int.reduceAdd, Int.reduceSub, Int.reduceMul, Int.reduceNeg, Int.reduceToNat, g1, g2, rightR]
    · simp -implicitDefEqProofs (maxSteps := 600000) (disch := (first | omega | decide)) only [go_sem, ↓reduceIte, Nat.reduceEqDiff, reduceCtorEq, Nat.reduceAdd, Nat.reduceSub, Nat.reduceMul, Nat.reduceLeDiff, Nat.reduceLT, Nat.reduceBEq, Nat.reduceBNe, Int.reduceLE, Int.reduceLT, Int.reduceBEq, Int.reduceBNe, Int.reduceEq, Int.reduceNe, Int.reduceAdd, Int.reduceSub, Int.reduceMul, Int.reduceNeg, Int.reduceToNat, g1, g2, rightR]
  · simp -implicitDefEqProofs (maxSteps := 600000) (disch := (first | omega | decide)) only [go_sem, ↓reduceIte, Nat.reduceEqDiff, reduceCtorEq, Nat.reduceAdd, Nat.reduceSub, Nat.reduceMul, Nat.reduceLeDiff, Nat.reduceLT, Nat.reduceBEq, Nat.reduceBNe, Int.reduceLE, Int.reduceLT, Int.reduceBEq, Int.reduceBNe, Int.reduceEq, Int.reduceNe, Int.reduceAdd, Int.reduceSub, Int.reduceMul, Int.reduceNeg, Int.reduceToNat, g1, rightR]
theorem ok_ref07_Right : codeOK Try.prog T06l Try.f77.ntmps (Try.f77.body.getD .skip) = true := by kernel_rfl
theorem c_ref07_Right (lo hi : List UInt8) (op : Bool) (h1 : lo.length ≤ 9223372036854775807) (h2 : hi.length ≤ 9223372036854775807) : CallA Try.prog 77 [.agg [.str lo, .str hi, .bool op]] (· = .bool (rightR ⟨lo, hi, op⟩)) := by
  refine callA_of_body T06l_ok mixed Try.func77 rfl (Nat.le_of_ble_eq_true rfl) ok_ref07_Right ?_
  unfold Try.f77
  by_cases g1 : lo.length ≤ 17
  · have f1 : ¬ (17 : Int) < lo.length := by omega
    by_cases g2 : hi.length ≤ 17
    · have f2 : ¬ (17 : Int) < hi.length := by omega
      cases op <;> simp -implicitDefEqProofs (maxSteps := 600000) (disch := (first | omega | decide)) only [go_sem, ↓reduceIte, Nat.reduceEqDiff, reduceCtorEq, Nat.reduceAdd, Nat.reduceSub, Nat.reduceMul, Nat.reduceLeDiff, Nat.reduceLT, Nat.reduceBEq, Nat.reduceBNe, Int.reduceLE, Int.reduceLT, Int.reduceBEq, Int.reduceBNe, Int.reduceEq, Int.reduceNe, Int.reduceAdd, Int.reduceSub, Int.reduceMul, Int.reduceNeg, Int.reduceToNat, g1, g2, f1, f2, rightR]
    · have f2 : (17 : Int) < hi.length := by omega
      simp -implicitDefEqProofs (maxSteps := 600000) (disch := (first | omega | decide)) only [go_sem, ↓reduceIte, Nat.reduceEqDiff, reduceCtorEq, Nat.reduceAdd, Nat.reduceSub, Nat.reduceMul, Nat.reduceLeDiff, Nat.reduceLT, Nat.reduceBEq, Nat.reduceBNe, Int.reduceLE, Int.reduceLT, Int.reduceBEq, Int.reduceBNe, Int.reduceEq, Int.reduceNe, Int.reduceAdd, Int.reduceSub, Int.reduceMul, Int.reduceNeg, Int.reduceToNat, g1, g2, f1, f2, rightR]
  · have f1 : (17 : Int) < lo.length := by omega
    simp -implicitDefEqProofs (maxSteps := 600000) (disch := (first | omega | decide)) only [go_sem, ↓reduceIte, Nat.reduceEqDiff, reduceCtorEq, Nat.reduceAdd, Nat.reduceSub, Nat.reduceMul, Nat.reduceLeDiff, Nat.reduceLT, Nat.reduceBEq, Nat.reduceBNe, Int.reduceLE, Int.reduceLT, Int.reduceBEq, Int.reduceBNe, Int.reduceEq, Int.reduceNe, Int.reduceAdd, Int.reduceSub, Int.reduceMul, Int.reduceNeg, Int.reduceToNat, g1, f1, rightR]
theorem rng3_inj {a b c d : List UInt8} {p q : Bool} : (A.agg [.str a, .str b, .bool p] = A.agg [.str c, .str d, .bool q]) = (a = c ∧ b = d ∧ p = q) := by simp
noncomputable def T07a : Tab := T06l
theorem T07a_ok : TabOK Try.prog T07a := T06l_ok
@[go_sem] theorem T07a_old {g : FuncId} {xs : List A} : T07a.f g xs = T06l.f g xs := rfl
@[go_sem] theorem T07a_eff {g : FuncId} : T07a.eff g = T06l.eff g := rfl
@[go_sem] theorem T07a_frz {g : FuncId} : T07a.frz g = T06l.frz g := rfl
@[go_sem] theorem T07a_effT : T07a.effT = T06l.effT := rfl
@[go_sem] theorem T07a_fix : T07a.fix = T06l.fix := rfl
@[go_sem] theorem T07a_nf : T07a.nf = T06l.nf := rfl
@[go_sem] theorem T07a_ords {n : Nat} : T07a.ords n = T06l.ords n := rfl
@[go_sem] theorem T07a_hp : T07a.hp = T06l.hp := rfl
noncomputable def T07b : Tab := T07a
theorem T07b_ok : TabOK Try.prog T07b := T07a_ok
@[go_sem] theorem T07b_old {g : FuncId} {xs : List A} : T07b.f g xs = T07a.f g xs := rfl
@[go_sem] theorem T07b_eff {g : FuncId} : T07b.eff g = T07a.eff g := rfl
@[go_sem] theorem T07b_frz {g : FuncId} : T07b.frz g = T07a.frz g := rfl
@[go_sem] theorem T07b_effT : T07b.effT = T07a.effT := rfl
@[go_sem] theorem T07b_fix : T07b.fix = T07a.fix := rfl
@[go_sem] theorem T07b_nf : T07b.nf = T07a.nf := rfl
@[go_sem] theorem T07b_ords {n : Nat} : T07b.ords n = T07a.ords n := rfl
@[go_sem] theorem T07b_hp : T07b.hp = T07a.hp := rfl
noncomputable def T07c : Tab := T07b
theorem T07c_ok : TabOK Try.prog T07c := T07b_ok
@[go_sem] theorem T07c_old {g : FuncId} {xs : List A} : T07c.f g xs = T07b.f g xs := rfl
@[go_sem] theorem T07c_eff {g : FuncId} : T07c.eff g = T07b.eff g := rfl
@[go_sem] theorem T07c_frz {g : FuncId} : T07c.frz g = T07b.frz g := rfl
@[go_sem] theorem T07c_effT : T07c.effT = T07b.effT := rfl
@[go_sem] theorem T07c_fix : T07c.fix = T07b.fix := rfl
@[go_sem] theorem T07c_nf : T07c.nf = T07b.nf := rfl
@[go_sem] theorem T07c_ords {n : Nat} : T07c.ords n = T07b.ords n := rfl
@[go_sem] theorem T07c_hp : T07c.hp = T07b.hp := rfl
noncomputable def T07d : Tab := T07c
theorem T07d_ok : TabOK Try.prog T07d := T07c_ok
@[go_sem] theorem T07d_old {g : FuncId} {xs : List A} : T07d.f g xs = T07c.f g xs := rfl
@[go_sem] theorem T07d_eff {g : FuncId} : T07d.eff g = T07c.eff g := rfl
@[go_sem] theorem T07d_frz {g : FuncId} : T07d.frz g = T07c.frz g := rfl
@[go_sem] theorem T07d_effT : T07d.effT = T07c.effT := rfl
@[go_sem] theorem T07d_fix : T07d.fix = T07c.fix := rfl
@[go_sem] theorem T07d_nf : T07d.nf = T07c.nf := rfl
@[go_sem] theorem T07d_ords {n : Nat} : T07d.ords n = T07c.ords n := rfl
@[go_sem] theorem T07d_hp : T07d.hp = T07c.hp := rfl
noncomputable def T07e : Tab := T07d
theorem T07e_ok : TabOK Try.prog T07e := T07d_ok
@[go_sem] theorem T07e_old {g : FuncId} {xs : List A} : T07e.f g xs = T07d.f g xs := rfl
@[go_sem] theorem T07e_eff {g : FuncId} : T07e.eff g = T07d.eff g := rfl
@[go_sem] theorem T07e_frz {g : FuncId} : T07e.frz g = T07d.frz g := rfl
@[go_sem] theorem T07e_effT : T07e.effT = T07d.effT := rfl
@[go_sem] theorem T07e_fix : T07e.fix = T07d.fix := rfl
@[go_sem] theorem T07e_nf : T07e.nf = T07d.nf := rfl
@[go_sem] theorem T07e_ords {n : Nat} : T07e.ords n = T07d.ords n := rfl
@[go_sem] theorem T07e_hp : T07e.hp = T07d.hp := rfl
noncomputable def T07f : Tab := T07e.add 72 (entry (fun (r : List UInt8 × List UInt8 × Bool) => [.agg [.str r.1, .str r.2.1, .bool r.2.2]]) (fun r => r.1.length ≤ 9223372036854775807 ∧ r.2.1.length ≤ 9223372036854775807) (fun r => .bool (rightR ⟨r.1, r.2.1, r.2.2⟩)))
theorem T07f_ok : TabOK Try.prog T07f := T07e_ok.add (callable_of Try.func72 (by kernel_rfl) (by kernel_rfl)) (entry_ok fun r h => c_span_Right r.1 r.2.1 r.2.2 h.1 h.2)
@[go_sem] theorem T07f_old {g : FuncId} {xs : List A} (h : g ≠ 72) : T07f.f g xs = T07e.f g xs := Tab.add_ne h
@[go_sem] theorem T07f_eff {g : FuncId} : T07f.eff g = T07e.eff g := rfl
@[go_sem] theorem T07f_frz {g : FuncId} : T07f.frz g = T07e.frz g := rfl
@[go_sem] theorem T07f_effT : T07f.effT = T07e.effT := rfl
@[go_sem] theorem T07f_fix : T07f.fix = T07e.fix := rfl
@[go_sem] theorem T07f_nf : T07f.nf = T07e.nf := rfl
@[go_sem] theorem T07f_ords {n : Nat} : T07f.ords n = T07e.ords n := rfl
@[go_sem] theorem T07f_hp : T07f.hp = T07e.hp := rfl
theorem T07f_span_Right (r : List UInt8 × List UInt8 × Bool) (h : r.1.length ≤ 9223372036854775807 ∧ r.2.1.length ≤ 9223372036854775807) : T07f.f 72 [.agg [.str r.1, .str r.2.1, .bool r.2.2]] = some (.bool (rightR ⟨r.1, r.2.1, r.2.2⟩)) :=
  (Tab.add_eq : T07f.f 72 [.agg [.str r.1, .str r.2.1, .bool r.2.2]] = (entry (fun (r : List UInt8 × List UInt8 × Bool) => [.agg [.str r.1, .str r.2.1, .bool r.2.2]]) (fun r => r.1.length ≤ 9223372036854775807 ∧ r.2.1.length ≤ 9223372036854775807) (fun r => .bool (rightR ⟨r.1, r.2.1, r.2.2⟩))) [.agg [.str r.1, .str r.2.1, .bool r.2.2]]).trans (entry_eq (fun i j h => by first | (cases i; cases j; rfl; done) | simpa [Prod.ext_iff, and_assoc] using h | (simp at h; omega)) r h)
noncomputable def T07g : Tab := T07f.add 77 (entry (fun (r : List UInt8 × List UInt8 × Bool) => [.agg [.str r.1, .str r.2.1, .bool r.2.2]]) (fun r => r.1.length ≤ 9223372036854775807 ∧ r.2.1.length ≤ 9223372036854775807) (fun r => .bool (rightR ⟨r.1, r.2.1, r.2.2⟩)))
theorem T07g_ok : TabOK Try.prog T07g := T07f_ok.add (callable_of Try.func77 (by kernel_rfl) (by kernel_rfl)) (entry_ok fun r h => c_ref07_Right r.1 r.2.1 r.2.2 h.1 h.2)
@[go_sem] theorem T07g_old {g : FuncId} {xs : List A} (h : g ≠ 77) : T07g.f g xs = T07f.f g xs := Tab.add_ne h
@[go_sem] theorem T07g_eff {g : FuncId} : T07g.eff g = T07f.eff g := rfl
@[go_sem] theorem T07g_frz {g : FuncId} : T07g.frz g = T07f.frz g := rfl
@[go_sem] theorem T07g_effT : T07g.effT = T07f.effT := rfl
@[go_sem] theorem T07g_fix : T07g.fix = T07f.fix := rfl
@[go_sem] theorem T07g_nf : T07g.nf = T07f.nf := rfl
@[go_sem] theorem T07g_ords {n : Nat} : T07g.ords n = T07f.ords n := rfl
@[go_sem] theorem T07g_hp : T07g.hp = T07f.hp := rfl
theorem T07g_ref07_Right (r : List UInt8 × List UInt8 × Bool) (h : r.1.length ≤ 9223372036854775807 ∧ r.2.1.length ≤ 9223372036854775807) : T07g.f 77 [.agg [.str r.1, .str r.2.1, .bool r.2.2]] = some (.bool (rightR ⟨r.1, r.2.1, r.2.2⟩)) :=
  (Tab.add_eq : T07g.f 77 [.agg [.str r.1, .str r.2.1, .bool r.2.2]] = (entry (fun (r : List UInt8 × List UInt8 × Bool) => [.agg [.str r.1, .str r.2.1, .bool r.2.2]]) (fun r => r.1.length ≤ 9223372036854775807 ∧ r.2.1.length ≤ 9223372036854775807) (fun r => .bool (rightR ⟨r.1, r.2.1, r.2.2⟩))) [.agg [.str r.1, .str r.2.1, .bool r.2.2]]).trans (entry_eq (fun i j h => by first | (cases i; cases j; rfl; done) | simpa [Prod.ext_iff, and_assoc] using h | (simp at h; omega)) r h)
@[go_sem] theorem t_span_Right {lo hi : List UInt8} {op : Bool} (h1 : lo.length ≤ 9223372036854775807) (h2 : hi.length ≤ 9223372036854775807) : T07f.f 72 [.agg [.str lo, .str hi, .bool op]] = some (.bool (rightR ⟨lo, hi, op⟩)) := T07f_span_Right (lo, hi, op) ⟨h1, h2⟩
@[go_sem] theorem t_ref07_Right {lo hi : List UInt8} {op : Bool} (h1 : lo.length ≤ 9223372036854775807) (h2 : hi.length ≤ 9223372036854775807) : T07g.f 77 [.agg [.str lo, .str hi, .bool op]] = some (.bool (rightR ⟨lo, hi, op⟩)) := T07g_ref07_Right (lo, hi, op) ⟨h1, h2⟩

theorem ok_span_Has : codeOK Try.prog T07g Try.f81.ntmps (Try.f81.body.getD .skip) = true := by kernel_rfl
theorem c_span_Has (lo hi s : List UInt8) (op : Bool) (h1 : lo.length ≤ 9223372036854775807) (h2 : hi.length ≤ 9223372036854775807) (h3 : s.length ≤ 9223372036854775807) : CallA Try.prog 81 [.agg [.str lo, .str hi, .bool op], .str s] (· = .bool (hasR ⟨lo, hi, op⟩ s)) := by
  refine callA_of_body T07g_ok mixed Try.func81 rfl (Nat.le_of_ble_eq_true rfl) ok_span_Has ?_
  unfold Try.f81
  have e : hasR ⟨lo, hi, op⟩ s = (rightR ⟨lo, hi, op⟩ && !ltB s lo && (op || ltB s hi)) := rfl
  rw [e]
  cases g1 : rightR ⟨lo, hi, op⟩
  · simp -implicitDefEqProofs (maxSteps := 600000) (disch := (first | omega | decide)) only [go_sem, ↓reduceIte, Nat.reduceEqDiff, reduceCtorEq, Nat.reduceAdd, Nat.reduceSub, Nat.reduceMul, Nat.reduceLeDiff, Nat.reduceLT, Nat.reduceBEq, Nat.reduceBNe, Int.reduceLE, Int.reduceLT, Int.reduceBEq, Int.reduceBNe, Int.reduceEq, Int.reduceNe, Int.reduceAdd, Int.reduceSub, Int.reduceMul, Int.reduceNeg, Int.reduceToNat, g1]
  · cases g2 : ltB s lo
    · cases g3 : op
      · rw [g3] at g1; simp -implicitDefEqProofs (maxSteps := 600000) (disch := (first | omega | decide)) only [go_sem, ↓reduceIte, Nat.reduceEqDiff, reduceCtorEq, Nat.reduceAdd, Nat.reduceSub, Nat.reduceMul, Nat.reduceLeDiff, Nat.reduceLT, Nat.reduceBEq, Nat.reduceBNe, Int.reduceLE, Int.reduceLT, Int.reduceBEq, Int.reduceBNe, Int.reduceEq, Int.reduceNe, Int.reduceAdd, Int.reduceSub, Int.reduceMul, Int.reduceNeg, Int.reduceToNat, g1, g2, g3]
      · rw [g3] at g1; simp -implicitDefEqProofs (maxSteps := 600000) (disch := (first | omega | decide)) only [go_sem, ↓reduceIte, Nat.reduceEqDiff, reduceCtorEq, Nat.reduceAdd, Nat.reduceSub, Nat.reduceMul, Nat.reduceLeDiff, Nat.reduceLT, Nat.reduceBEq, Nat.reduceBNe, Int.reduceLE, Int.reduceLT, Int.reduceBEq, Int.reduceBNe, Int.reduceEq, Int.reduceNe, Int.reduceAdd, Int.reduceSub, Int.reduceMul, Int.reduceNeg, Int.reduceToNat, g1, g2, g3]
    · simp -implicitDefEqProofs (maxSteps := 600000) (disch := (first | omega | decide)) only [go_sem, ↓reduceIte, Nat.reduceEqDiff, reduceCtorEq, Nat.reduceAdd, Nat.reduceSub, Nat.reduceMul, Nat.reduceLeDiff, Nat.reduceLT, Nat.reduceBEq, Nat.reduceBNe, Int.reduceLE, Int.reduceLT, Int.reduceBEq, Int.reduceBNe, Int.reduceEq, Int.reduceNe, Int.reduceAdd, Int.reduceSub, Int.reduceMul, Int.reduceNeg, Int.reduceToNat, g1, g2]
theorem ok_ref07_Has : codeOK Try.prog T07g Try.f71.ntmps (Try.f71.body.getD .skip) = true := by kernel_rfl
theorem c_ref07_Has (lo hi s : List UInt8) (op : Bool) (h1 : lo.length ≤ 9223372036854775807) (h2 : hi.length ≤ 9223372036854775807) (h3 : s.length ≤ 9223372036854775807) : CallA Try.prog 71 [.agg [.str lo, .str hi, .bool op], .str s] (· = .bool (hasR ⟨lo, hi, op⟩ s)) := by
  refine callA_of_body T07g_ok mixed Try.func71 rfl (Nat.le_of_ble_eq_true rfl) ok_ref07_Has ?_
  unfold Try.f71
  have e : hasR ⟨lo, hi, op⟩ s = (rightR ⟨lo, hi, op⟩ && !ltB s lo && (op || ltB s hi)) := rfl
  rw [e]
  cases g1 : rightR ⟨lo, hi, op⟩
  · simp -implicitDefEqProofs (maxSteps := 600000) (disch := (first | omega | decide)) only [go_sem, ↓reduceIte, Nat.reduceEqDiff, reduceCtorEq, Nat.reduceAdd, Nat.reduceSub, Nat.reduceMul, Nat.reduceLeDiff, Nat.reduceLT, Nat.reduceBEq, Nat.reduceBNe, Int.reduceLE, Int.reduceLT, Int.reduceBEq, Int.reduceBNe, Int.reduceEq, Int.reduceNe, Int.reduceAdd, Int.reduceSub, Int.reduceMul, Int.reduceNeg, Int.reduceToNat, g1, t_ref06_Less]
  · cases g2 : ltB s lo
    · cases g3 : op
      · rw [g3] at g1; simp -implicitDefEqProofs (maxSteps := 600000) (disch := (first | omega | decide)) only [go_sem, ↓reduceIte, Nat.reduceEqDiff, reduceCtorEq, Nat.reduceAdd, Nat.reduceSub, Nat.reduceMul, Nat.reduceLeDiff, Nat.reduceLT, Nat.reduceBEq, Nat.reduceBNe, Int.reduceLE, Int.reduceLT, Int.reduceBEq, Int.reduceBNe, Int.reduceEq, Int.reduceNe, Int.reduceAdd, Int.reduceSub, Int.reduceMul, Int.reduceNeg, Int.reduceToNat, g1, g2, g3]
      · rw [g3] at g1; simp -implicitDefEqProofs (maxSteps := 600000) (disch := (first | omega | decide)) only [go_sem, ↓reduceIte, Nat.reduceEqDiff, reduceCtorEq, Nat.reduceAdd, Nat.reduceSub, Nat.reduceMul, Nat.reduceLeDiff, Nat.reduceLT, Nat.reduceBEq, Nat.reduceBNe, Int.reduceLE, Int.reduceLT, Int.reduceBEq, Int.reduceBNe, Int.reduceEq, Int.reduceNe, Int.reduceAdd, Int.reduceSub, Int.reduceMul, Int.reduceNeg, Int.reduceToNat, g1, g2, g3]
    · simp -implicitDefEqProofs (maxSteps := 600000) (disch := (first | omega | decide)) only [go_sem, ↓reduceIte, Nat.reduceEqDiff, reduceCtorEq, Nat.reduceAdd, Nat.reduceSub, Nat.reduceMul, Nat.reduceLeDiff, Nat.reduceLT, Nat.reduceBEq, Nat.reduceBNe, Int.reduceLE, Int.reduceLT, Int.reduceBEq, Int.reduceBNe, Int.reduceEq, Int.reduceNe, Int.reduceAdd, Int.reduceSub, Int.reduceMul, Int.reduceNeg, Int.reduceToNat, g1, g2]
theorem ok_span_Ends : codeOK Try.prog T07g Try.f76.ntmps (Try.f76.body.getD .skip) = true := by kernel_rfl
theorem c_span_Ends (a b : Rng) (ha : a.ok) (hb : b.ok) : CallA Try.prog 76 [.agg [.str a.lo, .str a.hi, .bool a.op], .agg [.str b.lo, .str b.hi, .bool b.op]] (· = .int .i64 (endsR a b)) := by
  refine callA_of_body T07g_ok mixed Try.func76 rfl (Nat.le_of_ble_eq_true rfl) ok_span_Ends ?_
  unfold Try.f76
  obtain ⟨lo, hi, op⟩ := a
  obtain ⟨lo', hi', op'⟩ := b
  obtain ⟨h1, h2⟩ := ha
  obtain ⟨h3, h4⟩ := hb
  simp only at h1 h2 h3 h4 ⊢
  unfold endsR
  cases g1 : rightR ⟨lo, hi, op⟩
  · simp -implicitDefEqProofs (maxSteps := 600000) (disch := (first | omega | decide)) only [go_sem, ↓reduceIte, Nat.reduceEqDiff, reduceCtorEq, Nat.reduceAdd, Nat.reduceSub, Nat.reduceMul, Nat.reduceLeDiff, Nat.reduceLT, Nat.reduceBEq, Nat.reduceBNe, Int.reduceLE, Int.reduceLT, Int.reduceBEq, Int.reduceBNe, Int.reduceEq, Int.reduceNe, Int.reduceAdd, Int.reduceSub, Int.reduceMul, Int.reduceNeg, Int.reduceToNat, g1]
  · cases g2 : rightR ⟨lo', hi', op'⟩
    · simp -implicitDefEqProofs (maxSteps := 600000) (disch := (first | omega | decide)) only [go_sem, ↓reduceIte, Nat.reduceEqDiff, reduceCtorEq, Nat.reduceAdd, Nat.reduceSub, Nat.reduceMul, Nat.reduceLeDiff, Nat.reduceLT, Nat.reduceBEq, Nat.reduceBNe, Int.reduceLE, Int.reduceLT, Int.reduceBEq, Int.reduceBNe, Int.reduceEq, Int.reduceNe, Int.reduceAdd, Int.reduceSub, Int.reduceMul, Int.reduceNeg, Int.reduceToNat, g1, g2]
    · cases op <;> cases op' <;> simp -implicitDefEqProofs (maxSteps := 600000) (disch := (first | omega | decide)) only [go_sem, ↓reduceIte, Nat.reduceEqDiff, reduceCtorEq, Nat.reduceAdd, Nat.reduceSub, Nat.reduceMul, Nat.reduceLeDiff, Nat.reduceLT, Nat.reduceBEq, Nat.reduceBNe, Int.reduceLE, Int.reduceLT, Int.reduceBEq, Int.reduceBNe, Int.reduceEq, Int.reduceNe, Int.reduceAdd, Int.reduceSub, Int.reduceMul, Int.reduceNeg, Int.reduceToNat, g1, g2]
noncomputable def T07h : Tab := T07g.add 81 (entry (fun (r : List UInt8 × List UInt8 × Bool × List UInt8) => [.agg [.str r.1, .str r.2.1, .bool r.2.2.1], .str r.2.2.2]) (fun r => r.1.length ≤ 9223372036854775807 ∧ r.2.1.length ≤ 9223372036854775807 ∧ r.2.2.2.length ≤ 9223372036854775807) (fun r => .bool (hasR ⟨r.1, r.2.1, r.2.2.1⟩ r.2.2.2)))
theorem T07h_ok : TabOK Try.prog T07h := T07g_ok.add (callable_of Try.func81 (by kernel_rfl) (by kernel_rfl)) (entry_ok fun r h => c_span_Has r.1 r.2.1 r.2.2.2 r.2.2.1 h.1 h.2.1 h.2.2)
@[go_sem] theorem T07h_old {g : FuncId} {xs : List A} (h : g ≠ 81) : T07h.f g xs = T07g.f g xs := Tab.add_ne h
@[go_sem] theorem T07h_eff {g : FuncId} : T07h.eff g = T07g.eff g := rfl
@[go_sem] theorem T07h_frz {g : FuncId} : T07h.frz g = T07g.frz g := rfl
@[go_sem] theorem T07h_effT : T07h.effT = T07g.effT := rfl
@[go_sem] theorem T07h_fix : T07h.fix = T07g.fix := rfl
@[go_sem] theorem T07h_nf : T07h.nf = T07g.nf := rfl
@[go_sem] theorem T07h_ords {n : Nat} : T07h.ords n = T07g.ords n := rfl
@[go_sem] theorem T07h_hp : T07h.hp = T07g.hp := rfl
theorem T07h_span_Has (r : List UInt8 × List UInt8 × Bool × List UInt8) (h : r.1.length ≤ 9223372036854775807 ∧ r.2.1.length ≤ 9223372036854775807 ∧ r.2.2.2.length ≤ 9223372036854775807) : T07h.f 81 [.agg [.str r.1, .str r.2.1, .bool r.2.2.1], .str r.2.2.2] = some (.bool (hasR ⟨r.1, r.2.1, r.2.2.1⟩ r.2.2.2)) :=
  (Tab.add_eq : T07h.f 81 [.agg [.str r.1, .str r.2.1, .bool r.2.2.1], .str r.2.2.2] = (entry (fun (r : List UInt8 × List UInt8 × Bool × List UInt8) => [.agg [.str r.1, .str r.2.1, .bool r.2.2.1], .str r.2.2.2]) (fun r => r.1.length ≤ 9223372036854775807 ∧ r.2.1.length ≤ 9223372036854775807 ∧ r.2.2.2.length ≤ 9223372036854775807) (fun r => .bool (hasR ⟨r.1, r.2.1, r.2.2.1⟩ r.2.2.2))) [.agg [.str r.1, .str r.2.1, .bool r.2.2.1], .str r.2.2.2]).trans (entry_eq (fun i j h => by first | (cases i; cases j; rfl; done) | simpa [Prod.ext_iff, and_assoc] using h | (simp at h; omega)) r h)
noncomputable def T07i : Tab := T07h.add 71 (entry (fun (r : List UInt8 × List UInt8 × Bool × List UInt8) => [.agg [.str r.1, .str r.2.1, .bool r.2.2.1], .str r.2.2.2]) (fun r => r.1.length ≤ 9223372036854775807 ∧ r.2.1.length ≤ 9223372036854775807 ∧ r.2.2.2.length ≤ 9223372036854775807) (fun r => .bool (hasR ⟨r.1, r.2.1, r.2.2.1⟩ r.2.2.2)))
theorem T07i_ok : TabOK Try.prog T07i := T07h_ok.add (callable_of Try.func71 (by kernel_rfl) (by kernel_rfl)) (entry_ok fun r h => c_ref07_Has r.1 r.2.1 r.2.2.2 r.2.2.1 h.1 h.2.1 h.2.2)
@[go_sem] theorem T07i_old {g : FuncId} {xs : List A} (h : g ≠ 71) : T07i.f g xs = T07h.f g xs := Tab.add_ne h
@[go_sem] theorem T07i_eff {g : FuncId} : T07i.eff g = T07h.eff g := rfl
@[go_sem] theorem T07i_frz {g : FuncId} : T07i.frz g = T07h.frz g := rfl
@[go_sem] theorem T07i_effT : T07i.effT = T07h.effT := rfl
@[go_sem] theorem T07i_fix : T07i.fix = T07h.fix := rfl
@[go_sem] theorem T07i_nf : T07i.nf = T07h.nf := rfl
@[go_sem] theorem T07i_ords {n : Nat} : T07i.ords n = T07h.ords n := rfl
@[go_sem] theorem T07i_hp : T07i.hp = T07h.hp := rfl
theorem T07i_ref07_Has (r : List UInt8 × List UInt8 × Bool × List UInt8) (h : r.1.length ≤ 9223372036854775807 ∧ r.2.1.length ≤ 9223372036854775807 ∧ r.2.2.2.length ≤ 9223372036854775807) : T07i.f 71 [.agg [.str r.1, .str r.2.1, .bool r.2.2.1], .str r.2.2.2] = some (.bool (hasR ⟨r.1, r.2.1, r.2.2.1⟩ r.2.2.2)) :=
  (Tab.add_eq : T07i.f 71 [.agg [.str r.1, .str r.2.1, .bool r.2.2.1], .str r.2.2.2] = (entry (fun (r : List UInt8 × List UInt8 × Bool × List UInt8) => [.agg [.str r.1, .str r.2.1, .bool r.2.2.1], .str r.2.2.2]) (fun r => r.1.length ≤ 9223372036854775807 ∧ r.2.1.length ≤ 9223372036854775807 ∧ r.2.2.2.length ≤ 9223372036854775807) (fun r => .bool (hasR ⟨r.1, r.2.1, r.2.2.1⟩ r.2.2.2))) [.agg [.str r.1, .str r.2.1, .bool r.2.2.1], .str r.2.2.2]).trans (entry_eq (fun i j h => by first | (cases i; cases j; rfl; done) | simpa [Prod.ext_iff, and_assoc] using h | (simp at h; omega)) r h)
@[go_sem] theorem t_span_Has {lo hi s : List UInt8} {op : Bool} (h1 : lo.length ≤ 9223372036854775807) (h2 : hi.length ≤ 9223372036854775807) (h3 : s.length ≤ 9223372036854775807) : T07h.f 81 [.agg [.str lo, .str hi, .bool op], .str s] = some (.bool (hasR ⟨lo, hi, op⟩ s)) := T07h_span_Has (lo, hi, op, s) ⟨h1, h2, h3⟩
@[go_sem] theorem t_ref07_Has {lo hi s : List UInt8} {op : Bool} (h1 : lo.length ≤ 9223372036854775807) (h2 : hi.length ≤ 9223372036854775807) (h3 : s.length ≤ 9223372036854775807) : T07i.f 71 [.agg [.str lo, .str hi, .bool op], .str s] = some (.bool (hasR ⟨lo, hi, op⟩ s)) := T07i_ref07_Has (lo, hi, op, s) ⟨h1, h2, h3⟩
noncomputable def T07j : Tab := T07i.add 76 (entry (fun (r : (List UInt8 × List UInt8 × Bool) × List UInt8 × List UInt8 × Bool) => [.agg [.str r.1.1, .str r.1.2.1, .bool r.1.2.2], .agg [.str r.2.1, .str r.2.2.1, .bool r.2.2.2]]) (fun r => Rng.ok ⟨r.1.1, r.1.2.1, r.1.2.2⟩ ∧ Rng.ok ⟨r.2.1, r.2.2.1, r.2.2.2⟩) (fun r => .int .i64 (endsR ⟨r.1.1, r.1.2.1, r.1.2.2⟩ ⟨r.2.1, r.2.2.1, r.2.2.2⟩)))
theorem T07j_ok : TabOK Try.prog T07j := T07i_ok.add (callable_of Try.func76 (by kernel_rfl) (by kernel_rfl)) (entry_ok fun r h => c_span_Ends ⟨r.1.1, r.1.2.1, r.1.2.2⟩ ⟨r.2.1, r.2.2.1, r.2.2.2⟩ h.1 h.2)
@[go_sem] theorem T07j_old {g : FuncId} {xs : List A} (h : g ≠ 76) : T07j.f g xs = T07i.f g xs := Tab.add_ne h
@[go_sem] theorem T07j_eff {g : FuncId} : T07j.eff g = T07i.eff g := rfl
@[go_sem] theorem T07j_frz {g : FuncId} : T07j.frz g = T07i.frz g := rfl
@[go_sem] theorem T07j_effT : T07j.effT = T07i.effT := rfl
@[go_sem] theorem T07j_fix : T07j.fix = T07i.fix := rfl
@[go_sem] theorem T07j_nf : T07j.nf = T07i.nf := rfl
@[go_sem] theorem T07j_ords {n : Nat} : T07j.ords n = T07i.ords n := rfl
@[go_sem] theorem T07j_hp : T07j.hp = T07i.hp := rfl
theorem T07j_span_Ends (r : (List UInt8 × List UInt8 × Bool) × List UInt8 × List UInt8 × Bool) (h : Rng.ok ⟨r.1.1, r.1.2.1, r.1.2.2⟩ ∧ Rng.ok ⟨r.2.1, r.2.2.1, r.2.2.2⟩) : T07j.f 76 [.agg [.str r.1.1, .str r.1.2.1, .bool r.1.2.2], .agg [.str r.2.1, .str r.2.2.1, .bool r.2.2.2]] = some (.int .i64 (endsR ⟨r.1.1, r.1.2.1, r.1.2.2⟩ ⟨r.2.1, r.2.2.1, r.2.2.2⟩)) :=
  (Tab.add_eq : T07j.f 76 [.agg [.str r.1.1, .str r.1.2.1, .bool r.1.2.2], .agg [.str r.2.1, .str r.2.2.1, .bool r.2.2.2]] = (entry (fun (r : (List UInt8 × List UInt8 × Bool) × List UInt8 × List UInt8 × Bool) => [.agg [.str r.1.1, .str r.1.2.1, .bool r.1.2.2], .agg [.str r.2.1, .str r.2.2.1, .bool r.2.2.2]]) (fun r => Rng.ok ⟨r.1.1, r.1.2.1, r.1.2.2⟩ ∧ Rng.ok ⟨r.2.1, r.2.2.1, r.2.2.2⟩) (fun r => .int .i64 (endsR ⟨r.1.1, r.1.2.1, r.1.2.2⟩ ⟨r.2.1, r.2.2.1, r.2.2.2⟩))) [.agg [.str r.1.1, .str r.1.2.1, .bool r.1.2.2], .agg [.str r.2.1, .str r.2.2.1, .bool r.2.2.2]]).trans (entry_eq (fun i j h => by first | (cases i; cases j; rfl; done) | simpa [Prod.ext_iff, and_assoc] using h | (simp at h; omega)) r h)
@[go_sem] theorem t_span_Ends {lo hi lo' hi' : List UInt8} {op op' : Bool} (h1 : lo.length ≤ 9223372036854775807) (h2 : hi.length ≤ 9223372036854775807) (h3 : lo'.length ≤ 9223372036854775807) (h4 : hi'.length ≤ 9223372036854775807) : T07j.f 76 [.agg [.str lo, .str hi, .bool op], .agg [.str lo', .str hi', .bool op']] = some (.int .i64 (endsR ⟨lo, hi, op⟩ ⟨lo', hi', op'⟩)) := T07j_span_Ends ((lo, hi, op), lo', hi', op') ⟨⟨h1, h2⟩, h3, h4⟩
noncomputable def T07 : Tab := T07j
theorem T07_ok : TabOK Try.prog T07 := T07j_ok
@[go_sem] theorem T07_old {g : FuncId} {xs : List A} : T07.f g xs = T07j.f g xs := rfl
@[go_sem] theorem T07_eff {g : FuncId} : T07.eff g = T07j.eff g := rfl
@[go_sem] theorem T07_frz {g : FuncId} : T07.frz g = T07j.frz g := rfl
@[go_sem] theorem T07_effT : T07.effT = T07j.effT := rfl
@[go_sem] theorem T07_fix : T07.fix = T07j.fix := rfl
@[go_sem] theorem T07_nf : T07.nf = T07j.nf := rfl
@[go_sem] theorem T07_ords {n : Nat} : T07.ords n = T07j.ords n := rfl
@[go_sem] theorem T07_hp : T07.hp = T07j.hp := rfl
end Go.Proofs.Ytnmkojglcgaobaa
