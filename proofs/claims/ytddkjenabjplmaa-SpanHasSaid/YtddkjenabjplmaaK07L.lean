/- Chapter 07: the laws. -/
import Derived.Test.YtddkjenabjplmaaK07B
namespace Go.Proofs.Ytddkjenabjplmaa
open Go.Abs
set_option linter.unusedSimpArgs false
set_option linter.unusedVariables false
set_option maxRecDepth 20000
set_option maxHeartbeats 40000000

def longB (l : List (List UInt8)) : Bool := l.any fun s => decide (300 < s.length)
theorem ok_law07_long : codeOK Try.prog T0 Try.f22.ntmps (Try.f22.body.getD .skip) = true := by kernel_rfl
theorem c_law07_long (l : List (List UInt8)) (hl : l.length ≤ 4294967296) : CallA Try.prog 22 [.slc (l.map .str)] (· = .bool (longB l)) := by
  refine callA_of_body T0_ok mixed Try.func22 rfl (Nat.le_of_ble_eq_true rfl) ok_law07_long ?_
  unfold Try.f22
  have hlen : (l.map A.str).length = l.length := List.length_map _
  simp -implicitDefEqProofs (maxSteps := 600000) (disch := (first | omega | decide)) only [go_sem, ↓reduceIte, Nat.reduceEqDiff, reduceCtorEq, Nat.reduceAdd, Nat.reduceSub, Nat.reduceMul, Nat.reduceLeDiff, Nat.reduceLT, Nat.reduceBEq, Nat.reduceBNe, Int.reduceLE, Int.reduceLT, Int.reduceBEq, Int.reduceBNe, Int.reduceEq, Int.reduceNe, Int.reduceAdd, Int.reduceSub, Int.reduceMul, Int.reduceNeg, Int.reduceToNat]
  refine wpA_loop [5, 6] (ι := {k : Nat // k ≤ l.length ∧ longB l = longB (l.drop k)}) (fun k => [(7, .int .i64 k.1)]) (fun _ => []) (fun k => l.length - k.1) ⟨0, by simp⟩ (Nat.zero_le _) ?_ ?_
  · simp -implicitDefEqProofs (maxSteps := 600000) (disch := (first | omega | decide)) only [go_sem, ↓reduceIte, Nat.reduceEqDiff, reduceCtorEq, Nat.reduceAdd, Nat.reduceSub, Nat.reduceMul, Nat.reduceLeDiff, Nat.reduceLT, Nat.reduceBEq, Nat.reduceBNe, Int.reduceLE, Int.reduceLT, Int.reduceBEq, Int.reduceBNe, Int.reduceEq, Int.reduceNe, Int.reduceAdd, Int.reduceSub, Int.reduceMul, Int.reduceNeg, Int.reduceToNat]
  · rintro ⟨k, hk, hd⟩
    by_cases hlt : k < l.length
    · have hlt' : (k : Int) < ((l.map A.str).length : Int) := by rw [hlen]; omega
      have e1 : (l.map A.str)[k]? = some (.str l[k]) := by simp [hlt]
      rw [List.drop_eq_getElem_cons hlt] at hd
      by_cases h3 : (300 : Int) < (l[k].length : Int)
      · simp -implicitDefEqProofs (maxSteps := 600000) (disch := (first | omega | decide)) only [go_sem, ↓reduceIte, Nat.reduceEqDiff, reduceCtorEq, Nat.reduceAdd, Nat.reduceSub, Nat.reduceMul, Nat.reduceLeDiff, Nat.reduceLT, Nat.reduceBEq, Nat.reduceBNe, Int.reduceLE, Int.reduceLT, Int.reduceBEq, Int.reduceBNe, Int.reduceEq, Int.reduceNe, Int.reduceAdd, Int.reduceSub, Int.reduceMul, Int.reduceNeg, Int.reduceToNat, hlt', e1, h3]
        rw [hd]; simp only [longB, List.any_cons]; rw [decide_eq_true (by omega)]; rfl
      · simp -implicitDefEqProofs (maxSteps := 600000) (disch := (first | omega | decide)) only [go_sem, ↓reduceIte, Nat.reduceEqDiff, reduceCtorEq, Nat.reduceAdd, Nat.reduceSub, Nat.reduceMul, Nat.reduceLeDiff, Nat.reduceLT, Nat.reduceBEq, Nat.reduceBNe, Int.reduceLE, Int.reduceLT, Int.reduceBEq, Int.reduceBNe, Int.reduceEq, Int.reduceNe, Int.reduceAdd, Int.reduceSub, Int.reduceMul, Int.reduceNeg, Int.reduceToNat, hlt', e1, h3, wrap_i64]
        refine ⟨⟨k + 1, hlt, ?_⟩, by simp, by show l.length - (k + 1) < l.length - k; omega⟩
        rw [hd]; simp only [longB, List.any_cons]; rw [decide_eq_false (by omega), Bool.false_or]
    · have hlt' : ¬ (k : Int) < ((l.map A.str).length : Int) := by rw [hlen]; omega
      simp -implicitDefEqProofs (maxSteps := 600000) (disch := (first | omega | decide)) only [go_sem, ↓reduceIte, Nat.reduceEqDiff, reduceCtorEq, Nat.reduceAdd, Nat.reduceSub, Nat.reduceMul, Nat.reduceLeDiff, Nat.reduceLT, Nat.reduceBEq, Nat.reduceBNe, Int.reduceLE, Int.reduceLT, Int.reduceBEq, Int.reduceBNe, Int.reduceEq, Int.reduceNe, Int.reduceAdd, Int.reduceSub, Int.reduceMul, Int.reduceNeg, Int.reduceToNat, hlt']
      rw [hd, List.drop_of_length_le (by omega)]; rfl
noncomputable def T07k : Tab := T07.add 22 (entry (fun (l : List (List UInt8)) => [.slc (l.map .str)]) (fun l => l.length ≤ 4294967296) (fun l => .bool (longB l)))
theorem T07k_ok : TabOK Try.prog T07k := T07_ok.add (callable_of Try.func22 (by kernel_rfl) (by kernel_rfl)) (entry_ok fun l h => c_law07_long l h)
@[go_sem] theorem T07k_old {g : FuncId} {xs : List A} (h : g ≠ 22) : T07k.f g xs = T07.f g xs := Tab.add_ne h
@[go_sem] theorem T07k_eff {g : FuncId} : T07k.eff g = T07.eff g := rfl
@[go_sem] theorem T07k_frz {g : FuncId} : T07k.frz g = T07.frz g := rfl
@[go_sem] theorem T07k_effT : T07k.effT = T07.effT := rfl
@[go_sem] theorem T07k_fix : T07k.fix = T07.fix := rfl
@[go_sem] theorem T07k_nf : T07k.nf = T07.nf := rfl
@[go_sem] theorem T07k_hp : T07k.hp = T07.hp := rfl
theorem T07k_law07_long (l : List (List UInt8)) (h : l.length ≤ 4294967296) : T07k.f 22 [.slc (l.map .str)] = some (.bool (longB l)) :=
  (Tab.add_eq : T07k.f 22 [.slc (l.map .str)] = (entry (fun (l : List (List UInt8)) => [.slc (l.map .str)]) (fun l => l.length ≤ 4294967296) (fun l => .bool (longB l))) [.slc (l.map .str)]).trans (entry_eq (fun i j h => by first | (cases i; cases j; rfl; done) | simpa [Prod.ext_iff, and_assoc] using h) l h)
theorem t_law07_long {l : List (List UInt8)} (h : l.length ≤ 4294967296) : T07k.f 22 [.slc (l.map .str)] = some (.bool (longB l)) := T07k_law07_long l h
@[go_sem] theorem t_law07_long4 {a b c d : List UInt8} : T07k.f 22 [.slc [.str a, .str b, .str c, .str d]] = some (.bool (longB [a, b, c, d])) := T07k_law07_long [a, b, c, d] (by simp)
@[go_sem] theorem t_law07_long5 {a b c d e : List UInt8} : T07k.f 22 [.slc [.str a, .str b, .str c, .str d, .str e]] = some (.bool (longB [a, b, c, d, e])) := T07k_law07_long [a, b, c, d, e] (by simp)
@[go_sem] theorem Rng.eta {r : Rng} : Rng.mk r.lo r.hi r.op = r := rfl

theorem ok_law07_awake : codeOK Try.prog T07 Try.f21.ntmps (Try.f21.body.getD .skip) = true := by kernel_rfl
theorem c_law07_awake : CallA Try.prog 21 [] (· = .bool true) := by
  refine callA_of_body T07_ok mixed Try.func21 rfl (Nat.le_of_ble_eq_true rfl) ok_law07_awake ?_
  unfold Try.f21
  have e1 : prefixR [97] = ⟨[97], [98], false⟩ := rfl
  have e2 : ofR [97, 98] = ⟨[97, 98], [97, 98, 0], false⟩ := rfl
  have e3 : meetR ⟨[97], [98], false⟩ ⟨[97, 98], [97, 98, 0], false⟩ = some ⟨[97, 98], [97, 98, 0], false⟩ := rfl
  have e4 : hasR ⟨[97, 98], [97, 98, 0], false⟩ [97, 98] = true := rfl
  have e5 : hasR ⟨[97, 98], [97, 98, 0], false⟩ [97, 98, 97] = false := rfl
  have e6 : prefixR [255] = ⟨[255], [], true⟩ := rfl
  simp -implicitDefEqProofs (maxSteps := 600000) (disch := (first | omega | decide)) only [go_sem, ↓reduceIte, Nat.reduceEqDiff, reduceCtorEq, Nat.reduceAdd, Nat.reduceSub, Nat.reduceMul, Nat.reduceLeDiff, Nat.reduceLT, Nat.reduceBEq, Nat.reduceBNe, Int.reduceLE, Int.reduceLT, Int.reduceBEq, Int.reduceBNe, Int.reduceEq, Int.reduceNe, Int.reduceAdd, Int.reduceSub, Int.reduceMul, Int.reduceNeg, Int.reduceToNat, e1, e2, e3, e4, e5, e6, meetA]
noncomputable def T07m : Tab := T07k.add 21 (entry (fun (u : Unit) => []) (fun u => True) (fun u => .bool true))
theorem T07m_ok : TabOK Try.prog T07m := T07k_ok.add (callable_of Try.func21 (by kernel_rfl) (by kernel_rfl)) (entry_ok fun u h => c_law07_awake)
@[go_sem] theorem T07m_old {g : FuncId} {xs : List A} (h : g ≠ 21) : T07m.f g xs = T07k.f g xs := Tab.add_ne h
@[go_sem] theorem T07m_eff {g : FuncId} : T07m.eff g = T07k.eff g := rfl
@[go_sem] theorem T07m_frz {g : FuncId} : T07m.frz g = T07k.frz g := rfl
@[go_sem] theorem T07m_effT : T07m.effT = T07k.effT := rfl
@[go_sem] theorem T07m_fix : T07m.fix = T07k.fix := rfl
@[go_sem] theorem T07m_nf : T07m.nf = T07k.nf := rfl
@[go_sem] theorem T07m_hp : T07m.hp = T07k.hp := rfl
theorem T07m_law07_awake (u : Unit) (h : True) : T07m.f 21 [] = some (.bool true) :=
  (Tab.add_eq : T07m.f 21 [] = (entry (fun (u : Unit) => []) (fun u => True) (fun u => .bool true)) []).trans (entry_eq (fun i j h => by first | (cases i; cases j; rfl; done) | simpa [Prod.ext_iff, and_assoc] using h) u h)
@[go_sem] theorem t_law07_awake : T07m.f 21 [] = some (.bool true) := T07m_law07_awake () trivial

theorem ofR_len {k : List UInt8} : (ofR k).lo.length ≤ 17 ∧ (ofR k).hi.length ≤ 17 := by
  unfold ofR Rng.zero; split <;> simp; omega
theorem prefixR_len {k : List UInt8} : (prefixR k).lo.length ≤ 17 ∧ (prefixR k).hi.length ≤ 17 := by
  unfold prefixR Rng.zero
  split
  · simp
  · cases h : endB k with
    | none => simp; omega
    | some e => have := endB_len h; simp; omega

theorem ok_law07_SpanHas : codeOK Try.prog T07m Try.f9.ntmps (Try.f9.body.getD .skip) = true := by kernel_rfl
theorem c_law07_SpanHas (lo hi : List UInt8) (op : Bool) (s t : List UInt8) (h1 : lo.length ≤ 9223372036854775807) (h2 : hi.length ≤ 9223372036854775807) (h3 : s.length ≤ 9223372036854775807) (h4 : t.length ≤ 9223372036854775807) :
    CallA Try.prog 9 [.agg [.str lo, .str hi, .bool op], .str s, .str t] (· = .bool true) := by
  refine callA_of_body T07m_ok mixed Try.func9 rfl (Nat.le_of_ble_eq_true rfl) ok_law07_SpanHas ?_
  unfold Try.f9
  cases hl : longB [lo, hi, s, t]
  case true => simp -implicitDefEqProofs (maxSteps := 600000) (disch := (first | omega | decide)) only [go_sem, ↓reduceIte, Nat.reduceEqDiff, reduceCtorEq, Nat.reduceAdd, Nat.reduceSub, Nat.reduceMul, Nat.reduceLeDiff, Nat.reduceLT, Nat.reduceBEq, Nat.reduceBNe, Int.reduceLE, Int.reduceLT, Int.reduceBEq, Int.reduceBNe, Int.reduceEq, Int.reduceNe, Int.reduceAdd, Int.reduceSub, Int.reduceMul, Int.reduceNeg, Int.reduceToNat, hl]
  obtain ⟨p1, p2⟩ := @prefixR_len t
  obtain ⟨o1, o2⟩ := @ofR_len t
  have q1 : (prefixR t).lo.length ≤ 9223372036854775807 := by omega
  have q2 : (prefixR t).hi.length ≤ 9223372036854775807 := by omega
  have q3 : (ofR t).lo.length ≤ 9223372036854775807 := by omega
  have q4 : (ofR t).hi.length ≤ 9223372036854775807 := by omega
  have ha := all_has s
  by_cases h16 : (16 : Int) < t.length
  · have e1 : prefixR t = Rng.zero := if_pos (by omega)
    have e2 : ofR t = Rng.zero := if_pos (by omega)
    have e3 : hasR Rng.zero s = false := rfl
    have e4 : hasR ⟨[], [], false⟩ s = false := rfl
    have z1 : Rng.zero.lo = [] := rfl
    have z2 : Rng.zero.hi = [] := rfl
    have z3 : Rng.zero.op = false := rfl
    simp -implicitDefEqProofs (maxSteps := 600000) (disch := (first | omega | decide)) only [go_sem, ↓reduceIte, Nat.reduceEqDiff, reduceCtorEq, Nat.reduceAdd, Nat.reduceSub, Nat.reduceMul, Nat.reduceLeDiff, Nat.reduceLT, Nat.reduceBEq, Nat.reduceBNe, Int.reduceLE, Int.reduceLT, Int.reduceBEq, Int.reduceBNe, Int.reduceEq, Int.reduceNe, Int.reduceAdd, Int.reduceSub, Int.reduceMul, Int.reduceNeg, Int.reduceToNat, hl, h16, ha, e1, e2, e3, e4, Rng.enc, z1, z2, z3, beq_self_eq_true, Bool.not_true, Bool.not_false]
  · have e1 := prefix_right (t := t) (by omega)
    have e2 := of_right (t := t) (by omega)
    have e3 := prefix_has (t := t) (s := s) (by omega)
    have e4 := of_has (t := t) (s := s) (by omega)
    cases g1 : beginsB s t <;> cases g2 : s == t <;> rw [g1] at e3 <;> rw [g2] at e4 <;> simp -implicitDefEqProofs (maxSteps := 600000) (disch := (first | omega | decide)) only [go_sem, ↓reduceIte, Nat.reduceEqDiff, reduceCtorEq, Nat.reduceAdd, Nat.reduceSub, Nat.reduceMul, Nat.reduceLeDiff, Nat.reduceLT, Nat.reduceBEq, Nat.reduceBNe, Int.reduceLE, Int.reduceLT, Int.reduceBEq, Int.reduceBNe, Int.reduceEq, Int.reduceNe, Int.reduceAdd, Int.reduceSub, Int.reduceMul, Int.reduceNeg, Int.reduceToNat, hl, h16, ha, e1, e2, e3, e4, g1, g2, Rng.enc, beq_self_eq_true, Bool.not_true, Bool.not_false]

theorem ok_law07_SpanEnds : codeOK Try.prog T07m Try.f8.ntmps (Try.f8.body.getD .skip) = true := by kernel_rfl
theorem c_law07_SpanEnds (a b : Rng) (ha : a.ok) (hb : b.ok) : CallA Try.prog 8 [.agg [.str a.lo, .str a.hi, .bool a.op], .agg [.str b.lo, .str b.hi, .bool b.op]] (· = .bool true) := by
  refine callA_of_body T07m_ok mixed Try.func8 rfl (Nat.le_of_ble_eq_true rfl) ok_law07_SpanEnds ?_
  unfold Try.f8
  cases hl : longB [a.lo, a.hi, b.lo, b.hi]
  case true => simp -implicitDefEqProofs (maxSteps := 600000) (disch := (first | omega | decide)) only [go_sem, ↓reduceIte, Nat.reduceEqDiff, reduceCtorEq, Nat.reduceAdd, Nat.reduceSub, Nat.reduceMul, Nat.reduceLeDiff, Nat.reduceLT, Nat.reduceBEq, Nat.reduceBNe, Int.reduceLE, Int.reduceLT, Int.reduceBEq, Int.reduceBNe, Int.reduceEq, Int.reduceNe, Int.reduceAdd, Int.reduceSub, Int.reduceMul, Int.reduceNeg, Int.reduceToNat, hl]
  obtain ⟨a1, a2⟩ := ha
  obtain ⟨b1, b2⟩ := hb
  have hn := ends_neg a b
  obtain ⟨lo, hi, op⟩ := a
  obtain ⟨lo', hi', op'⟩ := b
  simp only at *
  cases ra : rightR ⟨lo, hi, op⟩
  · have e1 : endsR ⟨lo, hi, op⟩ ⟨lo', hi', op'⟩ = 0 := by simp [endsR, ra]
    rw [e1] at hn
    simp -implicitDefEqProofs (maxSteps := 600000) (disch := (first | omega | decide)) only [go_sem, ↓reduceIte, Nat.reduceEqDiff, reduceCtorEq, Nat.reduceAdd, Nat.reduceSub, Nat.reduceMul, Nat.reduceLeDiff, Nat.reduceLT, Nat.reduceBEq, Nat.reduceBNe, Int.reduceLE, Int.reduceLT, Int.reduceBEq, Int.reduceBNe, Int.reduceEq, Int.reduceNe, Int.reduceAdd, Int.reduceSub, Int.reduceMul, Int.reduceNeg, Int.reduceToNat, hl, ra, e1, hn, wrap_i64]
  cases rb : rightR ⟨lo', hi', op'⟩
  · have e1 : endsR ⟨lo, hi, op⟩ ⟨lo', hi', op'⟩ = 0 := by simp [endsR, ra, rb]
    rw [e1] at hn
    simp -implicitDefEqProofs (maxSteps := 600000) (disch := (first | omega | decide)) only [go_sem, ↓reduceIte, Nat.reduceEqDiff, reduceCtorEq, Nat.reduceAdd, Nat.reduceSub, Nat.reduceMul, Nat.reduceLeDiff, Nat.reduceLT, Nat.reduceBEq, Nat.reduceBNe, Int.reduceLE, Int.reduceLT, Int.reduceBEq, Int.reduceBNe, Int.reduceEq, Int.reduceNe, Int.reduceAdd, Int.reduceSub, Int.reduceMul, Int.reduceNeg, Int.reduceToNat, hl, ra, rb, e1, hn, wrap_i64]
  cases op <;> cases op'
  · have e0 : endsR ⟨lo, hi, false⟩ ⟨lo', hi', false⟩ = cmpB hi hi' := by simp [endsR, ra, rb]
    rcases lt_tri hi hi' with h | h | h
    · have c1 := cmp_of_lt h
      rw [c1] at e0; rw [e0] at hn
      have h' := lt_asymm' h
      simp -implicitDefEqProofs (maxSteps := 600000) (disch := (first | omega | decide)) only [go_sem, ↓reduceIte, Nat.reduceEqDiff, reduceCtorEq, Nat.reduceAdd, Nat.reduceSub, Nat.reduceMul, Nat.reduceLeDiff, Nat.reduceLT, Nat.reduceBEq, Nat.reduceBNe, Int.reduceLE, Int.reduceLT, Int.reduceBEq, Int.reduceBNe, Int.reduceEq, Int.reduceNe, Int.reduceAdd, Int.reduceSub, Int.reduceMul, Int.reduceNeg, Int.reduceToNat, hl, ra, rb, e0, hn, h, h', wrap_i64]
    · subst h
      have c1 := cmp_self hi
      rw [c1] at e0; rw [e0] at hn
      have h' := lt_irrefl hi
      simp -implicitDefEqProofs (maxSteps := 600000) (disch := (first | omega | decide)) only [go_sem, ↓reduceIte, Nat.reduceEqDiff, reduceCtorEq, Nat.reduceAdd, Nat.reduceSub, Nat.reduceMul, Nat.reduceLeDiff, Nat.reduceLT, Nat.reduceBEq, Nat.reduceBNe, Int.reduceLE, Int.reduceLT, Int.reduceBEq, Int.reduceBNe, Int.reduceEq, Int.reduceNe, Int.reduceAdd, Int.reduceSub, Int.reduceMul, Int.reduceNeg, Int.reduceToNat, hl, ra, rb, e0, hn, h', wrap_i64]
    · have c1 := cmp_of_gt h
      rw [c1] at e0; rw [e0] at hn
      have h' := lt_asymm' h
      simp -implicitDefEqProofs (maxSteps := 600000) (disch := (first | omega | decide)) only [go_sem, ↓reduceIte, Nat.reduceEqDiff, reduceCtorEq, Nat.reduceAdd, Nat.reduceSub, Nat.reduceMul, Nat.reduceLeDiff, Nat.reduceLT, Nat.reduceBEq, Nat.reduceBNe, Int.reduceLE, Int.reduceLT, Int.reduceBEq, Int.reduceBNe, Int.reduceEq, Int.reduceNe, Int.reduceAdd, Int.reduceSub, Int.reduceMul, Int.reduceNeg, Int.reduceToNat, hl, ra, rb, e0, hn, h, h', wrap_i64]
  · have e0 : endsR ⟨lo, hi, false⟩ ⟨lo', hi', true⟩ = -1 := by simp [endsR, ra, rb]
    rw [e0] at hn
    simp -implicitDefEqProofs (maxSteps := 600000) (disch := (first | omega | decide)) only [go_sem, ↓reduceIte, Nat.reduceEqDiff, reduceCtorEq, Nat.reduceAdd, Nat.reduceSub, Nat.reduceMul, Nat.reduceLeDiff, Nat.reduceLT, Nat.reduceBEq, Nat.reduceBNe, Int.reduceLE, Int.reduceLT, Int.reduceBEq, Int.reduceBNe, Int.reduceEq, Int.reduceNe, Int.reduceAdd, Int.reduceSub, Int.reduceMul, Int.reduceNeg, Int.reduceToNat, hl, ra, rb, e0, hn, wrap_i64]
  · have e0 : endsR ⟨lo, hi, true⟩ ⟨lo', hi', false⟩ = 1 := by simp [endsR, ra, rb]
    rw [e0] at hn
    simp -implicitDefEqProofs (maxSteps := 600000) (disch := (first | omega | decide)) only [go_sem, ↓reduceIte, Nat.reduceEqDiff, reduceCtorEq, Nat.reduceAdd, Nat.reduceSub, Nat.reduceMul, Nat.reduceLeDiff, Nat.reduceLT, Nat.reduceBEq, Nat.reduceBNe, Int.reduceLE, Int.reduceLT, Int.reduceBEq, Int.reduceBNe, Int.reduceEq, Int.reduceNe, Int.reduceAdd, Int.reduceSub, Int.reduceMul, Int.reduceNeg, Int.reduceToNat, hl, ra, rb, e0, hn, wrap_i64]
  · have e0 : endsR ⟨lo, hi, true⟩ ⟨lo', hi', true⟩ = 0 := by simp [endsR, ra, rb]
    rw [e0] at hn
    simp -implicitDefEqProofs (maxSteps := 600000) (disch := (first | omega | decide)) only [go_sem, ↓reduceIte, Nat.reduceEqDiff, reduceCtorEq, Nat.reduceAdd, Nat.reduceSub, Nat.reduceMul, Nat.reduceLeDiff, Nat.reduceLT, Nat.reduceBEq, Nat.reduceBNe, Int.reduceLE, Int.reduceLT, Int.reduceBEq, Int.reduceBNe, Int.reduceEq, Int.reduceNe, Int.reduceAdd, Int.reduceSub, Int.reduceMul, Int.reduceNeg, Int.reduceToNat, hl, ra, rb, e0, hn, wrap_i64]

theorem ok_law07_SpanMeets : codeOK Try.prog T07m Try.f7.ntmps (Try.f7.body.getD .skip) = true := by kernel_rfl
theorem c_law07_SpanMeets (a b : Rng) (s : List UInt8) (ha : a.ok) (hb : b.ok) (hs : s.length ≤ 9223372036854775807) : CallA Try.prog 7 [.agg [.str a.lo, .str a.hi, .bool a.op], .agg [.str b.lo, .str b.hi, .bool b.op], .str s] (· = .bool true) := by
  refine callA_of_body T07m_ok mixed Try.func7 rfl (Nat.le_of_ble_eq_true rfl) ok_law07_SpanMeets ?_
  unfold Try.f7
  cases hl : longB [a.lo, a.hi, b.lo, b.hi, s]
  case true => simp -implicitDefEqProofs (maxSteps := 600000) (disch := (first | omega | decide)) only [go_sem, ↓reduceIte, Nat.reduceEqDiff, reduceCtorEq, Nat.reduceAdd, Nat.reduceSub, Nat.reduceMul, Nat.reduceLeDiff, Nat.reduceLT, Nat.reduceBEq, Nat.reduceBNe, Int.reduceLE, Int.reduceLT, Int.reduceBEq, Int.reduceBNe, Int.reduceEq, Int.reduceNe, Int.reduceAdd, Int.reduceSub, Int.reduceMul, Int.reduceNeg, Int.reduceToNat, hl]
  obtain ⟨a1, a2⟩ := ha
  obtain ⟨b1, b2⟩ := hb
  cases hm : meetR a b with
  | none =>
    obtain ⟨n1, n2⟩ := meet_none hm
    have z1 : Rng.zero.lo = [] := rfl
    have z2 : Rng.zero.hi = [] := rfl
    have z3 : Rng.zero.op = false := rfl
    cases g1 : hasR a b.lo <;> cases g2 : hasR b b.lo <;> rw [g1, g2] at n1 <;> try (simp at n1; done)
    all_goals
      cases g3 : hasR b a.lo <;> cases g4 : hasR a a.lo <;> rw [g3, g4] at n2 <;> first
        | (simp at n2; done)
        | simp -implicitDefEqProofs (maxSteps := 600000) (disch := (first | omega | decide)) only [go_sem, ↓reduceIte, Nat.reduceEqDiff, reduceCtorEq, Nat.reduceAdd, Nat.reduceSub, Nat.reduceMul, Nat.reduceLeDiff, Nat.reduceLT, Nat.reduceBEq, Nat.reduceBNe, Int.reduceLE, Int.reduceLT, Int.reduceBEq, Int.reduceBNe, Int.reduceEq, Int.reduceNe, Int.reduceAdd, Int.reduceSub, Int.reduceMul, Int.reduceNeg, Int.reduceToNat, hl, hm, meetA, Rng.enc, z1, z2, z3, g1, g2, g3, g4]
  | some m =>
    have hc := meet_comm hm
    have hh := meet_has hm s
    obtain ⟨ra, rb, rm, e⟩ := meet_some hm
    obtain ⟨m1, m2, _, _⟩ := right_parts rm
    have q1 : m.lo.length ≤ 9223372036854775807 := by omega
    have q2 : m.hi.length ≤ 9223372036854775807 := by omega
    have hlo : m.lo = a.lo ∨ m.lo = b.lo := by
      rw [e]; simp only; split
      · exact .inr rfl
      · exact .inl rfl
    have hor : ((m.lo == a.lo) = true) ∨ ((m.lo == a.lo) = false ∧ (m.lo == b.lo) = true) := by
      cases h : m.lo == a.lo with
      | true => exact .inl rfl
      | false =>
        refine .inr ⟨rfl, ?_⟩
        rcases hlo with h1 | h1
        · rw [h1] at h; simp at h
        · simp [h1]
    rcases hor with l1 | ⟨l1, l2⟩
    · cases g1 : hasR a s <;> cases g2 : hasR b s <;> rw [g1, g2] at hh <;> simp only [Bool.and_true, Bool.and_false] at hh <;> simp -implicitDefEqProofs (maxSteps := 600000) (disch := (first | omega | decide)) only [go_sem, ↓reduceIte, Nat.reduceEqDiff, reduceCtorEq, Nat.reduceAdd, Nat.reduceSub, Nat.reduceMul, Nat.reduceLeDiff, Nat.reduceLT, Nat.reduceBEq, Nat.reduceBNe, Int.reduceLE, Int.reduceLT, Int.reduceBEq, Int.reduceBNe, Int.reduceEq, Int.reduceNe, Int.reduceAdd, Int.reduceSub, Int.reduceMul, Int.reduceNeg, Int.reduceToNat, hl, hm, hc, hh, meetA, Rng.enc, rm, g1, g2, l1, beq_self_eq_true]
    · cases g1 : hasR a s <;> cases g2 : hasR b s <;> rw [g1, g2] at hh <;> simp only [Bool.and_true, Bool.and_false] at hh <;> simp -implicitDefEqProofs (maxSteps := 600000) (disch := (first | omega | decide)) only [go_sem, ↓reduceIte, Nat.reduceEqDiff, reduceCtorEq, Nat.reduceAdd, Nat.reduceSub, Nat.reduceMul, Nat.reduceLeDiff, Nat.reduceLT, Nat.reduceBEq, Nat.reduceBNe, Int.reduceLE, Int.reduceLT, Int.reduceBEq, Int.reduceBNe, Int.reduceEq, Int.reduceNe, Int.reduceAdd, Int.reduceSub, Int.reduceMul, Int.reduceNeg, Int.reduceToNat, hl, hm, hc, hh, meetA, Rng.enc, rm, g1, g2, l1, l2, beq_self_eq_true]
theorem fits_rng {x : List A} (h : fitsL [.str, .str, .bool] x) : ∃ r : Rng, x = [.str r.lo, .str r.hi, .bool r.op] ∧ r.ok := by
  simp only [fitsL, fits] at h
  obtain ⟨_, _, rfl, ⟨lo, rfl, h1⟩, _, _, rfl, ⟨hi, rfl, h2⟩, _, _, rfl, ⟨op, rfl⟩, rfl⟩ := h
  have := maxLen_le
  exact ⟨⟨lo, hi, op⟩, rfl, by show lo.length ≤ _; omega, by show hi.length ≤ _; omega⟩
end Go.Proofs.Ytddkjenabjplmaa
