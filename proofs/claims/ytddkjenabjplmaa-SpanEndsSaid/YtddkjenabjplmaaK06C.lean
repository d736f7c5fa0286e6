/- Chapter 06: with what all begin. -/
import Derived.Test.YtddkjenabjplmaaK06B
namespace Go.Proofs.Ytddkjenabjplmaa
open Go.Abs
set_option linter.unusedSimpArgs false
set_option linter.unusedVariables false
set_option maxRecDepth 20000
set_option maxHeartbeats 4000000

theorem ok_internal_stringslite_HasPrefix : codeOK Try.prog T0 Try.f35.ntmps (Try.f35.body.getD .skip) = true := by kernel_rfl
theorem c_stringslite_HasPrefix (s p : List UInt8) (hs : s.length ≤ 9223372036854775807) (hp : p.length ≤ 9223372036854775807) : CallA Try.prog 35 [.str s, .str p] (· = .bool (beginsB s p)) := by
  refine callA_of_body T0_ok mixed Try.func35 rfl (Nat.le_of_ble_eq_true rfl) ok_internal_stringslite_HasPrefix ?_
  unfold Try.f35
  unfold beginsB
  by_cases h : (p.length : Int) ≤ s.length
  · have hz : (0 : Int) ≤ p.length := by omega
    simp -implicitDefEqProofs (maxSteps := 600000) (disch := (first | omega | decide)) only [go_sem, ↓reduceIte, Nat.reduceEqDiff, reduceCtorEq, Nat.reduceAdd, Nat.reduceSub, Nat.reduceMul, Nat.reduceLeDiff, Nat.reduceLT, Nat.reduceBEq, Nat.reduceBNe, Int.reduceLE, Int.reduceLT, Int.reduceBEq, Int.reduceBNe, Int.reduceEq, Int.reduceNe, Int.reduceAdd, Int.reduceSub, Int.reduceMul, Int.reduceNeg, Int.reduceToNat, h, hz]
    rw [decide_eq_true (by omega), Bool.true_and]
  · simp -implicitDefEqProofs (maxSteps := 600000) (disch := (first | omega | decide)) only [go_sem, ↓reduceIte, Nat.reduceEqDiff, reduceCtorEq, Nat.reduceAdd, Nat.reduceSub, Nat.reduceMul, Nat.reduceLeDiff, Nat.reduceLT, Nat.reduceBEq, Nat.reduceBNe, Int.reduceLE, Int.reduceLT, Int.reduceBEq, Int.reduceBNe, Int.reduceEq, Int.reduceNe, Int.reduceAdd, Int.reduceSub, Int.reduceMul, Int.reduceNeg, Int.reduceToNat, h]
    rw [decide_eq_false (by omega), Bool.false_and]
noncomputable def T06j : Tab := T06i.add 35 (entry (fun (p : List UInt8 × List UInt8) => [.str p.1, .str p.2]) (fun p => p.1.length ≤ 9223372036854775807 ∧ p.2.length ≤ 9223372036854775807) (fun p => .bool (beginsB p.1 p.2)))
theorem T06j_ok : TabOK Try.prog T06j := T06i_ok.add (callable_of Try.func35 (by kernel_rfl) (by kernel_rfl)) (entry_ok fun p h => c_stringslite_HasPrefix p.1 p.2 h.1 h.2)
@[go_sem] theorem T06j_old {g : FuncId} {xs : List A} (h : g ≠ 35) : T06j.f g xs = T06i.f g xs := Tab.add_ne h
@[go_sem] theorem T06j_eff {g : FuncId} : T06j.eff g = T06i.eff g := rfl
@[go_sem] theorem T06j_frz {g : FuncId} : T06j.frz g = T06i.frz g := rfl
@[go_sem] theorem T06j_effT : T06j.effT = T06i.effT := rfl
@[go_sem] theorem T06j_fix : T06j.fix = T06i.fix := rfl
@[go_sem] theorem T06j_nf : T06j.nf = T06i.nf := rfl
@[go_sem] theorem T06j_hp : T06j.hp = T06i.hp := rfl
theorem T06j_internal_stringslite_HasPrefix (p : List UInt8 × List UInt8) (h : p.1.length ≤ 9223372036854775807 ∧ p.2.length ≤ 9223372036854775807) : T06j.f 35 [.str p.1, .str p.2] = some (.bool (beginsB p.1 p.2)) :=
  (Tab.add_eq : T06j.f 35 [.str p.1, .str p.2] = (entry (fun (p : List UInt8 × List UInt8) => [.str p.1, .str p.2]) (fun p => p.1.length ≤ 9223372036854775807 ∧ p.2.length ≤ 9223372036854775807) (fun p => .bool (beginsB p.1 p.2))) [.str p.1, .str p.2]).trans (entry_eq (fun i j h => by first | (cases i; cases j; rfl; done) | simpa [Prod.ext_iff, and_assoc] using h) p h)
@[go_sem] theorem t_stringslite_HasPrefix {a b : List UInt8} (h : a.length ≤ 9223372036854775807) (h' : b.length ≤ 9223372036854775807) : T06j.f 35 [.str a, .str b] = some (.bool (beginsB a b)) := T06j_internal_stringslite_HasPrefix (a, b) ⟨h, h'⟩
theorem ok_strings_HasPrefix : codeOK Try.prog T06j Try.f34.ntmps (Try.f34.body.getD .skip) = true := by kernel_rfl
theorem c_strings_HasPrefix (s p : List UInt8) (hs : s.length ≤ 9223372036854775807) (hp : p.length ≤ 9223372036854775807) : CallA Try.prog 34 [.str s, .str p] (· = .bool (beginsB s p)) := by
  refine callA_of_body T06j_ok mixed Try.func34 rfl (Nat.le_of_ble_eq_true rfl) ok_strings_HasPrefix ?_
  unfold Try.f34
  simp -implicitDefEqProofs (maxSteps := 600000) (disch := (first | omega | decide)) only [go_sem, ↓reduceIte, Nat.reduceEqDiff, reduceCtorEq, Nat.reduceAdd, Nat.reduceSub, Nat.reduceMul, Nat.reduceLeDiff, Nat.reduceLT, Nat.reduceBEq, Nat.reduceBNe, Int.reduceLE, Int.reduceLT, Int.reduceBEq, Int.reduceBNe, Int.reduceEq, Int.reduceNe, Int.reduceAdd, Int.reduceSub, Int.reduceMul, Int.reduceNeg, Int.reduceToNat]
noncomputable def T06k : Tab := T06j.add 34 (entry (fun (p : List UInt8 × List UInt8) => [.str p.1, .str p.2]) (fun p => p.1.length ≤ 9223372036854775807 ∧ p.2.length ≤ 9223372036854775807) (fun p => .bool (beginsB p.1 p.2)))
theorem T06k_ok : TabOK Try.prog T06k := T06j_ok.add (callable_of Try.func34 (by kernel_rfl) (by kernel_rfl)) (entry_ok fun p h => c_strings_HasPrefix p.1 p.2 h.1 h.2)
@[go_sem] theorem T06k_old {g : FuncId} {xs : List A} (h : g ≠ 34) : T06k.f g xs = T06j.f g xs := Tab.add_ne h
@[go_sem] theorem T06k_eff {g : FuncId} : T06k.eff g = T06j.eff g := rfl
@[go_sem] theorem T06k_frz {g : FuncId} : T06k.frz g = T06j.frz g := rfl
@[go_sem] theorem T06k_effT : T06k.effT = T06j.effT := rfl
@[go_sem] theorem T06k_fix : T06k.fix = T06j.fix := rfl
@[go_sem] theorem T06k_nf : T06k.nf = T06j.nf := rfl
@[go_sem] theorem T06k_hp : T06k.hp = T06j.hp := rfl
theorem T06k_strings_HasPrefix (p : List UInt8 × List UInt8) (h : p.1.length ≤ 9223372036854775807 ∧ p.2.length ≤ 9223372036854775807) : T06k.f 34 [.str p.1, .str p.2] = some (.bool (beginsB p.1 p.2)) :=
  (Tab.add_eq : T06k.f 34 [.str p.1, .str p.2] = (entry (fun (p : List UInt8 × List UInt8) => [.str p.1, .str p.2]) (fun p => p.1.length ≤ 9223372036854775807 ∧ p.2.length ≤ 9223372036854775807) (fun p => .bool (beginsB p.1 p.2))) [.str p.1, .str p.2]).trans (entry_eq (fun i j h => by first | (cases i; cases j; rfl; done) | simpa [Prod.ext_iff, and_assoc] using h) p h)
@[go_sem] theorem t_strings_HasPrefix {a b : List UInt8} (h : a.length ≤ 9223372036854775807) (h' : b.length ≤ 9223372036854775807) : T06k.f 34 [.str a, .str b] = some (.bool (beginsB a b)) := T06k_strings_HasPrefix (a, b) ⟨h, h'⟩

/-- With what all begin. -/
def comB : List (List UInt8) → List UInt8
  | [] => []
  | l0 :: r => l0.take (comP l0 (l0 :: r) l0.length)
theorem ok_key_Common : codeOK Try.prog T06k Try.f20.ntmps (Try.f20.body.getD .skip) = true := by kernel_rfl
theorem c_key_Common (l : List (List UInt8)) (hl : l.length ≤ 4294967296) (hs : ∀ s ∈ l, s.length ≤ 9223372036854775807) : CallA Try.prog 20 [.slc (l.map .str)] (· = .str (comB l)) := by
  refine callA_of_body T06k_ok mixed Try.func20 rfl (Nat.le_of_ble_eq_true rfl) ok_key_Common ?_
  unfold Try.f20
  cases l with
  | nil => simp -implicitDefEqProofs (maxSteps := 600000) (disch := (first | omega | decide)) only [go_sem, ↓reduceIte, Nat.reduceEqDiff, reduceCtorEq, Nat.reduceAdd, Nat.reduceSub, Nat.reduceMul, Nat.reduceLeDiff, Nat.reduceLT, Nat.reduceBEq, Nat.reduceBNe, Int.reduceLE, Int.reduceLT, Int.reduceBEq, Int.reduceBNe, Int.reduceEq, Int.reduceNe, Int.reduceAdd, Int.reduceSub, Int.reduceMul, Int.reduceNeg, Int.reduceToNat, List.map_nil, comB]
  | cons l0 r =>
    have h0 : ((((l0 :: r).map A.str).length : Int) == 0) = false := by simp; omega
    have hl0 := hs l0 (by simp)
    have hg : ((l0 :: r).map A.str)[0]? = some (.str l0) := rfl
    generalize hL : (l0 :: r) = L at *
    have hlen : (L.map A.str).length = L.length := List.length_map _
    simp -implicitDefEqProofs (maxSteps := 600000) (disch := (first | omega | decide)) only [go_sem, ↓reduceIte, Nat.reduceEqDiff, reduceCtorEq, Nat.reduceAdd, Nat.reduceSub, Nat.reduceMul, Nat.reduceLeDiff, Nat.reduceLT, Nat.reduceBEq, Nat.reduceBNe, Int.reduceLE, Int.reduceLT, Int.reduceBEq, Int.reduceBNe, Int.reduceEq, Int.reduceNe, Int.reduceAdd, Int.reduceSub, Int.reduceMul, Int.reduceNeg, Int.reduceToNat, h0, hg]
    refine wpA_loop [0, 13, 14] (ι := {p : Nat × Nat // p.1 ≤ L.length ∧ p.2 ≤ l0.length ∧ comP l0 L l0.length = comP l0 (L.drop p.1) p.2}) (fun p => [(15, .int .i64 p.1.1), (3, .int .i64 p.1.2)]) (fun _ => []) (fun p => L.length - p.1.1) ⟨(0, l0.length), by simp⟩ (by simp [T06k_nf, T06j_nf, T06i_nf, T06h_nf, T06g_nf, T06f_nf, T06e_nf, T06d_nf, T06c_nf, T06b_nf, T06a_nf, T0, tab0]) ?_ ?_
    · simp -implicitDefEqProofs (maxSteps := 600000) (disch := (first | omega | decide)) only [go_sem, ↓reduceIte, Nat.reduceEqDiff, reduceCtorEq, Nat.reduceAdd, Nat.reduceSub, Nat.reduceMul, Nat.reduceLeDiff, Nat.reduceLT, Nat.reduceBEq, Nat.reduceBNe, Int.reduceLE, Int.reduceLT, Int.reduceBEq, Int.reduceBNe, Int.reduceEq, Int.reduceNe, Int.reduceAdd, Int.reduceSub, Int.reduceMul, Int.reduceNeg, Int.reduceToNat]
    · rintro ⟨⟨k, n⟩, hk, hn, hc⟩
      simp only at hk hn hc
      by_cases hlt : k < L.length
      · have hlt' : (k : Int) < ((L.map A.str).length : Int) := by rw [hlen]; omega
        have e1 : (L.map A.str)[k]? = some (.str L[k]) := by simp [hlt]
        have hsk := hs L[k] (List.getElem_mem hlt)
        rw [List.drop_eq_getElem_cons hlt] at hc
        simp only [comP] at hc
        simp -implicitDefEqProofs (maxSteps := 600000) (disch := (first | omega | decide)) only [go_sem, ↓reduceIte, Nat.reduceEqDiff, reduceCtorEq, Nat.reduceAdd, Nat.reduceSub, Nat.reduceMul, Nat.reduceLeDiff, Nat.reduceLT, Nat.reduceBEq, Nat.reduceBNe, Int.reduceLE, Int.reduceLT, Int.reduceBEq, Int.reduceBNe, Int.reduceEq, Int.reduceNe, Int.reduceAdd, Int.reduceSub, Int.reduceMul, Int.reduceNeg, Int.reduceToNat, hlt', e1]
        refine wpA_loop [0, 13, 14, 15, 5] (ι := {m : Nat // m ≤ n ∧ decP l0 L[k] n = decP l0 L[k] m}) (fun m => [(3, .int .i64 m.1)]) (fun _ => []) (fun m => m.1) ⟨n, by simp⟩ (by simp [T06k_nf, T06j_nf, T06i_nf, T06h_nf, T06g_nf, T06f_nf, T06e_nf, T06d_nf, T06c_nf, T06b_nf, T06a_nf, T0, tab0]) ?_ ?_
        · simp -implicitDefEqProofs (maxSteps := 600000) (disch := (first | omega | decide)) only [go_sem, ↓reduceIte, Nat.reduceEqDiff, reduceCtorEq, Nat.reduceAdd, Nat.reduceSub, Nat.reduceMul, Nat.reduceLeDiff, Nat.reduceLT, Nat.reduceBEq, Nat.reduceBNe, Int.reduceLE, Int.reduceLT, Int.reduceBEq, Int.reduceBNe, Int.reduceEq, Int.reduceNe, Int.reduceAdd, Int.reduceSub, Int.reduceMul, Int.reduceNeg, Int.reduceToNat]
        · rintro ⟨m, hm, hd⟩
          have b0 : (0 : Int) ≤ 0 := by omega
          have b1 : (0 : Int) ≤ (m : Int) := by omega
          have b2 : (m : Int) ≤ (l0.length : Int) := by omega
          have b3 : (l0.take m).length ≤ 9223372036854775807 := by rw [List.length_take]; omega
          cases m with
          | zero =>
            have hb := begins_nil L[k]
            have e0 : l0.take 0 = [] := rfl
            have z : ((0 : Nat) : Int) = 0 := rfl
            have b4 : ([] : List UInt8).length ≤ 9223372036854775807 := by decide
            simp -implicitDefEqProofs (maxSteps := 600000) (disch := (first | omega | decide)) only [go_sem, ↓reduceIte, Nat.reduceEqDiff, reduceCtorEq, Nat.reduceAdd, Nat.reduceSub, Nat.reduceMul, Nat.reduceLeDiff, Nat.reduceLT, Nat.reduceBEq, Nat.reduceBNe, Int.reduceLE, Int.reduceLT, Int.reduceBEq, Int.reduceBNe, Int.reduceEq, Int.reduceNe, Int.reduceAdd, Int.reduceSub, Int.reduceMul, Int.reduceNeg, Int.reduceToNat, b0, b1, b2, b3, b4, hg, hb, e0, z, wrap_i64]
            refine ⟨⟨(k + 1, 0), hlt, by omega, ?_⟩, ⟨by simp, by simp⟩, ?_⟩
            · rw [hc, hd]; rfl
            · show L.length - (k + 1) < L.length - k
              omega
          | succ m =>
            cases hb : beginsB L[k] (l0.take (m + 1)) with
            | true =>
              simp -implicitDefEqProofs (maxSteps := 600000) (disch := (first | omega | decide)) only [go_sem, ↓reduceIte, Nat.reduceEqDiff, reduceCtorEq, Nat.reduceAdd, Nat.reduceSub, Nat.reduceMul, Nat.reduceLeDiff, Nat.reduceLT, Nat.reduceBEq, Nat.reduceBNe, Int.reduceLE, Int.reduceLT, Int.reduceBEq, Int.reduceBNe, Int.reduceEq, Int.reduceNe, Int.reduceAdd, Int.reduceSub, Int.reduceMul, Int.reduceNeg, Int.reduceToNat, b0, b1, b2, b3, hg, hb, wrap_i64]
              refine ⟨⟨(k + 1, m + 1), hlt, by omega, ?_⟩, ⟨by simp, by simp⟩, ?_⟩
              · simp only
                rw [hc, hd]; simp [decP, hb]
              · show L.length - (k + 1) < L.length - k
                omega
            | false =>
              have h1 : ((m + 1 : Nat) : Int) - 1 = (m : Int) := by omega
              simp -implicitDefEqProofs (maxSteps := 600000) (disch := (first | omega | decide)) only [go_sem, ↓reduceIte, Nat.reduceEqDiff, reduceCtorEq, Nat.reduceAdd, Nat.reduceSub, Nat.reduceMul, Nat.reduceLeDiff, Nat.reduceLT, Nat.reduceBEq, Nat.reduceBNe, Int.reduceLE, Int.reduceLT, Int.reduceBEq, Int.reduceBNe, Int.reduceEq, Int.reduceNe, Int.reduceAdd, Int.reduceSub, Int.reduceMul, Int.reduceNeg, Int.reduceToNat, b0, b1, b2, b3, hg, hb, h1, wrap_i64]
              refine ⟨⟨m, by omega, ?_⟩, by simp, by simp⟩
              rw [hd]; simp [decP, hb]
      · have hlt' : ¬ (k : Int) < ((L.map A.str).length : Int) := by rw [hlen]; omega
        have b0 : (0 : Int) ≤ 0 := by omega
        have b1 : (0 : Int) ≤ (n : Int) := by omega
        have b2 : (n : Int) ≤ (l0.length : Int) := by omega
        simp -implicitDefEqProofs (maxSteps := 600000) (disch := (first | omega | decide)) only [go_sem, ↓reduceIte, Nat.reduceEqDiff, reduceCtorEq, Nat.reduceAdd, Nat.reduceSub, Nat.reduceMul, Nat.reduceLeDiff, Nat.reduceLT, Nat.reduceBEq, Nat.reduceBNe, Int.reduceLE, Int.reduceLT, Int.reduceBEq, Int.reduceBNe, Int.reduceEq, Int.reduceNe, Int.reduceAdd, Int.reduceSub, Int.reduceMul, Int.reduceNeg, Int.reduceToNat, hlt', b0, b1, b2, hg]
        rw [List.drop_of_length_le (by omega)] at hc
        rw [← hL]
        simp only [comB]
        rw [hL, hc]; rfl
noncomputable def T06l : Tab := T06k.add 20 (entry (fun (l : List (List UInt8)) => [.slc (l.map .str)]) (fun l => l.length ≤ 4294967296 ∧ ∀ s ∈ l, s.length ≤ 9223372036854775807) (fun l => .str (comB l)))
theorem T06l_ok : TabOK Try.prog T06l := T06k_ok.add (callable_of Try.func20 (by kernel_rfl) (by kernel_rfl)) (entry_ok fun l h => c_key_Common l h.1 h.2)
@[go_sem] theorem T06l_old {g : FuncId} {xs : List A} (h : g ≠ 20) : T06l.f g xs = T06k.f g xs := Tab.add_ne h
@[go_sem] theorem T06l_eff {g : FuncId} : T06l.eff g = T06k.eff g := rfl
@[go_sem] theorem T06l_frz {g : FuncId} : T06l.frz g = T06k.frz g := rfl
@[go_sem] theorem T06l_effT : T06l.effT = T06k.effT := rfl
@[go_sem] theorem T06l_fix : T06l.fix = T06k.fix := rfl
@[go_sem] theorem T06l_nf : T06l.nf = T06k.nf := rfl
@[go_sem] theorem T06l_hp : T06l.hp = T06k.hp := rfl
theorem T06l_key_Common (l : List (List UInt8)) (h : l.length ≤ 4294967296 ∧ ∀ s ∈ l, s.length ≤ 9223372036854775807) : T06l.f 20 [.slc (l.map .str)] = some (.str (comB l)) :=
  (Tab.add_eq : T06l.f 20 [.slc (l.map .str)] = (entry (fun (l : List (List UInt8)) => [.slc (l.map .str)]) (fun l => l.length ≤ 4294967296 ∧ ∀ s ∈ l, s.length ≤ 9223372036854775807) (fun l => .str (comB l))) [.slc (l.map .str)]).trans (entry_eq (fun i j h => by first | (cases i; cases j; rfl; done) | simpa [Prod.ext_iff, and_assoc] using h) l h)
@[go_sem] theorem t_key_Common {l : List (List UInt8)} (h : l.length ≤ 4294967296) (h' : ∀ s ∈ l, s.length ≤ 9223372036854775807) : T06l.f 20 [.slc (l.map .str)] = some (.str (comB l)) := T06l_key_Common l ⟨h, h'⟩
end Go.Proofs.Ytddkjenabjplmaa
