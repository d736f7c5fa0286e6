/- Chapter 08: the document's edges and lists. -/
import Derived.Test.YtnmkojglcgaobaaK08A
import Derived.Test.YtnmkojglcgaobaaAbsW
namespace Go.Proofs.Ytnmkojglcgaobaa
open Go.Abs
set_option linter.unusedSimpArgs false
set_option linter.unusedVariables false
set_option maxRecDepth 20000
set_option maxHeartbeats 4000000

theorem strB (l : List (List UInt8)) : ((l.map A.str).isEmpty || strideOf (l.map A.str) == 1) = true := by
  cases l <;> rfl
theorem putB_close {l : List (List UInt8)} {n : List UInt8} {k : Nat} (hk : k ≤ l.length) (hd : putB l n = l.take k ++ n :: l.drop k) : k + 1 ≤ ((l.take k).map A.str ++ [A.str n]).length ∧ k + 1 + (l.length - k) ≤ (((l.take k).map A.str ++ [A.str n]).take (k + 1) ++ (l.drop k).map A.str).length ∧
    (((l.take k).map A.str ++ [A.str n]).take (k + 1) ++ (l.drop k).map A.str).take (k + 1 + (l.length - k)) = (putB l n).map A.str := by
  have e : ((l.take k).map A.str ++ [A.str n]).length = k + 1 := by simp; omega
  rw [List.take_of_length_le (Nat.le_of_eq e)]
  have e2 : ((l.take k).map A.str ++ [A.str n] ++ (l.drop k).map A.str).length = k + 1 + (l.length - k) := by
    rw [List.length_append, e, List.length_map, List.length_drop]
  rw [List.take_of_length_le (Nat.le_of_eq e2)]
  exact ⟨by omega, by omega, by rw [hd]; simp⟩
theorem ok_ref08_put : codeOK Try.prog T07 Try.f96.ntmps (Try.f96.body.getD .skip) = true := by kernel_rfl
theorem c_ref08_put (l : List (List UInt8)) (n : List UInt8) (hl : l.length ≤ 1000000) (hok : ∀ x ∈ l, x.length ≤ 9223372036854775807) (hn : n.length ≤ 9223372036854775807) : CallA Try.prog 96 [.slc (l.map .str), .str n] (· = .slc ((putB l n).map .str)) := by
  refine callA_of_body T07_ok mixed Try.func96 rfl (Nat.le_of_ble_eq_true rfl) ok_ref08_put ?_
  unfold Try.f96
  simp -implicitDefEqProofs (maxSteps := 600000) (disch := (first | omega | decide)) only [go_sem, ↓reduceIte, Nat.reduceEqDiff, reduceCtorEq, Nat.reduceAdd, Nat.reduceSub, Nat.reduceMul, Nat.reduceLeDiff, Nat.reduceLT, Nat.reduceBEq, Nat.reduceBNe, Int.reduceLE, Int.reduceLT, Int.reduceBEq, Int.reduceBNe, Int.reduceEq, Int.reduceNe, Int.reduceAdd, Int.reduceSub, Int.reduceMul, Int.reduceNeg, Int.reduceToNat, List.length_map]
  refine wpA_loop [0, 1, 4] (ι := {k : Nat // k ≤ l.length ∧ putB l n = l.take k ++ putB (l.drop k) n}) (fun p => [(5, .int .i64 p.1)]) (fun _ => []) (fun p => l.length - p.1) ⟨0, by omega, rfl⟩ (Nat.zero_le _) ?_ ?_
  · simp -implicitDefEqProofs (maxSteps := 600000) (disch := (first | omega | decide)) only [go_sem, ↓reduceIte, Nat.reduceEqDiff, reduceCtorEq, Nat.reduceAdd, Nat.reduceSub, Nat.reduceMul, Nat.reduceLeDiff, Nat.reduceLT, Nat.reduceBEq, Nat.reduceBNe, Int.reduceLE, Int.reduceLT, Int.reduceBEq, Int.reduceBNe, Int.reduceEq, Int.reduceNe, Int.reduceAdd, Int.reduceSub, Int.reduceMul, Int.reduceNeg, Int.reduceToNat]
  · rintro ⟨k, hk, hd⟩
    simp only
    by_cases hlt : k < l.length
    · have hlt' : (k : Int) < (l.length : Int) := by omega
      have e1 : (l.map A.str)[k]? = some (.str l[k]) := by
        rw [List.getElem?_map, List.getElem?_eq_getElem hlt]; rfl
      have ok1 := hok _ (List.getElem_mem hlt)
      have tk : (l.take k).length = k := by rw [List.length_take]; omega
      have t1 := (List.take_append_getElem hlt).symm
      rw [List.drop_eq_getElem_cons hlt] at hd
      generalize hx : l[k] = x at *
      simp only [putB] at hd
      cases h1 : ltB x n with
      | true =>
        rw [if_pos h1] at hd
        simp -implicitDefEqProofs (maxSteps := 600000) (disch := (first | omega | decide)) only [go_sem, ↓reduceIte, Nat.reduceEqDiff, reduceCtorEq, Nat.reduceAdd, Nat.reduceSub, Nat.reduceMul, Nat.reduceLeDiff, Nat.reduceLT, Nat.reduceBEq, Nat.reduceBNe, Int.reduceLE, Int.reduceLT, Int.reduceBEq, Int.reduceBNe, Int.reduceEq, Int.reduceNe, Int.reduceAdd, Int.reduceSub, Int.reduceMul, Int.reduceNeg, Int.reduceToNat, hlt', e1, ok1, h1, wrap_i64, List.length_map]
        exact ⟨⟨k + 1, hlt, by rw [hd, t1, List.append_assoc]; rfl⟩, by simp, by show l.length - (k + 1) < l.length - k; omega⟩
      | false =>
        rw [if_neg (by rw [h1]; simp)] at hd
        cases h2 : x == n with
        | true =>
          simp -implicitDefEqProofs (maxSteps := 600000) (disch := (first | omega | decide)) only [go_sem, ↓reduceIte, Nat.reduceEqDiff, reduceCtorEq, Nat.reduceAdd, Nat.reduceSub, Nat.reduceMul, Nat.reduceLeDiff, Nat.reduceLT, Nat.reduceBEq, Nat.reduceBNe, Int.reduceLE, Int.reduceLT, Int.reduceBEq, Int.reduceBNe, Int.reduceEq, Int.reduceNe, Int.reduceAdd, Int.reduceSub, Int.reduceMul, Int.reduceNeg, Int.reduceToNat, hlt', e1, ok1, h1, h2, wrap_i64, List.length_map]
          have hxn : x = n := by simpa using h2
          rw [if_pos hxn, ← hx, ← List.drop_eq_getElem_cons hlt, List.take_append_drop] at hd
          rw [hd]
        | false =>
          have hxn : x ≠ n := by simpa using h2
          have l1 : (l.take k).length = k := tk
          have l2 : (l.drop k).length = l.length - k := List.length_drop ..
          simp -implicitDefEqProofs (maxSteps := 600000) (disch := (first | omega | decide)) only [go_sem, ↓reduceIte, Nat.reduceEqDiff, reduceCtorEq, Nat.reduceAdd, Nat.reduceSub, Nat.reduceMul, Nat.reduceLeDiff, Nat.reduceLT, Nat.reduceBEq, Nat.reduceBNe, Int.reduceLE, Int.reduceLT, Int.reduceBEq, Int.reduceBNe, Int.reduceEq, Int.reduceNe, Int.reduceAdd, Int.reduceSub, Int.reduceMul, Int.reduceNeg, Int.reduceToNat, hlt', e1, ok1, h1, h2, wrap_i64, ← List.map_take, ← List.map_drop, strB, List.length_map, List.take_length, l1, l2]
          obtain ⟨c1, c2, c3⟩ := putB_close hk (by rw [hd, if_neg hxn, ← hx, ← List.drop_eq_getElem_cons hlt])
          exact ⟨by omega, by omega, ⟨by omega, by omega⟩, ⟨by omega, by omega⟩, ⟨c1, by omega⟩, c2, c3⟩
    · have hlt' : ¬ (k : Int) < (l.length : Int) := by omega
      have l1 : (l.take k).length = k := by rw [List.length_take]; omega
      have l2 : (l.drop k).length = l.length - k := List.length_drop ..
      have l3 : l.drop k = [] := List.drop_of_length_le (by omega)
      obtain ⟨c1, c2, c3⟩ := putB_close hk (by rw [hd, l3]; rfl)
      simp -implicitDefEqProofs (maxSteps := 600000) (disch := (first | omega | decide)) only [go_sem, ↓reduceIte, Nat.reduceEqDiff, reduceCtorEq, Nat.reduceAdd, Nat.reduceSub, Nat.reduceMul, Nat.reduceLeDiff, Nat.reduceLT, Nat.reduceBEq, Nat.reduceBNe, Int.reduceLE, Int.reduceLT, Int.reduceBEq, Int.reduceBNe, Int.reduceEq, Int.reduceNe, Int.reduceAdd, Int.reduceSub, Int.reduceMul, Int.reduceNeg, Int.reduceToNat, hlt', wrap_i64, ← List.map_take, ← List.map_drop, strB, List.length_map, List.take_length, l1, l2]
      exact ⟨by omega, by omega, ⟨by omega, by omega⟩, ⟨by omega, by omega⟩, ⟨c1, by omega⟩, c2, c3⟩
noncomputable def T08a : Tab := T07.add 96 (entry (fun (v : List (List UInt8) × List UInt8) => [.slc (v.1.map .str), .str v.2]) (fun v => v.1.length ≤ 1000000 ∧ (∀ x ∈ v.1, x.length ≤ 9223372036854775807) ∧ v.2.length ≤ 9223372036854775807) (fun v => .slc ((putB v.1 v.2).map .str)))
theorem T08a_ok : TabOK Try.prog T08a := T07_ok.add (callable_of Try.func96 (by kernel_rfl) (by kernel_rfl)) (entry_ok fun v h => c_ref08_put v.1 v.2 h.1 h.2.1 h.2.2)
@[go_sem] theorem T08a_old {g : FuncId} {xs : List A} (h : g ≠ 96) : T08a.f g xs = T07.f g xs := Tab.add_ne h
@[go_sem] theorem T08a_eff {g : FuncId} : T08a.eff g = T07.eff g := rfl
@[go_sem] theorem T08a_frz {g : FuncId} : T08a.frz g = T07.frz g := rfl
@[go_sem] theorem T08a_effT : T08a.effT = T07.effT := rfl
@[go_sem] theorem T08a_fix : T08a.fix = T07.fix := rfl
@[go_sem] theorem T08a_nf : T08a.nf = T07.nf := rfl
@[go_sem] theorem T08a_ords {n : Nat} : T08a.ords n = T07.ords n := rfl
@[go_sem] theorem T08a_hp : T08a.hp = T07.hp := rfl
theorem T08a_ref08_put (v : List (List UInt8) × List UInt8) (h : v.1.length ≤ 1000000 ∧ (∀ x ∈ v.1, x.length ≤ 9223372036854775807) ∧ v.2.length ≤ 9223372036854775807) : T08a.f 96 [.slc (v.1.map .str), .str v.2] = some (.slc ((putB v.1 v.2).map .str)) :=
  (Tab.add_eq : T08a.f 96 [.slc (v.1.map .str), .str v.2] = (entry (fun (v : List (List UInt8) × List UInt8) => [.slc (v.1.map .str), .str v.2]) (fun v => v.1.length ≤ 1000000 ∧ (∀ x ∈ v.1, x.length ≤ 9223372036854775807) ∧ v.2.length ≤ 9223372036854775807) (fun v => .slc ((putB v.1 v.2).map .str))) [.slc (v.1.map .str), .str v.2]).trans (entry_eq (fun i j h => by first | (cases i; cases j; rfl; done) | simpa [Prod.ext_iff, and_assoc] using h | (simp at h; omega)) v h)
theorem t_ref08_put {l : List (List UInt8)} {n : List UInt8} (h : l.length ≤ 1000000) (h1 : ∀ x ∈ l, x.length ≤ 9223372036854775807) (h2 : n.length ≤ 9223372036854775807) : T08a.f 96 [.slc (l.map .str), .str n] = some (.slc ((putB l n).map .str)) := T08a_ref08_put (l, n) ⟨h, h1, h2⟩
theorem foldE_ok : ∀ (l : List Rng) (es : List (List UInt8)), (∀ x ∈ es, x.length ≤ 9223372036854775807) → ∀ x ∈ l.foldl putE es, x.length ≤ 9223372036854775807 := fun l es h x hx => by
  rcases (foldE_mem l es x).1 hx with hx | ⟨r, _, h1, h2⟩
  · exact h x hx
  · obtain ⟨k1, k2, _, _⟩ := right_parts h1
    rcases h2 with rfl | ⟨_, rfl⟩ <;> omega
theorem foldE_step (l : List Rng) (es : List (List UInt8)) (k : Nat) (h : k < l.length) : (l.take (k + 1)).foldl putE es = putE ((l.take k).foldl putE es) l[k] := by
  rw [← List.take_append_getElem h, List.foldl_append]; rfl
theorem ok_ref08_Edges : codeOK Try.prog T08a Try.f69.ntmps (Try.f69.body.getD .skip) = true := by kernel_rfl
theorem c_ref08_Edges (a b : List Rng) (ha : a.length ≤ 1000) (hb : b.length ≤ 1000) (oka : okL a) (okb : okL b) : CallA Try.prog 69 [.slc (a.map Rng.enc), .slc (b.map Rng.enc)] (· = .slc ((edgesS a b).map .str)) := by
  refine callA_of_body T08a_ok mixed Try.func69 rfl (Nat.le_of_ble_eq_true rfl) ok_ref08_Edges ?_
  unfold Try.f69
  simp -implicitDefEqProofs (maxSteps := 600000) (disch := (first | omega | decide)) only [go_sem, ↓reduceIte, Nat.reduceEqDiff, reduceCtorEq, Nat.reduceAdd, Nat.reduceSub, Nat.reduceMul, Nat.reduceLeDiff, Nat.reduceLT, Nat.reduceBEq, Nat.reduceBNe, Int.reduceLE, Int.reduceLT, Int.reduceBEq, Int.reduceBNe, Int.reduceEq, Int.reduceNe, Int.reduceAdd, Int.reduceSub, Int.reduceMul, Int.reduceNeg, Int.reduceToNat, List.length_map]
  refine wpA_loop_clip 5 [A.str []] rfl ?_
  refine wpA_loop [0, 1, 4] (ι := {k : Nat // k ≤ (a ++ b).length}) (fun p => [(6, .int .i64 p.1), (5, .slc ((((a ++ b).take p.1).foldl putE [[]]).map .str))]) (fun _ => []) (fun p => (a ++ b).length - p.1) ⟨0, by omega⟩ (Nat.zero_le _) ?_ ?_
  · simp -implicitDefEqProofs (maxSteps := 600000) (disch := (first | omega | decide)) only [go_sem, ↓reduceIte, Nat.reduceEqDiff, reduceCtorEq, Nat.reduceAdd, Nat.reduceSub, Nat.reduceMul, Nat.reduceLeDiff, Nat.reduceLT, Nat.reduceBEq, Nat.reduceBNe, Int.reduceLE, Int.reduceLT, Int.reduceBEq, Int.reduceBNe, Int.reduceEq, Int.reduceNe, Int.reduceAdd, Int.reduceSub, Int.reduceMul, Int.reduceNeg, Int.reduceToNat]
    first | done | rfl | exact ⟨rfl, rfl⟩ | simp [A.under]
  · rintro ⟨k, hk⟩
    simp only
    have hsum : (a ++ b).length = a.length + b.length := List.length_append
    have hw : IntKind.i64.wrap ((a.length : Int) + (b.length : Int)) = (((a ++ b).length : Nat) : Int) := by rw [wrap_i64 (by omega)]; omega
    have hlen := foldE_len ((a ++ b).take k) [[]]
    have hok := foldE_ok ((a ++ b).take k) [[]] (by simp)
    rw [List.length_take, Nat.min_eq_left hk, List.length_singleton] at hlen
    by_cases hlt : k < (a ++ b).length
    · have hlt' : (k : Int) < (((a ++ b).length : Nat) : Int) := by omega
      have hst := foldE_step (a ++ b) [[]] k hlt
      have hokx : (a ++ b)[k].ok := by
        have := List.getElem_mem hlt
        rcases List.mem_append.1 this with h | h
        · exact oka _ h
        · exact okb _ h
      have next : ∀ es', ((a ++ b).take (k + 1)).foldl putE [[]] = es' → ∃ j : {k : Nat // k ≤ (a ++ b).length}, ((k : Int) + 1 = (j.1 : Int) ∧ es'.map A.str = (((a ++ b).take j.1).foldl putE [[]]).map A.str) ∧ (a ++ b).length - j.1 < (a ++ b).length - k := fun es' h => ⟨⟨k + 1, hlt⟩, ⟨by simp, by rw [h]⟩, by show (a ++ b).length - (k + 1) < _; omega⟩
      generalize hes : ((a ++ b).take k).foldl putE [[]] = es at *
      by_cases hka : k < a.length
      · have hka' : (k : Int) < (a.length : Int) := by omega
        have e1 := rng_get hka
        have ex : (a ++ b)[k] = a[k] := List.getElem_append_left hka
        rw [ex] at hst hokx
        generalize hx : a[k] = x at *
        obtain ⟨lo, hi, op⟩ := x
        have ok1 : lo.length ≤ 9223372036854775807 ∧ hi.length ≤ 9223372036854775807 := hokx
        have p1 := t_ref08_put (l := es) (n := lo) (by omega) hok ok1.1
        have p2 := t_ref08_put (l := putB es lo) (n := hi) (by have := putB_len es lo; omega) (fun x hx => by
          rcases (putB_mem es lo x).1 hx with rfl | hx
          · exact ok1.1
          · exact hok x hx) ok1.2
        cases h1 : rightR ⟨lo, hi, op⟩ with
        | false =>
          have hs := next es (by rw [hst]; unfold putE; rw [h1]; rfl)
          simp -implicitDefEqProofs (maxSteps := 600000) (disch := (first | omega | decide)) only [go_sem, ↓reduceIte, Nat.reduceEqDiff, reduceCtorEq, Nat.reduceAdd, Nat.reduceSub, Nat.reduceMul, Nat.reduceLeDiff, Nat.reduceLT, Nat.reduceBEq, Nat.reduceBNe, Int.reduceLE, Int.reduceLT, Int.reduceBEq, Int.reduceBNe, Int.reduceEq, Int.reduceNe, Int.reduceAdd, Int.reduceSub, Int.reduceMul, Int.reduceNeg, Int.reduceToNat, hw, hlt', hka', e1, ok1, h1, wrap_i64, List.length_map]
          exact hs
        | true =>
          cases op with
          | true =>
            have hs := next (putB es lo) (by rw [hst]; unfold putE; rw [h1]; rfl)
            simp -implicitDefEqProofs (maxSteps := 600000) (disch := (first | omega | decide)) only [go_sem, ↓reduceIte, Nat.reduceEqDiff, reduceCtorEq, Nat.reduceAdd, Nat.reduceSub, Nat.reduceMul, Nat.reduceLeDiff, Nat.reduceLT, Nat.reduceBEq, Nat.reduceBNe, Int.reduceLE, Int.reduceLT, Int.reduceBEq, Int.reduceBNe, Int.reduceEq, Int.reduceNe, Int.reduceAdd, Int.reduceSub, Int.reduceMul, Int.reduceNeg, Int.reduceToNat, hw, hlt', hka', e1, ok1, h1, p1, wrap_i64, List.length_map]
            exact hs
          | false =>
            have hs := next (putB (putB es lo) hi) (by rw [hst]; unfold putE; rw [h1]; rfl)
            simp -implicitDefEqProofs (maxSteps := 600000) (disch := (first | omega | decide)) only [go_sem, ↓reduceIte, Nat.reduceEqDiff, reduceCtorEq, Nat.reduceAdd, Nat.reduceSub, Nat.reduceMul, Nat.reduceLeDiff, Nat.reduceLT, Nat.reduceBEq, Nat.reduceBNe, Int.reduceLE, Int.reduceLT, Int.reduceBEq, Int.reduceBNe, Int.reduceEq, Int.reduceNe, Int.reduceAdd, Int.reduceSub, Int.reduceMul, Int.reduceNeg, Int.reduceToNat, hw, hlt', hka', e1, ok1, h1, p1, p2, wrap_i64, List.length_map]
            exact hs
      · have hka' : ¬ (k : Int) < (a.length : Int) := by omega
        have hkb : k - a.length < b.length := by omega
        have e1 := rng_get hkb
        have ex : (a ++ b)[k] = b[k - a.length] := List.getElem_append_right (by omega)
        have t0 : ((k : Int) - (a.length : Int)).toNat = k - a.length := by omega
        have t1 : (0 : Int) ≤ (k : Int) - (a.length : Int) := by omega
        rw [ex] at hst hokx
        generalize hx : b[k - a.length] = x at *
        obtain ⟨lo, hi, op⟩ := x
        have ok1 : lo.length ≤ 9223372036854775807 ∧ hi.length ≤ 9223372036854775807 := hokx
        have p1 := t_ref08_put (l := es) (n := lo) (by omega) hok ok1.1
        have p2 := t_ref08_put (l := putB es lo) (n := hi) (by have := putB_len es lo; omega) (fun x hx => by
          rcases (putB_mem es lo x).1 hx with rfl | hx
          · exact ok1.1
          · exact hok x hx) ok1.2
        cases h1 : rightR ⟨lo, hi, op⟩ with
        | false =>
          have hs := next es (by rw [hst]; unfold putE; rw [h1]; rfl)
          simp -implicitDefEqProofs (maxSteps := 600000) (disch := (first | omega | decide)) only [go_sem, ↓reduceIte, Nat.reduceEqDiff, reduceCtorEq, Nat.reduceAdd, Nat.reduceSub, Nat.reduceMul, Nat.reduceLeDiff, Nat.reduceLT, Nat.reduceBEq, Nat.reduceBNe, Int.reduceLE, Int.reduceLT, Int.reduceBEq, Int.reduceBNe, Int.reduceEq, Int.reduceNe, Int.reduceAdd, Int.reduceSub, Int.reduceMul, Int.reduceNeg, Int.reduceToNat, hw, hlt', hka', e1, t0, t1, ok1, h1, wrap_i64, List.length_map]
          exact hs
        | true =>
          cases op with
          | true =>
            have hs := next (putB es lo) (by rw [hst]; unfold putE; rw [h1]; rfl)
            simp -implicitDefEqProofs (maxSteps := 600000) (disch := (first | omega | decide)) only [go_sem, ↓reduceIte, Nat.reduceEqDiff, reduceCtorEq, Nat.reduceAdd, Nat.reduceSub, Nat.reduceMul, Nat.reduceLeDiff, Nat.reduceLT, Nat.reduceBEq, Nat.reduceBNe, Int.reduceLE, Int.reduceLT, Int.reduceBEq, Int.reduceBNe, Int.reduceEq, Int.reduceNe, Int.reduceAdd, Int.reduceSub, Int.reduceMul, Int.reduceNeg, Int.reduceToNat, hw, hlt', hka', e1, t0, t1, ok1, h1, p1, wrap_i64, List.length_map]
            exact hs
          | false =>
            have hs := next (putB (putB es lo) hi) (by rw [hst]; unfold putE; rw [h1]; rfl)
            simp -implicitDefEqProofs (maxSteps := 600000) (disch := (first | omega | decide)) only [go_sem, ↓reduceIte, Nat.reduceEqDiff, reduceCtorEq, Nat.reduceAdd, Nat.reduceSub, Nat.reduceMul, Nat.reduceLeDiff, Nat.reduceLT, Nat.reduceBEq, Nat.reduceBNe, Int.reduceLE, Int.reduceLT, Int.reduceBEq, Int.reduceBNe, Int.reduceEq, Int.reduceNe, Int.reduceAdd, Int.reduceSub, Int.reduceMul, Int.reduceNeg, Int.reduceToNat, hw, hlt', hka', e1, t0, t1, ok1, h1, p1, p2, wrap_i64, List.length_map]
            exact hs
    · have hlt' : ¬ (k : Int) < (((a ++ b).length : Nat) : Int) := by omega
      have hfin : ((a ++ b).take k).foldl putE [[]] = edgesS a b := by rw [List.take_of_length_le (by omega)]; rfl
      simp -implicitDefEqProofs (maxSteps := 600000) (disch := (first | omega | decide)) only [go_sem, ↓reduceIte, Nat.reduceEqDiff, reduceCtorEq, Nat.reduceAdd, Nat.reduceSub, Nat.reduceMul, Nat.reduceLeDiff, Nat.reduceLT, Nat.reduceBEq, Nat.reduceBNe, Int.reduceLE, Int.reduceLT, Int.reduceBEq, Int.reduceBNe, Int.reduceEq, Int.reduceNe, Int.reduceAdd, Int.reduceSub, Int.reduceMul, Int.reduceNeg, Int.reduceToNat, hw, hlt', hfin, List.length_map]
end Go.Proofs.Ytnmkojglcgaobaa
