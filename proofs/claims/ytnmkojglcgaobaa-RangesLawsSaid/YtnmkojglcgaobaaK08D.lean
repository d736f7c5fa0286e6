/- Chapter 08: what the document makes of two lists. -/
import Derived.Test.YtnmkojglcgaobaaK08C
namespace Go.Proofs.Ytnmkojglcgaobaa
open Go.Abs
set_option linter.unusedSimpArgs false
set_option linter.unusedVariables false
set_option maxRecDepth 20000
set_option maxHeartbeats 4000000

/-- 1 what one of both, 2 what both, 3 what a and not b has, 4 what none has. -/
def opS (op : Int) (x y : Bool) : Bool := if op = 1 then x || y else if op = 2 then x && y else if op = 3 then x && !y else !x && !y
noncomputable def T08b : Tab := T08a.add 35 (entry (fun (v : List Rng × List UInt8) => [.slc (v.1.map Rng.enc), .str v.2]) (fun v => v.1.length ≤ 4611686018427387904 ∧ okL v.1 ∧ v.2.length ≤ 9223372036854775807) (fun v => .bool (hasRs v.1 v.2)))
theorem T08b_ok : TabOK Try.prog T08b := T08a_ok.add (callable_of Try.func35 (by kernel_rfl) (by kernel_rfl)) (entry_ok fun v h => c_ref08_Has v.1 v.2 h.1 h.2.1 h.2.2)
@[go_sem] theorem T08b_old {g : FuncId} {xs : List A} (h : g ≠ 35) : T08b.f g xs = T08a.f g xs := Tab.add_ne h
@[go_sem] theorem T08b_eff {g : FuncId} : T08b.eff g = T08a.eff g := rfl
@[go_sem] theorem T08b_frz {g : FuncId} : T08b.frz g = T08a.frz g := rfl
@[go_sem] theorem T08b_effT : T08b.effT = T08a.effT := rfl
@[go_sem] theorem T08b_fix : T08b.fix = T08a.fix := rfl
@[go_sem] theorem T08b_nf : T08b.nf = T08a.nf := rfl
@[go_sem] theorem T08b_ords {n : Nat} : T08b.ords n = T08a.ords n := rfl
@[go_sem] theorem T08b_hp : T08b.hp = T08a.hp := rfl
theorem T08b_ref08_Has (v : List Rng × List UInt8) (h : v.1.length ≤ 4611686018427387904 ∧ okL v.1 ∧ v.2.length ≤ 9223372036854775807) : T08b.f 35 [.slc (v.1.map Rng.enc), .str v.2] = some (.bool (hasRs v.1 v.2)) :=
  (Tab.add_eq : T08b.f 35 [.slc (v.1.map Rng.enc), .str v.2] = (entry (fun (v : List Rng × List UInt8) => [.slc (v.1.map Rng.enc), .str v.2]) (fun v => v.1.length ≤ 4611686018427387904 ∧ okL v.1 ∧ v.2.length ≤ 9223372036854775807) (fun v => .bool (hasRs v.1 v.2))) [.slc (v.1.map Rng.enc), .str v.2]).trans (entry_eq (fun i j h => by first | (cases i; cases j; rfl; done) | simpa [Prod.ext_iff, and_assoc] using h | (simp at h; omega)) v h)
theorem t_ref08_Has {l : List Rng} {s : List UInt8} (h : l.length ≤ 4611686018427387904) (h1 : okL l) (h2 : s.length ≤ 9223372036854775807) : T08b.f 35 [.slc (l.map Rng.enc), .str s] = some (.bool (hasRs l s)) := T08b_ref08_Has (l, s) ⟨h, h1, h2⟩
theorem ok_ref08_In : codeOK Try.prog T08b Try.f70.ntmps (Try.f70.body.getD .skip) = true := by kernel_rfl
theorem c_ref08_In (op : Int) (a b : List Rng) (s : List UInt8) (ha : a.length ≤ 1000) (hb : b.length ≤ 1000) (oka : okL a) (okb : okL b) (hs : s.length ≤ 9223372036854775807) : CallA Try.prog 70 [.int .i64 op, .slc (a.map Rng.enc), .slc (b.map Rng.enc), .str s] (· = .bool (opS op (hasRs a s) (hasRs b s))) := by
  refine callA_of_body T08b_ok mixed Try.func70 rfl (Nat.le_of_ble_eq_true rfl) ok_ref08_In ?_
  unfold Try.f70
  have h1 := t_ref08_Has (l := a) (s := s) (by omega) oka hs
  have h2 := t_ref08_Has (l := b) (s := s) (by omega) okb hs
  unfold opS
  generalize hasRs a s = x at *
  generalize hasRs b s = y at *
  by_cases o1 : op = 1
  · subst o1
    cases x <;> simp -implicitDefEqProofs (maxSteps := 600000) (disch := (first | omega | decide)) only [go_sem, ↓reduceIte, Nat.reduceEqDiff, reduceCtorEq, Nat.reduceAdd, Nat.reduceSub, Nat.reduceMul, Nat.reduceLeDiff, Nat.reduceLT, Nat.reduceBEq, Nat.reduceBNe, Int.reduceLE, Int.reduceLT, Int.reduceBEq, Int.reduceBNe, Int.reduceEq, Int.reduceNe, Int.reduceAdd, Int.reduceSub, Int.reduceMul, Int.reduceNeg, Int.reduceToNat, h1, h2]
  · have n1 : (op == 1) = false := by simpa using o1
    by_cases o2 : op = 2
    · subst o2
      cases x <;> simp -implicitDefEqProofs (maxSteps := 600000) (disch := (first | omega | decide)) only [go_sem, ↓reduceIte, Nat.reduceEqDiff, reduceCtorEq, Nat.reduceAdd, Nat.reduceSub, Nat.reduceMul, Nat.reduceLeDiff, Nat.reduceLT, Nat.reduceBEq, Nat.reduceBNe, Int.reduceLE, Int.reduceLT, Int.reduceBEq, Int.reduceBNe, Int.reduceEq, Int.reduceNe, Int.reduceAdd, Int.reduceSub, Int.reduceMul, Int.reduceNeg, Int.reduceToNat, h1, h2]
    · have n2 : (op == 2) = false := by simpa using o2
      by_cases o3 : op = 3
      · subst o3
        cases x <;> simp -implicitDefEqProofs (maxSteps := 600000) (disch := (first | omega | decide)) only [go_sem, ↓reduceIte, Nat.reduceEqDiff, reduceCtorEq, Nat.reduceAdd, Nat.reduceSub, Nat.reduceMul, Nat.reduceLeDiff, Nat.reduceLT, Nat.reduceBEq, Nat.reduceBNe, Int.reduceLE, Int.reduceLT, Int.reduceBEq, Int.reduceBNe, Int.reduceEq, Int.reduceNe, Int.reduceAdd, Int.reduceSub, Int.reduceMul, Int.reduceNeg, Int.reduceToNat, h1, h2]
      · have n3 : (op == 3) = false := by simpa using o3
        cases x <;> simp -implicitDefEqProofs (maxSteps := 600000) (disch := (first | omega | decide)) only [go_sem, ↓reduceIte, Nat.reduceEqDiff, reduceCtorEq, Nat.reduceAdd, Nat.reduceSub, Nat.reduceMul, Nat.reduceLeDiff, Nat.reduceLT, Nat.reduceBEq, Nat.reduceBNe, Int.reduceLE, Int.reduceLT, Int.reduceBEq, Int.reduceBNe, Int.reduceEq, Int.reduceNe, Int.reduceAdd, Int.reduceSub, Int.reduceMul, Int.reduceNeg, Int.reduceToNat, h1, h2, n1, n2, n3, o1, o2, o3]
noncomputable def T08c : Tab := T08b.add 70 (entry (fun (v : Int × List Rng × List Rng × List UInt8) => [.int .i64 v.1, .slc (v.2.1.map Rng.enc), .slc (v.2.2.1.map Rng.enc), .str v.2.2.2]) (fun v => v.2.1.length ≤ 1000 ∧ v.2.2.1.length ≤ 1000 ∧ okL v.2.1 ∧ okL v.2.2.1 ∧ v.2.2.2.length ≤ 9223372036854775807) (fun v => .bool (opS v.1 (hasRs v.2.1 v.2.2.2) (hasRs v.2.2.1 v.2.2.2))))
theorem T08c_ok : TabOK Try.prog T08c := T08b_ok.add (callable_of Try.func70 (by kernel_rfl) (by kernel_rfl)) (entry_ok fun v h => c_ref08_In v.1 v.2.1 v.2.2.1 v.2.2.2 h.1 h.2.1 h.2.2.1 h.2.2.2.1 h.2.2.2.2)
@[go_sem] theorem T08c_old {g : FuncId} {xs : List A} (h : g ≠ 70) : T08c.f g xs = T08b.f g xs := Tab.add_ne h
@[go_sem] theorem T08c_eff {g : FuncId} : T08c.eff g = T08b.eff g := rfl
@[go_sem] theorem T08c_frz {g : FuncId} : T08c.frz g = T08b.frz g := rfl
@[go_sem] theorem T08c_effT : T08c.effT = T08b.effT := rfl
@[go_sem] theorem T08c_fix : T08c.fix = T08b.fix := rfl
@[go_sem] theorem T08c_nf : T08c.nf = T08b.nf := rfl
@[go_sem] theorem T08c_ords {n : Nat} : T08c.ords n = T08b.ords n := rfl
@[go_sem] theorem T08c_hp : T08c.hp = T08b.hp := rfl
theorem T08c_ref08_In (v : Int × List Rng × List Rng × List UInt8) (h : v.2.1.length ≤ 1000 ∧ v.2.2.1.length ≤ 1000 ∧ okL v.2.1 ∧ okL v.2.2.1 ∧ v.2.2.2.length ≤ 9223372036854775807) : T08c.f 70 [.int .i64 v.1, .slc (v.2.1.map Rng.enc), .slc (v.2.2.1.map Rng.enc), .str v.2.2.2] = some (.bool (opS v.1 (hasRs v.2.1 v.2.2.2) (hasRs v.2.2.1 v.2.2.2))) :=
  (Tab.add_eq : T08c.f 70 [.int .i64 v.1, .slc (v.2.1.map Rng.enc), .slc (v.2.2.1.map Rng.enc), .str v.2.2.2] = (entry (fun (v : Int × List Rng × List Rng × List UInt8) => [.int .i64 v.1, .slc (v.2.1.map Rng.enc), .slc (v.2.2.1.map Rng.enc), .str v.2.2.2]) (fun v => v.2.1.length ≤ 1000 ∧ v.2.2.1.length ≤ 1000 ∧ okL v.2.1 ∧ okL v.2.2.1 ∧ v.2.2.2.length ≤ 9223372036854775807) (fun v => .bool (opS v.1 (hasRs v.2.1 v.2.2.2) (hasRs v.2.2.1 v.2.2.2)))) [.int .i64 v.1, .slc (v.2.1.map Rng.enc), .slc (v.2.2.1.map Rng.enc), .str v.2.2.2]).trans (entry_eq (fun i j h => by first | (cases i; cases j; rfl; done) | simpa [Prod.ext_iff, and_assoc] using h | (simp at h; omega)) v h)
theorem t_ref08_In {op : Int} {a b : List Rng} {s : List UInt8} (ha : a.length ≤ 1000) (hb : b.length ≤ 1000) (oka : okL a) (okb : okL b) (hs : s.length ≤ 9223372036854775807) : T08c.f 70 [.int .i64 op, .slc (a.map Rng.enc), .slc (b.map Rng.enc), .str s] = some (.bool (opS op (hasRs a s) (hasRs b s))) := T08c_ref08_In (op, a, b, s) ⟨ha, hb, oka, okb, hs⟩
noncomputable def T08d : Tab := T08c.add 69 (entry (fun (v : List Rng × List Rng) => [.slc (v.1.map Rng.enc), .slc (v.2.map Rng.enc)]) (fun v => v.1.length ≤ 1000 ∧ v.2.length ≤ 1000 ∧ okL v.1 ∧ okL v.2) (fun v => .slc ((edgesS v.1 v.2).map .str)))
theorem T08d_ok : TabOK Try.prog T08d := T08c_ok.add (callable_of Try.func69 (by kernel_rfl) (by kernel_rfl)) (entry_ok fun v h => c_ref08_Edges v.1 v.2 h.1 h.2.1 h.2.2.1 h.2.2.2)
@[go_sem] theorem T08d_old {g : FuncId} {xs : List A} (h : g ≠ 69) : T08d.f g xs = T08c.f g xs := Tab.add_ne h
@[go_sem] theorem T08d_eff {g : FuncId} : T08d.eff g = T08c.eff g := rfl
@[go_sem] theorem T08d_frz {g : FuncId} : T08d.frz g = T08c.frz g := rfl
@[go_sem] theorem T08d_effT : T08d.effT = T08c.effT := rfl
@[go_sem] theorem T08d_fix : T08d.fix = T08c.fix := rfl
@[go_sem] theorem T08d_nf : T08d.nf = T08c.nf := rfl
@[go_sem] theorem T08d_ords {n : Nat} : T08d.ords n = T08c.ords n := rfl
@[go_sem] theorem T08d_hp : T08d.hp = T08c.hp := rfl
theorem T08d_ref08_Edges (v : List Rng × List Rng) (h : v.1.length ≤ 1000 ∧ v.2.length ≤ 1000 ∧ okL v.1 ∧ okL v.2) : T08d.f 69 [.slc (v.1.map Rng.enc), .slc (v.2.map Rng.enc)] = some (.slc ((edgesS v.1 v.2).map .str)) :=
  (Tab.add_eq : T08d.f 69 [.slc (v.1.map Rng.enc), .slc (v.2.map Rng.enc)] = (entry (fun (v : List Rng × List Rng) => [.slc (v.1.map Rng.enc), .slc (v.2.map Rng.enc)]) (fun v => v.1.length ≤ 1000 ∧ v.2.length ≤ 1000 ∧ okL v.1 ∧ okL v.2) (fun v => .slc ((edgesS v.1 v.2).map .str))) [.slc (v.1.map Rng.enc), .slc (v.2.map Rng.enc)]).trans (entry_eq (fun i j h => by first | (cases i; cases j; rfl; done) | simpa [Prod.ext_iff, and_assoc] using h | (simp at h; omega)) v h)
theorem t_ref08_Edges {a b : List Rng} (ha : a.length ≤ 1000) (hb : b.length ≤ 1000) (oka : okL a) (okb : okL b) : T08d.f 69 [.slc (a.map Rng.enc), .slc (b.map Rng.enc)] = some (.slc ((edgesS a b).map .str)) := T08d_ref08_Edges (a, b) ⟨ha, hb, oka, okb⟩
/-- The row that stands for ranges, the last first. -/
def rowS (acc : List Rng) : List A := acc.reverse.map Rng.enc
theorem rowS_cons (q : Rng) (qs : List Rng) : rowS (q :: qs) = rowS qs ++ [.agg [.str q.lo, .str q.hi, .bool q.op]] := by
  simp [rowS, Rng.enc]
theorem rowS_len (l : List Rng) : (rowS l).length = l.length := by simp [rowS]
theorem rowS_nil : rowS [] = [] := rfl
theorem str_get {l : List (List UInt8)} {k : Nat} (h : k < l.length) : (l.map A.str)[k]? = some (.str l[k]) := by
  rw [List.getElem?_map, List.getElem?_eq_getElem h]; rfl
section
variable (q : Rng) (qs : List Rng)
theorem rowS_get : (rowS qs ++ [A.agg [.str q.lo, .str q.hi, .bool q.op]])[qs.length]? = some (.agg [.str q.lo, .str q.hi, .bool q.op]) := by
  have := get_last (x := A.agg [.str q.lo, .str q.hi, .bool q.op]) (l := rowS qs)
  rwa [rowS_len] at this
theorem rowS_get' (x : A) : (rowS qs ++ [x])[qs.length]? = some x := by
  have := get_last (x := x) (l := rowS qs)
  rwa [rowS_len] at this
theorem rowS_set (x v : A) : setNth (rowS qs ++ [x]) qs.length v = rowS qs ++ [v] := by
  have := setNth_last (x := x) (v := v) (l := rowS qs)
  rwa [rowS_len] at this
theorem rowS_full (x : A) : (rowS qs ++ [x]).length = qs.length + 1 := by rw [List.length_append, rowS_len]; rfl
theorem rowS_take (x : A) : (rowS qs ++ [x]).take (qs.length + 1) = rowS qs ++ [x] := List.take_of_length_le (Nat.le_of_eq (rowS_full qs x))
end
theorem ok_ref08_Make : codeOK Try.prog T08d Try.f34.ntmps (Try.f34.body.getD .skip) = true := by kernel_rfl
theorem c_ref08_Make (op : Int) (a b : List Rng) (ha : a.length ≤ 1000) (hb : b.length ≤ 1000) (oka : okL a) (okb : okL b) : CallA Try.prog 34 [.int .i64 op, .slc (a.map Rng.enc), .slc (b.map Rng.enc)] (· = .slc ((setS fun s => opS op (hasRs a s) (hasRs b s)).map Rng.enc)) := by
  refine callA_of_body T08d_ok mixed Try.func34 rfl (Nat.le_of_ble_eq_true rfl) ok_ref08_Make ?_
  unfold Try.f34
  have he := t_ref08_Edges ha hb oka okb
  have hel := edgesS_len a b
  have h17 := edgesS_len17 a b
  have hset := (mk_of (kp := opS op) (a := a) (b := b) (edgesS_up a b) (edgesS_nil a b) h17 (fun r hr => edgesS_all a b r (by simp [hr])) (fun r hr => edgesS_all a b r (by simp [hr]))).1
  simp -implicitDefEqProofs (maxSteps := 600000) (disch := (first | omega | decide)) only [go_sem, ↓reduceIte, Nat.reduceEqDiff, reduceCtorEq, Nat.reduceAdd, Nat.reduceSub, Nat.reduceMul, Nat.reduceLeDiff, Nat.reduceLT, Nat.reduceBEq, Nat.reduceBNe, Int.reduceLE, Int.reduceLT, Int.reduceBEq, Int.reduceBNe, Int.reduceEq, Int.reduceNe, Int.reduceAdd, Int.reduceSub, Int.reduceMul, Int.reduceNeg, Int.reduceToNat, he, List.length_map]
  rw [← hset]
  generalize edgesS a b = e at *
  have hP : ∀ s : List UInt8, s.length ≤ 17 → T08c.f 70 [.int .i64 op, .slc (a.map Rng.enc), .slc (b.map Rng.enc), .str s] = some (.bool ((fun s => opS op (hasRs a s) (hasRs b s)) s)) := fun s hs => t_ref08_In ha hb oka okb (by omega)
  generalize (fun s => opS op (hasRs a s) (hasRs b s)) = P at *
  clear hset
  refine wpA_loop_nil 8 3 rfl ?_
  refine wpA_loop [0, 1, 2, 6, 7] (ι := {k : Nat // k ≤ e.length}) (fun p => [(10, .int .i64 p.1), (9, .bool (mkS P (e.take p.1)).2), (8, .row 0 0 3 (mkS P (e.take p.1)).1.length false)]) (fun p => [(0, .row 3 (rowS (mkS P (e.take p.1)).1))]) (fun p => e.length - p.1) ⟨0, by omega⟩ (Nat.zero_le _) ?_ ?_
  · simp -implicitDefEqProofs (maxSteps := 600000) (disch := (first | omega | decide)) only [go_sem, ↓reduceIte, Nat.reduceEqDiff, reduceCtorEq, Nat.reduceAdd, Nat.reduceSub, Nat.reduceMul, Nat.reduceLeDiff, Nat.reduceLT, Nat.reduceBEq, Nat.reduceBNe, Int.reduceLE, Int.reduceLT, Int.reduceBEq, Int.reduceBNe, Int.reduceEq, Int.reduceNe, Int.reduceAdd, Int.reduceSub, Int.reduceMul, Int.reduceNeg, Int.reduceToNat, List.take_zero]
    simp [mkS, rowS]
  · rintro ⟨k, hk⟩
    simp only
    have hlen := mkS_len P (e.take k) ([], false)
    have hwas := mkS_was P (e.take k) ([], false) (by simp)
    have hml : (mkS P (e.take k)).1.length ≤ k := by
      have : (mkS P (e.take k)).1.length ≤ 0 + (e.take k).length := hlen
      rw [List.length_take] at this; omega
    have hwas' : (mkS P (e.take k)).2 = true → (mkS P (e.take k)).1 ≠ [] := hwas
    clear hlen hwas
    by_cases hlt : k < e.length
    · have hlt' : (k : Int) < (e.length : Int) := by omega
      have e1 := str_get hlt
      have hs17 := h17 _ (List.getElem_mem hlt)
      have hp := hP _ hs17
      have hst := mkS_step P e k hlt
      have next : ∀ st, mkS P (e.take (k + 1)) = st → ∃ j : {k : Nat // k ≤ e.length}, (((k : Int) + 1 = (j.1 : Int) ∧ st.2 = (mkS P (e.take j.1)).2 ∧ st.1.length = (mkS P (e.take j.1)).1.length) ∧ rowS st.1 = rowS (mkS P (e.take j.1)).1) ∧ e.length - j.1 < e.length - k := fun st h => ⟨⟨k + 1, hlt⟩, ⟨⟨by simp, by rw [h], by rw [h]⟩, by rw [h]⟩, by show e.length - (k + 1) < e.length - k; omega⟩
      have nx := next _ hst
      clear next hst hP
      generalize mkS P (e.take k) = st at *
      generalize e[k] = s at *
      obtain ⟨m, was⟩ := st
      simp only at hml hwas' nx ⊢
      simp only [stS] at nx
      cases hps : P s <;> rw [hps] at hp nx <;> cases was
      · simp -implicitDefEqProofs (maxSteps := 600000) (disch := (first | omega | decide)) only [go_sem, ↓reduceIte, Nat.reduceEqDiff, reduceCtorEq, Nat.reduceAdd, Nat.reduceSub, Nat.reduceMul, Nat.reduceLeDiff, Nat.reduceLT, Nat.reduceBEq, Nat.reduceBNe, Int.reduceLE, Int.reduceLT, Int.reduceBEq, Int.reduceBNe, Int.reduceEq, Int.reduceNe, Int.reduceAdd, Int.reduceSub, Int.reduceMul, Int.reduceNeg, Int.reduceToNat, hlt', e1, hp, wrap_i64, List.length_map]
        exact nx
      · cases m with
        | nil => exact absurd rfl (hwas' rfl)
        | cons q qs =>
          rw [rowS_cons]
          have c1 : (((qs.length + 1 : Nat) : Int) - 1).toNat = qs.length := by omega
          have c2 : (0 : Int) ≤ ((qs.length + 1 : Nat) : Int) - 1 := by omega
          have c3 : ((qs.length + 1 : Nat) : Int) - 1 < ((qs.length + 1 : Nat) : Int) := by omega
          have hq : qs.length + 1 ≤ k := hml
          simp -implicitDefEqProofs (maxSteps := 600000) (disch := (first | omega | decide)) only [go_sem, ↓reduceIte, Nat.reduceEqDiff, reduceCtorEq, Nat.reduceAdd, Nat.reduceSub, Nat.reduceMul, Nat.reduceLeDiff, Nat.reduceLT, Nat.reduceBEq, Nat.reduceBNe, Int.reduceLE, Int.reduceLT, Int.reduceBEq, Int.reduceBNe, Int.reduceEq, Int.reduceNe, Int.reduceAdd, Int.reduceSub, Int.reduceMul, Int.reduceNeg, Int.reduceToNat, hlt', e1, hp, c1, c2, c3, rowS_get', rowS_set, wrap_i64, List.length_map]
          obtain ⟨j, h⟩ := nx
          refine ⟨j, ?_⟩
          simpa [rowS_cons] using h
      · cases m with
        | nil =>
          rw [rowS_nil]
          simp -implicitDefEqProofs (maxSteps := 600000) (disch := (first | omega | decide)) only [go_sem, ↓reduceIte, Nat.reduceEqDiff, reduceCtorEq, Nat.reduceAdd, Nat.reduceSub, Nat.reduceMul, Nat.reduceLeDiff, Nat.reduceLT, Nat.reduceBEq, Nat.reduceBNe, Int.reduceLE, Int.reduceLT, Int.reduceBEq, Int.reduceBNe, Int.reduceEq, Int.reduceNe, Int.reduceAdd, Int.reduceSub, Int.reduceMul, Int.reduceNeg, Int.reduceToNat, hlt', e1, hp, wrap_i64, List.length_map]
          exact nx
        | cons q qs =>
          rw [rowS_cons]
          have hq : qs.length + 1 ≤ k := hml
          simp -implicitDefEqProofs (maxSteps := 600000) (disch := (first | omega | decide)) only [go_sem, ↓reduceIte, Nat.reduceEqDiff, reduceCtorEq, Nat.reduceAdd, Nat.reduceSub, Nat.reduceMul, Nat.reduceLeDiff, Nat.reduceLT, Nat.reduceBEq, Nat.reduceBNe, Int.reduceLE, Int.reduceLT, Int.reduceBEq, Int.reduceBNe, Int.reduceEq, Int.reduceNe, Int.reduceAdd, Int.reduceSub, Int.reduceMul, Int.reduceNeg, Int.reduceToNat, hlt', e1, hp, rowS_full, rowS_take, wrap_i64, List.length_map]
          refine ⟨⟨Nat.le_refl _, by omega⟩, ?_⟩
          obtain ⟨j, h⟩ := nx
          refine ⟨j, ?_⟩
          simpa [rowS_cons] using h
      · simp -implicitDefEqProofs (maxSteps := 600000) (disch := (first | omega | decide)) only [go_sem, ↓reduceIte, Nat.reduceEqDiff, reduceCtorEq, Nat.reduceAdd, Nat.reduceSub, Nat.reduceMul, Nat.reduceLeDiff, Nat.reduceLT, Nat.reduceBEq, Nat.reduceBNe, Int.reduceLE, Int.reduceLT, Int.reduceBEq, Int.reduceBNe, Int.reduceEq, Int.reduceNe, Int.reduceAdd, Int.reduceSub, Int.reduceMul, Int.reduceNeg, Int.reduceToNat, hlt', e1, hp, wrap_i64, List.length_map]
        exact nx
    · have hlt' : ¬ (k : Int) < (e.length : Int) := by omega
      rw [List.take_of_length_le (by omega)] at *
      have hll : (mkS P e).1.length = (rowS (mkS P e).1).length := by rw [rowS_len]
      simp -implicitDefEqProofs (maxSteps := 600000) (disch := (first | omega | decide)) only [go_sem, ↓reduceIte, Nat.reduceEqDiff, reduceCtorEq, Nat.reduceAdd, Nat.reduceSub, Nat.reduceMul, Nat.reduceLeDiff, Nat.reduceLT, Nat.reduceBEq, Nat.reduceBNe, Int.reduceLE, Int.reduceLT, Int.reduceBEq, Int.reduceBNe, Int.reduceEq, Int.reduceNe, Int.reduceAdd, Int.reduceSub, Int.reduceMul, Int.reduceNeg, Int.reduceToNat, hlt', wrap_i64, hll, List.length_map, List.take_length]
      exact ⟨Nat.le_refl _, rfl⟩
end Go.Proofs.Ytnmkojglcgaobaa
