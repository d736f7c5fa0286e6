/- Chapter 13: what the document makes of two lists. -/
import Derived.Test.YtbnmicpgbcfooaaK13D
namespace Go.Proofs.Ytbnmicpgbcfooaa
open Go.Abs
set_option linter.unusedSimpArgs false
set_option linter.unusedVariables false
set_option maxRecDepth 20000
set_option maxHeartbeats 4000000

noncomputable def T13d : Tab := T13c.add 39 (entry (fun (v : List Run × Int) => [.slc (v.1.map Run.enc), .int .i64 v.2]) (fun v => v.1.length ≤ 4611686018427387904) (fun v => .bool (hasL13 v.1 v.2)))
theorem T13d_ok : TabOK Try.prog T13d := T13c_ok.add (callable_of Try.func39 (by kernel_rfl) (by kernel_rfl)) (entry_ok fun v h => c_ref13_Has v.1 v.2 h)
@[go_sem] theorem T13d_old {g : FuncId} {xs : List A} (h : g ≠ 39) : T13d.f g xs = T13c.f g xs := Tab.add_ne h
@[go_sem] theorem T13d_eff {g : FuncId} : T13d.eff g = T13c.eff g := rfl
@[go_sem] theorem T13d_frz {g : FuncId} : T13d.frz g = T13c.frz g := rfl
@[go_sem] theorem T13d_effT : T13d.effT = T13c.effT := rfl
@[go_sem] theorem T13d_fix : T13d.fix = T13c.fix := rfl
@[go_sem] theorem T13d_nf : T13d.nf = T13c.nf := rfl
@[go_sem] theorem T13d_ords {n : Nat} : T13d.ords n = T13c.ords n := rfl
@[go_sem] theorem T13d_hp : T13d.hp = T13c.hp := rfl
theorem T13d_ref13_Has (v : List Run × Int) (h : v.1.length ≤ 4611686018427387904) : T13d.f 39 [.slc (v.1.map Run.enc), .int .i64 v.2] = some (.bool (hasL13 v.1 v.2)) :=
  (Tab.add_eq : T13d.f 39 [.slc (v.1.map Run.enc), .int .i64 v.2] = (entry (fun (v : List Run × Int) => [.slc (v.1.map Run.enc), .int .i64 v.2]) (fun v => v.1.length ≤ 4611686018427387904) (fun v => .bool (hasL13 v.1 v.2))) [.slc (v.1.map Run.enc), .int .i64 v.2]).trans (entry_eq (fun i j h => by first | (cases i; cases j; rfl; done) | simpa [Prod.ext_iff, and_assoc] using h | (simp at h; omega)) v h)
@[go_sem] theorem t_ref13_Has {l : List Run} {n : Int} (h : l.length ≤ 4611686018427387904) : T13d.f 39 [.slc (l.map Run.enc), .int .i64 n] = some (.bool (hasL13 l n)) := T13d_ref13_Has (l, n) h
noncomputable def T13e : Tab := T13d.add 53 (entry (fun (v : List Run × List Run) => [.slc (v.1.map Run.enc), .slc (v.2.map Run.enc)]) (fun v => v.1.length ≤ 1000 ∧ v.2.length ≤ 1000) (fun v => .slc ((edges2 v.1 v.2).map (A.int .i64))))
theorem T13e_ok : TabOK Try.prog T13e := T13d_ok.add (callable_of Try.func53 (by kernel_rfl) (by kernel_rfl)) (entry_ok fun v h => c_ref13_Edges v.1 v.2 h.1 h.2)
@[go_sem] theorem T13e_old {g : FuncId} {xs : List A} (h : g ≠ 53) : T13e.f g xs = T13d.f g xs := Tab.add_ne h
@[go_sem] theorem T13e_eff {g : FuncId} : T13e.eff g = T13d.eff g := rfl
@[go_sem] theorem T13e_frz {g : FuncId} : T13e.frz g = T13d.frz g := rfl
@[go_sem] theorem T13e_effT : T13e.effT = T13d.effT := rfl
@[go_sem] theorem T13e_fix : T13e.fix = T13d.fix := rfl
@[go_sem] theorem T13e_nf : T13e.nf = T13d.nf := rfl
@[go_sem] theorem T13e_ords {n : Nat} : T13e.ords n = T13d.ords n := rfl
@[go_sem] theorem T13e_hp : T13e.hp = T13d.hp := rfl
theorem T13e_ref13_Edges (v : List Run × List Run) (h : v.1.length ≤ 1000 ∧ v.2.length ≤ 1000) : T13e.f 53 [.slc (v.1.map Run.enc), .slc (v.2.map Run.enc)] = some (.slc ((edges2 v.1 v.2).map (A.int .i64))) :=
  (Tab.add_eq : T13e.f 53 [.slc (v.1.map Run.enc), .slc (v.2.map Run.enc)] = (entry (fun (v : List Run × List Run) => [.slc (v.1.map Run.enc), .slc (v.2.map Run.enc)]) (fun v => v.1.length ≤ 1000 ∧ v.2.length ≤ 1000) (fun v => .slc ((edges2 v.1 v.2).map (A.int .i64)))) [.slc (v.1.map Run.enc), .slc (v.2.map Run.enc)]).trans (entry_eq (fun i j h => by first | (cases i; cases j; rfl; done) | simpa [Prod.ext_iff, and_assoc] using h | (simp at h; omega)) v h)
@[go_sem] theorem t_ref13_Edges {a b : List Run} (h : a.length ≤ 1000 ∧ b.length ≤ 1000) : T13e.f 53 [.slc (a.map Run.enc), .slc (b.map Run.enc)] = some (.slc ((edges2 a b).map (A.int .i64))) := T13e_ref13_Edges (a, b) h
theorem setNth_last {α : List A} {x v : A} : ∀ {l : List A}, setNth (l ++ [x]) l.length v = l ++ [v]
  | [] => rfl
  | y :: l => by simp only [List.cons_append, List.length_cons, setNth, setNth_last (α := α)]
theorem get_last {x : A} : ∀ {l : List A}, (l ++ [x])[l.length]? = some x
  | [] => rfl
  | y :: l => by simp [get_last]
theorem int_get {l : List Int} {k : Nat} (h : k < l.length) : (l.map (A.int .i64))[k]? = some (.int .i64 (l[k]!)) := by
  rw [List.getElem?_map, List.getElem?_eq_getElem h, getElem!_pos l k h]; rfl
/-- The row that stands for runs, the last first. -/
def rowR (acc : List Run) : List A := acc.reverse.map Run.enc
theorem rowR_cons (q : Run) (qs : List Run) : rowR (q :: qs) = rowR qs ++ [.agg [.int .i64 q.f, .int .i64 q.t]] := by
  simp [rowR, Run.enc, Run.cells]
theorem rowR_len (l : List Run) : (rowR l).length = l.length := by simp [rowR]
theorem rowR_nil : rowR [] = [] := rfl
def opOK (op : Int) : Prop := op = 1 ∨ op = 2 ∨ op = 3
theorem ok_ref13_Make : codeOK Try.prog T13e Try.f31.ntmps (Try.f31.body.getD .skip) = true := by kernel_rfl
theorem c_ref13_Make (op : Int) (a b : List Run) (ho : opOK op) (ha : a.length ≤ 1000) (hb : b.length ≤ 1000) : CallA Try.prog 31 [.int .i64 op, .slc (a.map Run.enc), .slc (b.map Run.enc)] (· = .slc ((setR (opP op a b)).map Run.enc)) := by
  refine callA_of_body T13e_ok mixed Try.func31 rfl (Nat.le_of_ble_eq_true rfl) ok_ref13_Make ?_
  unfold Try.f31
  have hel := edges2_len a b
  have hall := mkA_all op a b
  have hspec := mkA_spec op a b
  have hup := edges2_up a b
  have hrng : ∀ k, k < (edges2 a b).length → 1 ≤ (edges2 a b)[k]! ∧ (edges2 a b)[k]! ≤ 1099511627777 := fun k hk => edges2_range (a := a) (b := b) (by rw [getElem!_pos _ k hk]; exact List.getElem_mem _)
  simp -implicitDefEqProofs (maxSteps := 600000) (disch := (first | omega | decide)) only [go_sem, ↓reduceIte, Nat.reduceEqDiff, reduceCtorEq, Nat.reduceAdd, Nat.reduceSub, Nat.reduceMul, Nat.reduceLeDiff, Nat.reduceLT, Nat.reduceBEq, Nat.reduceBNe, Int.reduceLE, Int.reduceLT, Int.reduceBEq, Int.reduceBNe, Int.reduceEq, Int.reduceNe, Int.reduceAdd, Int.reduceSub, Int.reduceMul, Int.reduceNeg, Int.reduceToNat, List.length_map, ha, hb]
  generalize he : edges2 a b = e at *
  refine wpA_loop_nil 8 2 rfl ?_
  refine wpA_loop [0, 1, 2, 6, 7] (ι := {k : Nat // k ≤ e.length - 1}) (fun p => [(9, .int .i64 p.1), (8, .row 0 0 2 (mkA (opP op a b) e p.1).length false)]) (fun p => [(0, .row 2 (rowR (mkA (opP op a b) e p.1)))]) (fun p => e.length - p.1) ⟨0, by omega⟩ (Nat.zero_le _) ?_ ?_
  · simp -implicitDefEqProofs (maxSteps := 600000) (disch := (first | omega | decide)) only [go_sem, ↓reduceIte, Nat.reduceEqDiff, reduceCtorEq, Nat.reduceAdd, Nat.reduceSub, Nat.reduceMul, Nat.reduceLeDiff, Nat.reduceLT, Nat.reduceBEq, Nat.reduceBNe, Int.reduceLE, Int.reduceLT, Int.reduceBEq, Int.reduceBNe, Int.reduceEq, Int.reduceNe, Int.reduceAdd, Int.reduceSub, Int.reduceMul, Int.reduceNeg, Int.reduceToNat, mkA, rowR_nil]
    done
  · rintro ⟨k, hk⟩
    simp only
    have hlen := mkA_len (opP op a b) e k
    by_cases hlt : k + 1 < e.length
    · have hlt' : (k : Int) + 1 < (e.length : Int) := by omega
      have e1 := int_get (l := e) (k := k) (by omega)
      have e2 := int_get (l := e) (k := k + 1) hlt
      obtain ⟨s1, s2, s3, s4⟩ := hspec k (by omega)
      have hxy := up_get hup (Nat.lt_succ_self k) hlt
      have r1 := hrng k (by omega)
      have r2 := hrng (k + 1) hlt
      have hmk : mkA (opP op a b) e (k + 1) = if opP op a b (e[k]!) then pushJ (mkA (opP op a b) e k) ⟨e[k]!, e[k + 1]! - 1⟩ else mkA (opP op a b) e k := rfl
      generalize hx : e[k]! = x at *
      generalize hy : e[k + 1]! = y at *
      generalize hm : mkA (opP op a b) e k = m at *
      have hP : opP op a b x = opF op (hasL13 a x) (hasL13 b x) := rfl
      have t1 : ((k : Int) + 1).toNat = k + 1 := by omega
      have t2 : (0 : Int) ≤ (k : Int) + 1 := by omega
      have t3 : (0 : Int) ≤ (k : Int) := by omega
      have skip : opP op a b x = false → mkA (opP op a b) e (k + 1) = m := fun h => by rw [hmk, h]; rfl
      have fin : ∀ m', mkA (opP op a b) e (k + 1) = m' → ∃ j : {k : Nat // k ≤ e.length - 1}, (((k : Int) + 1 = (j.1 : Int) ∧ m'.length = (mkA (opP op a b) e j.1).length) ∧ rowR m' = rowR (mkA (opP op a b) e j.1)) ∧ e.length - j.1 < e.length - k := fun m' hm' => ⟨⟨k + 1, by omega⟩, ⟨⟨by simp, by rw [hm']⟩, by rw [hm']⟩, by show e.length - (k + 1) < e.length - k; omega⟩
      cases hp : opP op a b x with
      | false =>
        have hs := skip hp
        rcases ho with rfl | rfl | rfl <;> cases hax : hasL13 a x <;> cases hbx : hasL13 b x <;> rw [hax, hbx] at hP <;> simp [opF, hp] at hP <;> simp -implicitDefEqProofs (maxSteps := 600000) (disch := (first | omega | decide)) only [go_sem, ↓reduceIte, Nat.reduceEqDiff, reduceCtorEq, Nat.reduceAdd, Nat.reduceSub, Nat.reduceMul, Nat.reduceLeDiff, Nat.reduceLT, Nat.reduceBEq, Nat.reduceBNe, Int.reduceLE, Int.reduceLT, Int.reduceBEq, Int.reduceBNe, Int.reduceEq, Int.reduceNe, Int.reduceAdd, Int.reduceSub, Int.reduceMul, Int.reduceNeg, Int.reduceToNat, hlt', e1, e2, hax, hbx, t1, t2, t3, wrap_i64, List.length_map]
        all_goals exact fin m hs
      | true =>
        have hs : mkA (opP op a b) e (k + 1) = pushJ m ⟨x, y - 1⟩ := by rw [hmk, hp]; rfl
        have fin' := fin _ hs
        cases m with
        | nil =>
          rw [rowR_nil]
          rcases ho with rfl | rfl | rfl <;> cases hax : hasL13 a x <;> cases hbx : hasL13 b x <;> rw [hax, hbx] at hP <;> simp [opF, hp] at hP <;> simp -implicitDefEqProofs (maxSteps := 600000) (disch := (first | omega | decide)) only [go_sem, ↓reduceIte, Nat.reduceEqDiff, reduceCtorEq, Nat.reduceAdd, Nat.reduceSub, Nat.reduceMul, Nat.reduceLeDiff, Nat.reduceLT, Nat.reduceBEq, Nat.reduceBNe, Int.reduceLE, Int.reduceLT, Int.reduceBEq, Int.reduceBNe, Int.reduceEq, Int.reduceNe, Int.reduceAdd, Int.reduceSub, Int.reduceMul, Int.reduceNeg, Int.reduceToNat, hlt', e1, e2, hax, hbx, t1, t2, t3, wrap_i64, List.length_map]
          all_goals exact fin'
        | cons q qs =>
          have hqt : q.t < x := s2
          rw [rowR_cons] at *
          have hlq : qs.length + 1 ≤ k := hlen
          have c0 : (0 : Int) < ((qs.length + 1 : Nat) : Int) := by omega
          have c1 : (((qs.length + 1 : Nat) : Int) - 1).toNat = qs.length := by omega
          have c2 : (0 : Int) ≤ ((qs.length + 1 : Nat) : Int) - 1 := by omega
          have c3 : ((qs.length + 1 : Nat) : Int) - 1 < ((qs.length + 1 : Nat) : Int) := by omega
          have g1 : (rowR qs ++ [A.agg [.int .i64 q.f, .int .i64 q.t]])[qs.length]? = some (.agg [.int .i64 q.f, .int .i64 q.t]) := by
            have := get_last (x := A.agg [.int .i64 q.f, .int .i64 q.t]) (l := rowR qs)
            rwa [rowR_len] at this
          have g2 : ∀ v, setNth (rowR qs ++ [A.agg [.int .i64 q.f, .int .i64 q.t]]) qs.length v = rowR qs ++ [v] := fun v => by
            have := setNth_last (x := A.agg [.int .i64 q.f, .int .i64 q.t]) (v := v) (l := rowR qs) (α := [])
            rwa [rowR_len] at this
          have gl : (rowR qs ++ [A.agg [.int .i64 q.f, .int .i64 q.t]]).length = qs.length + 1 := by rw [List.length_append, rowR_len]; rfl
          have gt : (rowR qs ++ [A.agg [.int .i64 q.f, .int .i64 q.t]]).take (qs.length + 1) = rowR qs ++ [A.agg [.int .i64 q.f, .int .i64 q.t]] := List.take_of_length_le (Nat.le_of_eq gl)
          cases hq : (q.t == x - 1) with
          | true =>
            have hq' : q.t = x - 1 := by simpa using hq
            have hpj : pushJ (q :: qs) ⟨x, y - 1⟩ = ⟨q.f, y - 1⟩ :: qs := by
              simp only [pushJ]
              rw [if_pos (by omega), if_pos (by omega)]
            rw [hpj, rowR_cons] at fin'
            rcases ho with rfl | rfl | rfl <;> cases hax : hasL13 a x <;> cases hbx : hasL13 b x <;> rw [hax, hbx] at hP <;> simp [opF, hp] at hP <;> simp -implicitDefEqProofs (maxSteps := 600000) (disch := (first | omega | decide)) only [go_sem, ↓reduceIte, Nat.reduceEqDiff, reduceCtorEq, Nat.reduceAdd, Nat.reduceSub, Nat.reduceMul, Nat.reduceLeDiff, Nat.reduceLT, Nat.reduceBEq, Nat.reduceBNe, Int.reduceLE, Int.reduceLT, Int.reduceBEq, Int.reduceBNe, Int.reduceEq, Int.reduceNe, Int.reduceAdd, Int.reduceSub, Int.reduceMul, Int.reduceNeg, Int.reduceToNat, hlt', e1, e2, hax, hbx, t1, t2, t3, c0, c1, c2, c3, g1, g2, hq, wrap_i64, List.length_map]
            all_goals exact fin'
          | false =>
            have hq' : q.t ≠ x - 1 := by simpa using hq
            have hpj : pushJ (q :: qs) ⟨x, y - 1⟩ = ⟨x, y - 1⟩ :: q :: qs := by
              simp only [pushJ]
              rw [if_neg (by omega)]
            rw [hpj, rowR_cons, rowR_cons] at fin'
            rcases ho with rfl | rfl | rfl <;> cases hax : hasL13 a x <;> cases hbx : hasL13 b x <;> rw [hax, hbx] at hP <;> simp [opF, hp] at hP <;> simp -implicitDefEqProofs (maxSteps := 600000) (disch := (first | omega | decide)) only [go_sem, ↓reduceIte, Nat.reduceEqDiff, reduceCtorEq, Nat.reduceAdd, Nat.reduceSub, Nat.reduceMul, Nat.reduceLeDiff, Nat.reduceLT, Nat.reduceBEq, Nat.reduceBNe, Int.reduceLE, Int.reduceLT, Int.reduceBEq, Int.reduceBNe, Int.reduceEq, Int.reduceNe, Int.reduceAdd, Int.reduceSub, Int.reduceMul, Int.reduceNeg, Int.reduceToNat, hlt', e1, e2, hax, hbx, t1, t2, t3, c0, c1, c2, c3, g1, g2, gl, gt, hq, wrap_i64, List.length_map]
            all_goals exact ⟨⟨Nat.le_refl _, by omega⟩, fin'⟩
    · have hlt' : ¬ (k : Int) + 1 < (e.length : Int) := by omega
      have hk' : k = e.length - 1 := by omega
      subst hk'
      have hfin : (rowR (mkA (opP op a b) e (e.length - 1))) = (setR (opP op a b)).map Run.enc := by unfold rowR; rw [hall]
      have hll : (mkA (opP op a b) e (e.length - 1)).length = (rowR (mkA (opP op a b) e (e.length - 1))).length := by rw [rowR_len]
      simp -implicitDefEqProofs (maxSteps := 600000) (disch := (first | omega | decide)) only [go_sem, ↓reduceIte, Nat.reduceEqDiff, reduceCtorEq, Nat.reduceAdd, Nat.reduceSub, Nat.reduceMul, Nat.reduceLeDiff, Nat.reduceLT, Nat.reduceBEq, Nat.reduceBNe, Int.reduceLE, Int.reduceLT, Int.reduceBEq, Int.reduceBNe, Int.reduceEq, Int.reduceNe, Int.reduceAdd, Int.reduceSub, Int.reduceMul, Int.reduceNeg, Int.reduceToNat, hlt', wrap_i64, hll, List.length_map, List.take_length]
      rw [hfin]
      exact ⟨Nat.le_refl _, rfl⟩
end Go.Proofs.Ytbnmicpgbcfooaa
