/- Chapter 13: runs of counts: what is right, what a list has. -/
import Derived.Test.YtbnmicpgbcfooaaTy
import Derived.Test.YtbnmicpgbcfooaaAbsY
namespace Go.Proofs.Ytbnmicpgbcfooaa
open Go.Abs
set_option linter.unusedSimpArgs false
set_option linter.unusedVariables false
set_option maxRecDepth 20000
set_option maxHeartbeats 4000000

def T13z : Tab := tab0
theorem T13z_ok : TabOK Try.prog T13z := tab0_ok _
@[go_sem] theorem T13z_eq : T13z = tab0 := rfl

/-- A run. -/
structure Run where
  f : Int
  t : Int
  deriving DecidableEq, Inhabited
def Run.cells (r : Run) : List A := [.int .i64 r.f, .int .i64 r.t]
def Run.enc (r : Run) : A := .agg r.cells
@[go_sem] theorem Run.cells_eq {a b : Int} : Run.cells ⟨a, b⟩ = [.int .i64 a, .int .i64 b] := rfl
@[go_sem] theorem Run.enc_eq {a b : Int} : Run.enc ⟨a, b⟩ = .agg [.int .i64 a, .int .i64 b] := rfl
theorem Run.enc_inj (v w : Run) (h : v.enc = w.enc) : v = w := by
  cases v; cases w; simpa [Run.enc, Run.cells] using h
@[simp] theorem map_run_inj {l m : List Run} : (l.map Run.enc = m.map Run.enc) = (l = m) := map_inj Run.enc_inj
def oneR (r : Run) : Bool := decide (1 ≤ r.f) && decide (r.f ≤ r.t) && decide (r.t ≤ 1099511627776)
theorem one_parts {r : Run} (h : oneR r = true) : 1 ≤ r.f ∧ r.f ≤ r.t ∧ r.t ≤ 1099511627776 := by
  simpa [oneR, and_assoc] using h

theorem ok_counts_one : codeOK Try.prog T13z Try.f54.ntmps (Try.f54.body.getD .skip) = true := by kernel_rfl
theorem c_counts_one (f t : Int) : CallA Try.prog 54 [.agg [.int .i64 f, .int .i64 t]] (· = .bool (oneR ⟨f, t⟩)) := by
  refine callA_of_body T13z_ok mixed Try.func54 rfl (Nat.le_of_ble_eq_true rfl) ok_counts_one ?_
  unfold Try.f54
  by_cases h1 : 1 ≤ f
  · by_cases h2 : f ≤ t
    · simp -implicitDefEqProofs (maxSteps := 600000) (disch := (first | omega | decide)) only [go_sem, ↓reduceIte, Nat.reduceEqDiff, reduceCtorEq, Nat.reduceAdd, Nat.reduceSub, Nat.reduceMul, Nat.reduceLeDiff, Nat.reduceLT, Nat.reduceBEq, Nat.reduceBNe, Int.reduceLE, Int.reduceLT, Int.reduceBEq, Int.reduceBNe, Int.reduceEq, Int.reduceNe, Int.reduceAdd, Int.reduceSub, Int.reduceMul, Int.reduceNeg, Int.reduceToNat, h1, h2, oneR]
    · simp -implicitDefEqProofs (maxSteps := 600000) (disch := (first | omega | decide)) only [go_sem, ↓reduceIte, Nat.reduceEqDiff, reduceCtorEq, Nat.reduceAdd, Nat.reduceSub, Nat.reduceMul, Nat.reduceLeDiff, Nat.reduceLT, Nat.reduceBEq, Nat.reduceBNe, Int.reduceLE, Int.reduceLT, Int.reduceBEq, Int.reduceBNe, Int.reduceEq, Int.reduceNe, Int.reduceAdd, Int.reduceSub, Int.reduceMul, Int.reduceNeg, Int.reduceToNat, h1, h2, oneR]
  · simp -implicitDefEqProofs (maxSteps := 600000) (disch := (first | omega | decide)) only [go_sem, ↓reduceIte, Nat.reduceEqDiff, reduceCtorEq, Nat.reduceAdd, Nat.reduceSub, Nat.reduceMul, Nat.reduceLeDiff, Nat.reduceLT, Nat.reduceBEq, Nat.reduceBNe, Int.reduceLE, Int.reduceLT, Int.reduceBEq, Int.reduceBNe, Int.reduceEq, Int.reduceNe, Int.reduceAdd, Int.reduceSub, Int.reduceMul, Int.reduceNeg, Int.reduceToNat, h1, oneR]
theorem ok_ref13_One : codeOK Try.prog T13z Try.f55.ntmps (Try.f55.body.getD .skip) = true := by kernel_rfl
theorem c_ref13_One (f t : Int) : CallA Try.prog 55 [.agg [.int .i64 f, .int .i64 t]] (· = .bool (oneR ⟨f, t⟩)) := by
  refine callA_of_body T13z_ok mixed Try.func55 rfl (Nat.le_of_ble_eq_true rfl) ok_ref13_One ?_
  unfold Try.f55
  by_cases h1 : 1 ≤ f
  · by_cases h2 : f ≤ t
    · simp -implicitDefEqProofs (maxSteps := 600000) (disch := (first | omega | decide)) only [go_sem, ↓reduceIte, Nat.reduceEqDiff, reduceCtorEq, Nat.reduceAdd, Nat.reduceSub, Nat.reduceMul, Nat.reduceLeDiff, Nat.reduceLT, Nat.reduceBEq, Nat.reduceBNe, Int.reduceLE, Int.reduceLT, Int.reduceBEq, Int.reduceBNe, Int.reduceEq, Int.reduceNe, Int.reduceAdd, Int.reduceSub, Int.reduceMul, Int.reduceNeg, Int.reduceToNat, h1, h2, oneR]
    · simp -implicitDefEqProofs (maxSteps := 600000) (disch := (first | omega | decide)) only [go_sem, ↓reduceIte, Nat.reduceEqDiff, reduceCtorEq, Nat.reduceAdd, Nat.reduceSub, Nat.reduceMul, Nat.reduceLeDiff, Nat.reduceLT, Nat.reduceBEq, Nat.reduceBNe, Int.reduceLE, Int.reduceLT, Int.reduceBEq, Int.reduceBNe, Int.reduceEq, Int.reduceNe, Int.reduceAdd, Int.reduceSub, Int.reduceMul, Int.reduceNeg, Int.reduceToNat, h1, h2, oneR]
  · simp -implicitDefEqProofs (maxSteps := 600000) (disch := (first | omega | decide)) only [go_sem, ↓reduceIte, Nat.reduceEqDiff, reduceCtorEq, Nat.reduceAdd, Nat.reduceSub, Nat.reduceMul, Nat.reduceLeDiff, Nat.reduceLT, Nat.reduceBEq, Nat.reduceBNe, Int.reduceLE, Int.reduceLT, Int.reduceBEq, Int.reduceBNe, Int.reduceEq, Int.reduceNe, Int.reduceAdd, Int.reduceSub, Int.reduceMul, Int.reduceNeg, Int.reduceToNat, h1, oneR]
noncomputable def T13a : Tab := T13z.add 54 (entry (fun (v : Int × Int) => [.agg [.int .i64 v.1, .int .i64 v.2]]) (fun v => True) (fun v => .bool (oneR ⟨v.1, v.2⟩)))
theorem T13a_ok : TabOK Try.prog T13a := T13z_ok.add (callable_of Try.func54 (by kernel_rfl) (by kernel_rfl)) (entry_ok fun v h => c_counts_one v.1 v.2)
@[go_sem] theorem T13a_old {g : FuncId} {xs : List A} (h : g ≠ 54) : T13a.f g xs = T13z.f g xs := Tab.add_ne h
@[go_sem] theorem T13a_eff {g : FuncId} : T13a.eff g = T13z.eff g := rfl
@[go_sem] theorem T13a_frz {g : FuncId} : T13a.frz g = T13z.frz g := rfl
@[go_sem] theorem T13a_effT : T13a.effT = T13z.effT := rfl
@[go_sem] theorem T13a_fix : T13a.fix = T13z.fix := rfl
@[go_sem] theorem T13a_nf : T13a.nf = T13z.nf := rfl
@[go_sem] theorem T13a_ords {n : Nat} : T13a.ords n = T13z.ords n := rfl
@[go_sem] theorem T13a_hp : T13a.hp = T13z.hp := rfl
theorem T13a_counts_one (v : Int × Int) (h : True) : T13a.f 54 [.agg [.int .i64 v.1, .int .i64 v.2]] = some (.bool (oneR ⟨v.1, v.2⟩)) :=
  (Tab.add_eq : T13a.f 54 [.agg [.int .i64 v.1, .int .i64 v.2]] = (entry (fun (v : Int × Int) => [.agg [.int .i64 v.1, .int .i64 v.2]]) (fun v => True) (fun v => .bool (oneR ⟨v.1, v.2⟩))) [.agg [.int .i64 v.1, .int .i64 v.2]]).trans (entry_eq (fun i j h => by first | (cases i; cases j; rfl; done) | simpa [Prod.ext_iff, and_assoc] using h | (simp at h; omega)) v h)
noncomputable def T13b : Tab := T13a.add 55 (entry (fun (v : Int × Int) => [.agg [.int .i64 v.1, .int .i64 v.2]]) (fun v => True) (fun v => .bool (oneR ⟨v.1, v.2⟩)))
theorem T13b_ok : TabOK Try.prog T13b := T13a_ok.add (callable_of Try.func55 (by kernel_rfl) (by kernel_rfl)) (entry_ok fun v h => c_ref13_One v.1 v.2)
@[go_sem] theorem T13b_old {g : FuncId} {xs : List A} (h : g ≠ 55) : T13b.f g xs = T13a.f g xs := Tab.add_ne h
@[go_sem] theorem T13b_eff {g : FuncId} : T13b.eff g = T13a.eff g := rfl
@[go_sem] theorem T13b_frz {g : FuncId} : T13b.frz g = T13a.frz g := rfl
@[go_sem] theorem T13b_effT : T13b.effT = T13a.effT := rfl
@[go_sem] theorem T13b_fix : T13b.fix = T13a.fix := rfl
@[go_sem] theorem T13b_nf : T13b.nf = T13a.nf := rfl
@[go_sem] theorem T13b_ords {n : Nat} : T13b.ords n = T13a.ords n := rfl
@[go_sem] theorem T13b_hp : T13b.hp = T13a.hp := rfl
theorem T13b_ref13_One (v : Int × Int) (h : True) : T13b.f 55 [.agg [.int .i64 v.1, .int .i64 v.2]] = some (.bool (oneR ⟨v.1, v.2⟩)) :=
  (Tab.add_eq : T13b.f 55 [.agg [.int .i64 v.1, .int .i64 v.2]] = (entry (fun (v : Int × Int) => [.agg [.int .i64 v.1, .int .i64 v.2]]) (fun v => True) (fun v => .bool (oneR ⟨v.1, v.2⟩))) [.agg [.int .i64 v.1, .int .i64 v.2]]).trans (entry_eq (fun i j h => by first | (cases i; cases j; rfl; done) | simpa [Prod.ext_iff, and_assoc] using h | (simp at h; omega)) v h)
@[go_sem] theorem t_counts_one {f t : Int} : T13a.f 54 [.agg [.int .i64 f, .int .i64 t]] = some (.bool (oneR ⟨f, t⟩)) := T13a_counts_one (f, t) trivial
@[go_sem] theorem t_ref13_One {f t : Int} : T13b.f 55 [.agg [.int .i64 f, .int .i64 t]] = some (.bool (oneR ⟨f, t⟩)) := T13b_ref13_One (f, t) trivial

def goR : Option Int → List Run → Bool
  | _, [] => true
  | p, r :: rs => oneR r && (match p with | none => true | some t => decide (t + 2 ≤ r.f)) && goR (some r.t) rs
def rightL (l : List Run) : Bool := goR none l
def hasL13 (l : List Run) (n : Int) : Bool := l.any fun r => oneR r && decide (r.f ≤ n) && decide (n ≤ r.t)
def sameL (a b : List Run) : Bool := decide (a = b)
theorem run_get {l : List Run} {k : Nat} (h : k < l.length) : (l.map Run.enc)[k]? = some (.agg [.int .i64 l[k].f, .int .i64 l[k].t]) := by
  rw [List.getElem?_map, List.getElem?_eq_getElem h]; rfl

theorem ok_counts_Has : codeOK Try.prog T13b Try.f37.ntmps (Try.f37.body.getD .skip) = true := by kernel_rfl
theorem c_counts_Has (l : List Run) (n : Int) (hl : l.length ≤ 4611686018427387904) : CallA Try.prog 37 [.slc (l.map Run.enc), .int .i64 n] (· = .bool (hasL13 l n)) := by
  refine callA_of_body T13b_ok mixed Try.func37 rfl (Nat.le_of_ble_eq_true rfl) ok_counts_Has ?_
  unfold Try.f37
  simp -implicitDefEqProofs (maxSteps := 600000) (disch := (first | omega | decide)) only [go_sem, ↓reduceIte, Nat.reduceEqDiff, reduceCtorEq, Nat.reduceAdd, Nat.reduceSub, Nat.reduceMul, Nat.reduceLeDiff, Nat.reduceLT, Nat.reduceBEq, Nat.reduceBNe, Int.reduceLE, Int.reduceLT, Int.reduceBEq, Int.reduceBNe, Int.reduceEq, Int.reduceNe, Int.reduceAdd, Int.reduceSub, Int.reduceMul, Int.reduceNeg, Int.reduceToNat, List.length_map]
  refine wpA_loop [0, 1, 7, 8] (ι := {k : Nat // k ≤ l.length ∧ hasL13 l n = hasL13 (l.drop k) n}) (fun p => [(9, .int .i64 p.1), (4, .bool false)]) (fun _ => []) (fun p => l.length - p.1) ⟨0, by omega, rfl⟩ (Nat.zero_le _) ?_ ?_
  · simp -implicitDefEqProofs (maxSteps := 600000) (disch := (first | omega | decide)) only [go_sem, ↓reduceIte, Nat.reduceEqDiff, reduceCtorEq, Nat.reduceAdd, Nat.reduceSub, Nat.reduceMul, Nat.reduceLeDiff, Nat.reduceLT, Nat.reduceBEq, Nat.reduceBNe, Int.reduceLE, Int.reduceLT, Int.reduceBEq, Int.reduceBNe, Int.reduceEq, Int.reduceNe, Int.reduceAdd, Int.reduceSub, Int.reduceMul, Int.reduceNeg, Int.reduceToNat]
  · rintro ⟨k, hk, hd⟩
    simp only
    by_cases hlt : k < l.length
    · have hlt' : (k : Int) < (l.length : Int) := by omega
      have e1 := run_get hlt
      rw [List.drop_eq_getElem_cons hlt] at hd
      generalize hx : l[k] = x at *
      obtain ⟨f, t⟩ := x
      simp only [hasL13, List.any_cons] at hd
      have next : hasL13 l n = hasL13 (l.drop (k + 1)) n → ∃ j : {k : Nat // k ≤ l.length ∧ hasL13 l n = hasL13 (l.drop k) n}, (k : Int) + 1 = (j.1 : Int) ∧ l.length - j.1 < l.length - k := fun h => ⟨⟨k + 1, hlt, h⟩, by simp, by show l.length - (k + 1) < l.length - k; omega⟩
      cases h1 : oneR ⟨f, t⟩ with
      | false =>
        simp -implicitDefEqProofs (maxSteps := 600000) (disch := (first | omega | decide)) only [go_sem, ↓reduceIte, Nat.reduceEqDiff, reduceCtorEq, Nat.reduceAdd, Nat.reduceSub, Nat.reduceMul, Nat.reduceLeDiff, Nat.reduceLT, Nat.reduceBEq, Nat.reduceBNe, Int.reduceLE, Int.reduceLT, Int.reduceBEq, Int.reduceBNe, Int.reduceEq, Int.reduceNe, Int.reduceAdd, Int.reduceSub, Int.reduceMul, Int.reduceNeg, Int.reduceToNat, hlt', e1, h1, wrap_i64, List.length_map]
        exact next (by rw [h1] at hd; simpa [hasL13] using hd)
      | true =>
        by_cases h2 : f ≤ n
        · by_cases h3 : n ≤ t
          · have hh : hasL13 l n = true := by unfold hasL13; rw [hd]; simp [h1, h2, h3]
            simp -implicitDefEqProofs (maxSteps := 600000) (disch := (first | omega | decide)) only [go_sem, ↓reduceIte, Nat.reduceEqDiff, reduceCtorEq, Nat.reduceAdd, Nat.reduceSub, Nat.reduceMul, Nat.reduceLeDiff, Nat.reduceLT, Nat.reduceBEq, Nat.reduceBNe, Int.reduceLE, Int.reduceLT, Int.reduceBEq, Int.reduceBNe, Int.reduceEq, Int.reduceNe, Int.reduceAdd, Int.reduceSub, Int.reduceMul, Int.reduceNeg, Int.reduceToNat, hlt', e1, h1, h2, h3, hh, wrap_i64, List.length_map]
          · simp -implicitDefEqProofs (maxSteps := 600000) (disch := (first | omega | decide)) only [go_sem, ↓reduceIte, Nat.reduceEqDiff, reduceCtorEq, Nat.reduceAdd, Nat.reduceSub, Nat.reduceMul, Nat.reduceLeDiff, Nat.reduceLT, Nat.reduceBEq, Nat.reduceBNe, Int.reduceLE, Int.reduceLT, Int.reduceBEq, Int.reduceBNe, Int.reduceEq, Int.reduceNe, Int.reduceAdd, Int.reduceSub, Int.reduceMul, Int.reduceNeg, Int.reduceToNat, hlt', e1, h1, h2, h3, wrap_i64, List.length_map]
            exact next (by rw [h1] at hd; simpa [hasL13, h2, h3] using hd)
        · simp -implicitDefEqProofs (maxSteps := 600000) (disch := (first | omega | decide)) only [go_sem, ↓reduceIte, Nat.reduceEqDiff, reduceCtorEq, Nat.reduceAdd, Nat.reduceSub, Nat.reduceMul, Nat.reduceLeDiff, Nat.reduceLT, Nat.reduceBEq, Nat.reduceBNe, Int.reduceLE, Int.reduceLT, Int.reduceBEq, Int.reduceBNe, Int.reduceEq, Int.reduceNe, Int.reduceAdd, Int.reduceSub, Int.reduceMul, Int.reduceNeg, Int.reduceToNat, hlt', e1, h1, h2, wrap_i64, List.length_map]
          exact next (by rw [h1] at hd; simpa [hasL13, h2] using hd)
    · have hlt' : ¬ (k : Int) < (l.length : Int) := by omega
      have hh : hasL13 l n = false := by rw [hd, List.drop_of_length_le (by omega)]; rfl
      simp -implicitDefEqProofs (maxSteps := 600000) (disch := (first | omega | decide)) only [go_sem, ↓reduceIte, Nat.reduceEqDiff, reduceCtorEq, Nat.reduceAdd, Nat.reduceSub, Nat.reduceMul, Nat.reduceLeDiff, Nat.reduceLT, Nat.reduceBEq, Nat.reduceBNe, Int.reduceLE, Int.reduceLT, Int.reduceBEq, Int.reduceBNe, Int.reduceEq, Int.reduceNe, Int.reduceAdd, Int.reduceSub, Int.reduceMul, Int.reduceNeg, Int.reduceToNat, hlt', hh, List.length_map]
theorem ok_slices_Clone_winnower_api_Run_winnower_api_Run : codeOK Try.prog T13z Try.f51.ntmps (Try.f51.body.getD .skip) = true := by kernel_rfl
theorem c_Clone_Run (l : List Run) (hl : l.length ≤ 4398046511104) : CallA Try.prog 51 [.slc (l.map Run.enc)] (· = .slc (l.map Run.enc)) := by
  cases l with
  | nil =>
    refine callA_emp ?_ ?_
    · refine callA_of_body T13z_ok mixed Try.func51 rfl (Nat.le_of_ble_eq_true rfl) ok_slices_Clone_winnower_api_Run_winnower_api_Run ?_
      unfold Try.f51
      simp -implicitDefEqProofs (maxSteps := 600000) (disch := (first | omega | decide)) only [go_sem, ↓reduceIte, Nat.reduceEqDiff, reduceCtorEq, Nat.reduceAdd, Nat.reduceSub, Nat.reduceMul, Nat.reduceLeDiff, Nat.reduceLT, Nat.reduceBEq, Nat.reduceBNe, Int.reduceLE, Int.reduceLT, Int.reduceBEq, Int.reduceBNe, Int.reduceEq, Int.reduceNe, Int.reduceAdd, Int.reduceSub, Int.reduceMul, Int.reduceNeg, Int.reduceToNat]
    · refine callA_of_body T13z_ok mixed Try.func51 rfl (Nat.le_of_ble_eq_true rfl) ok_slices_Clone_winnower_api_Run_winnower_api_Run ?_
      unfold Try.f51
      simp -implicitDefEqProofs (maxSteps := 600000) (disch := (first | omega | decide)) only [go_sem, ↓reduceIte, Nat.reduceEqDiff, reduceCtorEq, Nat.reduceAdd, Nat.reduceSub, Nat.reduceMul, Nat.reduceLeDiff, Nat.reduceLT, Nat.reduceBEq, Nat.reduceBNe, Int.reduceLE, Int.reduceLT, Int.reduceBEq, Int.reduceBNe, Int.reduceEq, Int.reduceNe, Int.reduceAdd, Int.reduceSub, Int.reduceMul, Int.reduceNeg, Int.reduceToNat]
  | cons r l =>
    refine callA_of_body T13z_ok mixed Try.func51 rfl (Nat.le_of_ble_eq_true rfl) ok_slices_Clone_winnower_api_Run_winnower_api_Run ?_
    unfold Try.f51
    obtain ⟨f, t⟩ := r
    simp only [List.length_cons] at hl
    simp -implicitDefEqProofs (maxSteps := 600000) (disch := (first | omega | decide)) only [go_sem, ↓reduceIte, Nat.reduceEqDiff, reduceCtorEq, Nat.reduceAdd, Nat.reduceSub, Nat.reduceMul, Nat.reduceLeDiff, Nat.reduceLT, Nat.reduceBEq, Nat.reduceBNe, Int.reduceLE, Int.reduceLT, Int.reduceBEq, Int.reduceBNe, Int.reduceEq, Int.reduceNe, Int.reduceAdd, Int.reduceSub, Int.reduceMul, Int.reduceNeg, Int.reduceToNat, List.length_map]
    exact ⟨by omega, Nat.le_refl _, by rw [List.take_of_length_le (by simp)]⟩
theorem ok_ref13_Same : codeOK Try.prog T13z Try.f40.ntmps (Try.f40.body.getD .skip) = true := by kernel_rfl
theorem c_ref13_Same (a b : List Run) (hl : a.length ≤ 4611686018427387904) (hb : b.length ≤ 4611686018427387904) : CallA Try.prog 40 [.slc (a.map Run.enc), .slc (b.map Run.enc)] (· = .bool (sameL a b)) := by
  refine callA_of_body T13z_ok mixed Try.func40 rfl (Nat.le_of_ble_eq_true rfl) ok_ref13_Same ?_
  unfold Try.f40
  cases h0 : ((a.length : Int) == (b.length : Int)) with
  | false =>
    have hne : a.length ≠ b.length := by
      have : (a.length : Int) ≠ (b.length : Int) := by simpa using h0
      omega
    have hh : sameL a b = false := by unfold sameL; simp; intro e; exact hne (by rw [e])
    simp -implicitDefEqProofs (maxSteps := 600000) (disch := (first | omega | decide)) only [go_sem, ↓reduceIte, Nat.reduceEqDiff, reduceCtorEq, Nat.reduceAdd, Nat.reduceSub, Nat.reduceMul, Nat.reduceLeDiff, Nat.reduceLT, Nat.reduceBEq, Nat.reduceBNe, Int.reduceLE, Int.reduceLT, Int.reduceBEq, Int.reduceBNe, Int.reduceEq, Int.reduceNe, Int.reduceAdd, Int.reduceSub, Int.reduceMul, Int.reduceNeg, Int.reduceToNat, h0, hh, List.length_map]
  | true =>
    have he : a.length = b.length := by
      have : (a.length : Int) = (b.length : Int) := by simpa using h0
      omega
    simp -implicitDefEqProofs (maxSteps := 600000) (disch := (first | omega | decide)) only [go_sem, ↓reduceIte, Nat.reduceEqDiff, reduceCtorEq, Nat.reduceAdd, Nat.reduceSub, Nat.reduceMul, Nat.reduceLeDiff, Nat.reduceLT, Nat.reduceBEq, Nat.reduceBNe, Int.reduceLE, Int.reduceLT, Int.reduceBEq, Int.reduceBNe, Int.reduceEq, Int.reduceNe, Int.reduceAdd, Int.reduceSub, Int.reduceMul, Int.reduceNeg, Int.reduceToNat, h0, List.length_map]
    refine wpA_loop [0, 1] (ι := {k : Nat // k ≤ a.length ∧ a.take k = b.take k}) (fun p => [(5, .int .i64 p.1)]) (fun _ => []) (fun p => a.length - p.1) ⟨0, by omega, rfl⟩ (Nat.zero_le _) ?_ ?_
    · simp -implicitDefEqProofs (maxSteps := 600000) (disch := (first | omega | decide)) only [go_sem, ↓reduceIte, Nat.reduceEqDiff, reduceCtorEq, Nat.reduceAdd, Nat.reduceSub, Nat.reduceMul, Nat.reduceLeDiff, Nat.reduceLT, Nat.reduceBEq, Nat.reduceBNe, Int.reduceLE, Int.reduceLT, Int.reduceBEq, Int.reduceBNe, Int.reduceEq, Int.reduceNe, Int.reduceAdd, Int.reduceSub, Int.reduceMul, Int.reduceNeg, Int.reduceToNat]
    · rintro ⟨k, hk, hd⟩
      simp only
      by_cases hlt : k < a.length
      · have hlt' : (k : Int) < (a.length : Int) := by omega
        have hlt2 : (k : Int) < (b.length : Int) := by omega
        have hltb : k < b.length := by omega
        have e1 := run_get hlt
        have e2 := run_get hltb
        have t1 := (List.take_append_getElem hlt).symm
        have t2 := (List.take_append_getElem hltb).symm
        have hno : a[k] ≠ b[k] → sameL a b = false := fun h => by
          unfold sameL; simp; intro e; subst e; exact h rfl
        generalize hx : a[k] = x at *
        generalize hy : b[k] = y at *
        obtain ⟨f, t⟩ := x
        obtain ⟨f', t'⟩ := y
        cases h1 : f == f' with
        | false =>
          have hh := hno (by have : f ≠ f' := by simpa using h1
                             simp [this])
          simp -implicitDefEqProofs (maxSteps := 600000) (disch := (first | omega | decide)) only [go_sem, ↓reduceIte, Nat.reduceEqDiff, reduceCtorEq, Nat.reduceAdd, Nat.reduceSub, Nat.reduceMul, Nat.reduceLeDiff, Nat.reduceLT, Nat.reduceBEq, Nat.reduceBNe, Int.reduceLE, Int.reduceLT, Int.reduceBEq, Int.reduceBNe, Int.reduceEq, Int.reduceNe, Int.reduceAdd, Int.reduceSub, Int.reduceMul, Int.reduceNeg, Int.reduceToNat, hlt', hlt2, e1, e2, h1, hh, List.length_map]
        | true =>
          cases h2 : t == t' with
          | false =>
            have hh := hno (by have : t ≠ t' := by simpa using h2
                               simp [this])
            simp -implicitDefEqProofs (maxSteps := 600000) (disch := (first | omega | decide)) only [go_sem, ↓reduceIte, Nat.reduceEqDiff, reduceCtorEq, Nat.reduceAdd, Nat.reduceSub, Nat.reduceMul, Nat.reduceLeDiff, Nat.reduceLT, Nat.reduceBEq, Nat.reduceBNe, Int.reduceLE, Int.reduceLT, Int.reduceBEq, Int.reduceBNe, Int.reduceEq, Int.reduceNe, Int.reduceAdd, Int.reduceSub, Int.reduceMul, Int.reduceNeg, Int.reduceToNat, hlt', hlt2, e1, e2, h1, h2, hh, List.length_map]
          | true =>
            obtain rfl : f = f' := by simpa using h1
            obtain rfl : t = t' := by simpa using h2
            simp -implicitDefEqProofs (maxSteps := 600000) (disch := (first | omega | decide)) only [go_sem, ↓reduceIte, Nat.reduceEqDiff, reduceCtorEq, Nat.reduceAdd, Nat.reduceSub, Nat.reduceMul, Nat.reduceLeDiff, Nat.reduceLT, Nat.reduceBEq, Nat.reduceBNe, Int.reduceLE, Int.reduceLT, Int.reduceBEq, Int.reduceBNe, Int.reduceEq, Int.reduceNe, Int.reduceAdd, Int.reduceSub, Int.reduceMul, Int.reduceNeg, Int.reduceToNat, hlt', hlt2, e1, e2, h1, h2, wrap_i64, List.length_map]
            exact ⟨⟨k + 1, hlt, by rw [t1, t2, hd]⟩, by simp, by show a.length - (k + 1) < a.length - k; omega⟩
      · have hlt' : ¬ (k : Int) < (a.length : Int) := by omega
        have hh : sameL a b = true := by
          rw [List.take_of_length_le (by omega), List.take_of_length_le (by omega)] at hd
          simp [sameL, hd]
        simp -implicitDefEqProofs (maxSteps := 600000) (disch := (first | omega | decide)) only [go_sem, ↓reduceIte, Nat.reduceEqDiff, reduceCtorEq, Nat.reduceAdd, Nat.reduceSub, Nat.reduceMul, Nat.reduceLeDiff, Nat.reduceLT, Nat.reduceBEq, Nat.reduceBNe, Int.reduceLE, Int.reduceLT, Int.reduceBEq, Int.reduceBNe, Int.reduceEq, Int.reduceNe, Int.reduceAdd, Int.reduceSub, Int.reduceMul, Int.reduceNeg, Int.reduceToNat, hlt', hh, List.length_map]
end Go.Proofs.Ytbnmicpgbcfooaa
