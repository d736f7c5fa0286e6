/- Chapter 13: sweep, and what is made by it. -/
import Derived.Test.YtbnmicpgbcfooaaK13H
namespace Go.Proofs.Ytbnmicpgbcfooaa
open Go.Abs
set_option linter.unusedSimpArgs false
set_option linter.unusedVariables false
set_option maxRecDepth 20000
set_option maxHeartbeats 8000000

theorem ok_counts_Union_1 : codeOK Try.prog T13z Try.f57.ntmps (Try.f57.body.getD .skip) = true := by kernel_rfl
theorem c_Union1 (x y : Bool) : CallA Try.prog 57 [.bool x, .bool y] (· = .bool (x || y)) := by
  refine callA_of_body T13z_ok mixed Try.func57 rfl (Nat.le_of_ble_eq_true rfl) ok_counts_Union_1 ?_
  unfold Try.f57
  cases x <;> simp -implicitDefEqProofs (maxSteps := 600000) (disch := (first | omega | decide)) only [go_sem, ↓reduceIte, Nat.reduceEqDiff, reduceCtorEq, Nat.reduceAdd, Nat.reduceSub, Nat.reduceMul, Nat.reduceLeDiff, Nat.reduceLT, Nat.reduceBEq, Nat.reduceBNe, Int.reduceLE, Int.reduceLT, Int.reduceBEq, Int.reduceBNe, Int.reduceEq, Int.reduceNe, Int.reduceAdd, Int.reduceSub, Int.reduceMul, Int.reduceNeg, Int.reduceToNat]
theorem ok_counts_Meet_1 : codeOK Try.prog T13z Try.f58.ntmps (Try.f58.body.getD .skip) = true := by kernel_rfl
theorem c_Meet1 (x y : Bool) : CallA Try.prog 58 [.bool x, .bool y] (· = .bool (x && y)) := by
  refine callA_of_body T13z_ok mixed Try.func58 rfl (Nat.le_of_ble_eq_true rfl) ok_counts_Meet_1 ?_
  unfold Try.f58
  cases x <;> simp -implicitDefEqProofs (maxSteps := 600000) (disch := (first | omega | decide)) only [go_sem, ↓reduceIte, Nat.reduceEqDiff, reduceCtorEq, Nat.reduceAdd, Nat.reduceSub, Nat.reduceMul, Nat.reduceLeDiff, Nat.reduceLT, Nat.reduceBEq, Nat.reduceBNe, Int.reduceLE, Int.reduceLT, Int.reduceBEq, Int.reduceBNe, Int.reduceEq, Int.reduceNe, Int.reduceAdd, Int.reduceSub, Int.reduceMul, Int.reduceNeg, Int.reduceToNat]
theorem ok_counts_Less_1 : codeOK Try.prog T13z Try.f59.ntmps (Try.f59.body.getD .skip) = true := by kernel_rfl
theorem c_Less1 (x y : Bool) : CallA Try.prog 59 [.bool x, .bool y] (· = .bool (x && !y)) := by
  refine callA_of_body T13z_ok mixed Try.func59 rfl (Nat.le_of_ble_eq_true rfl) ok_counts_Less_1 ?_
  unfold Try.f59
  cases x <;> simp -implicitDefEqProofs (maxSteps := 600000) (disch := (first | omega | decide)) only [go_sem, ↓reduceIte, Nat.reduceEqDiff, reduceCtorEq, Nat.reduceAdd, Nat.reduceSub, Nat.reduceMul, Nat.reduceLeDiff, Nat.reduceLT, Nat.reduceBEq, Nat.reduceBNe, Int.reduceLE, Int.reduceLT, Int.reduceBEq, Int.reduceBNe, Int.reduceEq, Int.reduceNe, Int.reduceAdd, Int.reduceSub, Int.reduceMul, Int.reduceNeg, Int.reduceToNat]
noncomputable def T13h : Tab := T13g.add 52 (entry (fun (l : List Run) => [.slc (l.map Run.enc)]) (fun l => l.length ≤ 4398046511104) (fun l => .slc ((setR (hasL13 l)).map Run.enc)))
theorem T13h_ok : TabOK Try.prog T13h := T13g_ok.add (callable_of Try.func52 (by kernel_rfl) (by kernel_rfl)) (entry_ok fun l h => c_counts_Of l h)
@[go_sem] theorem T13h_old {g : FuncId} {xs : List A} (h : g ≠ 52) : T13h.f g xs = T13g.f g xs := Tab.add_ne h
@[go_sem] theorem T13h_eff {g : FuncId} : T13h.eff g = T13g.eff g := rfl
@[go_sem] theorem T13h_frz {g : FuncId} : T13h.frz g = T13g.frz g := rfl
@[go_sem] theorem T13h_effT : T13h.effT = T13g.effT := rfl
@[go_sem] theorem T13h_fix : T13h.fix = T13g.fix := rfl
@[go_sem] theorem T13h_nf : T13h.nf = T13g.nf := rfl
@[go_sem] theorem T13h_ords {n : Nat} : T13h.ords n = T13g.ords n := rfl
@[go_sem] theorem T13h_hp : T13h.hp = T13g.hp := rfl
theorem T13h_counts_Of (l : List Run) (h : l.length ≤ 4398046511104) : T13h.f 52 [.slc (l.map Run.enc)] = some (.slc ((setR (hasL13 l)).map Run.enc)) :=
  (Tab.add_eq : T13h.f 52 [.slc (l.map Run.enc)] = (entry (fun (l : List Run) => [.slc (l.map Run.enc)]) (fun l => l.length ≤ 4398046511104) (fun l => .slc ((setR (hasL13 l)).map Run.enc))) [.slc (l.map Run.enc)]).trans (entry_eq (fun i j h => by first | (cases i; cases j; rfl; done) | simpa [Prod.ext_iff, and_assoc] using h | (simp at h; omega)) l h)
@[go_sem] theorem t_counts_Of {l : List Run} (h : l.length ≤ 4398046511104) : T13h.f 52 [.slc (l.map Run.enc)] = some (.slc ((setR (hasL13 l)).map Run.enc)) := T13h_counts_Of l h
noncomputable def T13i : Tab := T13h.add 57 (entry (fun (v : Bool × Bool) => [.bool v.1, .bool v.2]) (fun v => True) (fun v => .bool (v.1 || v.2)))
theorem T13i_ok : TabOK Try.prog T13i := T13h_ok.add (callable_of Try.func57 (by kernel_rfl) (by kernel_rfl)) (entry_ok fun v h => c_Union1 v.1 v.2)
@[go_sem] theorem T13i_old {g : FuncId} {xs : List A} (h : g ≠ 57) : T13i.f g xs = T13h.f g xs := Tab.add_ne h
@[go_sem] theorem T13i_eff {g : FuncId} : T13i.eff g = T13h.eff g := rfl
@[go_sem] theorem T13i_frz {g : FuncId} : T13i.frz g = T13h.frz g := rfl
@[go_sem] theorem T13i_effT : T13i.effT = T13h.effT := rfl
@[go_sem] theorem T13i_fix : T13i.fix = T13h.fix := rfl
@[go_sem] theorem T13i_nf : T13i.nf = T13h.nf := rfl
@[go_sem] theorem T13i_ords {n : Nat} : T13i.ords n = T13h.ords n := rfl
@[go_sem] theorem T13i_hp : T13i.hp = T13h.hp := rfl
theorem T13i_counts_Union_1 (v : Bool × Bool) (h : True) : T13i.f 57 [.bool v.1, .bool v.2] = some (.bool (v.1 || v.2)) :=
  (Tab.add_eq : T13i.f 57 [.bool v.1, .bool v.2] = (entry (fun (v : Bool × Bool) => [.bool v.1, .bool v.2]) (fun v => True) (fun v => .bool (v.1 || v.2))) [.bool v.1, .bool v.2]).trans (entry_eq (fun i j h => by first | (cases i; cases j; rfl; done) | simpa [Prod.ext_iff, and_assoc] using h | (simp at h; omega)) v h)
noncomputable def T13j : Tab := T13i.add 58 (entry (fun (v : Bool × Bool) => [.bool v.1, .bool v.2]) (fun v => True) (fun v => .bool (v.1 && v.2)))
theorem T13j_ok : TabOK Try.prog T13j := T13i_ok.add (callable_of Try.func58 (by kernel_rfl) (by kernel_rfl)) (entry_ok fun v h => c_Meet1 v.1 v.2)
@[go_sem] theorem T13j_old {g : FuncId} {xs : List A} (h : g ≠ 58) : T13j.f g xs = T13i.f g xs := Tab.add_ne h
@[go_sem] theorem T13j_eff {g : FuncId} : T13j.eff g = T13i.eff g := rfl
@[go_sem] theorem T13j_frz {g : FuncId} : T13j.frz g = T13i.frz g := rfl
@[go_sem] theorem T13j_effT : T13j.effT = T13i.effT := rfl
@[go_sem] theorem T13j_fix : T13j.fix = T13i.fix := rfl
@[go_sem] theorem T13j_nf : T13j.nf = T13i.nf := rfl
@[go_sem] theorem T13j_ords {n : Nat} : T13j.ords n = T13i.ords n := rfl
@[go_sem] theorem T13j_hp : T13j.hp = T13i.hp := rfl
theorem T13j_counts_Meet_1 (v : Bool × Bool) (h : True) : T13j.f 58 [.bool v.1, .bool v.2] = some (.bool (v.1 && v.2)) :=
  (Tab.add_eq : T13j.f 58 [.bool v.1, .bool v.2] = (entry (fun (v : Bool × Bool) => [.bool v.1, .bool v.2]) (fun v => True) (fun v => .bool (v.1 && v.2))) [.bool v.1, .bool v.2]).trans (entry_eq (fun i j h => by first | (cases i; cases j; rfl; done) | simpa [Prod.ext_iff, and_assoc] using h | (simp at h; omega)) v h)
noncomputable def T13k : Tab := T13j.add 59 (entry (fun (v : Bool × Bool) => [.bool v.1, .bool v.2]) (fun v => True) (fun v => .bool (v.1 && !v.2)))
theorem T13k_ok : TabOK Try.prog T13k := T13j_ok.add (callable_of Try.func59 (by kernel_rfl) (by kernel_rfl)) (entry_ok fun v h => c_Less1 v.1 v.2)
@[go_sem] theorem T13k_old {g : FuncId} {xs : List A} (h : g ≠ 59) : T13k.f g xs = T13j.f g xs := Tab.add_ne h
@[go_sem] theorem T13k_eff {g : FuncId} : T13k.eff g = T13j.eff g := rfl
@[go_sem] theorem T13k_frz {g : FuncId} : T13k.frz g = T13j.frz g := rfl
@[go_sem] theorem T13k_effT : T13k.effT = T13j.effT := rfl
@[go_sem] theorem T13k_fix : T13k.fix = T13j.fix := rfl
@[go_sem] theorem T13k_nf : T13k.nf = T13j.nf := rfl
@[go_sem] theorem T13k_ords {n : Nat} : T13k.ords n = T13j.ords n := rfl
@[go_sem] theorem T13k_hp : T13k.hp = T13j.hp := rfl
theorem T13k_counts_Less_1 (v : Bool × Bool) (h : True) : T13k.f 59 [.bool v.1, .bool v.2] = some (.bool (v.1 && !v.2)) :=
  (Tab.add_eq : T13k.f 59 [.bool v.1, .bool v.2] = (entry (fun (v : Bool × Bool) => [.bool v.1, .bool v.2]) (fun v => True) (fun v => .bool (v.1 && !v.2))) [.bool v.1, .bool v.2]).trans (entry_eq (fun i j h => by first | (cases i; cases j; rfl; done) | simpa [Prod.ext_iff, and_assoc] using h | (simp at h; omega)) v h)
@[go_sem] theorem t_Union1 {x y : Bool} : T13i.f 57 [.bool x, .bool y] = some (.bool (x || y)) := T13i_counts_Union_1 (x, y) trivial
@[go_sem] theorem t_Meet1 {x y : Bool} : T13j.f 58 [.bool x, .bool y] = some (.bool (x && y)) := T13j_counts_Meet_1 (x, y) trivial
@[go_sem] theorem t_Less1 {x y : Bool} : T13k.f 59 [.bool x, .bool y] = some (.bool (x && !y)) := T13k_counts_Less_1 (x, y) trivial

abbrev SwI := List Run × Nat × Int × Int
def swEe (v : SwI) : List A := [.slc (v.1.map Run.enc), .int .i64 v.2.1, .ref 0 0, .ref 1 0]
def swO (v : SwI) : List Go.Abs.Obj := [.box [.int .i64 v.2.2.1], .box [.int .i64 v.2.2.2]]
def swK (v : SwI) : Prop := v.1.length ≤ 4398046511104 ∧ v.2.1 ≤ v.1.length ∧ ∀ r ∈ v.1, oneR r = true
def swR (v : SwI) : A × List Go.Abs.Obj × List Nat := (.bool (hdIn (v.1.drop v.2.1) v.2.2.1), [.box [.int .i64 v.2.2.1], .box [.int .i64 (hdEnd (v.1.drop v.2.1) v.2.2.1 v.2.2.2)]], [])
def isOp (g : FuncId) : Bool := g == 57 || g == 58 || g == 59
noncomputable def C13Za : Tab := T13k.addH 63 (entryH swEe swO swK swR)
noncomputable def C13Z : Tab := { C13Za with eff := fun f => f == 52, effT := true, frz := fun f => f == 52 || isOp f }
theorem C13Za_ok : TabOK Try.prog C13Za := T13k_ok.addH (callable_of Try.func63 (by kernel_rfl) (by kernel_rfl)) (entryH_ok fun v h => h_sweep1 v.1 v.2.1 v.2.2.1 v.2.2.2 h.1 h.2.1 h.2.2)
theorem C13Z_ok : TabOK Try.prog C13Z := ⟨C13Za_ok.f, C13Za_ok.hp⟩
@[go_sem] theorem C13Z_f : C13Z.f = T13k.f := rfl
@[go_sem] theorem C13Z_eff {g : FuncId} : C13Z.eff g = (g == 52) := rfl
@[go_sem] theorem C13Z_effT : C13Z.effT = true := rfl
@[go_sem] theorem C13Z_frz {g : FuncId} : C13Z.frz g = (g == 52 || isOp g) := rfl
@[go_sem] theorem C13Z_fix {n : Nat} : C13Z.fix n = false := rfl
@[go_sem] theorem C13Z_nf : C13Z.nf = 0 := rfl
@[go_sem] theorem C13Z_ords {n : Nat} : C13Z.ords n = [] := rfl
@[go_sem] theorem isOp_sweep : isOp 63 = false := rfl
theorem C13Z_sweep {l : List Run} {j : Nat} {p e : Int} (hl : l.length ≤ 4398046511104) (hj : j ≤ l.length) (ho : ∀ r ∈ l, oneR r = true) : C13Z.hp 63 [.slc (l.map Run.enc), .int .i64 j, .ref 0 0, .ref 1 0] [.box [.int .i64 p], .box [.int .i64 e]] =
    some (.bool (hdIn (l.drop j) p), [.box [.int .i64 p], .box [.int .i64 (hdEnd (l.drop j) p e)]], []) := by
  have h0 : C13Za.hp 63 (swEe (l, j, p, e)) (swO (l, j, p, e)) = entryH swEe swO swK swR (swEe (l, j, p, e)) (swO (l, j, p, e)) := Tab.addH_eq
  have h2 := h0.trans (entryH_eq (fun i j h h' => by
    obtain ⟨i1, i2, i3, i4⟩ := i
    obtain ⟨j1, j2, j3, j4⟩ := j
    simp [swEe] at h
    simp [swO] at h'
    obtain ⟨h1, h2⟩ := h
    obtain ⟨h3, h4⟩ := h'
    have h5 : i2 = j2 := by omega
    subst h1; subst h3; subst h4; subst h5
    rfl) (l, j, p, e) ⟨hl, hj, ho⟩)
  exact h2
theorem of_len {l : List Run} (h : rightL l = true) : l.length ≤ 1099511627776 := by
  have key : ∀ m : List Run, RR m → match m with | [] => True | r :: l => ((r :: l).length : Int) ≤ r.t := by
    intro m
    induction m with
    | nil => intro _; trivial
    | cons r l ih =>
      intro h
      have o := oneR_iff.1 (rr_one h)
      have ih := ih (rr_tail h)
      cases l with
      | nil => show ((1 : Nat) : Int) ≤ r.t; omega
      | cons q l =>
        have h2 := h.2.1
        have ih' : ((q :: l).length : Int) ≤ q.t := ih
        show (((q :: l).length + 1 : Nat) : Int) ≤ r.t
        omega
  have h1 := key l.reverse (right_iff.1 h)
  cases hm : l.reverse with
  | nil =>
    have : l = [] := by simpa using hm
    subst this; simp
  | cons r m =>
    rw [hm] at h1
    have o := oneR_iff.1 (rr_one (by rw [← hm]; exact right_iff.1 h))
    have hl : l.length = (r :: m).length := by rw [← hm]; simp
    have h1' : ((r :: m).length : Int) ≤ r.t := h1
    omega
theorem drop_next {l : List Run} {j : Nat} {e : Int} (h : j < l.length) : l.drop (if l[j]!.t = e then j + 1 else j) = hdNext (l.drop j) e := by
  rw [List.drop_eq_getElem_cons h]
  simp only [hdNext]
  rw [getElem!_pos l j h]
  split
  · rfl
  · exact List.drop_eq_getElem_cons h
theorem run_get' {l : List Run} {k : Nat} (h : k < l.length) : (l.map Run.enc)[k]? = some (.agg [.int .i64 l[k]!.f, .int .i64 l[k]!.t]) := by
  rw [getElem!_pos l k h]; exact run_get h
theorem ok_counts_sweep : codeOK Try.prog C13Z Try.f56.ntmps (Try.f56.body.getD .skip) = true := by kernel_rfl
theorem c_sweep (a b : List Run) (g : FuncId) (kp : Bool → Bool → Bool) (hg : isOp g = true) (hf : ∀ x y, T13k.f g [.bool x, .bool y] = some (.bool (kp x y))) (hk : kp false false = false) (ha : a.length ≤ 4398046511104) (hb : b.length ≤ 4398046511104) :
    CallA Try.prog 56 [.slc (a.map Run.enc), .slc (b.map Run.enc), .fn g []] (· = .slc ((setR fun n => kp (hasL13 a n) (hasL13 b n)).map Run.enc)) := by
  refine callA_of_body C13Z_ok mixed Try.func56 rfl (Nat.le_of_ble_eq_true rfl) ok_counts_sweep ?_
  unfold Try.f56
  have ra := setR_right (hasL13 a)
  have rb := setR_right (hasL13 b)
  have va := setR_has (isR_has a)
  have vb := setR_has (isR_has b)
  simp -implicitDefEqProofs (maxSteps := 600000) (disch := (first | omega | decide)) only [go_sem, ↓reduceIte, Nat.reduceEqDiff, reduceCtorEq, Nat.reduceAdd, Nat.reduceSub, Nat.reduceMul, Nat.reduceLeDiff, Nat.reduceLT, Nat.reduceBEq, Nat.reduceBNe, Int.reduceLE, Int.reduceLT, Int.reduceBEq, Int.reduceBNe, Int.reduceEq, Int.reduceNe, Int.reduceAdd, Int.reduceSub, Int.reduceMul, Int.reduceNeg, Int.reduceToNat, List.length_map, List.contains_nil]
  have hfin : (fun n => kp (hasL13 a n) (hasL13 b n)) = fun n => kp (hasL13 (setR (hasL13 a)) n) (hasL13 (setR (hasL13 b)) n) := by funext n; rw [va, vb]
  rw [hfin]
  generalize setR (hasL13 a) = u at *
  generalize setR (hasL13 b) = v at *
  have lu := of_len ra
  have lv := of_len rb
  have ou := (right_pw.1 ra).2
  have ov := (right_pw.1 rb).2
  refine wpA_loop_nil 7 2 rfl ?_
  refine wpA_loop [0, 1, 2, 6, 8] (ι := {s : Int × Nat × Nat × List Run // SwInv kp u v s.1 s.2.1 s.2.2.1 s.2.2.2}) (fun s => [(9, .int .i64 s.1.2.1), (10, .int .i64 s.1.2.2.1), (7, .row 1 0 2 s.1.2.2.2.length false)]) (fun s => [(0, .box [.int .i64 s.1.1]), (1, .row 2 (s.1.2.2.2.map Run.enc))]) (fun s => (1099511627777 - s.1.1).toNat) ⟨(1, 0, 0, []), sw_init ra rb hk⟩ (Nat.zero_le _) ?_ ?_
  · simp -implicitDefEqProofs (maxSteps := 600000) (disch := (first | omega | decide)) only [go_sem, ↓reduceIte, Nat.reduceEqDiff, reduceCtorEq, Nat.reduceAdd, Nat.reduceSub, Nat.reduceMul, Nat.reduceLeDiff, Nat.reduceLT, Nat.reduceBEq, Nat.reduceBNe, Int.reduceLE, Int.reduceLT, Int.reduceBEq, Int.reduceBNe, Int.reduceEq, Int.reduceNe, Int.reduceAdd, Int.reduceSub, Int.reduceMul, Int.reduceNeg, Int.reduceToNat]
    done
  · rintro ⟨⟨p, i, k, out⟩, hI⟩
    simp only at hI ⊢
    obtain ⟨lo, hi, ia, kb, da, db, hha, hhb, one, hout, len⟩ := id hI
    have exits : (¬ p ≤ 1099511627776 ∨ (i = u.length ∧ k = v.length)) → (setR (hasL13 out)).map Run.enc = (setR fun n => kp (hasL13 u n) (hasL13 v n)).map Run.enc := fun hx => by rw [sw_done ra rb hk hI hx]
    by_cases hp : p ≤ 1099511627776
    · by_cases hx : i < u.length ∨ k < v.length
      · have eE := sw_end ra rb hI hp
        have s1 := C13Z_sweep (l := u) (j := i) (p := p) (e := 1099511627776) (by omega) ia ou
        have s2 := C13Z_sweep (l := v) (j := k) (p := p) (e := hdEnd (u.drop i) p 1099511627776) (by omega) kb ov
        have step := fun i' k' hi' hk' h1 h2 => sw_step ra rb (i' := i') (k' := k') hI hp hi' hk' h1 h2 rfl
        have next : ∀ i' k' out', i' ≤ u.length → k' ≤ v.length → u.drop i' = hdNext (u.drop i) (swEnd u v p i k) → v.drop k' = hdNext (v.drop k) (swEnd u v p i k) → out' = (if kp (hdIn (u.drop i) p) (hdIn (v.drop k) p) then out ++ [⟨p, swEnd u v p i k⟩] else out) →
            ∃ s : {s : Int × Nat × Nat × List Run // SwInv kp u v s.1 s.2.1 s.2.2.1 s.2.2.2}, s.1 = (swEnd u v p i k + 1, i', k', out') ∧ (1099511627777 - s.1.1).toNat < (1099511627777 - p).toNat := fun i' k' out' g1 g2 g3 g4 g5 => ⟨⟨(_, i', k', out'), by subst g5; exact step i' k' g1 g2 g3 g4⟩, rfl, by show (1099511627777 - (swEnd u v p i k + 1)).toNat < _; omega⟩
        have hee : hdEnd (v.drop k) p (hdEnd (u.drop i) p 1099511627776) = swEnd u v p i k := rfl
        rw [hee] at s2
        have du := @drop_next u i (swEnd u v p i k)
        have dv := @drop_next v k (swEnd u v p i k)
        have du0 : ¬ i < u.length → u.drop i = hdNext (u.drop i) (swEnd u v p i k) := fun h => by rw [List.drop_of_length_le (by omega)]; rfl
        have dv0 : ¬ k < v.length → v.drop k = hdNext (v.drop k) (swEnd u v p i k) := fun h => by rw [List.drop_of_length_le (by omega)]; rfl
        have gu := @run_get' u i
        have gv := @run_get' v k
        generalize swEnd u v p i k = E at *
        generalize hdEnd (u.drop i) p 1099511627776 = E1 at *
        generalize hdIn (u.drop i) p = x at *
        generalize hdIn (v.drop k) p = y at *
        have U : ∃ i', i' ≤ u.length ∧ u.drop i' = hdNext (u.drop i) E ∧ (((i : Int) < (u.length : Int) ∧ (u.map Run.enc)[i]? = some (.agg [.int .i64 u[i]!.f, .int .i64 u[i]!.t]) ∧ (u[i]!.t == E) = true ∧ i' = i + 1) ∨
            ((i : Int) < (u.length : Int) ∧ (u.map Run.enc)[i]? = some (.agg [.int .i64 u[i]!.f, .int .i64 u[i]!.t]) ∧ (u[i]!.t == E) = false ∧ i' = i) ∨ (¬ (i : Int) < (u.length : Int) ∧ (u.map Run.enc)[i]? = none ∧ ((0 : Int) == 0) = true ∧ i' = i)) := by
          by_cases h : i < u.length
          · have d := du h
            by_cases e : u[i]!.t = E
            · rw [if_pos e] at d; exact ⟨i + 1, h, d, .inl ⟨by omega, gu h, by simpa using e, rfl⟩⟩
            · rw [if_neg e] at d; exact ⟨i, ia, d, .inr (.inl ⟨by omega, gu h, by simpa using e, rfl⟩)⟩
          · exact ⟨i, ia, du0 h, .inr (.inr ⟨by omega, by simp; omega, rfl, rfl⟩)⟩
        have V : ∃ k', k' ≤ v.length ∧ v.drop k' = hdNext (v.drop k) E ∧ (((k : Int) < (v.length : Int) ∧ (v.map Run.enc)[k]? = some (.agg [.int .i64 v[k]!.f, .int .i64 v[k]!.t]) ∧ (v[k]!.t == E) = true ∧ k' = k + 1) ∨
            ((k : Int) < (v.length : Int) ∧ (v.map Run.enc)[k]? = some (.agg [.int .i64 v[k]!.f, .int .i64 v[k]!.t]) ∧ (v[k]!.t == E) = false ∧ k' = k) ∨ (¬ (k : Int) < (v.length : Int) ∧ (v.map Run.enc)[k]? = none ∧ ((0 : Int) == 0) = true ∧ k' = k)) := by
          by_cases h : k < v.length
          · have d := dv h
            by_cases e : v[k]!.t = E
            · rw [if_pos e] at d; exact ⟨k + 1, h, d, .inl ⟨by omega, gv h, by simpa using e, rfl⟩⟩
            · rw [if_neg e] at d; exact ⟨k, kb, d, .inr (.inl ⟨by omega, gv h, by simpa using e, rfl⟩)⟩
          · exact ⟨k, kb, dv0 h, .inr (.inr ⟨by omega, by simp; omega, rfl, rfl⟩)⟩
        clear du dv du0 dv0 gu gv step
        have tl : (out.map Run.enc).take out.length = out.map Run.enc := List.take_of_length_le (by simp)
        obtain ⟨i', li, di, U⟩ := U
        obtain ⟨k', lk, dk, V⟩ := V
        have nx := fun out' h => next i' k' out' li lk di dk h
        clear next di dk
        rcases U with ⟨hu, gu, bu, rfl⟩ | ⟨hu, gu, bu, rfl⟩ | ⟨hu, gu, bu, rfl⟩ <;> rcases V with ⟨hv, gv, bv, rfl⟩ | ⟨hv, gv, bv, rfl⟩ | ⟨hv, gv, bv, rfl⟩ <;> first
          | (exfalso; omega)
          | (cases hkp : kp x y <;> rw [hkp] at nx <;> obtain ⟨s, hs, hm⟩ := nx _ rfl <;> simp -implicitDefEqProofs (maxSteps := 600000) (disch := (first | omega | decide)) only [go_sem, ↓reduceIte, Nat.reduceEqDiff, reduceCtorEq, Nat.reduceAdd, Nat.reduceSub, Nat.reduceMul, Nat.reduceLeDiff, Nat.reduceLT, Nat.reduceBEq, Nat.reduceBNe, Int.reduceLE, Int.reduceLT, Int.reduceBEq, Int.reduceBNe, Int.reduceEq, Int.reduceNe, Int.reduceAdd, Int.reduceSub, Int.reduceMul, Int.reduceNeg, Int.reduceToNat, hp, hu, hv, gu, gv, bu, bv, s1, s2, hf, hkp, hg, tl, wrap_i64, List.length_map, List.take_length, List.contains_nil, List.contains_cons])
        all_goals first
          | exact ⟨s, ⟨⟨by simp [hs], by simp [hs], by simp [hs]⟩, by simp [hs], by simp [hs]⟩, hm⟩
          | exact ⟨⟨Nat.le_refl _, by omega⟩, s, ⟨⟨by simp [hs], by simp [hs], by simp [hs]⟩, by simp [hs], by simp [hs, Run.enc, Run.cells]⟩, hm⟩
      · have e1 : i = u.length := by omega
        have e2 : k = v.length := by omega
        have c1 : ¬ (i : Int) < (u.length : Int) := by omega
        have c2 : ¬ (k : Int) < (v.length : Int) := by omega
        have ex := exits (.inr ⟨e1, e2⟩)
        have tl : (out.map Run.enc).take out.length = out.map Run.enc := List.take_of_length_le (by simp)
        simp -implicitDefEqProofs (maxSteps := 600000) (disch := (first | omega | decide)) only [go_sem, ↓reduceIte, Nat.reduceEqDiff, reduceCtorEq, Nat.reduceAdd, Nat.reduceSub, Nat.reduceMul, Nat.reduceLeDiff, Nat.reduceLT, Nat.reduceBEq, Nat.reduceBNe, Int.reduceLE, Int.reduceLT, Int.reduceBEq, Int.reduceBNe, Int.reduceEq, Int.reduceNe, Int.reduceAdd, Int.reduceSub, Int.reduceMul, Int.reduceNeg, Int.reduceToNat, hp, c1, c2, tl, List.length_map, List.take_length, List.contains_nil]
        exact ⟨Nat.le_refl _, by rw [ex]⟩
    · have ex := exits (.inl hp)
      have tl : (out.map Run.enc).take out.length = out.map Run.enc := List.take_of_length_le (by simp)
      simp -implicitDefEqProofs (maxSteps := 600000) (disch := (first | omega | decide)) only [go_sem, ↓reduceIte, Nat.reduceEqDiff, reduceCtorEq, Nat.reduceAdd, Nat.reduceSub, Nat.reduceMul, Nat.reduceLeDiff, Nat.reduceLT, Nat.reduceBEq, Nat.reduceBNe, Int.reduceLE, Int.reduceLT, Int.reduceBEq, Int.reduceBNe, Int.reduceEq, Int.reduceNe, Int.reduceAdd, Int.reduceSub, Int.reduceMul, Int.reduceNeg, Int.reduceToNat, hp, tl, List.length_map, List.take_length, List.contains_nil]
      exact ⟨Nat.le_refl _, by rw [ex]⟩
end Go.Proofs.Ytbnmicpgbcfooaa
