/- Chapter 08: the edges of right lists. -/
import Derived.Test.YtnmkojglcgaobaaK08G
namespace Go.Proofs.Ytnmkojglcgaobaa
open Go.Abs
set_option linter.unusedSimpArgs false
set_option linter.unusedVariables false
set_option maxRecDepth 20000
set_option maxHeartbeats 8000000

noncomputable def T08t : Tab := T08s.add 121 (entry (fun (v : List UInt8 × Int) => [.slc [.str v.1], .int .i64 0, .int .i64 1, .int .i64 v.2, .fn 75 []]) (fun v => True) (fun v => .tup []))
theorem T08t_ok : TabOK Try.prog T08t := T08s_ok.add (callable_of Try.func121 (by kernel_rfl) (by kernel_rfl)) (entry_ok fun v h => c_pdq1 v.1 v.2)
@[go_sem] theorem T08t_old {g : FuncId} {xs : List A} (h : g ≠ 121) : T08t.f g xs = T08s.f g xs := Tab.add_ne h
@[go_sem] theorem T08t_eff {g : FuncId} : T08t.eff g = T08s.eff g := rfl
@[go_sem] theorem T08t_frz {g : FuncId} : T08t.frz g = T08s.frz g := rfl
@[go_sem] theorem T08t_effT : T08t.effT = T08s.effT := rfl
@[go_sem] theorem T08t_fix : T08t.fix = T08s.fix := rfl
@[go_sem] theorem T08t_nf : T08t.nf = T08s.nf := rfl
@[go_sem] theorem T08t_ords {n : Nat} : T08t.ords n = T08s.ords n := rfl
@[go_sem] theorem T08t_hp : T08t.hp = T08s.hp := rfl
theorem T08t_slices_pdqsortCmpFunc_string (v : List UInt8 × Int) (h : True) : T08t.f 121 [.slc [.str v.1], .int .i64 0, .int .i64 1, .int .i64 v.2, .fn 75 []] = some (.tup []) :=
  (Tab.add_eq : T08t.f 121 [.slc [.str v.1], .int .i64 0, .int .i64 1, .int .i64 v.2, .fn 75 []] = (entry (fun (v : List UInt8 × Int) => [.slc [.str v.1], .int .i64 0, .int .i64 1, .int .i64 v.2, .fn 75 []]) (fun v => True) (fun v => .tup [])) [.slc [.str v.1], .int .i64 0, .int .i64 1, .int .i64 v.2, .fn 75 []]).trans (entry_eq (fun i j h => by first | (cases i; cases j; rfl; done) | simpa [Prod.ext_iff, and_assoc] using h | (simp at h; omega)) v h)
@[go_sem] theorem t_pdq1 {x : List UInt8} {n : Int} : T08t.f 121 [.slc [.str x], .int .i64 0, .int .i64 1, .int .i64 n, .fn 75 []] = some (.tup []) := T08t_slices_pdqsortCmpFunc_string (x, n) trivial
noncomputable def T08u : Tab := T08t.add 118 (entry (fun (u : Unit) => [.int .u64 1]) (fun u => True) (fun u => .int .i64 1))
theorem T08u_ok : TabOK Try.prog T08u := T08t_ok.add (callable_of Try.func118 (by kernel_rfl) (by kernel_rfl)) (entry_ok fun u h => c_len64)
@[go_sem] theorem T08u_old {g : FuncId} {xs : List A} (h : g ≠ 118) : T08u.f g xs = T08t.f g xs := Tab.add_ne h
@[go_sem] theorem T08u_eff {g : FuncId} : T08u.eff g = T08t.eff g := rfl
@[go_sem] theorem T08u_frz {g : FuncId} : T08u.frz g = T08t.frz g := rfl
@[go_sem] theorem T08u_effT : T08u.effT = T08t.effT := rfl
@[go_sem] theorem T08u_fix : T08u.fix = T08t.fix := rfl
@[go_sem] theorem T08u_nf : T08u.nf = T08t.nf := rfl
@[go_sem] theorem T08u_ords {n : Nat} : T08u.ords n = T08t.ords n := rfl
@[go_sem] theorem T08u_hp : T08u.hp = T08t.hp := rfl
theorem T08u_math_bits_Len64 (u : Unit) (h : True) : T08u.f 118 [.int .u64 1] = some (.int .i64 1) :=
  (Tab.add_eq : T08u.f 118 [.int .u64 1] = (entry (fun (u : Unit) => [.int .u64 1]) (fun u => True) (fun u => .int .i64 1)) [.int .u64 1]).trans (entry_eq (fun i j h => by first | (cases i; cases j; rfl; done) | simpa [Prod.ext_iff, and_assoc] using h | (simp at h; omega)) u h)
@[go_sem] theorem t_len64 : T08u.f 118 [.int .u64 1] = some (.int .i64 1) := T08u_math_bits_Len64 () trivial
theorem ok_math_bits_Len : codeOK Try.prog T08u Try.f99.ntmps (Try.f99.body.getD .skip) = true := by kernel_rfl
theorem c_len : CallA Try.prog 99 [.int .u64 1] (· = .int .i64 1) := by
  refine callA_of_body T08u_ok mixed Try.func99 rfl (Nat.le_of_ble_eq_true rfl) ok_math_bits_Len ?_
  unfold Try.f99
  simp -implicitDefEqProofs (maxSteps := 600000) (disch := (first | omega | decide)) only [go_sem, ↓reduceIte, Nat.reduceEqDiff, reduceCtorEq, Nat.reduceAdd, Nat.reduceSub, Nat.reduceMul, Nat.reduceLeDiff, Nat.reduceLT, Nat.reduceBEq, Nat.reduceBNe, Int.reduceLE, Int.reduceLT, Int.reduceBEq, Int.reduceBNe, Int.reduceEq, Int.reduceNe, Int.reduceAdd, Int.reduceSub, Int.reduceMul, Int.reduceNeg, Int.reduceToNat]
noncomputable def T08v : Tab := T08u.add 99 (entry (fun (u : Unit) => [.int .u64 1]) (fun u => True) (fun u => .int .i64 1))
theorem T08v_ok : TabOK Try.prog T08v := T08u_ok.add (callable_of Try.func99 (by kernel_rfl) (by kernel_rfl)) (entry_ok fun u h => c_len)
@[go_sem] theorem T08v_old {g : FuncId} {xs : List A} (h : g ≠ 99) : T08v.f g xs = T08u.f g xs := Tab.add_ne h
@[go_sem] theorem T08v_eff {g : FuncId} : T08v.eff g = T08u.eff g := rfl
@[go_sem] theorem T08v_frz {g : FuncId} : T08v.frz g = T08u.frz g := rfl
@[go_sem] theorem T08v_effT : T08v.effT = T08u.effT := rfl
@[go_sem] theorem T08v_fix : T08v.fix = T08u.fix := rfl
@[go_sem] theorem T08v_nf : T08v.nf = T08u.nf := rfl
@[go_sem] theorem T08v_ords {n : Nat} : T08v.ords n = T08u.ords n := rfl
@[go_sem] theorem T08v_hp : T08v.hp = T08u.hp := rfl
theorem T08v_math_bits_Len (u : Unit) (h : True) : T08v.f 99 [.int .u64 1] = some (.int .i64 1) :=
  (Tab.add_eq : T08v.f 99 [.int .u64 1] = (entry (fun (u : Unit) => [.int .u64 1]) (fun u => True) (fun u => .int .i64 1)) [.int .u64 1]).trans (entry_eq (fun i j h => by first | (cases i; cases j; rfl; done) | simpa [Prod.ext_iff, and_assoc] using h | (simp at h; omega)) u h)
@[go_sem] theorem t_len : T08v.f 99 [.int .u64 1] = some (.int .i64 1) := T08v_math_bits_Len () trivial
theorem ok_slices_SortFunc_string_string : codeOK Try.prog T08v Try.f107.ntmps (Try.f107.body.getD .skip) = true := by kernel_rfl
theorem c_sort1 (x : List UInt8) : CallA Try.prog 107 [.slc [.str x], .fn 75 []] (· = .tup []) := by
  refine callA_of_body T08v_ok mixed Try.func107 rfl (Nat.le_of_ble_eq_true rfl) ok_slices_SortFunc_string_string ?_
  unfold Try.f107
  have w64 : IntKind.u64.wrap 1 = 1 := by decide
  simp -implicitDefEqProofs (maxSteps := 600000) (disch := (first | omega | decide)) only [go_sem, ↓reduceIte, Nat.reduceEqDiff, reduceCtorEq, Nat.reduceAdd, Nat.reduceSub, Nat.reduceMul, Nat.reduceLeDiff, Nat.reduceLT, Nat.reduceBEq, Nat.reduceBNe, Int.reduceLE, Int.reduceLT, Int.reduceBEq, Int.reduceBNe, Int.reduceEq, Int.reduceNe, Int.reduceAdd, Int.reduceSub, Int.reduceMul, Int.reduceNeg, Int.reduceToNat, w64, resL_nil]
  try rfl
theorem c_comp1 (x : List UInt8) : CallA Try.prog 108 [.slc [.str x]] (· = .slc [.str x]) := by
  refine callA_of_body T08v_ok mixed Try.func108 rfl (Nat.le_of_ble_eq_true rfl) (by kernel_rfl) ?_
  unfold Try.f108
  simp -implicitDefEqProofs (maxSteps := 600000) (disch := (first | omega | decide)) only [go_sem, ↓reduceIte, Nat.reduceEqDiff, reduceCtorEq, Nat.reduceAdd, Nat.reduceSub, Nat.reduceMul, Nat.reduceLeDiff, Nat.reduceLT, Nat.reduceBEq, Nat.reduceBNe, Int.reduceLE, Int.reduceLT, Int.reduceBEq, Int.reduceBNe, Int.reduceEq, Int.reduceNe, Int.reduceAdd, Int.reduceSub, Int.reduceMul, Int.reduceNeg, Int.reduceToNat]
theorem repL_clip1 {E : Env} {es : List A} {ys : List A} {vs : List Value} (h : RepL E (.clip es :: ys) vs) : RepL E (.slc es :: ys) vs := by
  simp only [RepL] at h ⊢
  obtain ⟨v, vs', h1, h2, h3⟩ := h
  exact ⟨v, vs', h1, rep_clip_slc h2, h3⟩

abbrev StI := List StrB ⊕ List UInt8
def stE : StI → List A
  | .inl l => [.row 0 0 1 l.length false, .fn 75 []]
  | .inr x => [.clip [.str x], .fn 75 []]
def stO : StI → List Go.Abs.Obj
  | .inl l => [.row 1 (l.map StrB.enc)]
  | .inr _ => []
def stK : StI → Prop
  | .inl l => l.length < 4611686018427387904
  | .inr _ => True
noncomputable def stR : StI → A × List Go.Abs.Obj × List Nat
  | .inl l => (.tup [], [.row 1 ((sortL cfS l).map StrB.enc)], [])
  | .inr _ => (.tup [], [], [])
theorem strB_inj (x y : StrB) (h : x.enc = y.enc) : x = y := Subtype.ext (by simpa [StrB.enc] using h)
theorem st_inj (i j : StI) (h : stE i = stE j) (h' : stO i = stO j) : i = j := by
  cases i <;> cases j
  · simp only [stO, List.cons.injEq, Go.Abs.Obj.row.injEq, true_and, and_true] at h'
    rw [map_inj strB_inj] at h'
    rw [h']
  · simp [stO] at h'
  · simp [stO] at h'
  · simp [stE] at h
    rw [h]
abbrev CpI := List (List UInt8) ⊕ List UInt8
def cpE : CpI → List A
  | .inl l => [.row 0 0 1 l.length false]
  | .inr x => [.clip [.str x]]
def cpO : CpI → List Go.Abs.Obj
  | .inl l => [.row 1 (l.map A.str)]
  | .inr _ => []
def cpK : CpI → Prop
  | .inl l => l.length ≤ 4611686018427387903
  | .inr _ => True
def cpR : CpI → A × List Go.Abs.Obj × List Nat
  | .inl l => (.row 0 0 1 (compL l).length false, [.row 1 ((compL l ++ List.replicate (l.length - (compL l).length) ([] : List UInt8)).map A.str)], [])
  | .inr x => (.slc [.str x], [], [])
theorem cp_inj (i j : CpI) (h : cpE i = cpE j) (h' : cpO i = cpO j) : i = j := by
  cases i <;> cases j
  · simp only [cpO, List.cons.injEq, Go.Abs.Obj.row.injEq, true_and, and_true] at h'
    rw [map_str_inj] at h'
    rw [h']
  · simp [cpO] at h'
  · simp [cpO] at h'
  · simp [cpE] at h
    rw [h]
noncomputable def E8a : Tab := T08v.addH 107 (entryH stE stO stK stR)
noncomputable def E8b : Tab := E8a.addH 108 (entryH cpE cpO cpK cpR)
noncomputable def E8 : Tab := { E8b with eff := fun f => f == 107 || f == 108 }
theorem stH (i : StI) (h : stK i) : CallH Try.prog 107 (stE i) (stO i) (stR i).1 (stR i).2.1 (stR i).2.2 := by
  cases i with
  | inl l => simpa only [stE, stO, stR] using c_SortFunc_Str l h
  | inr x => simpa only [stE, stO, stR] using callH_pure (c_sort1 x) (fun E vs => repL_clip1) rfl
theorem cpH (i : CpI) (h : cpK i) : CallH Try.prog 108 (cpE i) (cpO i) (cpR i).1 (cpR i).2.1 (cpR i).2.2 := by
  cases i with
  | inl l => simpa only [cpE, cpO, cpR] using c_Compact_Str l h
  | inr x => simpa only [cpE, cpO, cpR] using callH_pure (c_comp1 x) (fun E vs => repL_clip1) rfl
theorem E8a_ok : TabOK Try.prog E8a := T08v_ok.addH (callable_of Try.func107 (by kernel_rfl) (by kernel_rfl)) (entryH_ok stH)
theorem E8b_ok : TabOK Try.prog E8b := E8a_ok.addH (callable_of Try.func108 (by kernel_rfl) (by kernel_rfl)) (entryH_ok cpH)
theorem E8_ok : TabOK Try.prog E8 := ⟨E8b_ok.f, E8b_ok.hp⟩
@[go_sem] theorem E8_f : E8.f = T08v.f := rfl
@[go_sem] theorem E8_eff {g : FuncId} : E8.eff g = (g == 107 || g == 108) := rfl
@[go_sem] theorem E8_effT : E8.effT = false := rfl
@[go_sem] theorem E8_frz {g : FuncId} : E8.frz g = T08v.frz g := rfl
@[go_sem] theorem E8_fix {n : Nat} : E8.fix n = false := rfl
@[go_sem] theorem E8_nf : E8.nf = 0 := rfl
@[go_sem] theorem E8_ords {n : Nat} : E8.ords n = [] := rfl
theorem E8_st (i : StI) (h : stK i) : E8.hp 107 (stE i) (stO i) = some (stR i) := by
  have h1 : E8b.hp 107 (stE i) (stO i) = E8a.hp 107 (stE i) (stO i) := Tab.addH_ne (by decide)
  have h2 : E8a.hp 107 (stE i) (stO i) = entryH stE stO stK stR (stE i) (stO i) := Tab.addH_eq
  have h3 := entryH_eq (enc := stE) (obs := stO) (ok := stK) (spec := stR) (fun i j h h' => st_inj i j h h') i h
  exact (show E8.hp 107 (stE i) (stO i) = E8b.hp 107 (stE i) (stO i) from rfl).trans (h1.trans (h2.trans h3))
theorem E8_cp (i : CpI) (h : cpK i) : E8.hp 108 (cpE i) (cpO i) = some (cpR i) := by
  have h2 : E8b.hp 108 (cpE i) (cpO i) = entryH cpE cpO cpK cpR (cpE i) (cpO i) := Tab.addH_eq
  have h3 := entryH_eq (enc := cpE) (obs := cpO) (ok := cpK) (spec := cpR) (fun i j h h' => cp_inj i j h h') i h
  exact (show E8.hp 108 (cpE i) (cpO i) = E8b.hp 108 (cpE i) (cpO i) from rfl).trans (h2.trans h3)
/-- All edges, as they come. -/
def rawS (es : List (List UInt8)) (r : Rng) : List (List UInt8) := es ++ (if r.op then [r.lo] else [r.lo, r.hi])
def rawE (es : List (List UInt8)) (l : List Rng) : List (List UInt8) := l.foldl rawS es
theorem rawE_step (l : List Rng) (es : List (List UInt8)) (k : Nat) (h : k < l.length) : rawE es (l.take (k + 1)) = rawS (rawE es (l.take k)) l[k] := by
  unfold rawE
  rw [← List.take_append_getElem h, List.foldl_append]; rfl
theorem rawE_len : ∀ (l : List Rng) (es : List (List UInt8)), es.length ≤ (rawE es l).length ∧ (rawE es l).length ≤ es.length + 2 * l.length
  | [], es => by simp [rawE]
  | r :: l, es => by
    have h1 := rawE_len l (rawS es r)
    have h2 : es.length + 1 ≤ (rawS es r).length ∧ (rawS es r).length ≤ es.length + 2 := by
      unfold rawS; rw [List.length_append]; split <;> simp
    have e : rawE es (r :: l) = rawE (rawS es r) l := rfl
    rw [e]; simp only [List.length_cons]; omega
theorem rawE_mem : ∀ (l : List Rng) (es : List (List UInt8)) (x : List UInt8), x ∈ rawE es l ↔ x ∈ es ∨ ∃ r ∈ l, x = r.lo ∨ (r.op = false ∧ x = r.hi)
  | [], es, x => by simp [rawE]
  | r :: l, es, x => by
    have e : rawE es (r :: l) = rawE (rawS es r) l := rfl
    rw [e, rawE_mem l]
    unfold rawS
    cases ho : r.op <;> simp [ho, or_assoc]
theorem rawE_app (a b : List Rng) (es : List (List UInt8)) : rawE es (a ++ b) = rawE (rawE es a) b := by unfold rawE; rw [List.foldl_append]
noncomputable def edgesT (a b : List Rng) : List (List UInt8) := compL (sortT (rawE [[]] (a ++ b)))
def sh5 (E : List (List UInt8)) : A := if E.length = 1 then .clip [.str []] else .row 1 0 1 E.length false
def shH (E : List (List UInt8)) : List Go.Abs.Obj := if E.length = 1 then [] else [.box [.any, .any, .any], .row 1 (E.map .str)]
theorem sh_one {E : List (List UInt8)} (h : E.length = 1) : sh5 E = .clip [.str []] ∧ shH E = [] := by simp [sh5, shH, h]
theorem sh_more {E : List (List UInt8)} (h : E.length ≠ 1) : sh5 E = .row 1 0 1 E.length false ∧ shH E = [.box [.any, .any, .any], .row 1 (E.map .str)] := by simp [sh5, shH, h]
theorem sh_under {E : List (List UInt8)} : (sh5 E).under (shH E).length = true := by
  by_cases h : E.length = 1
  · rw [(sh_one h).1]; simp [A.under]
  · rw [(sh_more h).1, (sh_more h).2]; simp [A.under]
def accE (a b : List Rng) (o : Nat) : List (List UInt8) := rawE [[]] (if o = 0 then [] else if o = 1 then a else a ++ b)
theorem accE0 (a b : List Rng) : accE a b 0 = [[]] := rfl
theorem acc_get (a b : List Rng) (o : Nat) (h : o < 2) : ∃ l, (List.drop o [A.slc (a.map Rng.enc), A.slc (b.map Rng.enc)]).head? = some (.slc (l.map Rng.enc)) ∧ rawE (accE a b o) l = accE a b (o + 1) ∧ (l = a ∨ l = b) := by
  rcases (by omega : o = 0 ∨ o = 1) with rfl | rfl
  · exact ⟨a, rfl, rfl, .inl rfl⟩
  · exact ⟨b, rfl, (rawE_app a b [[]]).symm, .inr rfl⟩
theorem acc_one {a b : List Rng} {o : Nat} (h : (accE a b o).length = 1) : accE a b o = [[]] := by
  unfold accE at h ⊢
  cases hl : (if o = 0 then [] else if o = 1 then a else a ++ b) with
  | nil => rfl
  | cons r l =>
    rw [hl] at h
    have h1 := (rawE_len l (rawS [[]] r)).1
    have h2 : 2 ≤ (rawS [[]] r).length := by unfold rawS; split <;> simp
    have e : rawE [[]] (r :: l) = rawE (rawS [[]] r) l := rfl
    rw [e] at h; omega
end Go.Proofs.Ytnmkojglcgaobaa
