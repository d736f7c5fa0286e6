/- Chapter 08: two lists, swept. -/
import Derived.Test.YtnmkojglcgaobaaK08I
import Derived.Test.YtnmkojglcgaobaaK08E
import Derived.Test.YtnmkojglcgaobaaK08N
namespace Go.Proofs.Ytnmkojglcgaobaa
open Go.Abs
set_option linter.unusedSimpArgs false
set_option linter.unusedVariables false
set_option maxRecDepth 20000
set_option maxHeartbeats 8000000

theorem setS_len (l : List Rng) : (setS (hasRs l)).length ≤ l.length := by
  rw [← srtR_all, List.length_reverse]
  have h1 := foldS_len (srtR l) []
  have h2 := (srtR_perm l).length_eq
  have h3 := List.length_filter_le rightR l
  rw [List.length_nil] at h1
  omega
theorem setS_ok (p : List UInt8 → Bool) : okL (setS p) := fun r hr => rng_ok17 ((rightRs_can.1 (setS_right p)).1 r hr)
noncomputable def S8a : Tab := S8z.add 36 (entry (fun (l : List Rng) => [.slc (l.map Rng.enc)]) (fun l => l.length ≤ 1000000 ∧ okL l) (fun l => .slc ((setS (hasRs l)).map Rng.enc)))
theorem S8a_ok : TabOK Try.prog S8a := S8z_ok.add (callable_of Try.func36 (by kernel_rfl) (by kernel_rfl)) (entry_ok fun l h => c_ranges_Of l h.1 h.2)
@[go_sem] theorem S8a_old {g : FuncId} {xs : List A} (h : g ≠ 36) : S8a.f g xs = S8z.f g xs := Tab.add_ne h
@[go_sem] theorem S8a_eff {g : FuncId} : S8a.eff g = S8z.eff g := rfl
@[go_sem] theorem S8a_frz {g : FuncId} : S8a.frz g = S8z.frz g := rfl
@[go_sem] theorem S8a_effT : S8a.effT = S8z.effT := rfl
@[go_sem] theorem S8a_fix : S8a.fix = S8z.fix := rfl
@[go_sem] theorem S8a_nf : S8a.nf = S8z.nf := rfl
@[go_sem] theorem S8a_ords {n : Nat} : S8a.ords n = S8z.ords n := rfl
@[go_sem] theorem S8a_hp : S8a.hp = S8z.hp := rfl
theorem S8a_ranges_Of (l : List Rng) (h : l.length ≤ 1000000 ∧ okL l) : S8a.f 36 [.slc (l.map Rng.enc)] = some (.slc ((setS (hasRs l)).map Rng.enc)) :=
  (Tab.add_eq : S8a.f 36 [.slc (l.map Rng.enc)] = (entry (fun (l : List Rng) => [.slc (l.map Rng.enc)]) (fun l => l.length ≤ 1000000 ∧ okL l) (fun l => .slc ((setS (hasRs l)).map Rng.enc))) [.slc (l.map Rng.enc)]).trans (entry_eq (fun i j h => by first | (cases i; cases j; rfl; done) | simpa [Prod.ext_iff, and_assoc] using h | (simp at h; omega)) l h)
noncomputable def S8b : Tab := S8a.add 37 (entry (fun (l : List Rng) => [.slc (l.map Rng.enc)]) (fun l => l.length ≤ 1000000 ∧ okL l) (fun l => .bool (rightRs l)))
theorem S8b_ok : TabOK Try.prog S8b := S8a_ok.add (callable_of Try.func37 (by kernel_rfl) (by kernel_rfl)) (entry_ok fun l h => c_ranges_Right l (by omega) h.2)
@[go_sem] theorem S8b_old {g : FuncId} {xs : List A} (h : g ≠ 37) : S8b.f g xs = S8a.f g xs := Tab.add_ne h
@[go_sem] theorem S8b_eff {g : FuncId} : S8b.eff g = S8a.eff g := rfl
@[go_sem] theorem S8b_frz {g : FuncId} : S8b.frz g = S8a.frz g := rfl
@[go_sem] theorem S8b_effT : S8b.effT = S8a.effT := rfl
@[go_sem] theorem S8b_fix : S8b.fix = S8a.fix := rfl
@[go_sem] theorem S8b_nf : S8b.nf = S8a.nf := rfl
@[go_sem] theorem S8b_ords {n : Nat} : S8b.ords n = S8a.ords n := rfl
@[go_sem] theorem S8b_hp : S8b.hp = S8a.hp := rfl
theorem S8b_ranges_Right (l : List Rng) (h : l.length ≤ 1000000 ∧ okL l) : S8b.f 37 [.slc (l.map Rng.enc)] = some (.bool (rightRs l)) :=
  (Tab.add_eq : S8b.f 37 [.slc (l.map Rng.enc)] = (entry (fun (l : List Rng) => [.slc (l.map Rng.enc)]) (fun l => l.length ≤ 1000000 ∧ okL l) (fun l => .bool (rightRs l))) [.slc (l.map Rng.enc)]).trans (entry_eq (fun i j h => by first | (cases i; cases j; rfl; done) | simpa [Prod.ext_iff, and_assoc] using h | (simp at h; omega)) l h)
theorem s_ranges_Of {l : List Rng} (h : l.length ≤ 1000000) (h1 : okL l) : S8a.f 36 [.slc (l.map Rng.enc)] = some (.slc ((setS (hasRs l)).map Rng.enc)) := S8a_ranges_Of l ⟨h, h1⟩
theorem s_ranges_Right {l : List Rng} (h : l.length ≤ 1000000) (h1 : okL l) : S8b.f 37 [.slc (l.map Rng.enc)] = some (.bool (rightRs l)) := S8b_ranges_Right l ⟨h, h1⟩
theorem ok_ranges_right : codeOK Try.prog S8b Try.f79.ntmps (Try.f79.body.getD .skip) = true := by kernel_rfl
theorem c_ranges_right (l : List Rng) (h : l.length ≤ 1000000) (h1 : okL l) : CallA Try.prog 79 [.slc (l.map Rng.enc)] (· = .slc ((setS (hasRs l)).map Rng.enc)) := by
  refine callA_of_body S8b_ok mixed Try.func79 rfl (Nat.le_of_ble_eq_true rfl) ok_ranges_right ?_
  unfold Try.f79
  have e1 := s_ranges_Of h h1
  have e2 := s_ranges_Right h h1
  cases hr : rightRs l with
  | true =>
    rw [hr] at e2
    simp -implicitDefEqProofs (maxSteps := 600000) (disch := (first | omega | decide)) only [go_sem, ↓reduceIte, Nat.reduceEqDiff, reduceCtorEq, Nat.reduceAdd, Nat.reduceSub, Nat.reduceMul, Nat.reduceLeDiff, Nat.reduceLT, Nat.reduceBEq, Nat.reduceBNe, Int.reduceLE, Int.reduceLT, Int.reduceBEq, Int.reduceBNe, Int.reduceEq, Int.reduceNe, Int.reduceAdd, Int.reduceSub, Int.reduceMul, Int.reduceNeg, Int.reduceToNat, e2, List.length_map]
    rw [setS_self hr]
  | false =>
    rw [hr] at e2
    simp -implicitDefEqProofs (maxSteps := 600000) (disch := (first | omega | decide)) only [go_sem, ↓reduceIte, Nat.reduceEqDiff, reduceCtorEq, Nat.reduceAdd, Nat.reduceSub, Nat.reduceMul, Nat.reduceLeDiff, Nat.reduceLT, Nat.reduceBEq, Nat.reduceBNe, Int.reduceLE, Int.reduceLT, Int.reduceBEq, Int.reduceBNe, Int.reduceEq, Int.reduceNe, Int.reduceAdd, Int.reduceSub, Int.reduceMul, Int.reduceNeg, Int.reduceToNat, e1, e2, List.length_map]
noncomputable def S8c : Tab := S8b.add 79 (entry (fun (l : List Rng) => [.slc (l.map Rng.enc)]) (fun l => l.length ≤ 1000000 ∧ okL l) (fun l => .slc ((setS (hasRs l)).map Rng.enc)))
theorem S8c_ok : TabOK Try.prog S8c := S8b_ok.add (callable_of Try.func79 (by kernel_rfl) (by kernel_rfl)) (entry_ok fun l h => c_ranges_right l h.1 h.2)
@[go_sem] theorem S8c_old {g : FuncId} {xs : List A} (h : g ≠ 79) : S8c.f g xs = S8b.f g xs := Tab.add_ne h
@[go_sem] theorem S8c_eff {g : FuncId} : S8c.eff g = S8b.eff g := rfl
@[go_sem] theorem S8c_frz {g : FuncId} : S8c.frz g = S8b.frz g := rfl
@[go_sem] theorem S8c_effT : S8c.effT = S8b.effT := rfl
@[go_sem] theorem S8c_fix : S8c.fix = S8b.fix := rfl
@[go_sem] theorem S8c_nf : S8c.nf = S8b.nf := rfl
@[go_sem] theorem S8c_ords {n : Nat} : S8c.ords n = S8b.ords n := rfl
@[go_sem] theorem S8c_hp : S8c.hp = S8b.hp := rfl
theorem S8c_ranges_right (l : List Rng) (h : l.length ≤ 1000000 ∧ okL l) : S8c.f 79 [.slc (l.map Rng.enc)] = some (.slc ((setS (hasRs l)).map Rng.enc)) :=
  (Tab.add_eq : S8c.f 79 [.slc (l.map Rng.enc)] = (entry (fun (l : List Rng) => [.slc (l.map Rng.enc)]) (fun l => l.length ≤ 1000000 ∧ okL l) (fun l => .slc ((setS (hasRs l)).map Rng.enc))) [.slc (l.map Rng.enc)]).trans (entry_eq (fun i j h => by first | (cases i; cases j; rfl; done) | simpa [Prod.ext_iff, and_assoc] using h | (simp at h; omega)) l h)
theorem s_ranges_right {l : List Rng} (h : l.length ≤ 1000000) (h1 : okL l) : S8c.f 79 [.slc (l.map Rng.enc)] = some (.slc ((setS (hasRs l)).map Rng.enc)) := S8c_ranges_right l ⟨h, h1⟩
noncomputable def S8d : Tab := S8c.add 95 (entry (fun (v : List Rng × List Rng) => [.slc (v.1.map Rng.enc), .slc (v.2.map Rng.enc)]) (fun v => v.1.length ≤ 1000000 ∧ v.2.length ≤ 1000000 ∧ (∀ r ∈ v.1, rightR r = true) ∧ (∀ r ∈ v.2, rightR r = true)) (fun v => .slc ((edgesT v.1 v.2).map .str)))
theorem S8d_ok : TabOK Try.prog S8d := S8c_ok.add (callable_of Try.func95 (by kernel_rfl) (by kernel_rfl)) (entry_ok fun v h => c_ranges_edges v.1 v.2 h.1 h.2.1 h.2.2.1 h.2.2.2)
@[go_sem] theorem S8d_old {g : FuncId} {xs : List A} (h : g ≠ 95) : S8d.f g xs = S8c.f g xs := Tab.add_ne h
@[go_sem] theorem S8d_eff {g : FuncId} : S8d.eff g = S8c.eff g := rfl
@[go_sem] theorem S8d_frz {g : FuncId} : S8d.frz g = S8c.frz g := rfl
@[go_sem] theorem S8d_effT : S8d.effT = S8c.effT := rfl
@[go_sem] theorem S8d_fix : S8d.fix = S8c.fix := rfl
@[go_sem] theorem S8d_nf : S8d.nf = S8c.nf := rfl
@[go_sem] theorem S8d_ords {n : Nat} : S8d.ords n = S8c.ords n := rfl
@[go_sem] theorem S8d_hp : S8d.hp = S8c.hp := rfl
theorem S8d_ranges_edges (v : List Rng × List Rng) (h : v.1.length ≤ 1000000 ∧ v.2.length ≤ 1000000 ∧ (∀ r ∈ v.1, rightR r = true) ∧ (∀ r ∈ v.2, rightR r = true)) : S8d.f 95 [.slc (v.1.map Rng.enc), .slc (v.2.map Rng.enc)] = some (.slc ((edgesT v.1 v.2).map .str)) :=
  (Tab.add_eq : S8d.f 95 [.slc (v.1.map Rng.enc), .slc (v.2.map Rng.enc)] = (entry (fun (v : List Rng × List Rng) => [.slc (v.1.map Rng.enc), .slc (v.2.map Rng.enc)]) (fun v => v.1.length ≤ 1000000 ∧ v.2.length ≤ 1000000 ∧ (∀ r ∈ v.1, rightR r = true) ∧ (∀ r ∈ v.2, rightR r = true)) (fun v => .slc ((edgesT v.1 v.2).map .str))) [.slc (v.1.map Rng.enc), .slc (v.2.map Rng.enc)]).trans (entry_eq (fun i j h => by first | (cases i; cases j; rfl; done) | simpa [Prod.ext_iff, and_assoc] using h | (simp at h; omega)) v h)
theorem s_ranges_edges {a b : List Rng} (ha : a.length ≤ 1000000) (hb : b.length ≤ 1000000) (ra : ∀ r ∈ a, rightR r = true) (rb : ∀ r ∈ b, rightR r = true) : S8d.f 95 [.slc (a.map Rng.enc), .slc (b.map Rng.enc)] = some (.slc ((edgesT a b).map .str)) := S8d_ranges_edges (a, b) ⟨ha, hb, ra, rb⟩
section
variable {a b : List Rng} (ra : ∀ r ∈ a, rightR r = true) (rb : ∀ r ∈ b, rightR r = true)
include ra rb
theorem raw17 : ∀ s ∈ rawE [[]] (a ++ b), s.length ≤ 17 := fun s hs => by
  rcases (rawE_mem _ _ _).1 hs with h | ⟨r, hr, h⟩
  · simp at h; subst h; simp
  · have hrr : rightR r = true := by
      rcases List.mem_append.1 hr with hr | hr
      · exact ra r hr
      · exact rb r hr
    obtain ⟨k1, k2, _, _⟩ := right_parts hrr
    rcases h with rfl | ⟨_, rfl⟩
    · exact k1
    · exact k2
theorem edgesT_mem (x : List UInt8) : x ∈ edgesT a b ↔ x ∈ rawE [[]] (a ++ b) := by
  unfold edgesT
  rw [compL_mem]
  exact (sortT_spec (raw17 ra rb)).1.mem_iff
theorem edgesT_up : (edgesT a b).Pairwise (fun x y => ltB x y = true) := comp_up (sortT_spec (raw17 ra rb)).2
theorem edgesT_nil : [] ∈ edgesT a b := (edgesT_mem ra rb []).2 ((rawE_mem _ _ _).2 (.inl (by simp)))
theorem edgesT_17 : ∀ e ∈ edgesT a b, e.length ≤ 17 := fun e he => raw17 ra rb e ((edgesT_mem ra rb e).1 he)
theorem edgesT_all : ∀ r ∈ a ++ b, r.lo ∈ edgesT a b ∧ (r.op = false → r.hi ∈ edgesT a b) := fun r hr => ⟨(edgesT_mem ra rb _).2 ((rawE_mem _ _ _).2 (.inr ⟨r, hr, .inl rfl⟩)), fun ho => (edgesT_mem ra rb _).2 ((rawE_mem _ _ _).2 (.inr ⟨r, hr, .inr ⟨ho, rfl⟩⟩))⟩
theorem edgesT_len : (edgesT a b).length ≤ 1 + 2 * (a.length + b.length) := by
  have h1 := (sortT_spec (raw17 ra rb)).1.length_eq
  have h2 := (rawE_len (a ++ b) [[]]).2
  have h3 := compL_len (sortT (rawE [[]] (a ++ b)))
  rw [List.length_append, List.length_singleton] at h2
  unfold edgesT; omega
end
theorem findS_mono {l : List Rng} (h : rightRs l = true) {s t : List UInt8} (hst : ltB s t = true) : findS l s ≤ findS l t := by
  rcases Nat.lt_or_ge (findS l t) (findS l s) with hlt | hge
  · exfalso
    have hle := findS_le l s
    have h1 := findS_at l t (by omega)
    have h2 := findS_lt l s (findS l t) (by omega) hlt
    rw [h2.1, Bool.false_or] at h1
    have := lt_trans' hst h1
    rw [h2.2] at this; cases this
  · exact hge
/-- What stands where searching ends. -/
theorem findS_here {l : List Rng} (h : rightRs l = true) (ok : okL l) (s : List UInt8) : ∃ lo hi op, (lo.length ≤ 9223372036854775807 ∧ hi.length ≤ 9223372036854775807) ∧
    ((((findS l s : Nat) : Int) < (l.length : Int) ∧ (l.map Rng.enc)[findS l s]? = some (.agg [.str lo, .str hi, .bool op]) ∧ ((op = true ∧ ((0 : Int) == 0) = true) ∨ (op = false ∧ ltB s hi = true)) ∧ hasRs l s = !ltB s lo) ∨
     (¬ ((findS l s : Nat) : Int) < (l.length : Int) ∧ (l.map Rng.enc)[findS l s]? = none ∧ hasRs l s = false)) := by
  have hf := find_has h s
  by_cases hlt : findS l s < l.length
  · rw [dif_pos hlt] at hf
    have hat := findS_at l s hlt
    have okx := okL_get ok hlt
    have e := rng_get hlt
    generalize l[findS l s] = x at *
    obtain ⟨lo, hi, op⟩ := x
    refine ⟨lo, hi, op, okx, .inl ⟨by omega, e, ?_, hf⟩⟩
    cases op with
    | true => exact .inl ⟨rfl, rfl⟩
    | false => exact .inr ⟨rfl, by simpa using hat⟩
  · rw [dif_neg hlt] at hf
    exact ⟨[], [], true, by simp, .inr ⟨by omega, by simp; omega, hf⟩⟩
theorem ok_ranges_sweep : codeOK Try.prog S8d Try.f64.ntmps (Try.f64.body.getD .skip) = true := by kernel_rfl
theorem c_rsweep (a b : List Rng) (g : FuncId) (kp : Bool → Bool → Bool) (hg : ∀ x y, S8d.f g [.bool x, .bool y] = some (.bool (kp x y))) (ha : a.length ≤ 100000) (hb : b.length ≤ 100000) (oka : okL a) (okb : okL b) :
    CallA Try.prog 64 [.slc (a.map Rng.enc), .slc (b.map Rng.enc), .fn g []] (· = .slc ((setS fun s => kp (hasRs a s) (hasRs b s)).map Rng.enc)) := by
  refine callA_of_body S8d_ok mixed Try.func64 rfl (Nat.le_of_ble_eq_true rfl) ok_ranges_sweep ?_
  unfold Try.f64
  have hfin : (fun s => kp (hasRs a s) (hasRs b s)) = fun s => kp (hasRs (setS (hasRs a)) s) (hasRs (setS (hasRs b)) s) := by funext s; rw [has_setS, has_setS]
  rw [hfin]
  have e1 := s_ranges_right (l := a) (by omega) oka
  have e2 := s_ranges_right (l := b) (by omega) okb
  have lu := setS_len a
  have lv := setS_len b
  have ru := setS_right (hasRs a)
  have rv := setS_right (hasRs b)
  have ou := setS_ok (hasRs a)
  have ov := setS_ok (hasRs b)
  generalize setS (hasRs a) = u at *
  generalize setS (hasRs b) = v at *
  have ru' := (rightRs_can.1 ru).1
  have rv' := (rightRs_can.1 rv).1
  have e3 := s_ranges_edges (a := u) (b := v) (by omega) (by omega) ru' rv'
  have hset := (mk_of (kp := kp) (a := u) (b := v) (edgesT_up ru' rv') (edgesT_nil ru' rv') (edgesT_17 ru' rv') (fun r hr _ => edgesT_all ru' rv' r (by simp [hr])) (fun r hr _ => edgesT_all ru' rv' r (by simp [hr]))).1
  have hup := edgesT_up ru' rv'
  have h17 := edgesT_17 ru' rv'
  have hel := edgesT_len ru' rv'
  simp -implicitDefEqProofs (maxSteps := 600000) (disch := (first | omega | decide)) only [go_sem, ↓reduceIte, Nat.reduceEqDiff, reduceCtorEq, Nat.reduceAdd, Nat.reduceSub, Nat.reduceMul, Nat.reduceLeDiff, Nat.reduceLT, Nat.reduceBEq, Nat.reduceBNe, Int.reduceLE, Int.reduceLT, Int.reduceBEq, Int.reduceBNe, Int.reduceEq, Int.reduceNe, Int.reduceAdd, Int.reduceSub, Int.reduceMul, Int.reduceNeg, Int.reduceToNat, e1, e2, e3, List.length_map]
  rw [← hset]
  generalize edgesT u v = e at *
  clear e1 e2 e3 hset hfin
  refine wpA_loop_nil 8 3 rfl ?_
  refine wpA_loop [0, 1, 2, 6, 22, 23] (ι := {p : Nat × Nat × Nat // p.1 ≤ e.length ∧ ∀ s ∈ e.drop p.1, p.2.1 ≤ findS u s ∧ p.2.2 ≤ findS v s}) (fun p => [(24, .int .i64 p.1.1), (10, .int .i64 p.1.2.1), (11, .int .i64 p.1.2.2), (9, .bool (mkS (fun s => kp (hasRs u s) (hasRs v s)) (e.take p.1.1)).2), (8, .row 0 0 3 (mkS (fun s => kp (hasRs u s) (hasRs v s)) (e.take p.1.1)).1.length false)]) (fun p => [(0, .row 3 (rowS (mkS (fun s => kp (hasRs u s) (hasRs v s)) (e.take p.1.1)).1))]) (fun p => e.length - p.1.1) ⟨(0, 0, 0), Nat.zero_le _, fun s _ => ⟨Nat.zero_le _, Nat.zero_le _⟩⟩ (Nat.zero_le _) ?_ ?_
  · simp -implicitDefEqProofs (maxSteps := 600000) (disch := (first | omega | decide)) only [go_sem, ↓reduceIte, Nat.reduceEqDiff, reduceCtorEq, Nat.reduceAdd, Nat.reduceSub, Nat.reduceMul, Nat.reduceLeDiff, Nat.reduceLT, Nat.reduceBEq, Nat.reduceBNe, Int.reduceLE, Int.reduceLT, Int.reduceBEq, Int.reduceBNe, Int.reduceEq, Int.reduceNe, Int.reduceAdd, Int.reduceSub, Int.reduceMul, Int.reduceNeg, Int.reduceToNat, List.take_zero]
    simp [mkS, rowS]
  · rintro ⟨⟨k, i, j⟩, hk, hij⟩
    simp only at hk hij ⊢
    have hlen := mkS_len (fun s => kp (hasRs u s) (hasRs v s)) (e.take k) ([], false)
    have hwas := mkS_was (fun s => kp (hasRs u s) (hasRs v s)) (e.take k) ([], false) (by simp)
    have hml : (mkS (fun s => kp (hasRs u s) (hasRs v s)) (e.take k)).1.length ≤ k := by
      have : (mkS (fun s => kp (hasRs u s) (hasRs v s)) (e.take k)).1.length ≤ 0 + (e.take k).length := hlen
      rw [List.length_take] at this; omega
    have hwas' : (mkS (fun s => kp (hasRs u s) (hasRs v s)) (e.take k)).2 = true → (mkS (fun s => kp (hasRs u s) (hasRs v s)) (e.take k)).1 ≠ [] := hwas
    clear hlen hwas
    by_cases hlt : k < e.length
    · have hlt' : (k : Int) < (e.length : Int) := by omega
      have es := str_get hlt
      have hs17 := h17 _ (List.getElem_mem hlt)
      have hst := mkS_step (fun s => kp (hasRs u s) (hasRs v s)) e k hlt
      have hd : e.drop k = e[k] :: e.drop (k + 1) := List.drop_eq_getElem_cons hlt
      have hi0 := hij e[k] (by rw [hd]; exact List.mem_cons_self)
      have hlater : ∀ s ∈ e.drop (k + 1), findS u e[k] ≤ findS u s ∧ findS v e[k] ≤ findS v s := fun s hs => by
        have hp : (e.drop k).Pairwise (fun x y => ltB x y = true) := hup.sublist (List.drop_sublist _ _)
        rw [hd, List.pairwise_cons] at hp
        exact ⟨findS_mono ru (hp.1 s hs), findS_mono rv (hp.1 s hs)⟩
      have next : ∀ st, mkS (fun s => kp (hasRs u s) (hasRs v s)) (e.take (k + 1)) = st → ∃ q : {p : Nat × Nat × Nat // p.1 ≤ e.length ∧ ∀ s ∈ e.drop p.1, p.2.1 ≤ findS u s ∧ p.2.2 ≤ findS v s}, (((k : Int) + 1 = (q.1.1 : Int) ∧ ((findS u e[k] : Nat) : Int) = (q.1.2.1 : Int) ∧ ((findS v e[k] : Nat) : Int) = (q.1.2.2 : Int) ∧ st.2 = (mkS (fun s => kp (hasRs u s) (hasRs v s)) (e.take q.1.1)).2 ∧ st.1.length = (mkS (fun s => kp (hasRs u s) (hasRs v s)) (e.take q.1.1)).1.length) ∧ rowS st.1 = rowS (mkS (fun s => kp (hasRs u s) (hasRs v s)) (e.take q.1.1)).1) ∧ e.length - q.1.1 < e.length - k := fun st h => ⟨⟨(k + 1, findS u e[k], findS v e[k]), hlt, hlater⟩, ⟨⟨by simp, rfl, rfl, by rw [h], by rw [h]⟩, by rw [h]⟩, by show e.length - (k + 1) < e.length - k; omega⟩
      have nx := next _ hst
      have fu := find_has ru e[k]
      have fv := find_has rv e[k]
      clear next hst hlater hd hij
      generalize mkS (fun s => kp (hasRs u s) (hasRs v s)) (e.take k) = st at *
      simp only [stS] at nx
      generalize e[k] = s at *
      obtain ⟨m, was⟩ := st
      simp only at hml hwas' nx ⊢
      have flu := findS_le u s
      have flv := findS_le v s
      simp -implicitDefEqProofs (maxSteps := 600000) (disch := (first | omega | decide)) only [go_sem, ↓reduceIte, Nat.reduceEqDiff, reduceCtorEq, Nat.reduceAdd, Nat.reduceSub, Nat.reduceMul, Nat.reduceLeDiff, Nat.reduceLT, Nat.reduceBEq, Nat.reduceBNe, Int.reduceLE, Int.reduceLT, Int.reduceBEq, Int.reduceBNe, Int.reduceEq, Int.reduceNe, Int.reduceAdd, Int.reduceSub, Int.reduceMul, Int.reduceNeg, Int.reduceToNat, hlt', es, List.length_map]
      refine wpA_loop [0, 1, 2, 6, 13, 22, 23, 24, 9, 8, 11] (ι := {i : Nat // i ≤ findS u s}) (fun p => [(10, .int .i64 p.1)]) (fun _ => []) (fun p => u.length - p.1) ⟨i, hi0.1⟩ (Nat.zero_le _) ?_ ?_
      · simp -implicitDefEqProofs (maxSteps := 600000) (disch := (first | omega | decide)) only [go_sem, ↓reduceIte, Nat.reduceEqDiff, reduceCtorEq, Nat.reduceAdd, Nat.reduceSub, Nat.reduceMul, Nat.reduceLeDiff, Nat.reduceLT, Nat.reduceBEq, Nat.reduceBNe, Int.reduceLE, Int.reduceLT, Int.reduceBEq, Int.reduceBNe, Int.reduceEq, Int.reduceNe, Int.reduceAdd, Int.reduceSub, Int.reduceMul, Int.reduceNeg, Int.reduceToNat]
      · rintro ⟨i', hi'⟩
        simp only
        by_cases hiu : i' < findS u s
        · have hiu2 : i' < u.length := by omega
          have hiu' : (i' : Int) < (u.length : Int) := by omega
          have eu := rng_get hiu2
          have oku := okL_get ou hiu2
          obtain ⟨p1, p2⟩ := findS_lt u s i' hiu2 hiu
          generalize hx : u[i'] = x at *
          obtain ⟨lo, hi, op⟩ := x
          simp only at oku p1 p2
          subst p1
          simp -implicitDefEqProofs (maxSteps := 600000) (disch := (first | omega | decide)) only [go_sem, ↓reduceIte, Nat.reduceEqDiff, reduceCtorEq, Nat.reduceAdd, Nat.reduceSub, Nat.reduceMul, Nat.reduceLeDiff, Nat.reduceLT, Nat.reduceBEq, Nat.reduceBNe, Int.reduceLE, Int.reduceLT, Int.reduceBEq, Int.reduceBNe, Int.reduceEq, Int.reduceNe, Int.reduceAdd, Int.reduceSub, Int.reduceMul, Int.reduceNeg, Int.reduceToNat, hiu', eu, oku, p2, wrap_i64, List.length_map]
          exact ⟨⟨i' + 1, hiu⟩, by simp, by show u.length - (i' + 1) < u.length - i'; omega⟩
        · have hie : i' = findS u s := by omega
          subst hie
          obtain ⟨lo, hi, op, okU, U⟩ := findS_here ru ou s
          obtain ⟨lo', hi', op', okV, V⟩ := findS_here rv ov s
          rcases U with ⟨hu, gu, ⟨rfl, au⟩ | ⟨rfl, au⟩, xu⟩ | ⟨hu, gu, xu⟩
          all_goals (first | simp -implicitDefEqProofs (maxSteps := 600000) (disch := (first | omega | decide)) only [go_sem, ↓reduceIte, Nat.reduceEqDiff, reduceCtorEq, Nat.reduceAdd, Nat.reduceSub, Nat.reduceMul, Nat.reduceLeDiff, Nat.reduceLT, Nat.reduceBEq, Nat.reduceBNe, Int.reduceLE, Int.reduceLT, Int.reduceBEq, Int.reduceBNe, Int.reduceEq, Int.reduceNe, Int.reduceAdd, Int.reduceSub, Int.reduceMul, Int.reduceNeg, Int.reduceToNat, hu, gu, au, okU, List.length_map] | simp -implicitDefEqProofs (maxSteps := 600000) (disch := (first | omega | decide)) only [go_sem, ↓reduceIte, Nat.reduceEqDiff, reduceCtorEq, Nat.reduceAdd, Nat.reduceSub, Nat.reduceMul, Nat.reduceLeDiff, Nat.reduceLT, Nat.reduceBEq, Nat.reduceBNe, Int.reduceLE, Int.reduceLT, Int.reduceBEq, Int.reduceBNe, Int.reduceEq, Int.reduceNe, Int.reduceAdd, Int.reduceSub, Int.reduceMul, Int.reduceNeg, Int.reduceToNat, hu, gu, okU, List.length_map])
          all_goals (refine wpA_loop [0, 1, 2, 6, 13, 22, 23, 24, 9, 8, 10] (ι := {i : Nat // i ≤ findS v s}) (fun p => [(11, .int .i64 p.1)]) (fun _ => []) (fun p => v.length - p.1) ⟨j, hi0.2⟩ (Nat.zero_le _) ?_ ?_)
          all_goals first
            | (simp -implicitDefEqProofs (maxSteps := 600000) (disch := (first | omega | decide)) only [go_sem, ↓reduceIte, Nat.reduceEqDiff, reduceCtorEq, Nat.reduceAdd, Nat.reduceSub, Nat.reduceMul, Nat.reduceLeDiff, Nat.reduceLT, Nat.reduceBEq, Nat.reduceBNe, Int.reduceLE, Int.reduceLT, Int.reduceBEq, Int.reduceBNe, Int.reduceEq, Int.reduceNe, Int.reduceAdd, Int.reduceSub, Int.reduceMul, Int.reduceNeg, Int.reduceToNat]; done)
            | skip
          all_goals (
            rintro ⟨j', hj'⟩
            simp only
            by_cases hjv : j' < findS v s
            · have hjv2 : j' < v.length := by omega
              have hjv' : (j' : Int) < (v.length : Int) := by omega
              have ev := rng_get hjv2
              have okv := okL_get ov hjv2
              obtain ⟨p1, p2⟩ := findS_lt v s j' hjv2 hjv
              generalize hx : v[j'] = x at *
              obtain ⟨lo2, hi2, op2⟩ := x
              simp only at okv p1 p2
              subst p1
              simp -implicitDefEqProofs (maxSteps := 600000) (disch := (first | omega | decide)) only [go_sem, ↓reduceIte, Nat.reduceEqDiff, reduceCtorEq, Nat.reduceAdd, Nat.reduceSub, Nat.reduceMul, Nat.reduceLeDiff, Nat.reduceLT, Nat.reduceBEq, Nat.reduceBNe, Int.reduceLE, Int.reduceLT, Int.reduceBEq, Int.reduceBNe, Int.reduceEq, Int.reduceNe, Int.reduceAdd, Int.reduceSub, Int.reduceMul, Int.reduceNeg, Int.reduceToNat, hjv', ev, okv, p2, wrap_i64, List.length_map]
              exact ⟨⟨j' + 1, hjv⟩, by simp, by show v.length - (j' + 1) < v.length - j'; omega⟩
            · have hje : j' = findS v s := by omega
              subst hje
              rcases V with ⟨hv, gv, ⟨rfl, av⟩ | ⟨rfl, av⟩, xv⟩ | ⟨hv, gv, xv⟩
              all_goals (
                cases hP : kp (hasRs u s) (hasRs v s) <;> rw [hP] at nx <;> rw [xu, xv] at hP <;> cases was
                · have nx' := nx
                  simp only [Bool.not_false, Bool.not_true, Bool.and_true, Bool.and_false, Bool.false_eq_true, if_false, if_true] at nx'
                  clear nx
                  (first | simp -implicitDefEqProofs (maxSteps := 600000) (disch := (first | omega | decide)) only [go_sem, ↓reduceIte, Nat.reduceEqDiff, reduceCtorEq, Nat.reduceAdd, Nat.reduceSub, Nat.reduceMul, Nat.reduceLeDiff, Nat.reduceLT, Nat.reduceBEq, Nat.reduceBNe, Int.reduceLE, Int.reduceLT, Int.reduceBEq, Int.reduceBNe, Int.reduceEq, Int.reduceNe, Int.reduceAdd, Int.reduceSub, Int.reduceMul, Int.reduceNeg, Int.reduceToNat, hu, gu, au, okU, hv, gv, av, okV, hg, hP, wrap_i64, List.length_map] | simp -implicitDefEqProofs (maxSteps := 600000) (disch := (first | omega | decide)) only [go_sem, ↓reduceIte, Nat.reduceEqDiff, reduceCtorEq, Nat.reduceAdd, Nat.reduceSub, Nat.reduceMul, Nat.reduceLeDiff, Nat.reduceLT, Nat.reduceBEq, Nat.reduceBNe, Int.reduceLE, Int.reduceLT, Int.reduceBEq, Int.reduceBNe, Int.reduceEq, Int.reduceNe, Int.reduceAdd, Int.reduceSub, Int.reduceMul, Int.reduceNeg, Int.reduceToNat, hu, gu, au, okU, hv, gv, okV, hg, hP, wrap_i64, List.length_map] | simp -implicitDefEqProofs (maxSteps := 600000) (disch := (first | omega | decide)) only [go_sem, ↓reduceIte, Nat.reduceEqDiff, reduceCtorEq, Nat.reduceAdd, Nat.reduceSub, Nat.reduceMul, Nat.reduceLeDiff, Nat.reduceLT, Nat.reduceBEq, Nat.reduceBNe, Int.reduceLE, Int.reduceLT, Int.reduceBEq, Int.reduceBNe, Int.reduceEq, Int.reduceNe, Int.reduceAdd, Int.reduceSub, Int.reduceMul, Int.reduceNeg, Int.reduceToNat, hu, gu, okU, hv, gv, av, okV, hg, hP, wrap_i64, List.length_map] | simp -implicitDefEqProofs (maxSteps := 600000) (disch := (first | omega | decide)) only [go_sem, ↓reduceIte, Nat.reduceEqDiff, reduceCtorEq, Nat.reduceAdd, Nat.reduceSub, Nat.reduceMul, Nat.reduceLeDiff, Nat.reduceLT, Nat.reduceBEq, Nat.reduceBNe, Int.reduceLE, Int.reduceLT, Int.reduceBEq, Int.reduceBNe, Int.reduceEq, Int.reduceNe, Int.reduceAdd, Int.reduceSub, Int.reduceMul, Int.reduceNeg, Int.reduceToNat, hu, gu, okU, hv, gv, okV, hg, hP, wrap_i64, List.length_map])
                  exact nx'
                · cases m with
                  | nil => exact absurd rfl (hwas' rfl)
                  | cons qq qs =>
                    have hq : qs.length + 1 ≤ k := hml
                    have c1 : (((qs.length + 1 : Nat) : Int) - 1).toNat = qs.length := by omega
                    have c2 : (0 : Int) ≤ ((qs.length + 1 : Nat) : Int) - 1 := by omega
                    have c3 : ((qs.length + 1 : Nat) : Int) - 1 < ((qs.length + 1 : Nat) : Int) := by omega
                    have nx' := nx
                    simp only [Bool.not_false, Bool.not_true, Bool.and_true, Bool.and_false, Bool.and_self, Bool.false_and, Bool.false_eq_true, if_false, if_true, rowS_cons, List.length_cons] at nx'
                    clear nx
                    rw [rowS_cons]
                    (first | simp -implicitDefEqProofs (maxSteps := 600000) (disch := (first | omega | decide)) only [go_sem, ↓reduceIte, Nat.reduceEqDiff, reduceCtorEq, Nat.reduceAdd, Nat.reduceSub, Nat.reduceMul, Nat.reduceLeDiff, Nat.reduceLT, Nat.reduceBEq, Nat.reduceBNe, Int.reduceLE, Int.reduceLT, Int.reduceBEq, Int.reduceBNe, Int.reduceEq, Int.reduceNe, Int.reduceAdd, Int.reduceSub, Int.reduceMul, Int.reduceNeg, Int.reduceToNat, hu, gu, au, okU, hv, gv, av, okV, hg, hP, c1, c2, c3, rowS_get', rowS_set, wrap_i64, List.length_map] | simp -implicitDefEqProofs (maxSteps := 600000) (disch := (first | omega | decide)) only [go_sem, ↓reduceIte, Nat.reduceEqDiff, reduceCtorEq, Nat.reduceAdd, Nat.reduceSub, Nat.reduceMul, Nat.reduceLeDiff, Nat.reduceLT, Nat.reduceBEq, Nat.reduceBNe, Int.reduceLE, Int.reduceLT, Int.reduceBEq, Int.reduceBNe, Int.reduceEq, Int.reduceNe, Int.reduceAdd, Int.reduceSub, Int.reduceMul, Int.reduceNeg, Int.reduceToNat, hu, gu, au, okU, hv, gv, okV, hg, hP, c1, c2, c3, rowS_get', rowS_set, wrap_i64, List.length_map] | simp -implicitDefEqProofs (maxSteps := 600000) (disch := (first | omega | decide)) only [go_sem, ↓reduceIte, Nat.reduceEqDiff, reduceCtorEq, Nat.reduceAdd, Nat.reduceSub, Nat.reduceMul, Nat.reduceLeDiff, Nat.reduceLT, Nat.reduceBEq, Nat.reduceBNe, Int.reduceLE, Int.reduceLT, Int.reduceBEq, Int.reduceBNe, Int.reduceEq, Int.reduceNe, Int.reduceAdd, Int.reduceSub, Int.reduceMul, Int.reduceNeg, Int.reduceToNat, hu, gu, okU, hv, gv, av, okV, hg, hP, c1, c2, c3, rowS_get', rowS_set, wrap_i64, List.length_map] | simp -implicitDefEqProofs (maxSteps := 600000) (disch := (first | omega | decide)) only [go_sem, ↓reduceIte, Nat.reduceEqDiff, reduceCtorEq, Nat.reduceAdd, Nat.reduceSub, Nat.reduceMul, Nat.reduceLeDiff, Nat.reduceLT, Nat.reduceBEq, Nat.reduceBNe, Int.reduceLE, Int.reduceLT, Int.reduceBEq, Int.reduceBNe, Int.reduceEq, Int.reduceNe, Int.reduceAdd, Int.reduceSub, Int.reduceMul, Int.reduceNeg, Int.reduceToNat, hu, gu, okU, hv, gv, okV, hg, hP, c1, c2, c3, rowS_get', rowS_set, wrap_i64, List.length_map])
                    exact nx'
                · have nx' := nx
                  simp only [Bool.not_false, Bool.not_true, Bool.and_true, Bool.and_false, Bool.and_self, Bool.false_eq_true, if_false, if_true, rowS_cons, List.length_cons] at nx'
                  clear nx
                  have tk : (rowS m).take m.length = rowS m := List.take_of_length_le (Nat.le_of_eq (rowS_len m))
                  have rl := rowS_len m
                  (first | simp -implicitDefEqProofs (maxSteps := 600000) (disch := (first | omega | decide)) only [go_sem, ↓reduceIte, Nat.reduceEqDiff, reduceCtorEq, Nat.reduceAdd, Nat.reduceSub, Nat.reduceMul, Nat.reduceLeDiff, Nat.reduceLT, Nat.reduceBEq, Nat.reduceBNe, Int.reduceLE, Int.reduceLT, Int.reduceBEq, Int.reduceBNe, Int.reduceEq, Int.reduceNe, Int.reduceAdd, Int.reduceSub, Int.reduceMul, Int.reduceNeg, Int.reduceToNat, hu, gu, au, okU, hv, gv, av, okV, hg, hP, tk, rl, wrap_i64, List.length_map] | simp -implicitDefEqProofs (maxSteps := 600000) (disch := (first | omega | decide)) only [go_sem, ↓reduceIte, Nat.reduceEqDiff, reduceCtorEq, Nat.reduceAdd, Nat.reduceSub, Nat.reduceMul, Nat.reduceLeDiff, Nat.reduceLT, Nat.reduceBEq, Nat.reduceBNe, Int.reduceLE, Int.reduceLT, Int.reduceBEq, Int.reduceBNe, Int.reduceEq, Int.reduceNe, Int.reduceAdd, Int.reduceSub, Int.reduceMul, Int.reduceNeg, Int.reduceToNat, hu, gu, au, okU, hv, gv, okV, hg, hP, tk, rl, wrap_i64, List.length_map] | simp -implicitDefEqProofs (maxSteps := 600000) (disch := (first | omega | decide)) only [go_sem, ↓reduceIte, Nat.reduceEqDiff, reduceCtorEq, Nat.reduceAdd, Nat.reduceSub, Nat.reduceMul, Nat.reduceLeDiff, Nat.reduceLT, Nat.reduceBEq, Nat.reduceBNe, Int.reduceLE, Int.reduceLT, Int.reduceBEq, Int.reduceBNe, Int.reduceEq, Int.reduceNe, Int.reduceAdd, Int.reduceSub, Int.reduceMul, Int.reduceNeg, Int.reduceToNat, hu, gu, okU, hv, gv, av, okV, hg, hP, tk, rl, wrap_i64, List.length_map] | simp -implicitDefEqProofs (maxSteps := 600000) (disch := (first | omega | decide)) only [go_sem, ↓reduceIte, Nat.reduceEqDiff, reduceCtorEq, Nat.reduceAdd, Nat.reduceSub, Nat.reduceMul, Nat.reduceLeDiff, Nat.reduceLT, Nat.reduceBEq, Nat.reduceBNe, Int.reduceLE, Int.reduceLT, Int.reduceBEq, Int.reduceBNe, Int.reduceEq, Int.reduceNe, Int.reduceAdd, Int.reduceSub, Int.reduceMul, Int.reduceNeg, Int.reduceToNat, hu, gu, okU, hv, gv, okV, hg, hP, tk, rl, wrap_i64, List.length_map])
                  exact ⟨⟨Nat.le_refl _, by omega⟩, nx'⟩
                · have nx' := nx
                  simp only [Bool.not_false, Bool.not_true, Bool.and_true, Bool.and_false, Bool.false_and, Bool.false_eq_true, if_false, if_true] at nx'
                  clear nx
                  (first | simp -implicitDefEqProofs (maxSteps := 600000) (disch := (first | omega | decide)) only [go_sem, ↓reduceIte, Nat.reduceEqDiff, reduceCtorEq, Nat.reduceAdd, Nat.reduceSub, Nat.reduceMul, Nat.reduceLeDiff, Nat.reduceLT, Nat.reduceBEq, Nat.reduceBNe, Int.reduceLE, Int.reduceLT, Int.reduceBEq, Int.reduceBNe, Int.reduceEq, Int.reduceNe, Int.reduceAdd, Int.reduceSub, Int.reduceMul, Int.reduceNeg, Int.reduceToNat, hu, gu, au, okU, hv, gv, av, okV, hg, hP, wrap_i64, List.length_map] | simp -implicitDefEqProofs (maxSteps := 600000) (disch := (first | omega | decide)) only [go_sem, ↓reduceIte, Nat.reduceEqDiff, reduceCtorEq, Nat.reduceAdd, Nat.reduceSub, Nat.reduceMul, Nat.reduceLeDiff, Nat.reduceLT, Nat.reduceBEq, Nat.reduceBNe, Int.reduceLE, Int.reduceLT, Int.reduceBEq, Int.reduceBNe, Int.reduceEq, Int.reduceNe, Int.reduceAdd, Int.reduceSub, Int.reduceMul, Int.reduceNeg, Int.reduceToNat, hu, gu, au, okU, hv, gv, okV, hg, hP, wrap_i64, List.length_map] | simp -implicitDefEqProofs (maxSteps := 600000) (disch := (first | omega | decide)) only [go_sem, ↓reduceIte, Nat.reduceEqDiff, reduceCtorEq, Nat.reduceAdd, Nat.reduceSub, Nat.reduceMul, Nat.reduceLeDiff, Nat.reduceLT, Nat.reduceBEq, Nat.reduceBNe, Int.reduceLE, Int.reduceLT, Int.reduceBEq, Int.reduceBNe, Int.reduceEq, Int.reduceNe, Int.reduceAdd, Int.reduceSub, Int.reduceMul, Int.reduceNeg, Int.reduceToNat, hu, gu, okU, hv, gv, av, okV, hg, hP, wrap_i64, List.length_map] | simp -implicitDefEqProofs (maxSteps := 600000) (disch := (first | omega | decide)) only [go_sem, ↓reduceIte, Nat.reduceEqDiff, reduceCtorEq, Nat.reduceAdd, Nat.reduceSub, Nat.reduceMul, Nat.reduceLeDiff, Nat.reduceLT, Nat.reduceBEq, Nat.reduceBNe, Int.reduceLE, Int.reduceLT, Int.reduceBEq, Int.reduceBNe, Int.reduceEq, Int.reduceNe, Int.reduceAdd, Int.reduceSub, Int.reduceMul, Int.reduceNeg, Int.reduceToNat, hu, gu, okU, hv, gv, okV, hg, hP, wrap_i64, List.length_map])
                  exact nx'))
    · have hlt' : ¬ (k : Int) < (e.length : Int) := by omega
      rw [List.take_of_length_le (by omega)] at *
      have hll : (mkS (fun s => kp (hasRs u s) (hasRs v s)) e).1.length = (rowS (mkS (fun s => kp (hasRs u s) (hasRs v s)) e).1).length := by rw [rowS_len]
      simp -implicitDefEqProofs (maxSteps := 600000) (disch := (first | omega | decide)) only [go_sem, ↓reduceIte, Nat.reduceEqDiff, reduceCtorEq, Nat.reduceAdd, Nat.reduceSub, Nat.reduceMul, Nat.reduceLeDiff, Nat.reduceLT, Nat.reduceBEq, Nat.reduceBNe, Int.reduceLE, Int.reduceLT, Int.reduceBEq, Int.reduceBNe, Int.reduceEq, Int.reduceNe, Int.reduceAdd, Int.reduceSub, Int.reduceMul, Int.reduceNeg, Int.reduceToNat, hlt', wrap_i64, hll, List.length_map, List.take_length]
      exact ⟨Nat.le_refl _, rfl⟩
end Go.Proofs.Ytnmkojglcgaobaa
