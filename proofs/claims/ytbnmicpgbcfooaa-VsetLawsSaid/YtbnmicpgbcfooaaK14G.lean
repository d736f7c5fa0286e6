/- Chapter 14: what is made of two sets; tables as numbers. -/
import Derived.Test.YtbnmicpgbcfooaaK14D
namespace Go.Proofs.Ytbnmicpgbcfooaa
open Go.Abs
set_option linter.unusedSimpArgs false
set_option linter.unusedVariables false
set_option maxRecDepth 20000
set_option maxHeartbeats 8000000

noncomputable def K14o : Tab := K14n.add 29 (entry (fun (s : List Known) => [.slc (s.map Known.enc)]) (fun s => smallK s) (fun s => .agg ((tabL s).map slcR)))
theorem K14o_ok : TabOK Try.prog K14o := K14n_ok.add (callable_of Try.func29 (by kernel_rfl) (by kernel_rfl)) (entry_ok fun s h => c_vset_fill s h)
@[go_sem] theorem K14o_old {g : FuncId} {xs : List A} (h : g ≠ 29) : K14o.f g xs = K14n.f g xs := Tab.add_ne h
@[go_sem] theorem K14o_eff {g : FuncId} : K14o.eff g = K14n.eff g := rfl
@[go_sem] theorem K14o_frz {g : FuncId} : K14o.frz g = K14n.frz g := rfl
@[go_sem] theorem K14o_effT : K14o.effT = K14n.effT := rfl
@[go_sem] theorem K14o_fix : K14o.fix = K14n.fix := rfl
@[go_sem] theorem K14o_nf : K14o.nf = K14n.nf := rfl
@[go_sem] theorem K14o_ords {n : Nat} : K14o.ords n = K14n.ords n := rfl
@[go_sem] theorem K14o_hp : K14o.hp = K14n.hp := rfl
theorem K14o_vset_fill (s : List Known) (h : smallK s) : K14o.f 29 [.slc (s.map Known.enc)] = some (.agg ((tabL s).map slcR)) :=
  (Tab.add_eq : K14o.f 29 [.slc (s.map Known.enc)] = (entry (fun (s : List Known) => [.slc (s.map Known.enc)]) (fun s => smallK s) (fun s => .agg ((tabL s).map slcR))) [.slc (s.map Known.enc)]).trans (entry_eq (fun i j h => by first | (cases i; cases j; rfl; done) | simpa [Prod.ext_iff, and_assoc] using h | (simp at h; omega)) s h)
@[go_sem] theorem k_vset_fill {s : List Known} (h : smallK s) : K14o.f 29 [.slc (s.map Known.enc)] = some (.agg ((tabL s).map slcR)) := K14o_vset_fill s h
noncomputable def K14p : Tab := K14o.add 41 (entry (fun (L : List (List Run)) => [.agg (L.map slcR)]) (fun L => L.length = 16 ∧ ∀ l ∈ L, l.length ≤ 4398046511104) (fun L => .slc ((setL L).map Known.enc)))
theorem K14p_ok : TabOK Try.prog K14p := K14o_ok.add (callable_of Try.func41 (by kernel_rfl) (by kernel_rfl)) (entry_ok fun L h => c_table_set L h.1 h.2)
@[go_sem] theorem K14p_old {g : FuncId} {xs : List A} (h : g ≠ 41) : K14p.f g xs = K14o.f g xs := Tab.add_ne h
@[go_sem] theorem K14p_eff {g : FuncId} : K14p.eff g = K14o.eff g := rfl
@[go_sem] theorem K14p_frz {g : FuncId} : K14p.frz g = K14o.frz g := rfl
@[go_sem] theorem K14p_effT : K14p.effT = K14o.effT := rfl
@[go_sem] theorem K14p_fix : K14p.fix = K14o.fix := rfl
@[go_sem] theorem K14p_nf : K14p.nf = K14o.nf := rfl
@[go_sem] theorem K14p_ords {n : Nat} : K14p.ords n = K14o.ords n := rfl
@[go_sem] theorem K14p_hp : K14p.hp = K14o.hp := rfl
theorem K14p_winnower_vset_table_set (L : List (List Run)) (h : L.length = 16 ∧ ∀ l ∈ L, l.length ≤ 4398046511104) : K14p.f 41 [.agg (L.map slcR)] = some (.slc ((setL L).map Known.enc)) :=
  (Tab.add_eq : K14p.f 41 [.agg (L.map slcR)] = (entry (fun (L : List (List Run)) => [.agg (L.map slcR)]) (fun L => L.length = 16 ∧ ∀ l ∈ L, l.length ≤ 4398046511104) (fun L => .slc ((setL L).map Known.enc))) [.agg (L.map slcR)]).trans (entry_eq (fun i j h => by first | (cases i; cases j; rfl; done) | simpa [Prod.ext_iff, and_assoc] using h | (simp at h; omega)) L h)
theorem k_table_set {L : List (List Run)} (h1 : L.length = 16) (h2 : ∀ l ∈ L, l.length ≤ 4398046511104) : K14p.f 41 [.agg (L.map slcR)] = some (.slc ((setL L).map Known.enc)) := K14p_winnower_vset_table_set L ⟨h1, h2⟩

theorem tabL_mem {s : List Known} {l : List Run} (h : l ∈ tabL s) : l.length ≤ sumK s := by
  unfold tabL at h
  obtain ⟨i, _, rfl⟩ := List.mem_map.1 h
  exact runsK_len s _
theorem getL_tab {s : List Known} {n : Int} (h : repOK n = true) : getL (tabL s) n = runsK s n := by
  rw [repOK_iff] at h
  unfold getL
  rw [List.getD_eq_getElem?_getD, tabL_get s (by omega)]
  show runsK s _ = _
  rw [show (((n - 1).toNat : Nat) : Int) + 1 = n by omega]
/-- The right set of what a set has. -/
noncomputable def ofK (s : List Known) : List Known := setT fun n => setR (hasL13 (runsK s n))
theorem setL_tab (s : List Known) : setL (tabL s) = ofK s := setT_congr fun n h => by simp only [getL_tab h]
noncomputable def opK (op : Int) (a b : List Known) : List Known := setT fun n => setR (opP op (runsK a n) (runsK b n))
theorem ok_vset_Of : codeOK Try.prog K14p Try.f19.ntmps (Try.f19.body.getD .skip) = true := by kernel_rfl
theorem c_vset_Of (s : List Known) (hs : smallK s) : CallA Try.prog 19 [.slc (s.map Known.enc)] (· = .slc ((ofK s).map Known.enc)) := by
  refine callA_of_body K14p_ok mixed Try.func19 rfl (Nat.le_of_ble_eq_true rfl) ok_vset_Of ?_
  unfold Try.f19
  have h1 := k_vset_fill hs
  have h2 := k_table_set (L := tabL s) (tabL_len s) (fun l hl => by have := tabL_mem hl; have := hs.2; omega)
  rw [setL_tab] at h2
  have hme := fun n => mem_tab (n := n) (tabL s)
  have hvt := fun H => view_tab (H := H) (tabL s)
  have hp : A.pure.pureL ((tabL s).map slcR) = true := by
    generalize tabL s = L
    induction L with
    | nil => rfl
    | cons l L ih => simp only [List.map_cons, A.pure.pureL, ih, Bool.and_true]; rfl
  simp -implicitDefEqProofs (maxSteps := 600000) (disch := (first | omega | decide)) only [go_sem, ↓reduceIte, Nat.reduceEqDiff, reduceCtorEq, Nat.reduceAdd, Nat.reduceSub, Nat.reduceMul, Nat.reduceLeDiff, Nat.reduceLT, Nat.reduceBEq, Nat.reduceBNe, Int.reduceLE, Int.reduceLT, Int.reduceBEq, Int.reduceBNe, Int.reduceEq, Int.reduceNe, Int.reduceAdd, Int.reduceSub, Int.reduceMul, Int.reduceNeg, Int.reduceToNat, h1, h2, hme, hvt, hp]

/-- What is made of two tables, in the first k replicas. -/
noncomputable def mixL (op : Int) (X Y : List (List Run)) (k : Nat) : List (List Run) := (List.range 16).map fun i => if i < k then setR (opP op (X.getD i []) (Y.getD i [])) else X.getD i []
theorem mixL_len (op : Int) (X Y : List (List Run)) (k : Nat) : (mixL op X Y k).length = 16 := by simp [mixL]
theorem mixL_get (op : Int) (X Y : List (List Run)) (k : Nat) {i : Nat} (h : i < 16) : (mixL op X Y k)[i]? = some (if i < k then setR (opP op (X.getD i []) (Y.getD i [])) else X.getD i []) := by
  simp [mixL, h]
theorem mixL_zero (op : Int) (X Y : List (List Run)) (h : X.length = 16) : mixL op X Y 0 = X := by
  apply List.ext_getElem?
  intro i
  rcases Nat.lt_or_ge i 16 with hi | hi
  · rw [mixL_get _ _ _ _ hi, if_neg (by omega), List.getD_eq_getElem?_getD, List.getElem?_eq_getElem (by omega)]; rfl
  · rw [List.getElem?_eq_none (by rw [mixL_len]; omega), List.getElem?_eq_none (by omega)]
theorem mixL_step (op : Int) (X Y : List (List Run)) {k : Nat} (h : k < 16) : (mixL op X Y k).set k (setR (opP op (X.getD k []) (Y.getD k []))) = mixL op X Y (k + 1) := by
  apply List.ext_getElem?
  intro i
  rw [List.getElem?_set, mixL_len]
  rcases Nat.lt_or_ge i 16 with hi | hi
  · rw [mixL_get _ _ _ _ hi, mixL_get _ _ _ _ hi]
    by_cases e : k = i
    · subst e; rw [if_pos rfl, if_pos h, if_pos (by omega)]
    · rw [if_neg e]
      by_cases e2 : i < k
      · rw [if_pos e2, if_pos (by omega)]
      · rw [if_neg e2, if_neg (by omega)]
  · rw [if_neg (by omega), List.getElem?_eq_none (by rw [mixL_len]; omega), List.getElem?_eq_none (by rw [mixL_len]; omega)]
theorem setR_idem (p : Int → Bool) : setR (hasL13 (setR p)) = setR p := (setR_eq (setR_right p) fun _ => rfl).symm
theorem setL_mix (op : Int) (a b : List Known) : setL (mixL op (tabL a) (tabL b) 16) = opK op a b := setT_congr fun n h => by
  have h' := repOK_iff.1 h
  have e : getL (mixL op (tabL a) (tabL b) 16) n = setR (opP op (runsK a n) (runsK b n)) := by
    unfold getL
    rw [List.getD_eq_getElem?_getD, mixL_get _ _ _ _ (by omega), if_pos (by omega)]
    have e1 := getL_tab (s := a) h
    have e2 := getL_tab (s := b) h
    unfold getL at e1 e2
    rw [e1, e2]; rfl
  rw [e, setR_idem]
theorem splice_all {cs ys : List A} (h : ys.length = cs.length) : spliceA cs 0 ys = ys := by
  unfold spliceA
  rw [List.drop_of_length_le (by omega)]; simp
theorem pure_tab (L : List (List Run)) : A.pure.pureL (L.map slcR) = true := by
  induction L with
  | nil => rfl
  | cons l L ih => simp only [List.map_cons, A.pure.pureL, ih, Bool.and_true]; rfl
theorem ok_vset_each : codeOK Try.prog K14p Try.f44.ntmps (Try.f44.body.getD .skip) = true := by kernel_rfl
theorem c_vset_each (a b : List Known) (g : FuncId) (op : Int) (ha : smallK a) (hb : smallK b)
    (hg : ∀ x y : List Run, x.length ≤ 1000000 → y.length ≤ 1000000 → K14p.f g [.slc (x.map Run.enc), .slc (y.map Run.enc)] = some (.slc ((setR (opP op x y)).map Run.enc))) :
    CallA Try.prog 44 [.slc (a.map Known.enc), .slc (b.map Known.enc), .fn g []] (· = .slc ((opK op a b).map Known.enc)) := by
  refine callA_of_body K14p_ok mixed Try.func44 rfl (Nat.le_of_ble_eq_true rfl) ok_vset_each ?_
  unfold Try.f44
  have f1 := k_vset_fill ha
  have f2 := k_vset_fill hb
  have l1 := tabL_len a
  have l2 := tabL_len b
  have d1 : ∀ cs : List A, List.drop 16 [A.nils, A.nils, A.nils, A.nils, A.nils, A.nils, A.nils, A.nils, A.nils, A.nils, A.nils, A.nils, A.nils, A.nils, A.nils, A.nils] = [] := fun _ => rfl
  simp -implicitDefEqProofs (maxSteps := 600000) (disch := (first | omega | decide)) only [go_sem, ↓reduceIte, Nat.reduceEqDiff, reduceCtorEq, Nat.reduceAdd, Nat.reduceSub, Nat.reduceMul, Nat.reduceLeDiff, Nat.reduceLT, Nat.reduceBEq, Nat.reduceBNe, Int.reduceLE, Int.reduceLT, Int.reduceBEq, Int.reduceBNe, Int.reduceEq, Int.reduceNe, Int.reduceAdd, Int.reduceSub, Int.reduceMul, Int.reduceNeg, Int.reduceToNat, f1, f2, l1, l2, List.length_map, List.append_nil]
  have ho : smallK a ∧ smallK b := ⟨ha, hb⟩
  have hsa := ha.2
  have hsb := hb.2
  have hu := fun m (L : List (List Run)) => under_tab (m := m) L
  have hle := fun m (L : List (List Run)) => leL_self (hu m L)
  refine wpA_loop [0, 1, 2, 6, 7, 8] (ι := {k : Nat // k ≤ 16}) (fun p => [(14, .int .i64 p.1)]) (fun p => [(0, .box ((mixL op (tabL a) (tabL b) p.1).map slcR))]) (fun p => 16 - p.1) ⟨0, by omega⟩ (Nat.zero_le _) ?_ ?_
  · simp -implicitDefEqProofs (maxSteps := 600000) (disch := (first | omega | decide)) only [go_sem, ↓reduceIte, Nat.reduceEqDiff, reduceCtorEq, Nat.reduceAdd, Nat.reduceSub, Nat.reduceMul, Nat.reduceLeDiff, Nat.reduceLT, Nat.reduceBEq, Nat.reduceBNe, Int.reduceLE, Int.reduceLT, Int.reduceBEq, Int.reduceBNe, Int.reduceEq, Int.reduceNe, Int.reduceAdd, Int.reduceSub, Int.reduceMul, Int.reduceNeg, Int.reduceToNat, hle]
    rw [mixL_zero _ _ _ l1]
    exact hle _ _
  · rintro ⟨k, hk⟩
    simp only
    have tl : ((mixL op (tabL a) (tabL b) k).map slcR).length = 16 := by rw [List.length_map, mixL_len]
    by_cases hlt : k < 16
    · have hlt' : (k : Int) < 16 := by omega
      have c1 : (0 : Int) ≤ (k : Int) := by omega
      have a1 : (tabL a).getD k [] = runsK a ((k : Int) + 1) := by rw [List.getD_eq_getElem?_getD, tabL_get a hlt]; rfl
      have b1 : (tabL b).getD k [] = runsK b ((k : Int) + 1) := by rw [List.getD_eq_getElem?_getD, tabL_get b hlt]; rfl
      have m1 := mixL_get op (tabL a) (tabL b) k hlt
      rw [if_neg (Nat.lt_irrefl k), a1] at m1
      have g1 := tab_head m1
      have g2 := tab_head (tabL_get b hlt)
      have la := runsK_len a ((k : Int) + 1)
      have lb := runsK_len b ((k : Int) + 1)
      have hf := hg (runsK a ((k : Int) + 1)) (runsK b ((k : Int) + 1)) (by omega) (by omega)
      have sp : spliceA ((mixL op (tabL a) (tabL b) k).map slcR) (k * 1) [.slc ((setR (opP op (runsK a ((k : Int) + 1)) (runsK b ((k : Int) + 1)))).map Run.enc)] = (mixL op (tabL a) (tabL b) (k + 1)).map slcR := by
        have := mixL_step op (tabL a) (tabL b) hlt
        rw [a1, b1] at this
        rw [Nat.mul_one, splice_one (by rw [tl]; omega), ← this, List.map_set]; rfl
      simp -implicitDefEqProofs (maxSteps := 600000) (disch := (first | omega | decide)) only [go_sem, ↓reduceIte, Nat.reduceEqDiff, reduceCtorEq, Nat.reduceAdd, Nat.reduceSub, Nat.reduceMul, Nat.reduceLeDiff, Nat.reduceLT, Nat.reduceBEq, Nat.reduceBNe, Int.reduceLE, Int.reduceLT, Int.reduceBEq, Int.reduceBNe, Int.reduceEq, Int.reduceNe, Int.reduceAdd, Int.reduceSub, Int.reduceMul, Int.reduceNeg, Int.reduceToNat, hlt', c1, g1, g2, hf, sp, tl, hle, hu, wrap_i64, List.length_map]
      exact ⟨by omega, ⟨k + 1, by omega⟩, ⟨by simp, hle _ _⟩, by show 16 - (k + 1) < 16 - k; omega⟩
    · have hlt' : ¬ (k : Int) < 16 := by omega
      obtain rfl : k = 16 := by omega
      have tk := take_tab (mixL_len op (tabL a) (tabL b) 16)
      have hs := k_table_set (L := mixL op (tabL a) (tabL b) 16) (mixL_len _ _ _ _) (fun l hl => by
        unfold mixL at hl
        obtain ⟨i, hi, rfl⟩ := List.mem_map.1 hl
        rw [if_pos (by simpa using hi)]
        have := set_len' (opP op ((tabL a).getD i []) ((tabL b).getD i []))
        omega)
      rw [setL_mix] at hs
      have pt := pure_tab (mixL op (tabL a) (tabL b) 16)
      have hvt := fun H => view_tab (H := H) (mixL op (tabL a) (tabL b) 16)
      have hml := fun n => mem_tab (n := n) (mixL op (tabL a) (tabL b) 16)
      simp -implicitDefEqProofs (maxSteps := 600000) (disch := (first | omega | decide)) only [go_sem, ↓reduceIte, Nat.reduceEqDiff, reduceCtorEq, Nat.reduceAdd, Nat.reduceSub, Nat.reduceMul, Nat.reduceLeDiff, Nat.reduceLT, Nat.reduceBEq, Nat.reduceBNe, Int.reduceLE, Int.reduceLT, Int.reduceBEq, Int.reduceBNe, Int.reduceEq, Int.reduceNe, Int.reduceAdd, Int.reduceSub, Int.reduceMul, Int.reduceNeg, Int.reduceToNat, hlt', tl, tk, hs, pt, hvt, hml, List.length_map]
end Go.Proofs.Ytbnmicpgbcfooaa
namespace Go.Proofs.Ytbnmicpgbcfooaa
open Go.Abs
set_option linter.unusedSimpArgs false
set_option linter.unusedVariables false
set_option maxRecDepth 20000
set_option maxHeartbeats 8000000

theorem setR_has_len (l : List Run) : (setR (hasL13 l)).length ≤ l.length := by
  rw [← srtL_all, List.length_reverse]
  have h1 := fold_len (srtL l) []
  have h2 := (srtL_perm l).length_eq
  have h3 := List.length_filter_le oneR l
  simp only [List.length_nil] at h1; omega
theorem setR_op_len (op : Int) (a b : List Run) : (setR (opP op a b)).length ≤ 2 * a.length + 2 * b.length := by
  rw [← mkA_all, List.length_reverse]
  have h1 := mkA_len (opP op a b) (edges2 a b) ((edges2 a b).length - 1)
  have h2 := edges2_len a b
  omega
theorem sumK_mkT {t : Int → List Run} {B : Nat} (h : ∀ n, (t n).length ≤ B) : ∀ k, sumK (mkT t k) ≤ k * B
  | 0 => by simp [mkT, sumK]
  | k + 1 => by
    have ih := sumK_mkT h k
    have h1 := h (k + 1)
    rw [Nat.succ_mul]
    simp only [mkT]; split
    · omega
    · rw [sumK_append]
      have e : sumK [⟨(k : Int) + 1, t (k + 1)⟩] = (t (k + 1)).length := by simp [sumK]
      omega
theorem sumK_setT {t : Int → List Run} {B : Nat} (h : ∀ n, (t n).length ≤ B) : sumK (setT t) ≤ 16 * B ∧ (setT t).length ≤ 16 := ⟨sumK_mkT h 16, mkT_len t 16⟩
theorem sumK_op {op : Int} {a b : List Known} {B : Nat} (ha : sumK a ≤ B) (hb : sumK b ≤ B) : sumK (opK op a b) ≤ 64 * B ∧ (opK op a b).length ≤ 16 := by
  have := sumK_setT (t := fun n => setR (opP op (runsK a n) (runsK b n))) (B := 4 * B) (fun n => by
    have h1 := setR_op_len op (runsK a n) (runsK b n)
    have h2 := runsK_len a n
    have h3 := runsK_len b n
    omega)
  unfold opK; omega
theorem sumK_of {s : List Known} {B : Nat} (hs : sumK s ≤ B) : sumK (ofK s) ≤ 16 * B ∧ (ofK s).length ≤ 16 :=
  sumK_setT (t := fun n => setR (hasL13 (runsK s n))) fun n => by
    have h1 := setR_has_len (runsK s n)
    have h2 := runsK_len s n
    omega
/-- Short enough for the document's functions. -/
def midK (s : List Known) : Prop := smallK s ∧ ∀ n, (runsK s n).length ≤ 1000
theorem mid_of {s : List Known} (h : s.length ≤ 1000000) (h' : sumK s ≤ 1000) : midK s := ⟨⟨h, by omega⟩, fun n => by have := runsK_len s n; omega⟩
theorem mid_ofK {s : List Known} (h : sumK s ≤ 1000) : midK (ofK s) := by
  have h1 := sumK_of h
  refine ⟨⟨by omega, by omega⟩, fun n => ?_⟩
  unfold ofK
  rw [setT_runs]
  split
  · have h2 := setR_has_len (runsK s n)
    have h3 := runsK_len s n
    omega
  · simp
theorem ok_ref14_Make : codeOK Try.prog K14p Try.f26.ntmps (Try.f26.body.getD .skip) = true := by kernel_rfl
theorem c_ref14_Make (op : Int) (a b : List Known) (hop : opOK op) (ha : midK a) (hb : midK b) : CallA Try.prog 26 [.int .i64 op, .slc (a.map Known.enc), .slc (b.map Known.enc)] (· = .slc ((opK op a b).map Known.enc)) := by
  refine callA_of_body K14p_ok mixed Try.func26 rfl (Nat.le_of_ble_eq_true rfl) ok_ref14_Make ?_
  unfold Try.f26
  simp -implicitDefEqProofs (maxSteps := 600000) (disch := (first | omega | decide)) only [go_sem, ↓reduceIte, Nat.reduceEqDiff, reduceCtorEq, Nat.reduceAdd, Nat.reduceSub, Nat.reduceMul, Nat.reduceLeDiff, Nat.reduceLT, Nat.reduceBEq, Nat.reduceBNe, Int.reduceLE, Int.reduceLT, Int.reduceBEq, Int.reduceBNe, Int.reduceEq, Int.reduceNe, Int.reduceAdd, Int.reduceSub, Int.reduceMul, Int.reduceNeg, Int.reduceToNat, List.length_map]
  refine wpA_loop_nil 7 2 rfl ?_
  refine wpA_loop [0, 1, 2] (ι := {k : Nat // k ≤ 16}) (fun p => [(8, .int .i64 ((p.1 : Int) + 1)), (7, .row 0 0 2 (mkT (fun n => setR (opP op (runsK a n) (runsK b n))) p.1).length false)]) (fun p => [(0, .row 2 ((mkT (fun n => setR (opP op (runsK a n) (runsK b n))) p.1).map Known.enc))]) (fun p => 16 - p.1) ⟨0, by omega⟩ (Nat.zero_le _) ?_ ?_
  · simp -implicitDefEqProofs (maxSteps := 600000) (disch := (first | omega | decide)) only [go_sem, ↓reduceIte, Nat.reduceEqDiff, reduceCtorEq, Nat.reduceAdd, Nat.reduceSub, Nat.reduceMul, Nat.reduceLeDiff, Nat.reduceLT, Nat.reduceBEq, Nat.reduceBNe, Int.reduceLE, Int.reduceLT, Int.reduceBEq, Int.reduceBNe, Int.reduceEq, Int.reduceNe, Int.reduceAdd, Int.reduceSub, Int.reduceMul, Int.reduceNeg, Int.reduceToNat]
    simp [mkT]
  · rintro ⟨k, hk⟩
    simp only
    have hml := mkT_len (fun n => setR (opP op (runsK a n) (runsK b n))) k
    by_cases hlt : k < 16
    · have hlt' : (k : Int) + 1 ≤ 16 := by omega
      have r1 := k_ref14_Runs (n := (k : Int) + 1) ha.1
      have r2 := k_ref14_Runs (n := (k : Int) + 1) hb.1
      have hM := T13m_ref13_Make (op, runsK a ((k : Int) + 1), runsK b ((k : Int) + 1)) ⟨hop, ha.2 _, hb.2 _⟩
      simp only at hM
      have hst := mkT_step (t := fun n => setR (opP op (runsK a n) (runsK b n))) (k := k)
      have hsl := set_len' (opP op (runsK a ((k : Int) + 1)) (runsK b ((k : Int) + 1)))
      cases hr : setR (opP op (runsK a ((k : Int) + 1)) (runsK b ((k : Int) + 1))) with
      | nil =>
        rw [hr] at hst hsl
        simp only [List.isEmpty_nil, if_true] at hst
        simp -implicitDefEqProofs (maxSteps := 600000) (disch := (first | omega | decide)) only [go_sem, ↓reduceIte, Nat.reduceEqDiff, reduceCtorEq, Nat.reduceAdd, Nat.reduceSub, Nat.reduceMul, Nat.reduceLeDiff, Nat.reduceLT, Nat.reduceBEq, Nat.reduceBNe, Int.reduceLE, Int.reduceLT, Int.reduceBEq, Int.reduceBNe, Int.reduceEq, Int.reduceNe, Int.reduceAdd, Int.reduceSub, Int.reduceMul, Int.reduceNeg, Int.reduceToNat, hlt', r1, r2, hM, hr, wrap_i64, List.length_map, List.map_nil]
        exact ⟨⟨k + 1, by omega⟩, ⟨⟨by simp, by rw [hst]⟩, by rw [hst]⟩, by show 16 - (k + 1) < 16 - k; omega⟩
      | cons r rs =>
        rw [hr] at hst hsl
        simp only [List.isEmpty_cons, Bool.false_eq_true, if_false] at hst
        have c2 : (0 : Int) < ((rs.length + 1 : Nat) : Int) := by omega
        simp -implicitDefEqProofs (maxSteps := 600000) (disch := (first | omega | decide)) only [go_sem, ↓reduceIte, Nat.reduceEqDiff, reduceCtorEq, Nat.reduceAdd, Nat.reduceSub, Nat.reduceMul, Nat.reduceLeDiff, Nat.reduceLT, Nat.reduceBEq, Nat.reduceBNe, Int.reduceLE, Int.reduceLT, Int.reduceBEq, Int.reduceBNe, Int.reduceEq, Int.reduceNe, Int.reduceAdd, Int.reduceSub, Int.reduceMul, Int.reduceNeg, Int.reduceToNat, hlt', c2, r1, r2, hM, hr, wrap_i64, List.length_map, List.map_cons, List.length_cons]
        exact ⟨⟨Nat.le_refl _, by omega⟩, ⟨k + 1, by omega⟩, ⟨⟨by simp, by rw [hst, List.length_append]; rfl⟩, by rw [hst, List.map_append, List.take_of_length_le (by simp)]; rfl⟩, by show 16 - (k + 1) < 16 - k; omega⟩
    · have hlt' : ¬ (k : Int) + 1 ≤ 16 := by omega
      obtain rfl : k = 16 := by omega
      simp -implicitDefEqProofs (maxSteps := 600000) (disch := (first | omega | decide)) only [go_sem, ↓reduceIte, Nat.reduceEqDiff, reduceCtorEq, Nat.reduceAdd, Nat.reduceSub, Nat.reduceMul, Nat.reduceLeDiff, Nat.reduceLT, Nat.reduceBEq, Nat.reduceBNe, Int.reduceLE, Int.reduceLT, Int.reduceBEq, Int.reduceBNe, Int.reduceEq, Int.reduceNe, Int.reduceAdd, Int.reduceSub, Int.reduceMul, Int.reduceNeg, Int.reduceToNat, hlt', List.length_map]
      exact ⟨Nat.le_refl _, by rw [List.take_of_length_le (by simp)]; rfl⟩
noncomputable def K14q : Tab := K14p.add 26 (entry (fun (v : Int × List Known × List Known) => [.int .i64 v.1, .slc (v.2.1.map Known.enc), .slc (v.2.2.map Known.enc)]) (fun v => opOK v.1 ∧ midK v.2.1 ∧ midK v.2.2) (fun v => .slc ((opK v.1 v.2.1 v.2.2).map Known.enc)))
theorem K14q_ok : TabOK Try.prog K14q := K14p_ok.add (callable_of Try.func26 (by kernel_rfl) (by kernel_rfl)) (entry_ok fun v h => c_ref14_Make v.1 v.2.1 v.2.2 h.1 h.2.1 h.2.2)
@[go_sem] theorem K14q_old {g : FuncId} {xs : List A} (h : g ≠ 26) : K14q.f g xs = K14p.f g xs := Tab.add_ne h
@[go_sem] theorem K14q_eff {g : FuncId} : K14q.eff g = K14p.eff g := rfl
@[go_sem] theorem K14q_frz {g : FuncId} : K14q.frz g = K14p.frz g := rfl
@[go_sem] theorem K14q_effT : K14q.effT = K14p.effT := rfl
@[go_sem] theorem K14q_fix : K14q.fix = K14p.fix := rfl
@[go_sem] theorem K14q_nf : K14q.nf = K14p.nf := rfl
@[go_sem] theorem K14q_ords {n : Nat} : K14q.ords n = K14p.ords n := rfl
@[go_sem] theorem K14q_hp : K14q.hp = K14p.hp := rfl
theorem K14q_ref14_Make (v : Int × List Known × List Known) (h : opOK v.1 ∧ midK v.2.1 ∧ midK v.2.2) : K14q.f 26 [.int .i64 v.1, .slc (v.2.1.map Known.enc), .slc (v.2.2.map Known.enc)] = some (.slc ((opK v.1 v.2.1 v.2.2).map Known.enc)) :=
  (Tab.add_eq : K14q.f 26 [.int .i64 v.1, .slc (v.2.1.map Known.enc), .slc (v.2.2.map Known.enc)] = (entry (fun (v : Int × List Known × List Known) => [.int .i64 v.1, .slc (v.2.1.map Known.enc), .slc (v.2.2.map Known.enc)]) (fun v => opOK v.1 ∧ midK v.2.1 ∧ midK v.2.2) (fun v => .slc ((opK v.1 v.2.1 v.2.2).map Known.enc))) [.int .i64 v.1, .slc (v.2.1.map Known.enc), .slc (v.2.2.map Known.enc)]).trans (entry_eq (fun i j h => by first | (cases i; cases j; rfl; done) | simpa [Prod.ext_iff, and_assoc] using h | (simp at h; omega)) v h)
theorem k_ref14_Make {op : Int} {a b : List Known} (ho : opOK op) (ha : midK a) (hb : midK b) : K14q.f 26 [.int .i64 op, .slc (a.map Known.enc), .slc (b.map Known.enc)] = some (.slc ((opK op a b).map Known.enc)) := K14q_ref14_Make (op, a, b) ⟨ho, ha, hb⟩
theorem mid_nil : midK [] := ⟨⟨by simp, by simp [sumK]⟩, fun n => by simp [runsK]⟩
theorem opP1_nil (x : List Run) : opP 1 x [] = hasL13 x := by
  funext n; simp [opP, opF, hasL13]
theorem opK1_nil (s : List Known) : opK 1 s [] = ofK s := setT_congr fun n _ => by simp only [runsK, opP1_nil]
theorem opOK1 : opOK 1 := .inl rfl
theorem opOK2 : opOK 2 := .inr (.inl rfl)
theorem opOK3 : opOK 3 := .inr (.inr rfl)
theorem ok_ref14_Of : codeOK Try.prog K14q Try.f20.ntmps (Try.f20.body.getD .skip) = true := by kernel_rfl
theorem c_ref14_Of (s : List Known) (hs : midK s) : CallA Try.prog 20 [.slc (s.map Known.enc)] (· = .slc ((ofK s).map Known.enc)) := by
  refine callA_of_body K14q_ok mixed Try.func20 rfl (Nat.le_of_ble_eq_true rfl) ok_ref14_Of ?_
  unfold Try.f20
  have h := k_ref14_Make opOK1 hs mid_nil
  rw [opK1_nil, List.map_nil] at h
  simp -implicitDefEqProofs (maxSteps := 600000) (disch := (first | omega | decide)) only [go_sem, ↓reduceIte, Nat.reduceEqDiff, reduceCtorEq, Nat.reduceAdd, Nat.reduceSub, Nat.reduceMul, Nat.reduceLeDiff, Nat.reduceLT, Nat.reduceBEq, Nat.reduceBNe, Int.reduceLE, Int.reduceLT, Int.reduceBEq, Int.reduceBNe, Int.reduceEq, Int.reduceNe, Int.reduceAdd, Int.reduceSub, Int.reduceMul, Int.reduceNeg, Int.reduceToNat, h]
noncomputable def K14r : Tab := K14q.add 20 (entry (fun (s : List Known) => [.slc (s.map Known.enc)]) (fun s => midK s) (fun s => .slc ((ofK s).map Known.enc)))
theorem K14r_ok : TabOK Try.prog K14r := K14q_ok.add (callable_of Try.func20 (by kernel_rfl) (by kernel_rfl)) (entry_ok fun s h => c_ref14_Of s h)
@[go_sem] theorem K14r_old {g : FuncId} {xs : List A} (h : g ≠ 20) : K14r.f g xs = K14q.f g xs := Tab.add_ne h
@[go_sem] theorem K14r_eff {g : FuncId} : K14r.eff g = K14q.eff g := rfl
@[go_sem] theorem K14r_frz {g : FuncId} : K14r.frz g = K14q.frz g := rfl
@[go_sem] theorem K14r_effT : K14r.effT = K14q.effT := rfl
@[go_sem] theorem K14r_fix : K14r.fix = K14q.fix := rfl
@[go_sem] theorem K14r_nf : K14r.nf = K14q.nf := rfl
@[go_sem] theorem K14r_ords {n : Nat} : K14r.ords n = K14q.ords n := rfl
@[go_sem] theorem K14r_hp : K14r.hp = K14q.hp := rfl
theorem K14r_ref14_Of (s : List Known) (h : midK s) : K14r.f 20 [.slc (s.map Known.enc)] = some (.slc ((ofK s).map Known.enc)) :=
  (Tab.add_eq : K14r.f 20 [.slc (s.map Known.enc)] = (entry (fun (s : List Known) => [.slc (s.map Known.enc)]) (fun s => midK s) (fun s => .slc ((ofK s).map Known.enc))) [.slc (s.map Known.enc)]).trans (entry_eq (fun i j h => by first | (cases i; cases j; rfl; done) | simpa [Prod.ext_iff, and_assoc] using h | (simp at h; omega)) s h)
theorem k_ref14_Of {s : List Known} (h : midK s) : K14r.f 20 [.slc (s.map Known.enc)] = some (.slc ((ofK s).map Known.enc)) := K14r_ref14_Of s h
/-- Right versions as a set. -/
def oneS (l : List Ver) : List Known := (l.filter rightV).map fun v => ⟨v.r, [⟨v.c, v.c⟩]⟩
theorem oneS_append (l m : List Ver) : oneS (l ++ m) = oneS l ++ oneS m := by simp [oneS]
theorem oneS_len (l : List Ver) : (oneS l).length ≤ l.length ∧ sumK (oneS l) ≤ l.length := by
  induction l with
  | nil => simp [oneS, sumK]
  | cons v l ih =>
    have e : oneS (v :: l) = oneS [v] ++ oneS l := by rw [← oneS_append]; rfl
    rw [e, sumK_append, List.length_append, List.length_cons]
    have : (oneS [v]).length ≤ 1 ∧ sumK (oneS [v]) ≤ 1 := by
      unfold oneS
      by_cases h : rightV v = true
      · simp [h, sumK]
      · simp [h, sumK]
    omega
theorem oneS_snoc {l : List Ver} {k : Nat} (h : k < l.length) : oneS (l.take (k + 1)) = oneS (l.take k) ++ (if rightV l[k] = true then [⟨l[k].r, [⟨l[k].c, l[k].c⟩]⟩] else []) := by
  rw [← List.take_append_getElem h, oneS_append]
  congr 1
  unfold oneS
  by_cases h : rightV l[k] = true
  · simp [h]
  · simp [h]
theorem opK_of (t u : List Known) : opK 1 (ofK t) u = ofK (t ++ u) := setT_congr fun n h => by
  have e : opP 1 (runsK (ofK t) n) (runsK u n) = hasL13 (runsK (t ++ u) n) := by
    funext c
    unfold ofK
    rw [setT_runs, if_pos h, runsK_append, has_append]
    show opF 1 _ _ = _
    rw [setR_has (isR_has _)]; rfl
  simp only [e]
theorem ver_get {l : List Ver} {k : Nat} (h : k < l.length) : (l.map Ver.enc)[k]? = some (.agg [.int .i64 l[k].r, .int .i64 l[k].c]) := by
  rw [List.getElem?_map, List.getElem?_eq_getElem h]; rfl
theorem mid_one (n c : Int) : midK [⟨n, [⟨c, c⟩]⟩] := mid_of (by simp) (by simp [sumK])
theorem ok_ref14_Add : codeOK Try.prog K14r Try.f22.ntmps (Try.f22.body.getD .skip) = true := by kernel_rfl
theorem c_ref14_Add (s : List Known) (l : List Ver) (hs : midK s) (hl : sumK s + l.length ≤ 1000) : CallA Try.prog 22 [.slc (s.map Known.enc), .slc (l.map Ver.enc)] (· = .slc ((ofK (s ++ oneS l)).map Known.enc)) := by
  refine callA_of_body K14r_ok mixed Try.func22 rfl (Nat.le_of_ble_eq_true rfl) ok_ref14_Add ?_
  unfold Try.f22
  have h0 := k_ref14_Of hs
  simp -implicitDefEqProofs (maxSteps := 600000) (disch := (first | omega | decide)) only [go_sem, ↓reduceIte, Nat.reduceEqDiff, reduceCtorEq, Nat.reduceAdd, Nat.reduceSub, Nat.reduceMul, Nat.reduceLeDiff, Nat.reduceLT, Nat.reduceBEq, Nat.reduceBNe, Int.reduceLE, Int.reduceLT, Int.reduceBEq, Int.reduceBNe, Int.reduceEq, Int.reduceNe, Int.reduceAdd, Int.reduceSub, Int.reduceMul, Int.reduceNeg, Int.reduceToNat, h0, List.length_map]
  refine wpA_loop [0, 1] (ι := {k : Nat // k ≤ l.length}) (fun p => [(6, .int .i64 p.1), (5, .slc ((ofK (s ++ oneS (l.take p.1))).map Known.enc))]) (fun _ => []) (fun p => l.length - p.1) ⟨0, by omega⟩ (Nat.zero_le _) ?_ ?_
  · simp -implicitDefEqProofs (maxSteps := 600000) (disch := (first | omega | decide)) only [go_sem, ↓reduceIte, Nat.reduceEqDiff, reduceCtorEq, Nat.reduceAdd, Nat.reduceSub, Nat.reduceMul, Nat.reduceLeDiff, Nat.reduceLT, Nat.reduceBEq, Nat.reduceBNe, Int.reduceLE, Int.reduceLT, Int.reduceBEq, Int.reduceBNe, Int.reduceEq, Int.reduceNe, Int.reduceAdd, Int.reduceSub, Int.reduceMul, Int.reduceNeg, Int.reduceToNat]
    simp [oneS]
  · rintro ⟨k, hk⟩
    simp only
    by_cases hlt : k < l.length
    · have hlt' : (k : Int) < (l.length : Int) := by omega
      have e1 := ver_get hlt
      have hsn := oneS_snoc hlt
      have hol := oneS_len (l.take k)
      rw [List.length_take] at hol
      have hm := mid_ofK (s := s ++ oneS (l.take k)) (by rw [sumK_append]; omega)
      generalize hx : l[k] = x at *
      obtain ⟨r, c⟩ := x
      simp only at hsn
      cases h1 : rightV ⟨r, c⟩ with
      | false =>
        rw [h1, if_neg (by simp), List.append_nil] at hsn
        simp -implicitDefEqProofs (maxSteps := 600000) (disch := (first | omega | decide)) only [go_sem, ↓reduceIte, Nat.reduceEqDiff, reduceCtorEq, Nat.reduceAdd, Nat.reduceSub, Nat.reduceMul, Nat.reduceLeDiff, Nat.reduceLT, Nat.reduceBEq, Nat.reduceBNe, Int.reduceLE, Int.reduceLT, Int.reduceBEq, Int.reduceBNe, Int.reduceEq, Int.reduceNe, Int.reduceAdd, Int.reduceSub, Int.reduceMul, Int.reduceNeg, Int.reduceToNat, hlt', e1, h1, wrap_i64, List.length_map]
        exact ⟨⟨k + 1, hlt⟩, ⟨by simp, by rw [hsn]⟩, by show l.length - (k + 1) < l.length - k; omega⟩
      | true =>
        rw [h1, if_pos rfl] at hsn
        have hM := k_ref14_Make opOK1 hm (mid_one r c)
        rw [opK_of, List.append_assoc, ← hsn] at hM
        simp only [List.map_cons, List.map_nil, Known.enc_eq, Run.enc_eq] at hM
        simp -implicitDefEqProofs (maxSteps := 600000) (disch := (first | omega | decide)) only [go_sem, ↓reduceIte, Nat.reduceEqDiff, reduceCtorEq, Nat.reduceAdd, Nat.reduceSub, Nat.reduceMul, Nat.reduceLeDiff, Nat.reduceLT, Nat.reduceBEq, Nat.reduceBNe, Int.reduceLE, Int.reduceLT, Int.reduceBEq, Int.reduceBNe, Int.reduceEq, Int.reduceNe, Int.reduceAdd, Int.reduceSub, Int.reduceMul, Int.reduceNeg, Int.reduceToNat, hlt', e1, h1, hM, wrap_i64, List.length_map, List.map_cons, List.map_nil]
        exact ⟨⟨k + 1, hlt⟩, ⟨by simp, rfl⟩, by show l.length - (k + 1) < l.length - k; omega⟩
    · have hlt' : ¬ (k : Int) < (l.length : Int) := by omega
      rw [List.take_of_length_le (by omega)] at *
      simp -implicitDefEqProofs (maxSteps := 600000) (disch := (first | omega | decide)) only [go_sem, ↓reduceIte, Nat.reduceEqDiff, reduceCtorEq, Nat.reduceAdd, Nat.reduceSub, Nat.reduceMul, Nat.reduceLeDiff, Nat.reduceLT, Nat.reduceBEq, Nat.reduceBNe, Int.reduceLE, Int.reduceLT, Int.reduceBEq, Int.reduceBNe, Int.reduceEq, Int.reduceNe, Int.reduceAdd, Int.reduceSub, Int.reduceMul, Int.reduceNeg, Int.reduceToNat, hlt', List.length_map]
end Go.Proofs.Ytbnmicpgbcfooaa
