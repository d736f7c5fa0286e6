/- Chapter 14: tables, replica by replica: filled, and made a set. -/
import Derived.Test.YtbnmicpgbcfooaaK14A
namespace Go.Proofs.Ytbnmicpgbcfooaa
open Go.Abs
set_option linter.unusedSimpArgs false
set_option linter.unusedVariables false
set_option maxRecDepth 20000
set_option maxHeartbeats 8000000

def slcR (l : List Run) : A := .slc (l.map Run.enc)
@[go_sem] theorem slcR_norm0 {l : List Run} : norm0 (slcR l) = slcR l := rfl
theorem slcR_inj (l m : List Run) (h : slcR l = slcR m) : l = m := by simpa [slcR] using h
@[simp] theorem map_slcR_inj {L M : List (List Run)} : (L.map slcR = M.map slcR) = (L = M) := map_inj slcR_inj
/-- A set, replica by replica. -/
def tabL (s : List Known) : List (List Run) := (List.range 16).map fun i => runsK s ((i : Nat) + 1)
theorem tabL_len (s : List Known) : (tabL s).length = 16 := by simp [tabL]
theorem tabL_get (s : List Known) {i : Nat} (h : i < 16) : (tabL s)[i]? = some (runsK s (i + 1)) := by
  simp [tabL, h]
theorem tabL_ext {L : List (List Run)} {s : List Known} (hl : L.length = 16) (h : ∀ i : Nat, i < 16 → L[i]? = some (runsK s (i + 1))) : L = tabL s := by
  apply List.ext_getElem?
  intro i
  rcases Nat.lt_or_ge i 16 with hi | hi
  · rw [h i hi, tabL_get s hi]
  · rw [List.getElem?_eq_none (by omega), List.getElem?_eq_none (by rw [tabL_len]; omega)]
theorem tabL_snoc {s : List Known} {k : Nat} (h : k < s.length) (hr : repOK s[k].n = true) : tabL (s.take (k + 1)) = (tabL (s.take k)).set (s[k].n - 1).toNat (runsK (s.take k) s[k].n ++ s[k].rs) := by
  rw [repOK_iff] at hr
  symm
  refine tabL_ext (by rw [List.length_set, tabL_len]) fun i hi => ?_
  rw [List.getElem?_set, tabL_len, tabL_get _ hi, runsK_snoc h]
  by_cases e : (s[k].n - 1).toNat = i
  · have e2 : s[k].n = (i : Int) + 1 := by omega
    rw [if_pos e, if_pos (by omega), if_pos e2, ← e2]
  · rw [if_neg e, if_neg (by omega), List.append_nil]
theorem tabL_skip {s : List Known} {k : Nat} (h : k < s.length) (hr : repOK s[k].n = false) : tabL (s.take (k + 1)) = tabL (s.take k) := by
  symm
  refine tabL_ext (by rw [tabL_len]) fun i hi => ?_
  rw [tabL_get _ hi, runsK_snoc h, if_neg, List.append_nil]
  intro e
  rw [← Bool.not_eq_true, repOK_iff] at hr
  omega
theorem tab_head {L : List (List Run)} {i : Nat} {l : List Run} (h : L[i]? = some l) : ((L.map slcR).drop (i * 1)).head? = some (.slc (l.map Run.enc)) := by
  rw [Nat.mul_one, List.head?_drop, List.getElem?_map, h]; rfl
theorem splice_one {cs : List A} {i : Nat} {x : A} (h : i < cs.length) : spliceA cs i [x] = cs.set i x := by
  unfold spliceA
  rw [List.set_eq_take_append_cons_drop, if_pos h]; simp
theorem map_set' {f : A → A} {cs : List A} {i : Nat} {x : A} : (cs.set i x).map f = (cs.map f).set i (f x) := by
  rw [List.map_set]

theorem leL_self {m : Nat} : ∀ {cs : List A}, A.under.underL m cs = true → leL m cs cs
  | [], _ => by simp [leL]
  | c :: cs, h => by
    simp only [A.under.underL, Bool.and_eq_true] at h
    simp only [leL]
    exact ⟨.inr ⟨trivial, h.1⟩, leL_self h.2⟩
theorem under_tab {m : Nat} (L : List (List Run)) : A.under.underL m (L.map slcR) = true := by
  induction L with
  | nil => rfl
  | cons l L ih => simp only [List.map_cons, A.under.underL, ih, Bool.and_true]; rfl
theorem frz_tab {ρ : List Nat} {H : List Go.Abs.Obj} (L : List (List Run)) : (L.map slcR).map (frzA ρ H) = L.map slcR := by
  rw [List.map_map]
  apply List.map_congr_left
  intro l _
  show frzA ρ H (.slc (l.map Run.enc)) = .slc (l.map Run.enc)
  unfold frzA
  rw [if_neg]
  simp [A.meets, A.mem]
theorem scrub_tab {n : Nat} (L : List (List Run)) : (L.map slcR).map (scrubA n) = L.map slcR := by
  rw [List.map_map]
  apply List.map_congr_left
  intro l _
  show scrubA n (.slc (l.map Run.enc)) = .slc (l.map Run.enc)
  unfold scrubA
  rw [if_neg]
  simp [A.mem]
theorem view_tab {H : List Go.Abs.Obj} (L : List (List Run)) : view0L H (L.map slcR) = some (L.map slcR) := by
  induction L with
  | nil => rfl
  | cons l L ih => simp only [List.map_cons, view0L, ih]; rfl
theorem take_tab {L : List (List Run)} (h : L.length = 16) : List.take 16 (L.map slcR) = L.map slcR := List.take_of_length_le (by simp [h])
theorem drop_nils : List.drop 16 (List.replicate 16 A.nils) = [] := rfl
/-- A row of the call's own in a table, frozen. -/
theorem frz_set {n len i : Nat} {es : List A} (L : List (List Run)) (hi : i < L.length) (hl : len ≤ es.length) :
    List.map (frzA [n] [Go.Abs.Obj.row 2 es]) (List.take (i * 1) (L.map slcR) ++ [A.row n 0 2 len false] ++ List.drop (i * 1 + 1) (L.map slcR)) = (L.map slcR).set i (.slc (es.take len)) := by
  rw [Nat.mul_one, List.map_append, List.map_append, List.map_take, List.map_drop, frz_tab, List.set_eq_take_append_cons_drop, if_pos (by simp [hi])]
  have e : frzA [n] [Go.Abs.Obj.row 2 es] (A.row n 0 2 len false) = .slc (es.take len) := by
    simp [frzA, A.meets, A.mem, A.ren, idx, view, view1, view0, viewRow, nthO, hl]
  simp [e]
noncomputable def K14Fa : Tab := K14n.addH 51 (entryH (fun l : List Run => [.slc (l.map Run.enc)]) (fun _ => []) (fun l => l.length ≤ 4398046511104) (fun l => (.row 0 0 2 l.length false, [.row 2 (l.map Run.enc)], [])))
noncomputable def K14F : Tab := { K14Fa with eff := fun f => f == 51, ords := fun n => if n = 7 then
  [[1,2,3,0,4,5,6,7,8,9], [1,2,3,0,5,4,6,7,8,9], [1,2,3,0,5,6,4,7,8,9], [1,2,3,4,5,6,0,7,8,9], [1,2,3,4,5,6,7,0,8,9], [1,2,3,5,0,4,6,7,8,9],
   [1,2,3,5,0,6,4,7,8,9], [1,2,3,5,4,6,0,7,8,9], [1,2,3,5,4,6,7,0,8,9], [1,2,3,5,6,0,4,7,8,9], [1,2,3,5,6,4,0,7,8,9], [1,2,3,5,6,4,7,0,8,9]] else [] }
theorem K14Fa_ok : TabOK Try.prog K14Fa := K14n_ok.addH (callable_of Try.func51 (by kernel_rfl) (by kernel_rfl)) (entryH_ok fun l h => h_Clone_Run l h)
theorem K14F_ok : TabOK Try.prog K14F := ⟨K14Fa_ok.f, K14Fa_ok.hp⟩
@[go_sem] theorem K14F_f : K14F.f = K14n.f := rfl
@[go_sem] theorem K14F_eff {g : FuncId} : K14F.eff g = (g == 51) := rfl
@[go_sem] theorem K14F_effT : K14F.effT = false := rfl
@[go_sem] theorem K14F_frz {g : FuncId} : K14F.frz g = false := rfl
@[go_sem] theorem K14F_fix {n : Nat} : K14F.fix n = false := rfl
@[go_sem] theorem K14F_nf : K14F.nf = 0 := rfl
@[go_sem] theorem K14F_ords0 : K14F.ords 0 = [] := rfl
@[go_sem] theorem K14F_ords1 : K14F.ords 1 = [] := rfl
@[go_sem] theorem K14F_ords2 : K14F.ords 2 = [] := rfl
@[go_sem] theorem K14F_ords3 : K14F.ords 3 = [] := rfl
@[go_sem] theorem K14F_ords4 : K14F.ords 4 = [] := rfl
@[go_sem] theorem K14F_ords5 : K14F.ords 5 = [] := rfl
@[go_sem] theorem K14F_ords6 : K14F.ords 6 = [] := rfl
@[go_sem] theorem K14F_ords7 : K14F.ords 7 = [[1,2,3,0,4,5,6,7,8,9], [1,2,3,0,5,4,6,7,8,9], [1,2,3,0,5,6,4,7,8,9], [1,2,3,4,5,6,0,7,8,9], [1,2,3,4,5,6,7,0,8,9], [1,2,3,5,0,4,6,7,8,9],
   [1,2,3,5,0,6,4,7,8,9], [1,2,3,5,4,6,0,7,8,9], [1,2,3,5,4,6,7,0,8,9], [1,2,3,5,6,0,4,7,8,9], [1,2,3,5,6,4,0,7,8,9], [1,2,3,5,6,4,7,0,8,9]] := rfl
@[go_sem] theorem K14F_ords8 : K14F.ords 8 = [] := rfl
@[go_sem] theorem K14F_ords9 : K14F.ords 9 = [] := rfl
theorem K14F_clone {l : List Run} (h : l.length ≤ 4398046511104) : K14F.hp 51 [.slc (l.map Run.enc)] [] = some (.row 0 0 2 l.length false, [.row 2 (l.map Run.enc)], []) := by
  have h0 : K14Fa.hp 51 [.slc (l.map Run.enc)] [] = entryH (fun l : List Run => [A.slc (l.map Run.enc)]) (fun _ => []) (fun l => l.length ≤ 4398046511104) (fun l => (.row 0 0 2 l.length false, [.row 2 (l.map Run.enc)], [])) [.slc (l.map Run.enc)] [] := Tab.addH_eq
  exact h0.trans (entryH_eq (enc := fun l : List Run => [A.slc (l.map Run.enc)]) (obs := fun _ => []) (fun i j h _ => by simpa using h) l h)
theorem ok_vset_fill : codeOK Try.prog K14F Try.f29.ntmps (Try.f29.body.getD .skip) = true := by kernel_rfl
theorem c_vset_fill (s : List Known) (hs : smallK s) : CallA Try.prog 29 [.slc (s.map Known.enc)] (· = .agg ((tabL s).map slcR)) := by
  refine callA_of_body K14F_ok mixed Try.func29 rfl (Nat.le_of_ble_eq_true rfl) ok_vset_fill ?_
  unfold Try.f29
  obtain ⟨hs1, hs2⟩ := hs
  simp -implicitDefEqProofs (maxSteps := 600000) (disch := (first | omega | decide)) only [go_sem, ↓reduceIte, Nat.reduceEqDiff, reduceCtorEq, Nat.reduceAdd, Nat.reduceSub, Nat.reduceMul, Nat.reduceLeDiff, Nat.reduceLT, Nat.reduceBEq, Nat.reduceBNe, Int.reduceLE, Int.reduceLT, Int.reduceBEq, Int.reduceBNe, Int.reduceEq, Int.reduceNe, Int.reduceAdd, Int.reduceSub, Int.reduceMul, Int.reduceNeg, Int.reduceToNat, List.length_map]
  refine wpA_loop_norm 1 _ rfl ?_
  refine wpA_loopF [4] (by simp) (fun _ _ => Nat.zero_le _) [0, 2, 3, 7, 8] (ι := {k : Nat // k ≤ s.length}) (fun p => [(9, .int .i64 p.1)]) (fun p => [(1, .box ((tabL (s.take p.1)).map slcR))]) (fun p => s.length - p.1) ⟨0, by omega⟩ (Nat.zero_le _) ?_ ?_
  · simp -implicitDefEqProofs (maxSteps := 600000) (disch := (first | omega | decide)) only [go_sem, ↓reduceIte, Nat.reduceEqDiff, reduceCtorEq, Nat.reduceAdd, Nat.reduceSub, Nat.reduceMul, Nat.reduceLeDiff, Nat.reduceLT, Nat.reduceBEq, Nat.reduceBNe, Int.reduceLE, Int.reduceLT, Int.reduceBEq, Int.reduceBNe, Int.reduceEq, Int.reduceNe, Int.reduceAdd, Int.reduceSub, Int.reduceMul, Int.reduceNeg, Int.reduceToNat]
    exact leL_self (cs := (tabL (s.take 0)).map slcR) (under_tab _)
  · rintro ⟨k, hk⟩
    simp only
    have tl : ((tabL (s.take k)).map slcR).length = 16 := by rw [List.length_map, tabL_len]
    by_cases hlt : k < s.length
    · have hlt' : (k : Int) < (s.length : Int) := by omega
      have e1 := known_get hlt
      have hm := sumK_take hlt
      have hsn := tabL_snoc hlt
      have hsk := tabL_skip hlt
      generalize hx : s[k] = x at *
      obtain ⟨n, rs⟩ := x
      simp only at hm hsn hsk
      cases h1 : repOK n with
      | false =>
        have hsk' := hsk h1
        simp -implicitDefEqProofs (maxSteps := 600000) (disch := (first | omega | decide)) only [go_sem, ↓reduceIte, Nat.reduceEqDiff, reduceCtorEq, Nat.reduceAdd, Nat.reduceSub, Nat.reduceMul, Nat.reduceLeDiff, Nat.reduceLT, Nat.reduceBEq, Nat.reduceBNe, Int.reduceLE, Int.reduceLT, Int.reduceBEq, Int.reduceBNe, Int.reduceEq, Int.reduceNe, Int.reduceAdd, Int.reduceSub, Int.reduceMul, Int.reduceNeg, Int.reduceToNat, hlt', e1, h1, wrap_i64, List.length_map]
        exact ⟨⟨k + 1, hlt⟩, .inl ⟨by simp, by rw [hsk']; exact leL_self (under_tab _)⟩, by show s.length - (k + 1) < s.length - k; omega⟩
      | true =>
        have hsn' := hsn h1
        have st := stR rs
        rw [repOK_iff] at h1
        have h2 : repOK n = true := repOK_iff.2 h1
        have g1 := tab_head (tabL_get (s.take k) (i := (n - 1).toNat) (by omega))
        rw [show (((n - 1).toNat : Nat) : Int) + 1 = n by omega] at g1
        have hrl := runsK_len (s.take k) n
        have hcl := K14F_clone (l := runsK (s.take k) n) (by omega)
        have c1 : (0 : Int) ≤ n - 1 := by omega
        have c2 : n - 1 < 16 := by omega
        have sp : ∀ x : A, spliceA ((tabL (s.take k)).map slcR) ((n - 1).toNat * 1) [x] = ((tabL (s.take k)).map slcR).set (n - 1).toNat x := fun x => by rw [Nat.mul_one]; exact splice_one (by rw [tl]; omega)
        simp -implicitDefEqProofs (maxSteps := 600000) (disch := (first | omega | decide)) only [go_sem, ↓reduceIte, Nat.reduceEqDiff, reduceCtorEq, Nat.reduceAdd, Nat.reduceSub, Nat.reduceMul, Nat.reduceLeDiff, Nat.reduceLT, Nat.reduceBEq, Nat.reduceBNe, Int.reduceLE, Int.reduceLT, Int.reduceBEq, Int.reduceBNe, Int.reduceEq, Int.reduceNe, Int.reduceAdd, Int.reduceSub, Int.reduceMul, Int.reduceNeg, Int.reduceToNat, hlt', e1, h2, st, g1, hcl, c1, c2, sp, tl, wrap_i64, List.length_map, List.contains_nil, List.contains_cons]
        refine ⟨⟨Nat.le_refl _, by omega⟩, by omega, ⟨k + 1, hlt⟩, .inr ⟨by simp, ?_⟩, by show s.length - (k + 1) < s.length - k; omega⟩
        have hes : (List.take (runsK (s.take k) n).length ((runsK (s.take k) n).map Run.enc) ++ rs.map Run.enc) = (runsK (s.take k) n ++ rs).map Run.enc := by
          rw [List.take_of_length_le (by simp), List.map_append]
        rw [scrub_tab, hes, frz_set _ (by rw [tabL_len]; omega) (by simp), hsn', List.map_set]
        have htk : ((runsK (s.take k) n ++ rs).map Run.enc).take ((runsK (s.take k) n).length + rs.length) = (runsK (s.take k) n ++ rs).map Run.enc := List.take_of_length_le (by simp)
        rw [htk]
        have := under_tab (m := 2) ((tabL (s.take k)).set (n - 1).toNat (runsK (s.take k) n ++ rs))
        rw [List.map_set] at this
        exact leL_self this
    · have hlt' : ¬ (k : Int) < (s.length : Int) := by omega
      rw [List.take_of_length_le (by omega)] at *
      have tl' := tabL_len s
      have tk := take_tab tl'
      have vt : ∀ H, view0L H ((tabL s).map slcR) = some ((tabL s).map slcR) := fun H => view_tab _
      have dn : List.drop 16 [A.nils, A.nils, A.nils, A.nils, A.nils, A.nils, A.nils, A.nils, A.nils, A.nils, A.nils, A.nils, A.nils, A.nils, A.nils, A.nils] = [] := rfl
      simp -implicitDefEqProofs (maxSteps := 600000) (disch := (first | omega | decide)) only [go_sem, ↓reduceIte, Nat.reduceEqDiff, reduceCtorEq, Nat.reduceAdd, Nat.reduceSub, Nat.reduceMul, Nat.reduceLeDiff, Nat.reduceLT, Nat.reduceBEq, Nat.reduceBNe, Int.reduceLE, Int.reduceLT, Int.reduceBEq, Int.reduceBNe, Int.reduceEq, Int.reduceNe, Int.reduceAdd, Int.reduceSub, Int.reduceMul, Int.reduceNeg, Int.reduceToNat, hlt', tl', tk, vt, dn, List.append_nil, List.length_map]
end Go.Proofs.Ytbnmicpgbcfooaa
namespace Go.Proofs.Ytbnmicpgbcfooaa
open Go.Abs
set_option linter.unusedSimpArgs false
set_option linter.unusedVariables false
set_option maxRecDepth 20000
set_option maxHeartbeats 8000000

def getL (L : List (List Run)) (n : Int) : List Run := L.getD (n - 1).toNat []
noncomputable def setL (L : List (List Run)) : List Known := setT fun n => setR (hasL13 (getL L n))
theorem getL_succ {L : List (List Run)} {k : Nat} {l : List Run} (h : L[k]? = some l) : getL L ((k : Int) + 1) = l := by
  unfold getL
  rw [show ((k : Int) + 1 - 1).toNat = k by omega, List.getD_eq_getElem?_getD, h]; rfl
theorem mkT_step {t : Int → List Run} {k : Nat} : mkT t (k + 1) = if (t (k + 1)).isEmpty then mkT t k else mkT t k ++ [⟨k + 1, t (k + 1)⟩] := rfl
theorem set_len' (p : Int → Bool) : (setR p).length ≤ 1099511627776 := of_len' (setR_right p)
theorem mem_tab {n : Nat} (L : List (List Run)) : A.mem.memL n (L.map slcR) = false := by
  induction L with
  | nil => rfl
  | cons l L ih => simp only [List.map_cons, A.mem.memL, ih, Bool.or_false]; rfl
theorem ok_winnower_vset_table_set : codeOK Try.prog K14n Try.f41.ntmps (Try.f41.body.getD .skip) = true := by kernel_rfl
theorem c_table_set (L : List (List Run)) (hL : L.length = 16) (hl : ∀ l ∈ L, l.length ≤ 4398046511104) : CallA Try.prog 41 [.agg (L.map slcR)] (· = .slc ((setL L).map Known.enc)) := by
  refine callA_of_body K14n_ok mixed Try.func41 rfl (Nat.le_of_ble_eq_true rfl) ok_winnower_vset_table_set ?_
  unfold Try.f41
  have tk := take_tab hL
  have tl : (L.map slcR).length = 16 := by rw [List.length_map, hL]
  have hu := under_tab (m := 2) L
  have hle := leL_self hu
  have hsc := scrub_tab (n := 1) L
  have hme := mem_tab (n := 1) L
  simp -implicitDefEqProofs (maxSteps := 600000) (disch := (first | omega | decide)) only [go_sem, ↓reduceIte, Nat.reduceEqDiff, reduceCtorEq, Nat.reduceAdd, Nat.reduceSub, Nat.reduceMul, Nat.reduceLeDiff, Nat.reduceLT, Nat.reduceBEq, Nat.reduceBNe, Int.reduceLE, Int.reduceLT, Int.reduceBEq, Int.reduceBNe, Int.reduceEq, Int.reduceNe, Int.reduceAdd, Int.reduceSub, Int.reduceMul, Int.reduceNeg, Int.reduceToNat, tk, tl]
  refine wpA_loop_nil 3 2 rfl ?_
  refine wpA_loop [0, 1, 2, 6] (ι := {k : Nat // k ≤ 16}) (fun p => [(7, .int .i64 p.1), (3, .row 1 0 2 (mkT (fun n => setR (hasL13 (getL L n))) p.1).length false)]) (fun p => [(1, .row 2 ((mkT (fun n => setR (hasL13 (getL L n))) p.1).map Known.enc))]) (fun p => 16 - p.1) ⟨0, by omega⟩ (Nat.zero_le _) ?_ ?_
  · simp -implicitDefEqProofs (maxSteps := 600000) (disch := (first | omega | decide)) only [go_sem, ↓reduceIte, Nat.reduceEqDiff, reduceCtorEq, Nat.reduceAdd, Nat.reduceSub, Nat.reduceMul, Nat.reduceLeDiff, Nat.reduceLT, Nat.reduceBEq, Nat.reduceBNe, Int.reduceLE, Int.reduceLT, Int.reduceBEq, Int.reduceBNe, Int.reduceEq, Int.reduceNe, Int.reduceAdd, Int.reduceSub, Int.reduceMul, Int.reduceNeg, Int.reduceToNat, hu, hle]
    simp [mkT]
  · rintro ⟨k, hk⟩
    simp only
    have hml := mkT_len (fun n => setR (hasL13 (getL L n))) k
    by_cases hlt : k < 16
    · have hlt' : (k : Int) < 16 := by omega
      have hkl : k < L.length := by omega
      have hg : L[k]? = some L[k] := List.getElem?_eq_getElem hkl
      have g1 := tab_head hg
      have hll := hl L[k] (List.getElem_mem hkl)
      have hst := mkT_step (t := fun n => setR (hasL13 (getL L n))) (k := k)
      simp only [getL_succ hg] at hst
      have hsl := set_len' (hasL13 L[k])
      generalize L[k] = x at *
      have c1 : (0 : Int) ≤ (k : Int) := by omega
      cases hr : setR (hasL13 x) with
      | nil =>
        rw [hr] at hst hsl
        simp only [List.isEmpty_nil, if_true] at hst
        simp -implicitDefEqProofs (maxSteps := 600000) (disch := (first | omega | decide)) only [go_sem, ↓reduceIte, Nat.reduceEqDiff, reduceCtorEq, Nat.reduceAdd, Nat.reduceSub, Nat.reduceMul, Nat.reduceLeDiff, Nat.reduceLT, Nat.reduceBEq, Nat.reduceBNe, Int.reduceLE, Int.reduceLT, Int.reduceBEq, Int.reduceBNe, Int.reduceEq, Int.reduceNe, Int.reduceAdd, Int.reduceSub, Int.reduceMul, Int.reduceNeg, Int.reduceToNat, hu, hle, hlt', c1, g1, hr, wrap_i64, List.length_map, List.map_nil]
        exact ⟨⟨k + 1, by omega⟩, ⟨⟨by simp, by rw [hst]⟩, by rw [hst]⟩, by show 16 - (k + 1) < 16 - k; omega⟩
      | cons r rs =>
        rw [hr] at hst hsl
        simp only [List.isEmpty_cons, Bool.false_eq_true, if_false] at hst
        have c2 : (0 : Int) < ((rs.length + 1 : Nat) : Int) := by omega
        simp -implicitDefEqProofs (maxSteps := 600000) (disch := (first | omega | decide)) only [go_sem, ↓reduceIte, Nat.reduceEqDiff, reduceCtorEq, Nat.reduceAdd, Nat.reduceSub, Nat.reduceMul, Nat.reduceLeDiff, Nat.reduceLT, Nat.reduceBEq, Nat.reduceBNe, Int.reduceLE, Int.reduceLT, Int.reduceBEq, Int.reduceBNe, Int.reduceEq, Int.reduceNe, Int.reduceAdd, Int.reduceSub, Int.reduceMul, Int.reduceNeg, Int.reduceToNat, hu, hle, hsc, hme, hlt', c1, c2, g1, hr, wrap_i64, List.length_map, List.map_cons, List.length_cons]
        exact ⟨⟨Nat.le_refl _, by omega⟩, ⟨k + 1, by omega⟩, ⟨⟨by simp, by rw [hst, List.length_append]; rfl⟩, by rw [hst, List.map_append, List.take_of_length_le (by simp)]; rfl⟩, by show 16 - (k + 1) < 16 - k; omega⟩
    · have hlt' : ¬ (k : Int) < 16 := by omega
      obtain rfl : k = 16 := by omega
      simp -implicitDefEqProofs (maxSteps := 600000) (disch := (first | omega | decide)) only [go_sem, ↓reduceIte, Nat.reduceEqDiff, reduceCtorEq, Nat.reduceAdd, Nat.reduceSub, Nat.reduceMul, Nat.reduceLeDiff, Nat.reduceLT, Nat.reduceBEq, Nat.reduceBNe, Int.reduceLE, Int.reduceLT, Int.reduceBEq, Int.reduceBNe, Int.reduceEq, Int.reduceNe, Int.reduceAdd, Int.reduceSub, Int.reduceMul, Int.reduceNeg, Int.reduceToNat, hlt', List.length_map]
      exact ⟨Nat.le_refl _, by rw [List.take_of_length_le (by simp)]; rfl⟩
end Go.Proofs.Ytbnmicpgbcfooaa
