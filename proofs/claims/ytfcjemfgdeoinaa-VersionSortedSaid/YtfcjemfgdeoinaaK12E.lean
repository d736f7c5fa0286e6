/- Chapter 12: versions sorted; the example. -/
import Derived.Test.YtfcjemfgdeoinaaK12D
namespace Go.Proofs.Ytfcjemfgdeoinaa
open Go.Abs
set_option linter.unusedSimpArgs false
set_option linter.unusedVariables false
set_option maxRecDepth 20000
set_option maxHeartbeats 4000000

theorem addH_eq {Γ : Tab} {g : Go.FuncId} {e : List A → List Go.Abs.Obj → Option (A × List Go.Abs.Obj × List Nat)} {xs : List A} {H : List Go.Abs.Obj} : (Γ.addH g e).hp g xs H = e xs H := if_pos rfl
theorem addH_ne {Γ : Tab} {g h : Go.FuncId} {e : List A → List Go.Abs.Obj → Option (A × List Go.Abs.Obj × List Nat)} {xs : List A} {H : List Go.Abs.Obj} (hn : h ≠ g) : (Γ.addH g e).hp h xs H = Γ.hp h xs H := if_neg hn
theorem c_SortFunc_Version (l : List Ver) (hl : l.length < 4611686018427387904) : CallH Try.prog 45 [.row 0 0 2 l.length false, .fn 27 []] [.row 2 (l.map Ver.enc)]
    (.tup []) [.row 2 ((sortL cmpV l).map Ver.enc)] [] :=
  sort_struct Go.Proofs.Ytfcjemfgdeoinaa.sortVer (by omega) Try.isAgg36 Try.sizeOf36 Ver.cells (fun _ => rfl) (fun x a ha => by
    simp only [Ver.cells, List.mem_cons, List.not_mem_nil, or_false] at ha
    rcases ha with rfl | rfl <;> rfl) cmpV swoV (callable_of Try.func27 (by kernel_rfl) (by kernel_rfl)) (fun x y => c_version_Cmp x y) l hl false

def sE (l : List Ver) : List A := [.row 0 0 2 l.length false, .fn 27 []]
def sO (l : List Ver) : List Go.Abs.Obj := [.row 2 (l.map Ver.enc)]
def sK (l : List Ver) : Prop := l.length < 4611686018427387904
noncomputable def sR (l : List Ver) : A × List Go.Abs.Obj × List Nat := (.tup [], [.row 2 ((sortL cmpV l).map Ver.enc)], [])
def cE (l : List Ver) : List A := [.row 0 0 2 l.length false]
def cK (l : List Ver) : Prop := l.length ≤ 4611686018427387903
def cR (l : List Ver) : A × List Go.Abs.Obj × List Nat := (.row 0 0 2 (compL l).length false, [.row 2 ((compL l ++ List.replicate (l.length - (compL l).length) (⟨0, 0⟩ : Ver)).map Ver.enc)], [])
theorem sO_inj (i j : List Ver) (h : sO i = sO j) : i = j := by simpa [sO] using h
noncomputable def TSa : Tab := T12h.addH 45 (entryH sE sO sK sR)
noncomputable def TSb : Tab := TSa.addH 46 (entryH cE sO cK cR)
noncomputable def TS : Tab := { TSb with eff := fun f => f == 45 || f == 46 }
theorem TSa_ok : TabOK Try.prog TSa := T12h_ok.addH (callable_of Try.func45 (by kernel_rfl) (by kernel_rfl)) (entryH_ok fun l h => c_SortFunc_Version l h)
theorem TSb_ok : TabOK Try.prog TSb := TSa_ok.addH (callable_of Try.func46 (by kernel_rfl) (by kernel_rfl)) (entryH_ok fun l h => c_Compact_Version l h)
theorem TS_ok : TabOK Try.prog TS := ⟨TSb_ok.f, TSb_ok.hp⟩
@[go_sem] theorem TS_f : TS.f = T12h.f := rfl
@[go_sem] theorem TS_eff {g : FuncId} : TS.eff g = (g == 45 || g == 46) := rfl
@[go_sem] theorem TS_effT : TS.effT = false := rfl
@[go_sem] theorem TS_frz {g : FuncId} : TS.frz g = false := rfl
@[go_sem] theorem TS_fix {n : Nat} : TS.fix n = false := rfl
@[go_sem] theorem TS_nf : TS.nf = 0 := rfl
theorem TS_sort {l : List Ver} {n : Nat} (hn : n = l.length) (h : l.length < 4611686018427387904) : TS.hp 45 [.row 0 0 2 n false, .fn 27 []] [.row 2 (l.map Ver.enc)] = some (.tup [], [.row 2 ((sortL cmpV l).map Ver.enc)], []) := by
  subst hn
  have h1 : TS.hp 45 (sE l) (sO l) = entryH sE sO sK sR (sE l) (sO l) := by
    have h2 : TSb.hp 45 (sE l) (sO l) = TSa.hp 45 (sE l) (sO l) := addH_ne (by decide)
    have h3 : TSa.hp 45 (sE l) (sO l) = entryH sE sO sK sR (sE l) (sO l) := addH_eq
    exact h2.trans h3
  exact h1.trans (entryH_eq (fun i j _ h => sO_inj i j h) l h)
theorem TS_comp {l : List Ver} {n : Nat} (hn : n = l.length) (h : l.length ≤ 4611686018427387903) : TS.hp 46 [.row 0 0 2 n false] [.row 2 (l.map Ver.enc)] = some (.row 0 0 2 (compL l).length false, [.row 2 ((compL l ++ List.replicate (l.length - (compL l).length) (⟨0, 0⟩ : Ver)).map Ver.enc)], []) := by
  subst hn
  have h1 : TS.hp 46 (cE l) (sO l) = entryH cE sO cK cR (cE l) (sO l) := by
    have h2 : TSb.hp 46 (cE l) (sO l) = entryH cE sO cK cR (cE l) (sO l) := addH_eq
    exact h2
  exact h1.trans (entryH_eq (fun i j _ h => sO_inj i j h) l h)

/-- Versions sorted. -/
noncomputable def sortedV (l : List Ver) : List Ver := compL (sortL cmpV (l.filter rightV))
theorem ok_version_Sorted : codeOK Try.prog TS Try.f31.ntmps (Try.f31.body.getD .skip) = true := by kernel_rfl
theorem c_version_Sorted (l : List Ver) (hl : l.length ≤ 1000000) : CallA Try.prog 31 [.slc (l.map Ver.enc)] (· = .slc ((sortedV l).map Ver.enc)) := by
  refine callA_of_body TS_ok mixed Try.func31 rfl (Nat.le_of_ble_eq_true rfl) ok_version_Sorted ?_
  unfold Try.f31
  simp -implicitDefEqProofs (maxSteps := 600000) (disch := (first | omega | decide)) only [go_sem, ↓reduceIte, Nat.reduceEqDiff, reduceCtorEq, Nat.reduceAdd, Nat.reduceSub, Nat.reduceMul, Nat.reduceLeDiff, Nat.reduceLT, Nat.reduceBEq, Nat.reduceBNe, Int.reduceLE, Int.reduceLT, Int.reduceBEq, Int.reduceBNe, Int.reduceEq, Int.reduceNe, Int.reduceAdd, Int.reduceSub, Int.reduceMul, Int.reduceNeg, Int.reduceToNat, List.length_map]
  refine wpA_loop_nil 3 2 rfl ?_
  refine wpA_loop [0, 2, 6, 7] (ι := {k : Nat // k ≤ l.length}) (fun p => [(8, .int .i64 p.1), (3, .row 0 0 2 ((l.take p.1).filter rightV).length false)]) (fun p => [(0, .row 2 (((l.take p.1).filter rightV).map Ver.enc))]) (fun p => l.length - p.1) ⟨0, by omega⟩ (Nat.zero_le _) ?_ ?_
  · simp -implicitDefEqProofs (maxSteps := 600000) (disch := (first | omega | decide)) only [go_sem, ↓reduceIte, Nat.reduceEqDiff, reduceCtorEq, Nat.reduceAdd, Nat.reduceSub, Nat.reduceMul, Nat.reduceLeDiff, Nat.reduceLT, Nat.reduceBEq, Nat.reduceBNe, Int.reduceLE, Int.reduceLT, Int.reduceBEq, Int.reduceBNe, Int.reduceEq, Int.reduceNe, Int.reduceAdd, Int.reduceSub, Int.reduceMul, Int.reduceNeg, Int.reduceToNat]
    simp
  · rintro ⟨k, hk⟩
    simp only
    have hf : ((l.take k).filter rightV).length ≤ k := Nat.le_trans (List.length_filter_le _ _) (by rw [List.length_take]; omega)
    by_cases hlt : k < l.length
    · have hlt' : (k : Int) < (l.length : Int) := by omega
      have ht : l.take (k + 1) = l.take k ++ [l[k]] := (List.take_append_getElem hlt).symm
      generalize hx : l[k] = x at ht
      obtain ⟨r, c⟩ := x
      have e1 : (l.map Ver.enc)[k]? = some (.agg [.int .i64 r, .int .i64 c]) := by
        rw [List.getElem?_map, List.getElem?_eq_getElem hlt, hx]; rfl
      cases hr : rightV ⟨r, c⟩ with
      | true =>
        simp -implicitDefEqProofs (maxSteps := 600000) (disch := (first | omega | decide)) only [go_sem, ↓reduceIte, Nat.reduceEqDiff, reduceCtorEq, Nat.reduceAdd, Nat.reduceSub, Nat.reduceMul, Nat.reduceLeDiff, Nat.reduceLT, Nat.reduceBEq, Nat.reduceBNe, Int.reduceLE, Int.reduceLT, Int.reduceBEq, Int.reduceBNe, Int.reduceEq, Int.reduceNe, Int.reduceAdd, Int.reduceSub, Int.reduceMul, Int.reduceNeg, Int.reduceToNat, hlt', e1, hr, wrap_i64, List.length_map]
        refine ⟨⟨Nat.le_refl _, by omega⟩, ⟨k + 1, hlt⟩, ⟨⟨by simp, ?_⟩, ?_⟩, by show l.length - (k + 1) < l.length - k; omega⟩
        · rw [ht, List.filter_append]; simp [hr]
        · rw [ht, List.filter_append, List.take_of_length_le (by simp)]; simp [hr, Ver.enc, Ver.cells]
      | false =>
        simp -implicitDefEqProofs (maxSteps := 600000) (disch := (first | omega | decide)) only [go_sem, ↓reduceIte, Nat.reduceEqDiff, reduceCtorEq, Nat.reduceAdd, Nat.reduceSub, Nat.reduceMul, Nat.reduceLeDiff, Nat.reduceLT, Nat.reduceBEq, Nat.reduceBNe, Int.reduceLE, Int.reduceLT, Int.reduceBEq, Int.reduceBNe, Int.reduceEq, Int.reduceNe, Int.reduceAdd, Int.reduceSub, Int.reduceMul, Int.reduceNeg, Int.reduceToNat, hlt', e1, hr, wrap_i64, List.length_map]
        refine ⟨⟨k + 1, hlt⟩, ⟨⟨by simp, ?_⟩, ?_⟩, by show l.length - (k + 1) < l.length - k; omega⟩
        · rw [ht, List.filter_append]; simp [hr]
        · rw [ht, List.filter_append]; simp [hr]
    · have hlt' : ¬ (k : Int) < (l.length : Int) := by omega
      rw [List.take_of_length_le (by omega)] at *
      have hs := TS_sort (l := l.filter rightV) rfl (by omega)
      have hp := (sortL_spec swoV (l.filter rightV)).1.length_eq
      have hc := TS_comp (l := sortL cmpV (l.filter rightV)) (n := (l.filter rightV).length) hp.symm (by omega)
      simp -implicitDefEqProofs (maxSteps := 600000) (disch := (first | omega | decide)) only [go_sem, ↓reduceIte, Nat.reduceEqDiff, reduceCtorEq, Nat.reduceAdd, Nat.reduceSub, Nat.reduceMul, Nat.reduceLeDiff, Nat.reduceLT, Nat.reduceBEq, Nat.reduceBNe, Int.reduceLE, Int.reduceLT, Int.reduceBEq, Int.reduceBNe, Int.reduceEq, Int.reduceNe, Int.reduceAdd, Int.reduceSub, Int.reduceMul, Int.reduceNeg, Int.reduceToNat, hlt', hs, hc, List.length_map, List.contains_nil, List.contains_cons]
      refine ⟨by rw [List.length_append]; omega, ?_⟩
      rw [List.map_append, List.take_append_of_le_length (by simp), List.take_of_length_le (by simp)]; rfl
noncomputable def T12i : Tab := T12h.add 30 (entry (fun (v : Int × Int) => [.agg [.int .i64 v.1, .int .i64 v.2]]) (fun v => rightV ⟨v.1, v.2⟩ = true) (fun v => .str (textV ⟨v.1, v.2⟩)))
theorem T12i_ok : TabOK Try.prog T12i := T12h_ok.add (callable_of Try.func30 (by kernel_rfl) (by kernel_rfl)) (entry_ok fun v h => c_ref12_Text ⟨v.1, v.2⟩ h)
@[go_sem] theorem T12i_old {g : FuncId} {xs : List A} (h : g ≠ 30) : T12i.f g xs = T12h.f g xs := Tab.add_ne h
@[go_sem] theorem T12i_eff {g : FuncId} : T12i.eff g = T12h.eff g := rfl
@[go_sem] theorem T12i_frz {g : FuncId} : T12i.frz g = T12h.frz g := rfl
@[go_sem] theorem T12i_effT : T12i.effT = T12h.effT := rfl
@[go_sem] theorem T12i_fix : T12i.fix = T12h.fix := rfl
@[go_sem] theorem T12i_nf : T12i.nf = T12h.nf := rfl
@[go_sem] theorem T12i_hp : T12i.hp = T12h.hp := rfl
theorem T12i_ref12_Text (v : Int × Int) (h : rightV ⟨v.1, v.2⟩ = true) : T12i.f 30 [.agg [.int .i64 v.1, .int .i64 v.2]] = some (.str (textV ⟨v.1, v.2⟩)) :=
  (Tab.add_eq : T12i.f 30 [.agg [.int .i64 v.1, .int .i64 v.2]] = (entry (fun (v : Int × Int) => [.agg [.int .i64 v.1, .int .i64 v.2]]) (fun v => rightV ⟨v.1, v.2⟩ = true) (fun v => .str (textV ⟨v.1, v.2⟩))) [.agg [.int .i64 v.1, .int .i64 v.2]]).trans (entry_eq (fun i j h => by first | (cases i; cases j; rfl; done) | simpa [Prod.ext_iff, and_assoc] using h | (simp at h; omega)) v h)
noncomputable def T12j : Tab := T12i.add 29 (entry (fun (s : List UInt8) => [.str s]) (fun s => s.length ≤ 4611686018427387903) (fun s => parseA s))
theorem T12j_ok : TabOK Try.prog T12j := T12i_ok.add (callable_of Try.func29 (by kernel_rfl) (by kernel_rfl)) (entry_ok fun s h => c_version_Parse s h)
@[go_sem] theorem T12j_old {g : FuncId} {xs : List A} (h : g ≠ 29) : T12j.f g xs = T12i.f g xs := Tab.add_ne h
@[go_sem] theorem T12j_eff {g : FuncId} : T12j.eff g = T12i.eff g := rfl
@[go_sem] theorem T12j_frz {g : FuncId} : T12j.frz g = T12i.frz g := rfl
@[go_sem] theorem T12j_effT : T12j.effT = T12i.effT := rfl
@[go_sem] theorem T12j_fix : T12j.fix = T12i.fix := rfl
@[go_sem] theorem T12j_nf : T12j.nf = T12i.nf := rfl
@[go_sem] theorem T12j_hp : T12j.hp = T12i.hp := rfl
theorem T12j_version_Parse (s : List UInt8) (h : s.length ≤ 4611686018427387903) : T12j.f 29 [.str s] = some (parseA s) :=
  (Tab.add_eq : T12j.f 29 [.str s] = (entry (fun (s : List UInt8) => [.str s]) (fun s => s.length ≤ 4611686018427387903) (fun s => parseA s)) [.str s]).trans (entry_eq (fun i j h => by first | (cases i; cases j; rfl; done) | simpa [Prod.ext_iff, and_assoc] using h | (simp at h; omega)) s h)
noncomputable def T12k : Tab := T12j.add 31 (entry (fun (l : List Ver) => [.slc (l.map Ver.enc)]) (fun l => l.length ≤ 1000000) (fun l => .slc ((sortedV l).map Ver.enc)))
theorem T12k_ok : TabOK Try.prog T12k := T12j_ok.add (callable_of Try.func31 (by kernel_rfl) (by kernel_rfl)) (entry_ok fun l h => c_version_Sorted l h)
@[go_sem] theorem T12k_old {g : FuncId} {xs : List A} (h : g ≠ 31) : T12k.f g xs = T12j.f g xs := Tab.add_ne h
@[go_sem] theorem T12k_eff {g : FuncId} : T12k.eff g = T12j.eff g := rfl
@[go_sem] theorem T12k_frz {g : FuncId} : T12k.frz g = T12j.frz g := rfl
@[go_sem] theorem T12k_effT : T12k.effT = T12j.effT := rfl
@[go_sem] theorem T12k_fix : T12k.fix = T12j.fix := rfl
@[go_sem] theorem T12k_nf : T12k.nf = T12j.nf := rfl
@[go_sem] theorem T12k_hp : T12k.hp = T12j.hp := rfl
theorem T12k_version_Sorted (l : List Ver) (h : l.length ≤ 1000000) : T12k.f 31 [.slc (l.map Ver.enc)] = some (.slc ((sortedV l).map Ver.enc)) :=
  (Tab.add_eq : T12k.f 31 [.slc (l.map Ver.enc)] = (entry (fun (l : List Ver) => [.slc (l.map Ver.enc)]) (fun l => l.length ≤ 1000000) (fun l => .slc ((sortedV l).map Ver.enc))) [.slc (l.map Ver.enc)]).trans (entry_eq (fun i j h => by first | (cases i; cases j; rfl; done) | simpa [Prod.ext_iff, and_assoc] using h | (simp at h; omega)) l h)
noncomputable def T12l : Tab := T12k.add 32 (entry (fun (v : List Ver × Int × Int) => [.slc (v.1.map Ver.enc), .agg [.int .i64 v.2.1, .int .i64 v.2.2]]) (fun v => v.1.length ≤ 4611686018427387904) (fun v => .bool (hasV v.1 ⟨v.2.1, v.2.2⟩)))
theorem T12l_ok : TabOK Try.prog T12l := T12k_ok.add (callable_of Try.func32 (by kernel_rfl) (by kernel_rfl)) (entry_ok fun v h => c_ref12_Has v.1 v.2.1 v.2.2 h)
@[go_sem] theorem T12l_old {g : FuncId} {xs : List A} (h : g ≠ 32) : T12l.f g xs = T12k.f g xs := Tab.add_ne h
@[go_sem] theorem T12l_eff {g : FuncId} : T12l.eff g = T12k.eff g := rfl
@[go_sem] theorem T12l_frz {g : FuncId} : T12l.frz g = T12k.frz g := rfl
@[go_sem] theorem T12l_effT : T12l.effT = T12k.effT := rfl
@[go_sem] theorem T12l_fix : T12l.fix = T12k.fix := rfl
@[go_sem] theorem T12l_nf : T12l.nf = T12k.nf := rfl
@[go_sem] theorem T12l_hp : T12l.hp = T12k.hp := rfl
theorem T12l_ref12_Has (v : List Ver × Int × Int) (h : v.1.length ≤ 4611686018427387904) : T12l.f 32 [.slc (v.1.map Ver.enc), .agg [.int .i64 v.2.1, .int .i64 v.2.2]] = some (.bool (hasV v.1 ⟨v.2.1, v.2.2⟩)) :=
  (Tab.add_eq : T12l.f 32 [.slc (v.1.map Ver.enc), .agg [.int .i64 v.2.1, .int .i64 v.2.2]] = (entry (fun (v : List Ver × Int × Int) => [.slc (v.1.map Ver.enc), .agg [.int .i64 v.2.1, .int .i64 v.2.2]]) (fun v => v.1.length ≤ 4611686018427387904) (fun v => .bool (hasV v.1 ⟨v.2.1, v.2.2⟩))) [.slc (v.1.map Ver.enc), .agg [.int .i64 v.2.1, .int .i64 v.2.2]]).trans (entry_eq (fun i j h => by first | (cases i; cases j; rfl; done) | simpa [Prod.ext_iff, and_assoc] using h | (simp at h; omega)) v h)
@[go_sem] theorem t_ref12_Text {r c : Int} (h : rightV ⟨r, c⟩ = true) : T12i.f 30 [.agg [.int .i64 r, .int .i64 c]] = some (.str (textV ⟨r, c⟩)) := T12i_ref12_Text (r, c) h
@[go_sem] theorem t_version_Parse {s : List UInt8} (h : s.length ≤ 4611686018427387903) : T12j.f 29 [.str s] = some (parseA s) := T12j_version_Parse s h
@[go_sem] theorem t_version_Sorted {l : List Ver} (h : l.length ≤ 1000000) : T12k.f 31 [.slc (l.map Ver.enc)] = some (.slc ((sortedV l).map Ver.enc)) := T12k_version_Sorted l h
@[go_sem] theorem t_ref12_Has {l : List Ver} {r c : Int} (h : l.length ≤ 4611686018427387904) : T12l.f 32 [.slc (l.map Ver.enc), .agg [.int .i64 r, .int .i64 c]] = some (.bool (hasV l ⟨r, c⟩)) := T12l_ref12_Has (l, r, c) h

theorem sorted_two (v : Ver) (h : rightV v = true) : (sortedV [v, v]) = [v] := by
  have hp := (sortL_spec swoV [v, v]).1
  have e : sortL cmpV [v, v] = [v, v] := (List.perm_replicate (n := 2) (a := v)).1 hp
  unfold sortedV
  have hf : [v, v].filter rightV = [v, v] := by simp [h]
  rw [hf, e]
  simp [compL]
theorem ok_law12_awake : codeOK Try.prog T12l Try.f23.ntmps (Try.f23.body.getD .skip) = true := by kernel_rfl
theorem c_law12_awake : CallA Try.prog 23 [] (· = .bool true) := by
  refine callA_of_body T12l_ok mixed Try.func23 rfl (Nat.le_of_ble_eq_true rfl) ok_law12_awake ?_
  unfold Try.f23
  have e1 : parseA [51, 46, 49, 50] = .tup [.agg [.int .i64 3, .int .i64 12], .int .i64 0] := by
    have hp : partsV [51, 46, 49, 50] = ⟨3, 12⟩ := by decide
    unfold parseA
    rw [if_pos ⟨by decide, by rw [hp]; decide⟩, hp]; rfl
  have e2 : textA ⟨3, 12⟩ = .tup [.str [51, 46, 49, 50], .int .i64 0] := by
    have hd3 : digN 3 = [51] := by rw [digN_small (by omega)]; rfl
    have hd12 : digN 12 = [49, 50] := by rw [digN_step (by omega), digN_small (by omega)]; rfl
    have ht : textV ⟨3, 12⟩ = [51, 46, 49, 50] := by
      show digN 3 ++ [46] ++ digN 12 = _
      rw [hd3, hd12]; rfl
    unfold textA
    rw [if_pos (by decide), ht]
  have e3 : [A.agg [.int .i64 3, .int .i64 12], .agg [.int .i64 3, .int .i64 12]] = [(⟨3, 12⟩ : Ver), ⟨3, 12⟩].map Ver.enc := rfl
  have e4 := sorted_two ⟨3, 12⟩ (by decide)
  have e5 := t_version_Sorted (l := [(⟨3, 12⟩ : Ver), ⟨3, 12⟩]) (by simp)
  rw [← e3, e4] at e5
  have e6 : [(⟨3, 12⟩ : Ver)].map Ver.enc = [.agg [.int .i64 3, .int .i64 12]] := rfl
  rw [e6] at e5
  simp -implicitDefEqProofs (maxSteps := 600000) (disch := (first | omega | decide)) only [go_sem, ↓reduceIte, Nat.reduceEqDiff, reduceCtorEq, Nat.reduceAdd, Nat.reduceSub, Nat.reduceMul, Nat.reduceLeDiff, Nat.reduceLT, Nat.reduceBEq, Nat.reduceBNe, Int.reduceLE, Int.reduceLT, Int.reduceBEq, Int.reduceBNe, Int.reduceEq, Int.reduceNe, Int.reduceAdd, Int.reduceSub, Int.reduceMul, Int.reduceNeg, Int.reduceToNat, e1, e2, e5]
noncomputable def T12m : Tab := T12l.add 23 (entry (fun (u : Unit) => []) (fun u => True) (fun u => .bool true))
theorem T12m_ok : TabOK Try.prog T12m := T12l_ok.add (callable_of Try.func23 (by kernel_rfl) (by kernel_rfl)) (entry_ok fun u h => c_law12_awake)
@[go_sem] theorem T12m_old {g : FuncId} {xs : List A} (h : g ≠ 23) : T12m.f g xs = T12l.f g xs := Tab.add_ne h
@[go_sem] theorem T12m_eff {g : FuncId} : T12m.eff g = T12l.eff g := rfl
@[go_sem] theorem T12m_frz {g : FuncId} : T12m.frz g = T12l.frz g := rfl
@[go_sem] theorem T12m_effT : T12m.effT = T12l.effT := rfl
@[go_sem] theorem T12m_fix : T12m.fix = T12l.fix := rfl
@[go_sem] theorem T12m_nf : T12m.nf = T12l.nf := rfl
@[go_sem] theorem T12m_hp : T12m.hp = T12l.hp := rfl
theorem T12m_law12_awake (u : Unit) (h : True) : T12m.f 23 [] = some (.bool true) :=
  (Tab.add_eq : T12m.f 23 [] = (entry (fun (u : Unit) => []) (fun u => True) (fun u => .bool true)) []).trans (entry_eq (fun i j h => by first | (cases i; cases j; rfl; done) | simpa [Prod.ext_iff, and_assoc] using h | (simp at h; omega)) u h)
end Go.Proofs.Ytfcjemfgdeoinaa
