/- What the laws of this claim rest on: the abstract executor, its soundness, and what the functions compute on pure data. No condition. -/
import Derived.Test.YteconeampdidaaaU6
set_option linter.unusedVariables false
set_option linter.unusedSimpArgs false
namespace Go.Proofs.Yteconeampdidaaa
open Go.Abs
set_option linter.unusedSimpArgs false
set_option linter.unusedVariables false
set_option maxRecDepth 20000
set_option maxHeartbeats 16000000
theorem h_Drop_no (E : Nat → List En) (m r c : Int) (hr : RowsR E) (hl : ∀ i, (E i).length ≤ 1000) (hh : ixH (some (E, m)) r c = false) :
    CallH Try.prog 18 [.ref 0 0, .agg [.int .i64 r, .int .i64 c]] (ixO E m) (.bool false) (ixO E m) S16 := by
  refine callH_of_body XD_ok mixed Try.func18 rfl (Nat.le_of_ble_eq_true rfl) (fun n h h' => by have h : n < 17 := h; simp [S16] at h'; have e : n = 0 := (by omega); subst e; rfl) (by show 17 ≤ 17; simp) (by show 17 ≤ 17; simp) ok_Drop ?_
  unfold Try.f18
  have g1 : X22g.f 26 [.dptr (ixC E m), .agg [.int .i64 r, .int .i64 c]] = _ := x22_place (x := some (E, m)) (r := r) (c := c) ⟨hr, hl⟩
  rw [hh, ixC_16] at g1
  generalize (if rightV ⟨r, c⟩ = true then (posE (ixE (some (E, m)) (r - 1).toNat) c : Int) else 0) = z at *
  unfold ixO
  simp -implicitDefEqProofs (maxSteps := 6000000) (disch := (first | omega | decide)) only [go_sem, ↓reduceIte, seval, g1, List.length_map, Nat.zero_add, Nat.le_refl]
theorem h_DropX (E : Nat → List En) (r c : Int) (hr : RowsR E) (hl : ∀ i, (E i).length ≤ 1000) :
    CallH Try.prog 18 [.ref 0 0, .agg [.int .i64 r, .int .i64 c]] (ixO E (mL E)) (.bool (rightV ⟨r, c⟩ && hasE (E (r - 1).toNat) c)) (ixO (dropX E r c) (mL (dropX E r c))) S16 := by
  have hm : 0 ≤ mL E ∧ mL E ≤ 16000 := by
    unfold mL
    rw [flat_len]
    refine ⟨by omega, ?_⟩
    have : ∀ n, ((List.range n).map fun i => (E i).length).sum ≤ n * 1000 := fun n => by
      induction n with
      | zero => simp
      | succ n ih =>
        rw [List.range_succ, List.map_append, List.sum_append]
        have := hl n
        simp; omega
    have := this 16
    omega
  unfold dropX
  cases hv : rightV ⟨r, c⟩ with
  | false =>
    refine h_Drop_no E (mL E) r c hr hl ?_
    unfold ixH; rw [hv]; rfl
  | true =>
    rw [if_pos rfl, Bool.true_and]
    obtain ⟨h1, h2⟩ := rightV_iff.1 hv
    have hi : (r - 1).toNat < 16 := by omega
    cases hh : hasE (E (r - 1).toNat) c with
    | true =>
      rw [mL_del hr hi hh, ← delI_del (hr _) hh]
      exact h_Drop_has E (mL E) r c hr hl hm h1 h2 hh
    | false =>
      rw [del_none hh, upd_self]
      refine h_Drop_no E (mL E) r c hr hl ?_
      unfold ixH; rw [hv, Bool.true_and]; exact hh
def nilsC : List A := [.nils, .nils, .nils, .nils, .nils, .nils, .nils, .nils, .nils, .nils, .nils, .nils, .nils, .nils, .nils, .nils, .int .i64 0]
noncomputable def X22n1 : Tab := { X22g with nf := 1 }
theorem X22n1_ok : TabOK Try.prog X22n1 := ⟨X22g_ok.f, X22g_ok.hp⟩
@[go_sem] theorem X22n1_f : X22n1.f = X22g.f := rfl
@[go_sem] theorem X22n1_eff {g : FuncId} : X22n1.eff g = false := rfl
@[go_sem] theorem X22n1_ords {n : Nat} : X22n1.ords n = [] := rfl
theorem ok_n1_index_Index_Drop : codeOK Try.prog X22n1 Try.f18.ntmps (Try.f18.body.getD .skip) = true := by kernel_rfl
theorem h_Drop_plain (r c : Int) : CallH Try.prog 18 [.ref 0 0, .agg [.int .i64 r, .int .i64 c]] [.box nilsC] (.bool false) [.box nilsC] [0] := by
  refine callH_of_body X22n1_ok mixed Try.func18 rfl (Nat.le_of_ble_eq_true rfl) (by intro n h h'; have h : n < 1 := h; simp at h'; omega) (by exact Nat.le_refl _) (Nat.le_refl _) ok_n1_index_Index_Drop ?_
  unfold Try.f18
  have g1 : X22g.f 26 [.dptr [.slc [], .slc [], .slc [], .slc [], .slc [], .slc [], .slc [], .slc [], .slc [], .slc [], .slc [], .slc [], .slc [], .slc [], .slc [], .slc [], .int .i64 0], .agg [.int .i64 r, .int .i64 c]] = _ := x22_place (x := some (fun _ => [], 0)) (r := r) (c := c) ⟨fun _ => ⟨List.Pairwise.nil, fun _ h => by cases h⟩, fun _ => Nat.zero_le _⟩
  have e : ixH (some (fun _ => [], 0)) r c = false := by
    unfold ixH ixE hasE
    simp
  rw [e] at g1
  generalize (if rightV ⟨r, c⟩ = true then (posE (ixE (some (fun _ => [], 0)) (r - 1).toNat) c : Int) else 0) = z at *
  unfold nilsC
  simp -implicitDefEqProofs (maxSteps := 6000000) (disch := (first | omega | decide)) only [go_sem, ↓reduceIte, seval, g1, List.length_map, Nat.zero_add, Nat.le_refl]
theorem ok_index_New : codeOK Try.prog X22g Try.f19.ntmps (Try.f19.body.getD .skip) = true := by kernel_rfl
theorem h_New0 : CallH Try.prog 19 [] [] (.ref 0 0) [.box nilsC] [] := by
  refine callH_of_body X22g_ok mixed Try.func19 rfl (Nat.le_of_ble_eq_true rfl) (by intro n h h'; cases h) (by exact Nat.zero_le _) (Nat.zero_le _) ok_index_New ?_
  unfold Try.f19
  unfold nilsC
  simp -implicitDefEqProofs (maxSteps := 6000000) (disch := (first | omega | decide)) only [go_sem, ↓reduceIte, seval]
theorem rows2 (n : Nat) : ∀ o ∈ List.replicate n (Go.Abs.Obj.row 2 []), ∃ k es, o = Go.Abs.Obj.row k es := fun o ho => ⟨2, [], (List.mem_replicate.1 ho).2⟩
theorem h_New : CallH Try.prog 19 [] [] (.ref 0 0) (ixO (fun _ => []) 0) [] := by
  have h0 := h_New0
  unfold nilsC at h0
  have h1 := callH_boxnilR 0 2 (rows2 0) rfl h0
  have h2 := callH_boxnilR 1 2 (rows2 1) rfl h1
  have h3 := callH_boxnilR 2 2 (rows2 2) rfl h2
  have h4 := callH_boxnilR 3 2 (rows2 3) rfl h3
  have h5 := callH_boxnilR 4 2 (rows2 4) rfl h4
  have h6 := callH_boxnilR 5 2 (rows2 5) rfl h5
  have h7 := callH_boxnilR 6 2 (rows2 6) rfl h6
  have h8 := callH_boxnilR 7 2 (rows2 7) rfl h7
  have h9 := callH_boxnilR 8 2 (rows2 8) rfl h8
  have h10 := callH_boxnilR 9 2 (rows2 9) rfl h9
  have h11 := callH_boxnilR 10 2 (rows2 10) rfl h10
  have h12 := callH_boxnilR 11 2 (rows2 11) rfl h11
  have h13 := callH_boxnilR 12 2 (rows2 12) rfl h12
  have h14 := callH_boxnilR 13 2 (rows2 13) rfl h13
  have h15 := callH_boxnilR 14 2 (rows2 14) rfl h14
  have h16 := callH_boxnilR 15 2 (rows2 15) rfl h15
  exact h16
set_option maxHeartbeats 32000000
theorem aftA_congr {E E' : Nat → List En} (h : ∀ i, i < 16 → E i = E' i) (r c : Int) : aftA E r c 16 = aftA E' r c 16 := by
  unfold aftA
  rw [List.flatMap_def, List.flatMap_def]
  congr 1
  apply List.map_congr_left
  intro i hi
  rw [h i (List.mem_range.1 hi)]
theorem unkA_congr {E E' : Nat → List En} (h : ∀ i, i < 16 → E i = E' i) (s : List Known) : unkA E s 16 = unkA E' s 16 := by
  unfold unkA
  rw [List.flatMap_def, List.flatMap_def]
  congr 1
  apply List.map_congr_left
  intro i hi
  rw [h i (List.mem_range.1 hi)]
noncomputable def X22l : Tab := X22k.add 15 (entry (fun v : IxO × Int × Int => [ixA v.1, .agg [.int .i64 v.2.1, .int .i64 v.2.2]]) (fun v => ixOK v.1) (fun v => .tup [.str (ixK v.1 v.2.1 v.2.2), .bool (ixH v.1 v.2.1 v.2.2)]))
theorem X22l_ok : TabOK Try.prog X22l := X22k_ok.ent Try.func15 (by kernel_rfl) (by kernel_rfl) fun v h => c_Key v.1 v.2.1 v.2.2 h
@[go_sem] theorem X22l_old {g : FuncId} {xs : List A} (h : g ≠ 15) : X22l.f g xs = X22k.f g xs := Tab.add_ne h
theorem x22_Key {x : IxO} {r c : Int} (h : ixOK x) : X22l.f 15 [ixA x, .agg [.int .i64 r, .int .i64 c]] = some (.tup [.str (ixK x r c), .bool (ixH x r c)]) :=
  Tab.add_eq.trans (entry_eq' (enc := fun v : IxO × Int × Int => [ixA v.1, .agg [.int .i64 v.2.1, .int .i64 v.2.2]]) (fun a b _ _ e => by
    obtain ⟨a, r, c⟩ := a
    obtain ⟨b, r', c'⟩ := b
    simp at e
    obtain ⟨e, rfl, rfl⟩ := e
    simp only
    unfold ixK
    rw [ixH_congr e]
    cases hr : ixH b r c with
    | false => rfl
    | true =>
      unfold ixH at hr
      rw [Bool.and_eq_true] at hr
      rw [mod_ix e hr.1]) (x, r, c) h)
noncomputable def X22m : Tab := X22l.add 14 (entry (fun v : IxO => [ixA v]) (fun _ => True) (fun v => .int .i64 (ixM v)))
theorem X22m_ok : TabOK Try.prog X22m := X22l_ok.ent Try.func14 (by kernel_rfl) (by kernel_rfl) fun v _ => c_Len v
@[go_sem] theorem X22m_old {g : FuncId} {xs : List A} (h : g ≠ 14) : X22m.f g xs = X22l.f g xs := Tab.add_ne h
theorem x22_Len (x : IxO) : X22m.f 14 [ixA x] = some (.int .i64 (ixM x)) :=
  Tab.add_eq.trans (entry_eq' (enc := fun v : IxO => [ixA v]) (fun a b _ _ e => by
    simp at e
    rw [(ixA_inj e).2]) x trivial)
noncomputable def X22n : Tab := X22m.add 12 (entry (fun v : IxO × Int × Int × Int => [ixA v.1, .agg [.int .i64 v.2.1, .int .i64 v.2.2.1], .int .i64 v.2.2.2]) (fun v => ixOK v.1) (fun v => .slc (((aftA (ixE v.1) v.2.1 v.2.2.1 16).take v.2.2.2.toNat).map Ver.enc)))
theorem X22n_ok : TabOK Try.prog X22n := X22m_ok.ent Try.func12 (by kernel_rfl) (by kernel_rfl) fun v h => c_After v.1 v.2.1 v.2.2.1 v.2.2.2 h
@[go_sem] theorem X22n_old {g : FuncId} {xs : List A} (h : g ≠ 12) : X22n.f g xs = X22m.f g xs := Tab.add_ne h
theorem x22_After {x : IxO} {r c n : Int} (h : ixOK x) : X22n.f 12 [ixA x, .agg [.int .i64 r, .int .i64 c], .int .i64 n] = some (.slc (((aftA (ixE x) r c 16).take n.toNat).map Ver.enc)) :=
  Tab.add_eq.trans (entry_eq' (enc := fun v : IxO × Int × Int × Int => [ixA v.1, .agg [.int .i64 v.2.1, .int .i64 v.2.2.1], .int .i64 v.2.2.2]) (fun a b _ _ e => by
    obtain ⟨a, r, c, n⟩ := a
    obtain ⟨b, r', c', n'⟩ := b
    simp at e
    obtain ⟨e, ⟨rfl, rfl⟩, rfl⟩ := e
    simp only
    rw [aftA_congr (ixA_inj e).1]) (x, r, c, n) h)
noncomputable def X22o : Tab := X22n.add 10 (entry (fun v : IxO × List Known => [ixA v.1, .slc (v.2.map Known.enc)]) (fun v => ixOK v.1 ∧ smallK v.2) (fun v => .slc ((unkA (ixE v.1) v.2 16).map Ver.enc)))
theorem X22o_ok : TabOK Try.prog X22o := X22n_ok.ent Try.func10 (by kernel_rfl) (by kernel_rfl) fun v h => c_Unknown v.1 v.2 h.1 h.2
@[go_sem] theorem X22o_old {g : FuncId} {xs : List A} (h : g ≠ 10) : X22o.f g xs = X22n.f g xs := Tab.add_ne h
theorem x22_Unknown {x : IxO} {s : List Known} (h : ixOK x) (hs : smallK s) : X22o.f 10 [ixA x, .slc (s.map Known.enc)] = some (.slc ((unkA (ixE x) s 16).map Ver.enc)) :=
  Tab.add_eq.trans (entry_eq' (enc := fun v : IxO × List Known => [ixA v.1, .slc (v.2.map Known.enc)]) (fun a b _ _ e => by
    obtain ⟨a, s⟩ := a
    obtain ⟨b, s'⟩ := b
    simp at e
    obtain ⟨e, rfl⟩ := e
    simp only
    rw [unkA_congr (ixA_inj e).1]) (x, s) ⟨h, hs⟩)
noncomputable def X22p : Tab := X22o.add 13 (entry (fun (v : List Et × Int × Int × Int) => [.slc (v.1.map Et.enc), .agg [.int .i64 v.2.1, .int .i64 v.2.2.1], .int .i64 v.2.2.2]) (fun v => v.1.length ≤ 1000000) (fun v => .slc ((aftL v.1 v.2.1 v.2.2.1 v.2.2.2.toNat).map Ver.enc)))
theorem X22p_ok : TabOK Try.prog X22p := X22o_ok.ent Try.func13 (by kernel_rfl) (by kernel_rfl) fun v h => c_ref22_After v.1 v.2.1 v.2.2.1 v.2.2.2 h
@[go_sem] theorem X22p_old {g : FuncId} {xs : List A} (h : g ≠ 13) : X22p.f g xs = X22o.f g xs := Tab.add_ne h
theorem X22p_ref22_After (v : List Et × Int × Int × Int) (h : v.1.length ≤ 1000000) : X22p.f 13 [.slc (v.1.map Et.enc), .agg [.int .i64 v.2.1, .int .i64 v.2.2.1], .int .i64 v.2.2.2] = some (.slc ((aftL v.1 v.2.1 v.2.2.1 v.2.2.2.toNat).map Ver.enc)) := Tab.ent_eq (Γ := X22o) (fun i j h => by simpa [Prod.ext_iff, and_assoc] using h) v h
noncomputable def X22q : Tab := X22p.add 11 (entry (fun (v : List Et × List Known) => [.slc (v.1.map Et.enc), .slc (v.2.map Known.enc)]) (fun v => v.1.length ≤ 1000000 ∧ smallK v.2) (fun v => .slc ((unkL v.1 v.2).map Ver.enc)))
theorem X22q_ok : TabOK Try.prog X22q := X22p_ok.ent Try.func11 (by kernel_rfl) (by kernel_rfl) fun v h => c_ref22_Unknown v.1 v.2 h.1 h.2
@[go_sem] theorem X22q_old {g : FuncId} {xs : List A} (h : g ≠ 11) : X22q.f g xs = X22p.f g xs := Tab.add_ne h
theorem X22q_ref22_Unknown (v : List Et × List Known) (h : v.1.length ≤ 1000000 ∧ smallK v.2) : X22q.f 11 [.slc (v.1.map Et.enc), .slc (v.2.map Known.enc)] = some (.slc ((unkL v.1 v.2).map Ver.enc)) := Tab.ent_eq (Γ := X22p) (fun i j h => by simpa [Prod.ext_iff, and_assoc] using h) v h
noncomputable def X22r : Tab := X22q.add 9 (entry (fun (l : List Ver) => [.slc (l.map Ver.enc), .slc (l.map Ver.enc)]) (fun l => l.length ≤ 1000000) (fun l => .bool true))
theorem X22r_ok : TabOK Try.prog X22r := X22q_ok.ent Try.func9 (by kernel_rfl) (by kernel_rfl) fun l h => c_ref22_Same l h
@[go_sem] theorem X22r_old {g : FuncId} {xs : List A} (h : g ≠ 9) : X22r.f g xs = X22q.f g xs := Tab.add_ne h
theorem X22r_ref22_Same (l : List Ver) (h : l.length ≤ 1000000) : X22r.f 9 [.slc (l.map Ver.enc), .slc (l.map Ver.enc)] = some (.bool true) := Tab.ent_eq (Γ := X22q) (fun i j h => by simpa [Prod.ext_iff, and_assoc] using h) l h
noncomputable def X22s : Tab := X22r.add 6 (entry (fun (l : List Do) => [.slc (l.map Do.enc)]) (fun l => l.length ≤ 9223372036854775807) (fun l => .bool (longD l)))
theorem X22s_ok : TabOK Try.prog X22s := X22r_ok.ent Try.func6 (by kernel_rfl) (by kernel_rfl) fun l h => c_law22_long l h
@[go_sem] theorem X22s_old {g : FuncId} {xs : List A} (h : g ≠ 6) : X22s.f g xs = X22r.f g xs := Tab.add_ne h
theorem X22s_law22_long (l : List Do) (h : l.length ≤ 9223372036854775807) : X22s.f 6 [.slc (l.map Do.enc)] = some (.bool (longD l)) := Tab.ent_eq (Γ := X22r) (fun i j h => by simpa [Prod.ext_iff, and_assoc] using h) l h
theorem y22_After {l : List Et} {r c n : Int} (h : l.length ≤ 1000000) : X22p.f 13 [.slc (l.map Et.enc), .agg [.int .i64 r, .int .i64 c], .int .i64 n] = some (.slc ((aftL l r c n.toNat).map Ver.enc)) := X22p_ref22_After (l, r, c, n) h
theorem y22_Unknown {l : List Et} {s : List Known} (h : l.length ≤ 1000000) (hs : smallK s) : X22q.f 11 [.slc (l.map Et.enc), .slc (s.map Known.enc)] = some (.slc ((unkL l s).map Ver.enc)) := X22q_ref22_Unknown (l, s) ⟨h, hs⟩
theorem putX_congr {E E' : Nat → List En} (h : ∀ i, i < 16 → E i = E' i) (r c : Int) (k : List UInt8) : ∀ i, i < 16 → putX E r c k i = putX E' r c k i := fun i hi => by
  unfold putX
  cases hm : mayT r c k with
  | false => exact h i hi
  | true =>
    rw [if_pos rfl, if_pos rfl]
    unfold mayT at hm
    rw [Bool.and_eq_true] at hm
    have := rightV_iff.1 hm.1
    rw [h (r - 1).toNat (by omega)]
    unfold upd
    rw [h i hi]
theorem dropX_congr {E E' : Nat → List En} (h : ∀ i, i < 16 → E i = E' i) (r c : Int) : ∀ i, i < 16 → dropX E r c i = dropX E' r c i := fun i hi => by
  unfold dropX
  cases hm : rightV ⟨r, c⟩ with
  | false => exact h i hi
  | true =>
    rw [if_pos rfl, if_pos rfl]
    have := rightV_iff.1 hm
    rw [h (r - 1).toNat (by omega)]
    unfold upd
    rw [h i hi]
theorem mL_congr {E E' : Nat → List En} (h : ∀ i, i < 16 → E i = E' i) : mL E = mL E' := by unfold mL; rw [flatE_congr h]
def okE (E : Nat → List En) : Prop := RowsR E ∧ ∀ i, (E i).length ≤ 1000
def pA : Option (Nat → List En) → A
  | none => .nilp
  | some _ => .ref 0 0
def pO : Option (Nat → List En) → List Go.Abs.Obj
  | none => []
  | some E => ixO E (mL E)
def pok : Option (Nat → List En) → Prop
  | none => True
  | some E => okE E
def pS (r c : Int) (k : List UInt8) : Option (Nat → List En) → A × List Go.Abs.Obj × List Nat
  | none => (.bool false, [], [])
  | some E => (.bool (mayT r c k), ixO (putX E r c k) (mL (putX E r c k)), S16)
inductive Ix3 where
  | nil
  | plain
  | some (E : Nat → List En)
def dA : Ix3 → A
  | .nil => .nilp
  | _ => .ref 0 0
def dO : Ix3 → List Go.Abs.Obj
  | .nil => []
  | .plain => [.box nilsC]
  | .some E => ixO E (mL E)
def dok : Ix3 → Prop
  | .some E => okE E
  | _ => True
def dS (r c : Int) : Ix3 → A × List Go.Abs.Obj × List Nat
  | .nil => (.bool false, [], [])
  | .plain => (.bool false, [.box nilsC], [0])
  | .some E => (.bool (rightV ⟨r, c⟩ && hasE (E (r - 1).toNat) c), ixO (dropX E r c) (mL (dropX E r c)), S16)
theorem entryH_eq' {ι : Type} {enc : ι → List A} {obs : ι → List Go.Abs.Obj} {ok : ι → Prop} {spec : ι → A × List Go.Abs.Obj × List Nat} (hi : ∀ i j, ok i → ok j → enc i = enc j → obs i = obs j → spec i = spec j) (i : ι) (h : ok i) : entryH enc obs ok spec (enc i) (obs i) = some (spec i) := by
  have hx : ∃ j, (enc j = enc i ∧ obs j = obs i) ∧ ok j := ⟨i, ⟨rfl, rfl⟩, h⟩
  unfold entryH
  rw [dif_pos hx, hi _ _ (Classical.choose_spec hx).2 h (Classical.choose_spec hx).1.1 (Classical.choose_spec hx).1.2]
noncomputable def XN : Tab := X22s.addH 19 (entryH (fun _ : Unit => []) (fun _ => []) (fun _ => True) (fun _ => (.ref 0 0, ixO (fun _ => []) 0, [])))
theorem XN_ok : TabOK Try.prog XN := X22s_ok.addH (callable_of Try.func19 (by kernel_rfl) (by kernel_rfl)) (entryH_ok fun _ _ => h_New)
noncomputable def XQ : Tab := XN.addH 17 (entryH (fun v : Option (Nat → List En) × Int × Int × List UInt8 => [pA v.1, .agg [.int .i64 v.2.1, .int .i64 v.2.2.1], .str v.2.2.2]) (fun v => pO v.1) (fun v => pok v.1 ∧ v.2.2.2.length ≤ 9223372036854775807) (fun v => pS v.2.1 v.2.2.1 v.2.2.2 v.1))
theorem XQ_ok : TabOK Try.prog XQ := XN_ok.addH (callable_of Try.func17 (by kernel_rfl) (by kernel_rfl)) (entryH_ok fun v h => by
  obtain ⟨x, r, c, k⟩ := v
  obtain ⟨h, hk⟩ := h
  cases x with
  | none => exact h_Put_nil r c k
  | some E => exact h_PutX E r c k h.1 h.2 hk)
noncomputable def XR : Tab := XQ.addH 18 (entryH (fun v : Ix3 × Int × Int => [dA v.1, .agg [.int .i64 v.2.1, .int .i64 v.2.2]]) (fun v => dO v.1) (fun v => dok v.1) (fun v => dS v.2.1 v.2.2 v.1))
theorem XR_ok : TabOK Try.prog XR := XQ_ok.addH (callable_of Try.func18 (by kernel_rfl) (by kernel_rfl)) (entryH_ok fun v h => by
  obtain ⟨x, r, c⟩ := v
  cases x with
  | nil => exact h_Drop_nil r c
  | plain => exact h_Drop_plain r c
  | some E => exact h_DropX E r c h.1 h.2)
noncomputable def XB : Tab := { XR with eff := fun f => f == 19 || f == 17 || f == 18 }
theorem XB_ok : TabOK Try.prog XB := ⟨XR_ok.f, XR_ok.hp⟩
theorem xb_New : XB.hp 19 [] [] = some (.ref 0 0, ixO (fun _ => []) 0, []) := by
  have h1 : XR.hp 19 [] [] = XQ.hp 19 [] [] := Tab.addH_ne (by decide)
  have h2 : XQ.hp 19 [] [] = XN.hp 19 [] [] := Tab.addH_ne (by decide)
  have h3 : XN.hp 19 [] [] = _ := Tab.addH_eq
  have h0 : XB.hp 19 [] [] = XR.hp 19 [] [] := rfl
  exact h0.trans (h1.trans (h2.trans (h3.trans (entryH_eq' (enc := fun _ : Unit => []) (obs := fun _ => []) (fun _ _ _ _ _ _ => rfl) () trivial))))
theorem xb_Put (x : Option (Nat → List En)) {r c : Int} {k : List UInt8} (h : pok x) (hk : k.length ≤ 9223372036854775807) : XB.hp 17 [pA x, .agg [.int .i64 r, .int .i64 c], .str k] (pO x) = some (pS r c k x) := by
  have h1 : XR.hp 17 [pA x, .agg [.int .i64 r, .int .i64 c], .str k] (pO x) = XQ.hp 17 [pA x, .agg [.int .i64 r, .int .i64 c], .str k] (pO x) := Tab.addH_ne (by decide)
  have h2 : XQ.hp 17 [pA x, .agg [.int .i64 r, .int .i64 c], .str k] (pO x) = _ := Tab.addH_eq
  have h0 : XB.hp 17 [pA x, .agg [.int .i64 r, .int .i64 c], .str k] (pO x) = XR.hp 17 [pA x, .agg [.int .i64 r, .int .i64 c], .str k] (pO x) := rfl
  exact h0.trans (h1.trans (h2.trans (entryH_eq' (enc := fun v : Option (Nat → List En) × Int × Int × List UInt8 => [pA v.1, .agg [.int .i64 v.2.1, .int .i64 v.2.2.1], .str v.2.2.2]) (obs := fun v => pO v.1) (fun a b _ _ e e' => by
    obtain ⟨x, r, c, k⟩ := a
    obtain ⟨y, r', c', k'⟩ := b
    simp at e
    obtain ⟨e, ⟨rfl, rfl⟩, rfl⟩ := e
    cases x with
    | none =>
      cases y with
      | none => rfl
      | some y => simp [pA] at e
    | some x =>
      cases y with
      | none => simp [pA] at e
      | some y =>
        have hE := putX_congr (ixO_inj e').1 r c k
        show (_, _, _) = (_, _, _)
        rw [ixO_congr hE, mL_congr hE]) (x, r, c, k) ⟨h, hk⟩)))
theorem xb_Drop (x : Ix3) {r c : Int} (h : dok x) : XB.hp 18 [dA x, .agg [.int .i64 r, .int .i64 c]] (dO x) = some (dS r c x) := by
  have h2 : XR.hp 18 [dA x, .agg [.int .i64 r, .int .i64 c]] (dO x) = _ := Tab.addH_eq
  have h1 : XB.hp 18 [dA x, .agg [.int .i64 r, .int .i64 c]] (dO x) = _ := h2
  exact h1.trans (entryH_eq' (enc := fun v : Ix3 × Int × Int => [dA v.1, .agg [.int .i64 v.2.1, .int .i64 v.2.2]]) (obs := fun v => dO v.1) (fun a b _ _ e e' => by
    obtain ⟨x, r, c⟩ := a
    obtain ⟨y, r', c'⟩ := b
    simp at e
    obtain ⟨e, rfl, rfl⟩ := e
    cases x <;> cases y <;> first
      | rfl
      | (simp [dA] at e; done)
      | (simp only [dO] at e'; have := congrArg List.length e'; simp [ixO] at this; done)
      | (have hE := dropX_congr (ixO_inj e').1 r c
         have h0 := (ixO_inj e').1
         rename_i x y
         show (_, _, _) = (_, _, _)
         rw [ixO_congr hE, mL_congr hE]
         cases hv : rightV ⟨r, c⟩ with
         | false => rfl
         | true => have := rightV_iff.1 hv; rw [h0 (r - 1).toNat (by omega)])) (x, r, c) h)
def ordsBd : Nat → List (List Nat) := fun n => if n = 7 then [[0,1,2,4,5,3,6,7,8,9], [0,1,2,4,5,6,3,7,8,9], [0,1,2,4,3,5,6,7,8,9], [0,1,2,5,3,4,6,7,8,9], [0,1,2,5,6,3,4,7,8,9], [0,1,2,3,4,5,6,7,8,9]] else if n = 10 then [[0,1,2,3,4,6,7,8,5,9,10,11], [0,1,2,3,4,6,7,8,9,5,10,11], [0,1,2,3,4,6,7,5,8,9,10,11], [0,1,2,3,4,6,8,5,7,9,10,11], [0,1,2,3,4,6,8,9,5,7,10,11], [0,1,2,3,4,6,5,7,8,9,10,11], [0,1,2,3,4,8,5,6,7,9,10,11], [0,1,2,3,4,8,9,5,6,7,10,11], [0,1,2,3,4,5,6,7,8,9,10,11]] else []
noncomputable def XBd : Tab := { XB with ords := ordsBd }
theorem XBd_ok : TabOK Try.prog XBd := ⟨XB_ok.f, XB_ok.hp⟩
@[go_sem] theorem XBd_f : XBd.f = X22s.f := rfl
@[go_sem] theorem XBd_hp : XBd.hp = XB.hp := rfl
@[go_sem] theorem XBd_eff {g : FuncId} : XBd.eff g = (g == 19 || g == 17 || g == 18) := rfl
@[go_sem] theorem XBd_frz {g : FuncId} : XBd.frz g = false := rfl
@[go_sem] theorem XBd_fix {n : Nat} : XBd.fix n = false := rfl
@[go_sem] theorem XBd_ords7 : XBd.ords 7 = [[0,1,2,4,5,3,6,7,8,9], [0,1,2,4,5,6,3,7,8,9], [0,1,2,4,3,5,6,7,8,9], [0,1,2,5,3,4,6,7,8,9], [0,1,2,5,6,3,4,7,8,9], [0,1,2,3,4,5,6,7,8,9]] := rfl
@[go_sem] theorem XBd_ords10 : XBd.ords 10 = [[0,1,2,3,4,6,7,8,5,9,10,11], [0,1,2,3,4,6,7,8,9,5,10,11], [0,1,2,3,4,6,7,5,8,9,10,11], [0,1,2,3,4,6,8,5,7,9,10,11], [0,1,2,3,4,6,8,9,5,7,10,11], [0,1,2,3,4,6,5,7,8,9,10,11], [0,1,2,3,4,8,5,6,7,9,10,11], [0,1,2,3,4,8,9,5,6,7,10,11], [0,1,2,3,4,5,6,7,8,9,10,11]] := rfl
@[go_sem] theorem XBd_ords0 : XBd.ords 0 = [] := rfl
@[go_sem] theorem XBd_ords1 : XBd.ords 1 = [] := rfl
@[go_sem] theorem XBd_ords2 : XBd.ords 2 = [] := rfl
@[go_sem] theorem XBd_ords3 : XBd.ords 3 = [] := rfl
@[go_sem] theorem XBd_ords4 : XBd.ords 4 = [] := rfl
@[go_sem] theorem XBd_ords5 : XBd.ords 5 = [] := rfl
@[go_sem] theorem XBd_ords6 : XBd.ords 6 = [] := rfl
@[go_sem] theorem XBd_ords9 : XBd.ords 9 = [] := rfl
@[go_sem] theorem XBd_ords12 : XBd.ords 12 = [] := rfl
@[go_sem] theorem XBd_ords13 : XBd.ords 13 = [] := rfl
@[go_sem] theorem XBd_ords14 : XBd.ords 14 = [] := rfl
@[go_sem] theorem XBd_ords15 : XBd.ords 15 = [] := rfl
set_option maxHeartbeats 64000000
def stepB (E : Nat → List En) (x : Do) : Nat → List En := if x.d = true then dropX E x.r x.c else putX E x.r x.c x.k
def bE (l : List Do) : Nat → List En := l.foldl stepB (fun _ => [])
theorem bE_snoc {l : List Do} {k : Nat} (h : k < l.length) : bE (l.take (k + 1)) = stepB (bE (l.take k)) l[k] := by
  unfold bE
  rw [← List.take_append_getElem h, List.foldl_append]; rfl
theorem put_okE {E : Nat → List En} {n : Nat} (hr : RowsR E) (hl : ∀ i, (E i).length ≤ n) (r c : Int) (k : List UInt8) : RowsR (putX E r c k) ∧ ∀ i, (putX E r c k i).length ≤ n + 1 := by
  unfold putX
  cases hm : mayT r c k with
  | false => exact ⟨hr, fun i => by have := hl i; show (E i).length ≤ n + 1; omega⟩
  | true =>
    rw [if_pos rfl]
    unfold mayT at hm
    rw [Bool.and_eq_true, decide_eq_true_iff] at hm
    have hv := rightV_iff.1 hm.1
    refine ⟨upd_right hr (put_right (hr _) hv.2 hm.2), upd_len (fun i => by have := hl i; omega) ?_⟩
    rw [putE_len (hr _)]
    have := hl (r - 1).toNat
    split <;> omega
theorem drop_okE {E : Nat → List En} {n : Nat} (hr : RowsR E) (hl : ∀ i, (E i).length ≤ n) (r c : Int) : RowsR (dropX E r c) ∧ ∀ i, (dropX E r c i).length ≤ n + 1 := by
  unfold dropX
  cases hm : rightV ⟨r, c⟩ with
  | false => exact ⟨hr, fun i => by have := hl i; show (E i).length ≤ n + 1; omega⟩
  | true =>
    rw [if_pos rfl]
    refine ⟨upd_right hr (del_right (hr _)), upd_len (fun i => by have := hl i; omega) ?_⟩
    have := hl (r - 1).toNat
    have h2 : (delE (E (r - 1).toNat) c).length ≤ (E (r - 1).toNat).length := List.length_filter_le _ _
    omega
theorem bE_ok (l : List Do) : ∀ k, k ≤ l.length → RowsR (bE (l.take k)) ∧ ∀ i, (bE (l.take k) i).length ≤ k
  | 0, _ => ⟨fun _ => ⟨List.Pairwise.nil, fun _ h => by cases h⟩, fun _ => Nat.zero_le _⟩
  | k + 1, h => by
    obtain ⟨h1, h2⟩ := bE_ok l k (by omega)
    rw [bE_snoc (by omega)]
    unfold stepB
    split
    · exact drop_okE h1 h2 _ _
    · exact put_okE h1 h2 _ _ _
theorem has_flat22 {E : Nat → List En} (hr : RowsR E) (r c : Int) : (rightV ⟨r, c⟩ && hasE (E (r - 1).toNat) c) = hasT (flatE E) r c := by
  cases hv : rightV ⟨r, c⟩ with
  | false => rw [hasT_out hv hr]; rfl
  | true =>
    obtain ⟨h1, _⟩ := rightV_iff.1 hv
    obtain ⟨i, hi, rfl⟩ : ∃ i : Nat, i < 16 ∧ r = (i : Int) + 1 := ⟨(r - 1).toNat, by omega, by omega⟩
    rw [hasT_flat hi, Bool.true_and, show ((i : Int) + 1 - 1).toNat = i by omega]
theorem drop_flat22 {E : Nat → List En} (hr : RowsR E) (r c : Int) : dropL (flatE E) r c = flatE (dropX E r c) := by
  unfold dropX
  cases hv : rightV ⟨r, c⟩ with
  | false => exact dropL_none (hasT_out hv hr)
  | true =>
    obtain ⟨h1, _⟩ := rightV_iff.1 hv
    obtain ⟨i, hi, rfl⟩ : ∃ i : Nat, i < 16 ∧ r = (i : Int) + 1 := ⟨(r - 1).toNat, by omega, by omega⟩
    rw [if_pos rfl, drop_flat hr hi, show ((i : Int) + 1 - 1).toNat = i by omega]
theorem put_flat22 {E : Nat → List En} (hr : RowsR E) {r c : Int} {k : List UInt8} (h : mayT r c k = true) : putL (flatE E) r c k = flatE (putX E r c k) := by
  unfold putX
  rw [if_pos h]
  unfold mayT at h
  rw [Bool.and_eq_true, decide_eq_true_iff] at h
  obtain ⟨h1, h2⟩ := rightV_iff.1 h.1
  obtain ⟨i, hi, rfl⟩ : ∃ i : Nat, i < 16 ∧ r = (i : Int) + 1 := ⟨(r - 1).toNat, by omega, by omega⟩
  rw [put_flat hr hi h2 h.2, show ((i : Int) + 1 - 1).toNat = i by omega]
theorem flat_le {E : Nat → List En} {n : Nat} (hl : ∀ i, (E i).length ≤ n) : (flatE E).length ≤ 16 * n := by
  rw [flat_len]
  have : ∀ q, ((List.range q).map fun i => (E i).length).sum ≤ q * n := fun q => by
    induction q with
    | zero => simp
    | succ q ih =>
      rw [List.range_succ, List.map_append, List.sum_append, Nat.add_mul]
      have := hl q
      simp; omega
  exact this 16
theorem ok_law22_build : codeOK Try.prog XBd Try.f8.ntmps (Try.f8.body.getD .skip) = true := by kernel_rfl
theorem c_build (l : List Do) (hl : longD l = false) : CallA Try.prog 8 [.slc (l.map Do.enc)] (· = .tup [ixA (some (bE l, mL (bE l))), .slc ((flatE (bE l)).map Et.enc), .bool true]) := by
  refine callA_of_body XBd_ok mixed Try.func8 rfl (Nat.le_of_ble_eq_true rfl) ok_law22_build ?_
  unfold Try.f8
  have hll : l.length ≤ 60 := by
    unfold longD at hl
    rw [Bool.or_eq_false_iff] at hl
    have := hl.1
    simp at this; omega
  have hkl : ∀ x ∈ l, x.k.length ≤ 60 := by
    unfold longD at hl
    rw [Bool.or_eq_false_iff, List.any_eq_false] at hl
    intro x hx
    have := hl.2 x hx
    simp at this; omega
  clear hl
  have gN := xb_New
  unfold ixO at gN
  simp only [ixA, ixC_16]
  simp -implicitDefEqProofs (maxSteps := 6000000) (disch := (first | omega | decide)) only [go_sem, ↓reduceIte, seval, gN, List.length_map]
  refine wpA_loop_nil 6 3 rfl ?_
  refine wpA_loop_frz [17] (by simp) (fun _ _ => Nat.zero_le _) ?_
  simp -implicitDefEqProofs (maxSteps := 6000000) (disch := (first | omega | decide)) only [go_sem, ↓reduceIte, seval, List.length_map]
  refine wpA_loopH [5, 10, 11] (ι := {k : Nat // k ≤ l.length}) (fun p => [(12, .int .i64 p.1), (6, .slc ((flatE (bE (l.take p.1))).map Et.enc))]) (fun p => ixO (bE (l.take p.1)) (mL (bE (l.take p.1))) ++ [.row 0 []]) (fun p => l.length - p.1) ⟨0, by omega⟩ (fun _ => Nat.zero_le _) ?_ ?_
  · have e0 : bE (l.take 0) = fun _ => [] := rfl
    have e1 : flatE (fun _ => []) = [] := rfl
    have e2 : mL (fun _ => []) = 0 := rfl
    simp only [e0, e1, e2, ixO]
    simp -implicitDefEqProofs (maxSteps := 6000000) (disch := (first | omega | decide)) only [go_sem, ↓reduceIte, seval]
  · rintro ⟨k, hk⟩
    simp only
    obtain ⟨hr, hle⟩ := bE_ok l k hk
    have hl16 := flat_le hle
    by_cases hlt : k < l.length
    · have hlt' : (k : Int) < (l.length : Int) := by omega
      have p1 : (0 : Int) ≤ (k : Int) := by omega
      have t1 : ((k : Nat) : Int).toNat = k := Int.toNat_natCast _
      have w1 : IntKind.i64.wrap ((k : Int) + 1) = (k : Int) + 1 := by rw [wrap_i64]; omega
      have e1 := do_get hlt
      have hsn := bE_snoc hlt
      have hkx := hkl l[k] (List.getElem_mem hlt)
      generalize hx : l[k] = x at *
      obtain ⟨d, r, c, s⟩ := x
      generalize bE (l.take k) = E at *
      simp only at e1 hkx
      have hok : okE E := ⟨hr, fun i => by have := hle i; omega⟩
      have hfl : (flatE E).length ≤ 1000000 := by omega
      cases d with
      | true =>
        have hE' : bE (l.take (k + 1)) = dropX E r c := hsn
        have gD := xb_Drop (.some E) (r := r) (c := c) hok
        have gP := y22_Place (l := flatE E) (r := r) (c := c) hfl
        have gR := y22_Drop (l := flatE E) (r := r) (c := c) hfl
        rw [drop_flat22 hr] at gR
        have hq := place_pos (flatE E) r c
        simp only [dA, dO, dS] at gD
        rw [has_flat22 hr] at gD
        generalize hasT (flatE E) r c = b at *
        generalize placeT (flatE E) r c = pl at *
        generalize dropX E r c = E' at *
        simp only [ixO, S16] at gD
        simp only [ixO]
        generalize mL E = mm at *
        clear hr hle hok hfl hl16 hsn
        cases b with
        | true =>
          simp -implicitDefEqProofs (maxSteps := 6000000) (disch := (first | omega | decide)) only [go_sem, ↓reduceIte, seval, hlt', p1, t1, w1, e1, gD, gP, gR, hq, List.length_map]
          refine ⟨⟨k + 1, hlt⟩, ?_, by show l.length - (k + 1) < l.length - k; omega⟩
          simp only [hE', and_self, and_true]
          simp
        | false =>
          simp -implicitDefEqProofs (maxSteps := 6000000) (disch := (first | omega | decide)) only [go_sem, ↓reduceIte, seval, hlt', p1, t1, w1, e1, gD, gP, gR, hq, List.length_map]
          refine ⟨⟨k + 1, hlt⟩, ?_, by show l.length - (k + 1) < l.length - k; omega⟩
          simp only [hE', and_self, and_true]
          simp
      | false =>
        have hE' : bE (l.take (k + 1)) = putX E r c s := hsn
        have gD := xb_Put (some E) (r := r) (c := c) (k := s) hok (by omega)
        have gM := y22_May (r := r) (c := c) (k := s) (by omega)
        have gP := y22_Put (l := flatE E) (r := r) (c := c) (k := s) hfl
        have hno : mayT r c s = false → flatE E = flatE (putX E r c s) := fun h => by unfold putX; rw [h]; rfl
        have hpf := fun h => put_flat22 (E := E) hr (r := r) (c := c) (k := s) h
        simp only [pA, pO, pS] at gD
        generalize putL (flatE E) r c s = F' at *
        generalize mayT r c s = b at *
        generalize putX E r c s = E' at *
        simp only [ixO, S16] at gD
        simp only [ixO]
        generalize mL E = mm at *
        clear hr hle hok hfl hl16 hsn
        cases b with
        | true =>
          have hpf := hpf rfl
          clear hno
          subst hpf
          simp -implicitDefEqProofs (maxSteps := 6000000) (disch := (first | omega | decide)) only [go_sem, ↓reduceIte, seval, hlt', p1, t1, w1, e1, gD, gM, gP, List.length_map]
          refine ⟨⟨k + 1, hlt⟩, ?_, by show l.length - (k + 1) < l.length - k; omega⟩
          simp only [hE', and_self, and_true]
          simp
        | false =>
          have hno := hno rfl
          clear hpf
          rw [hno]
          simp -implicitDefEqProofs (maxSteps := 6000000) (disch := (first | omega | decide)) only [go_sem, ↓reduceIte, seval, hlt', p1, t1, w1, e1, gD, gM, List.length_map]
          refine ⟨⟨k + 1, hlt⟩, ?_, by show l.length - (k + 1) < l.length - k; omega⟩
          simp only [hE', and_self, and_true]
          simp
    · have hlt' : ¬ (k : Int) < (l.length : Int) := by omega
      have e0 : l.take k = l := List.take_of_length_le (by omega)
      rw [e0] at *
      simp only [ixO]
      generalize flatE (bE l) = F at *
      simp -implicitDefEqProofs (maxSteps := 6000000) (disch := (first | omega | decide)) only [go_sem, ↓reduceIte, seval, hlt', List.length_map, Nat.le_refl]
noncomputable def X22t : Tab := X22s.add 8 (entry (fun (l : List Do) => [.slc (l.map Do.enc)]) (fun l => longD l = false) (fun l => .tup [ixA (some (bE l, mL (bE l))), .slc ((flatE (bE l)).map Et.enc), .bool true]))
theorem X22t_ok : TabOK Try.prog X22t := X22s_ok.ent Try.func8 (by kernel_rfl) (by kernel_rfl) fun l h => c_build l h
@[go_sem] theorem X22t_old {g : FuncId} {xs : List A} (h : g ≠ 8) : X22t.f g xs = X22s.f g xs := Tab.add_ne h
theorem X22t_law22_build (l : List Do) (h : longD l = false) : X22t.f 8 [.slc (l.map Do.enc)] = some (.tup [ixA (some (bE l, mL (bE l))), .slc ((flatE (bE l)).map Et.enc), .bool true]) := Tab.ent_eq (Γ := X22s) (fun i j h => by simpa [Prod.ext_iff, and_assoc] using h) l h
def E22a : Nat → List En := putX (fun _ => []) 1 3 [99]
def E22b : Nat → List En := putX E22a 2 1 [98]
def E22c : Nat → List En := putX E22b 1 1 [97]
theorem okE_nil : okE (fun _ => []) := ⟨fun _ => ⟨List.Pairwise.nil, fun _ h => by cases h⟩, fun _ => Nat.zero_le _⟩
theorem okE_put {E : Nat → List En} {n : Nat} (h : RowsR E ∧ ∀ i, (E i).length ≤ n) (hn : n ≤ 999) : okE E := ⟨h.1, fun i => by have := h.2 i; omega⟩
theorem okE_a : RowsR E22a ∧ ∀ i, (E22a i).length ≤ 1 := put_okE (n := 0) okE_nil.1 (fun _ => Nat.zero_le _) _ _ _
theorem okE_b : RowsR E22b ∧ ∀ i, (E22b i).length ≤ 2 := put_okE (n := 1) okE_a.1 okE_a.2 _ _ _
theorem okE_c : RowsR E22c ∧ ∀ i, (E22c i).length ≤ 3 := put_okE (n := 2) okE_b.1 okE_b.2 _ _ _
noncomputable def XBa : Tab := { XB with eff := fun f => f == 19 || f == 17 || f == 12, frz := fun f => f == 12 }
theorem XBa_ok : TabOK Try.prog XBa := ⟨XB_ok.f, XB_ok.hp⟩
@[go_sem] theorem XBa_f : XBa.f = X22s.f := rfl
@[go_sem] theorem XBa_hp : XBa.hp = XB.hp := rfl
@[go_sem] theorem XBa_eff {g : FuncId} : XBa.eff g = (g == 19 || g == 17 || g == 12) := rfl
@[go_sem] theorem XBa_frz {g : FuncId} : XBa.frz g = (g == 12) := rfl
@[go_sem] theorem XBa_fix {n : Nat} : XBa.fix n = false := rfl
@[go_sem] theorem XBa_ords {n : Nat} : XBa.ords n = [] := rfl
theorem ok_law22_awake : codeOK Try.prog XBa Try.f5.ntmps (Try.f5.body.getD .skip) = true := by kernel_rfl
theorem c_law22_awake : CallA Try.prog 5 [] (· = .bool true) := by
  refine callA_of_body XBa_ok mixed Try.func5 rfl (Nat.le_of_ble_eq_true rfl) ok_law22_awake ?_
  unfold Try.f5
  have gN := xb_New
  have g1 := xb_Put (some (fun _ => [])) (r := 1) (c := 3) (k := [99]) okE_nil (by decide)
  have g2 := xb_Put (some E22a) (r := 2) (c := 1) (k := [98]) (okE_put okE_a (by decide)) (by decide)
  have g3 := xb_Put (some E22b) (r := 1) (c := 1) (k := [97]) (okE_put okE_b (by decide)) (by decide)
  have gA := x22_After (x := some (E22c, mL E22c)) (r := 1) (c := 1) (n := 9) (okE_put okE_c (by decide))
  have gL := x22_Len (some (E22c, mL E22c))
  have eA : (aftA (ixE (some (E22c, mL E22c))) 1 1 16).take (9 : Int).toNat = [⟨1, 3⟩, ⟨2, 1⟩] := by decide
  have eL : ixM (some (E22c, mL E22c)) = 3 := by decide
  have m1 : mayT 1 3 [99] = true := by decide
  have m2 : mayT 2 1 [98] = true := by decide
  have m3 : mayT 1 1 [97] = true := by decide
  rw [eA] at gA
  rw [eL] at gL
  simp only [pA, pO, pS, S16] at g1 g2 g3
  rw [m1] at g1
  rw [m2] at g2
  rw [m3] at g3
  have u1 : putX (fun _ => []) 1 3 [99] = E22a := rfl
  have u2 : putX E22a 2 1 [98] = E22b := rfl
  have u3 : putX E22b 1 1 [97] = E22c := rfl
  have u0 : mL (fun _ => []) = 0 := rfl
  rw [u1, u0] at g1
  rw [u2] at g2
  rw [u3] at g3
  simp only [ixA, ixC_16] at gA gL
  clear u1 u2 u3 u0 m1 m2 m3 eA eL
  generalize E22a = Ea at *
  generalize E22b = Eb at *
  generalize E22c = Ec at *
  simp only [ixO, List.map_nil, List.length_nil, Int.natCast_zero] at gN g1 g2 g3
  generalize mL Ea = ma at *
  generalize mL Eb = mb at *
  generalize mL Ec = mc at *
  simp -implicitDefEqProofs (maxSteps := 6000000) (disch := (first | omega | decide)) only [go_sem, ↓reduceIte, seval, gN, g1, g2, g3, gA, gL, List.length_map, Nat.le_refl]
noncomputable def X22v : Tab := X22t.add 5 (entry (fun (u : Unit) => []) (fun u => True) (fun u => .bool true))
theorem X22v_ok : TabOK Try.prog X22v := X22t_ok.ent Try.func5 (by kernel_rfl) (by kernel_rfl) fun u h => c_law22_awake
@[go_sem] theorem X22v_old {g : FuncId} {xs : List A} (h : g ≠ 5) : X22v.f g xs = X22t.f g xs := Tab.add_ne h
theorem X22v_law22_awake (u : Unit) (h : True) : X22v.f 5 [] = some (.bool true) := Tab.ent_eq (Γ := X22t) (fun i j h => by first | (cases i; cases j; rfl; done) | simpa [Prod.ext_iff, and_assoc] using h | (simp at h; omega) | (simp at h; exact Prod.ext h.1 (Prod.ext h.2.1 (by omega)))) u h
noncomputable def XL22 : Tab := { X22v with hp := XB.hp, eff := fun f => f == 19 || f == 17 || f == 18 }
theorem XL22_ok : TabOK Try.prog XL22 := ⟨X22v_ok.f, XB_ok.hp⟩
@[go_sem] theorem XL22_f : XL22.f = X22v.f := rfl
@[go_sem] theorem XL22_hp : XL22.hp = XB.hp := rfl
@[go_sem] theorem XL22_eff {g : FuncId} : XL22.eff g = (g == 19 || g == 17 || g == 18) := rfl
@[go_sem] theorem XL22_frz {g : FuncId} : XL22.frz g = false := rfl
@[go_sem] theorem XL22_fix {n : Nat} : XL22.fix n = false := rfl
@[go_sem] theorem XL22_ords {n : Nat} : XL22.ords n = [] := rfl
theorem z_build {l : List Do} (h : longD l = false) : X22t.f 8 [.slc (l.map Do.enc)] = some (.tup [ixA (some (bE l, mL (bE l))), .slc ((flatE (bE l)).map Et.enc), .bool true]) := X22t_law22_build l h
theorem z_awake : X22v.f 5 [] = some (.bool true) := X22v_law22_awake () trivial
theorem z_long {l : List Do} (h : l.length ≤ 9223372036854775807) : X22s.f 6 [.slc (l.map Do.enc)] = some (.bool (longD l)) := X22s_law22_long l h
theorem bE_all {l : List Do} (h : longD l = false) : okE (bE l) ∧ (flatE (bE l)).length ≤ 1000 := by
  have hll : l.length ≤ 60 := by
    unfold longD at h
    rw [Bool.or_eq_false_iff] at h
    have := h.1
    simp at this; omega
  have := bE_ok l l.length (Nat.le_refl _)
  rw [List.take_length] at this
  have h16 := flat_le this.2
  exact ⟨⟨this.1, fun i => by have := this.2 i; omega⟩, by omega⟩
theorem ok_law22_IndexDoes : codeOK Try.prog XL22 Try.f4.ntmps (Try.f4.body.getD .skip) = true := by kernel_rfl
theorem c_law22_IndexDoes (l : List Do) (r c : Int) (hl : l.length ≤ 9223372036854775807) : CallA Try.prog 4 [.slc (l.map Do.enc), .agg [.int .i64 r, .int .i64 c]] (· = .bool true) := by
  refine callA_of_body XL22_ok mixed Try.func4 rfl (Nat.le_of_ble_eq_true rfl) ok_law22_IndexDoes ?_
  unfold Try.f4
  have g0 := z_awake
  have g1 := z_long hl
  cases hlg : longD l with
  | true =>
    rw [hlg] at g1
    simp -implicitDefEqProofs (maxSteps := 6000000) (disch := (first | omega | decide)) only [go_sem, ↓reduceIte, seval, g0, g1, List.length_map]
  | false =>
    rw [hlg] at g1
    obtain ⟨hok, hfl⟩ := bE_all hlg
    have g2 := z_build hlg
    have g3 := x22_Len (some (bE l, mL (bE l)))
    have g4 := x22_Key (x := some (bE l, mL (bE l))) (r := r) (c := c) hok
    have g5 := y22_Place (l := flatE (bE l)) (r := r) (c := c) (by omega)
    have hq := place_pos (flatE (bE l)) r c
    have hb : ixH (some (bE l, mL (bE l))) r c = hasT (flatE (bE l)) r c := has_flat22 hok.1 r c
    have hkey : hasT (flatE (bE l)) r c = true → ∃ k : Nat, ∃ hk : k < (flatE (bE l)).length, placeT (flatE (bE l)) r c = (k : Int) ∧ ixK (some (bE l, mL (bE l))) r c = ((flatE (bE l))[k]'hk).k := fun h => by
      have h2 := has_flat22 hok.1 r c
      rw [h, Bool.and_eq_true] at h2
      obtain ⟨hv, hh⟩ := h2
      obtain ⟨h1, _⟩ := rightV_iff.1 hv
      obtain ⟨i, hi, rfl⟩ : ∃ i : Nat, i < 16 ∧ r = (i : Int) + 1 := ⟨(r - 1).toNat, by omega, by omega⟩
      have e2 : ((i : Int) + 1 - 1).toNat = i := by omega
      rw [e2] at hh
      obtain ⟨k, hk, h3, hp, h4⟩ := place_key hok.1 hi hh
      refine ⟨k, hk, h3, ?_⟩
      obtain ⟨_, h5⟩ := keyE_at (hok.1 i) hh
      rw [h4, h5]
      unfold ixK
      rw [hb, h, if_pos rfl]
      show keyE (bE l ((i : Int) + 1 - 1).toNat) c = _
      rw [e2]
    have hno : hasT (flatE (bE l)) r c = false → ixK (some (bE l, mL (bE l))) r c = [] := fun h => by
      unfold ixK
      rw [hb, h]; rfl
    have hne : hasT (flatE (bE l)) r c = false → placeT (flatE (bE l)) r c < 0 := fun h => by
      rw [h] at hq
      have := of_decide_eq_false hq
      omega
    have k1 := x22_Key (x := none) (r := r) (c := c) okE_nil
    have k2 := xb_Put none (r := r) (c := c) (k := [97]) trivial (by decide)
    have k3 := xb_Drop .nil (r := r) (c := c) trivial
    have k4 := x22_Len none
    have k5 := x22_After (x := none) (r := r) (c := c) (n := 3) okE_nil
    have k6 := x22_Unknown (x := none) (s := []) okE_nil ⟨by decide, by decide⟩
    have k7 := x22_Len (some (fun _ => [], 0))
    have k8 := xb_Drop .plain (r := r) (c := c) trivial
    have n1 : ixH none r c = false := by unfold ixH ixE hasE; simp
    have n2 : ixK none r c = [] := by unfold ixK; rw [n1]; rfl
    have n3 : aftA (ixE none) r c 16 = [] := aftA_none r c 16
    have n4 : unkA (ixE none) [] 16 = [] := unkA_none [] 16
    rw [n1, n2] at k1
    rw [n3] at k5
    rw [n4] at k6
    rw [hb] at g4
    have eM : ixM (some (bE l, mL (bE l))) = ((flatE (bE l)).length : Int) := rfl
    have eM0 : ixM none = 0 := rfl
    have eM1 : ixM (some (fun _ => [], 0)) = 0 := rfl
    rw [eM] at g3
    rw [eM0] at k4
    rw [eM1] at k7
    simp only [ixA, ixC_16, List.map_nil, List.take_nil] at g2 g3 g4 k1 k4 k5 k6 k7
    simp only [pA, pO, pS, dA, dO, dS, nilsC] at k2 k3 k8
    have hF : (flatE (bE l)).length ≤ 1000 := hfl
    generalize ixK (some (bE l, mL (bE l))) r c = K at *
    clear hb n1 n2 n3 n4 eM eM0 eM1 hok hfl hlg
    generalize mL (bE l) = mm at *
    generalize hFF : flatE (bE l) = F at *
    clear hFF
    generalize bE l = E at *
    cases hb : hasT F r c with
    | true =>
      rw [hb] at g4 hq
      obtain ⟨k, hk, h3, h4⟩ := hkey hb
      clear hkey hno hne hb
      rw [h3] at g5 hq
      have e1 := et_get hk
      rw [← h4] at e1
      have hmx : (if (0 : Int) < (k : Int) then (k : Int) else 0) = (k : Int) := by split <;> omega
      have p1 : (0 : Int) ≤ (k : Int) := by omega
      have t1 : ((k : Nat) : Int).toNat = k := Int.toNat_natCast _
      have p2 : (k : Int) < (F.length : Int) := by omega
      have hmg : (if (k : Int) > 0 then (k : Int) else 0) = (k : Int) := hmx
      generalize F[k].r = fr at *
      generalize F[k].c = fc at *
      clear h4
      simp -implicitDefEqProofs (maxSteps := 6000000) (disch := (first | omega | decide)) only [go_sem, ↓reduceIte, seval, g0, g1, g2, g3, g4, g5, hq, e1, hmx, hmg, p1, p2, t1, k1, k2, k3, k4, k5, k6, k7, k8, List.length_map, Nat.le_refl]
    | false =>
      rw [hb] at g4 hq
      have hK := hno hb
      subst hK
      clear hkey hno hne hb
      generalize placeT F r c = pl at *
      simp -implicitDefEqProofs (maxSteps := 6000000) (disch := (first | omega | decide)) only [go_sem, ↓reduceIte, seval, g0, g1, g2, g3, g4, g5, hq, k1, k2, k3, k4, k5, k6, k7, k8, List.length_map, Nat.le_refl]
theorem long_small22 {s : List Known} {m : Nat} (h : longK s m = false) : s.length ≤ m ∧ sumK s ≤ m * m := by
  unfold longK at h
  rw [Bool.or_eq_false_iff] at h
  obtain ⟨h1, h2⟩ := h
  have h1' : s.length ≤ m := by have := of_decide_eq_false h1; omega
  refine ⟨h1', ?_⟩
  have h3 : ∀ k ∈ s, k.rs.length ≤ m := fun k hk => by
    rw [List.any_eq_false] at h2
    have := h2 k hk
    simp at this; omega
  have h4 : ∀ l : List Known, (∀ k ∈ l, k.rs.length ≤ m) → sumK l ≤ l.length * m := fun l => by
    induction l with
    | nil => intro _; simp [sumK]
    | cons k l ih =>
      intro hk
      have a := ih fun q hq => hk q (by simp [hq])
      have b := hk k (by simp)
      have e : sumK (k :: l) = k.rs.length + sumK l := by unfold sumK; rw [List.map_cons, List.sum_cons]
      rw [e, List.length_cons, Nat.succ_mul]; omega
  exact Nat.le_trans (h4 s h3) (Nat.mul_le_mul_right m h1')
theorem ok_law22_IndexTells : codeOK Try.prog XL22 Try.f3.ntmps (Try.f3.body.getD .skip) = true := by kernel_rfl
theorem c_law22_IndexTells (l : List Do) (r c : Int) (s : List Known) (hl : l.length ≤ 9223372036854775807) (hs : s.length ≤ 9223372036854775807) : CallA Try.prog 3 [.slc (l.map Do.enc), .agg [.int .i64 r, .int .i64 c], .slc (s.map Known.enc)] (· = .bool true) := by
  refine callA_of_body XL22_ok mixed Try.func3 rfl (Nat.le_of_ble_eq_true rfl) ok_law22_IndexTells ?_
  unfold Try.f3
  have g0 := z_awake
  have g1 := z_long hl
  have g1b : K14m.f 7 [.slc (s.map Known.enc), .int .i64 12] = some (.bool (longK s 12)) := K14m_ref14_Long (s, 12) hs
  cases hlg : longD l with
  | true =>
    rw [hlg] at g1
    simp -implicitDefEqProofs (maxSteps := 6000000) (disch := (first | omega | decide)) only [go_sem, ↓reduceIte, seval, g0, g1, List.length_map]
  | false =>
    rw [hlg] at g1
    cases hlk : longK s 12 with
    | true =>
      rw [hlk] at g1b
      simp -implicitDefEqProofs (maxSteps := 6000000) (disch := (first | omega | decide)) only [go_sem, ↓reduceIte, seval, g0, g1, g1b, List.length_map]
    | false =>
      rw [hlk] at g1b
      have hsm := long_small22 (m := 12) hlk
      have hsk : smallK s := ⟨by omega, by omega⟩
      obtain ⟨hok, hfl⟩ := bE_all hlg
      have g2 := z_build hlg
      have g3 := x22_Unknown (x := some (bE l, mL (bE l))) (s := s) hok hsk
      have g4 := y22_Unknown (l := flatE (bE l)) (s := s) (by omega) hsk
      rw [unk_flat] at g4
      have hul := unkA_len hok.2 s 16
      have g5 : X22r.f 9 [.slc ((unkA (bE l) s 16).map Ver.enc), .slc ((unkA (bE l) s 16).map Ver.enc)] = some (.bool true) := X22r_ref22_Same _ (by omega)
      have g6 : ∀ n : Int, X22n.f 12 [ixA (some (bE l, mL (bE l))), .agg [.int .i64 r, .int .i64 c], .int .i64 n] = some (.slc (((aftA (bE l) r c 16).take n.toNat).map Ver.enc)) := fun n => x22_After (x := some (bE l, mL (bE l))) (r := r) (c := c) (n := n) hok
      have g7 : ∀ n : Int, X22p.f 13 [.slc ((flatE (bE l)).map Et.enc), .agg [.int .i64 r, .int .i64 c], .int .i64 n] = some (.slc (((aftA (bE l) r c 16).take n.toNat).map Ver.enc)) := fun n => by
        have := y22_After (l := flatE (bE l)) (r := r) (c := c) (n := n) (by omega)
        rw [aft_flat hok.1] at this
        exact this
      have hal := aftA_len hok.2 r c 16
      have g8 : ∀ n : Int, X22r.f 9 [.slc (((aftA (bE l) r c 16).take n.toNat).map Ver.enc), .slc (((aftA (bE l) r c 16).take n.toNat).map Ver.enc)] = some (.bool true) := fun n => X22r_ref22_Same _ (by rw [List.length_take]; omega)
      have eX : ixE (some (bE l, mL (bE l))) = bE l := rfl
      rw [eX] at g3
      simp only [ixA, ixC_16] at g2 g3 g6
      generalize unkA (bE l) s 16 = U at *
      obtain ⟨T, hT⟩ : ∃ T : Int → List Ver, ∀ n, (aftA (bE l) r c 16).take n.toNat = T n := ⟨_, fun _ => rfl⟩
      simp only [hT] at g6 g7 g8
      clear hT hal
      generalize flatE (bE l) = F at *
      generalize mL (bE l) = mm at *
      clear hok hlg hlk hsm eX
      generalize bE l = E at *
      simp -implicitDefEqProofs (maxSteps := 6000000) (disch := (first | omega | decide)) only [go_sem, ↓reduceIte, seval, g0, g1, g1b, g2, g3, g4, g5, List.length_map, Nat.le_refl]
      refine wpA_loop [4, 7, 8, 38, 39] (ι := {k : Nat // k ≤ 5}) (fun p => [(40, .int .i64 p.1)]) (fun _ => []) (fun p => 5 - p.1) ⟨0, by omega⟩ (Nat.zero_le _) ?_ ?_
      · simp -implicitDefEqProofs (maxSteps := 6000000) (disch := (first | omega | decide)) only [go_sem, ↓reduceIte, seval]
        try rfl
      · rintro ⟨k, hk⟩
        simp only
        by_cases hlt : k < 5
        · have h5 : k = 0 ∨ k = 1 ∨ k = 2 ∨ k = 3 ∨ k = 4 := by omega
          rcases h5 with rfl | rfl | rfl | rfl | rfl
          · simp -implicitDefEqProofs (maxSteps := 6000000) (disch := (first | omega | decide)) only [go_sem, ↓reduceIte, seval, g6, g7, g8, wrap_i64, List.length_map, Nat.le_refl]
            exact ⟨⟨1, by omega⟩, by simp, by simp⟩
          · simp -implicitDefEqProofs (maxSteps := 6000000) (disch := (first | omega | decide)) only [go_sem, ↓reduceIte, seval, g6, g7, g8, wrap_i64, List.length_map, Nat.le_refl]
            exact ⟨⟨2, by omega⟩, by simp, by simp⟩
          · simp -implicitDefEqProofs (maxSteps := 6000000) (disch := (first | omega | decide)) only [go_sem, ↓reduceIte, seval, g6, g7, g8, wrap_i64, List.length_map, Nat.le_refl]
            exact ⟨⟨3, by omega⟩, by simp, by simp⟩
          · simp -implicitDefEqProofs (maxSteps := 6000000) (disch := (first | omega | decide)) only [go_sem, ↓reduceIte, seval, g6, g7, g8, wrap_i64, List.length_map, Nat.le_refl]
            exact ⟨⟨4, by omega⟩, by simp, by simp⟩
          · simp -implicitDefEqProofs (maxSteps := 6000000) (disch := (first | omega | decide)) only [go_sem, ↓reduceIte, seval, g6, g7, g8, wrap_i64, List.length_map, Nat.le_refl]
            exact ⟨⟨5, by omega⟩, by simp, by simp⟩
        · obtain rfl : k = 5 := by omega
          simp -implicitDefEqProofs (maxSteps := 6000000) (disch := (first | omega | decide)) only [go_sem, ↓reduceIte, seval]
theorem fits_ver {x : List A} (h : fitsL [.int .i64, .int .i64] x) : ∃ r c : Int, x = [.int .i64 r, .int .i64 c] := by
  simp only [fitsL, fits] at h
  obtain ⟨y, zs, rfl, ⟨n, rfl, _⟩, y2, zs2, rfl, ⟨m, rfl, _⟩, rfl⟩ := h
  exact ⟨n, m, rfl⟩
theorem fits_knowns {x : A} (h : fits (.rows [.int .i64, .rows [.int .i64, .int .i64]]) x) : ∃ l : List Known, x = .slc (l.map Known.enc) ∧ l.length ≤ maxLen ∧ ∀ k ∈ l, k.rs.length ≤ maxLen := by
  simp only [fits] at h
  obtain ⟨es, rfl, hl, he⟩ := h
  obtain ⟨l, rfl, hk⟩ := list_of (f := Known.enc) (P := fun k => k.rs.length ≤ maxLen) (es := es) (fun e hx => by
    obtain ⟨ys, rfl, hy⟩ := he e hx
    simp only [fitsL] at hy
    obtain ⟨y, zs, rfl, h1, y2, zs2, rfl, h2, rfl⟩ := hy
    simp only [fits] at h1
    obtain ⟨n, rfl, _⟩ := h1
    obtain ⟨rs, rfl, hr⟩ := fits_runs h2
    exact ⟨⟨n, rs⟩, rfl, hr⟩)
  exact ⟨l, rfl, by simpa using hl, hk⟩
theorem fits_dos {x : A} (h : fits (.rows [.bool, .int .i64, .int .i64, .str]) x) : ∃ l : List Do, x = .slc (l.map Do.enc) ∧ l.length ≤ maxLen := by
  simp only [fits] at h
  obtain ⟨es, rfl, hl, he⟩ := h
  obtain ⟨l, rfl, _⟩ := list_of (f := Do.enc) (P := fun _ => True) (es := es) (fun e hx => by
    obtain ⟨ys, rfl, hy⟩ := he e hx
    simp only [fitsL, fits] at hy
    obtain ⟨y0, z0, rfl, ⟨b, rfl⟩, y1, z1, rfl, ⟨n, rfl, _⟩, y2, z2, rfl, ⟨m, rfl, _⟩, y3, z3, rfl, ⟨s, rfl, _⟩, rfl⟩ := hy
    exact ⟨⟨b, n, m, s⟩, rfl, trivial⟩)
  exact ⟨l, rfl, by simpa using hl⟩
end Go.Proofs.Yteconeampdidaaa
