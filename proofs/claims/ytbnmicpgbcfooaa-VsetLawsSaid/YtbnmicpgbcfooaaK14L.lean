/- Chapter 14: the table of all contracts; the example; the laws. -/
import Derived.Test.YtbnmicpgbcfooaaK14I
namespace Go.Proofs.Ytbnmicpgbcfooaa
open Go.Abs
set_option linter.unusedSimpArgs false
set_option linter.unusedVariables false
set_option maxRecDepth 20000
set_option maxHeartbeats 8000000

noncomputable def L14a : Tab := K14w.add 27 (entry (fun (v : List Known × List Known) => [.slc (v.1.map Known.enc), .slc (v.2.map Known.enc)]) (fun v => smallK v.1 ∧ smallK v.2) (fun v => .bool ((opK 3 v.1 v.2).length == 0)))
theorem L14a_ok : TabOK Try.prog L14a := K14w_ok.add (callable_of Try.func27 (by kernel_rfl) (by kernel_rfl)) (entry_ok fun v h => c_vset_Within v.1 v.2 h.1 h.2)
@[go_sem] theorem L14a_old {g : FuncId} {xs : List A} (h : g ≠ 27) : L14a.f g xs = K14w.f g xs := Tab.add_ne h
@[go_sem] theorem L14a_eff {g : FuncId} : L14a.eff g = K14w.eff g := rfl
@[go_sem] theorem L14a_frz {g : FuncId} : L14a.frz g = K14w.frz g := rfl
@[go_sem] theorem L14a_effT : L14a.effT = K14w.effT := rfl
@[go_sem] theorem L14a_fix : L14a.fix = K14w.fix := rfl
@[go_sem] theorem L14a_nf : L14a.nf = K14w.nf := rfl
@[go_sem] theorem L14a_ords {n : Nat} : L14a.ords n = K14w.ords n := rfl
@[go_sem] theorem L14a_hp : L14a.hp = K14w.hp := rfl
theorem L14a_vset_Within (v : List Known × List Known) (h : smallK v.1 ∧ smallK v.2) : L14a.f 27 [.slc (v.1.map Known.enc), .slc (v.2.map Known.enc)] = some (.bool ((opK 3 v.1 v.2).length == 0)) :=
  (Tab.add_eq : L14a.f 27 [.slc (v.1.map Known.enc), .slc (v.2.map Known.enc)] = (entry (fun (v : List Known × List Known) => [.slc (v.1.map Known.enc), .slc (v.2.map Known.enc)]) (fun v => smallK v.1 ∧ smallK v.2) (fun v => .bool ((opK 3 v.1 v.2).length == 0))) [.slc (v.1.map Known.enc), .slc (v.2.map Known.enc)]).trans (entry_eq (fun i j h => by first | (cases i; cases j; rfl; done) | simpa [Prod.ext_iff, and_assoc] using h | (simp at h; omega)) v h)
noncomputable def L14b : Tab := L14a.add 28 (entry (fun (v : List Known × List Known) => [.slc (v.1.map Known.enc), .slc (v.2.map Known.enc)]) (fun v => smallK v.1 ∧ smallK v.2 ∧ smallK (ofK v.1) ∧ smallK (ofK v.2)) (fun v => .bool (sameK (ofK v.1) (ofK v.2))))
theorem L14b_ok : TabOK Try.prog L14b := L14a_ok.add (callable_of Try.func28 (by kernel_rfl) (by kernel_rfl)) (entry_ok fun v h => c_vset_Same v.1 v.2 h.1 h.2.1 h.2.2.1 h.2.2.2)
@[go_sem] theorem L14b_old {g : FuncId} {xs : List A} (h : g ≠ 28) : L14b.f g xs = L14a.f g xs := Tab.add_ne h
@[go_sem] theorem L14b_eff {g : FuncId} : L14b.eff g = L14a.eff g := rfl
@[go_sem] theorem L14b_frz {g : FuncId} : L14b.frz g = L14a.frz g := rfl
@[go_sem] theorem L14b_effT : L14b.effT = L14a.effT := rfl
@[go_sem] theorem L14b_fix : L14b.fix = L14a.fix := rfl
@[go_sem] theorem L14b_nf : L14b.nf = L14a.nf := rfl
@[go_sem] theorem L14b_ords {n : Nat} : L14b.ords n = L14a.ords n := rfl
@[go_sem] theorem L14b_hp : L14b.hp = L14a.hp := rfl
theorem L14b_vset_Same (v : List Known × List Known) (h : smallK v.1 ∧ smallK v.2 ∧ smallK (ofK v.1) ∧ smallK (ofK v.2)) : L14b.f 28 [.slc (v.1.map Known.enc), .slc (v.2.map Known.enc)] = some (.bool (sameK (ofK v.1) (ofK v.2))) :=
  (Tab.add_eq : L14b.f 28 [.slc (v.1.map Known.enc), .slc (v.2.map Known.enc)] = (entry (fun (v : List Known × List Known) => [.slc (v.1.map Known.enc), .slc (v.2.map Known.enc)]) (fun v => smallK v.1 ∧ smallK v.2 ∧ smallK (ofK v.1) ∧ smallK (ofK v.2)) (fun v => .bool (sameK (ofK v.1) (ofK v.2)))) [.slc (v.1.map Known.enc), .slc (v.2.map Known.enc)]).trans (entry_eq (fun i j h => by first | (cases i; cases j; rfl; done) | simpa [Prod.ext_iff, and_assoc] using h | (simp at h; omega)) v h)
noncomputable def L14c : Tab := L14b.add 13 (entry (fun (v : List Known × Int) => [.slc (v.1.map Known.enc), .int .i64 v.2]) (fun v => smallK v.1) (fun v => .int .i64 (if repOK v.2 = true then mostR (setR (hasL13 (runsK v.1 v.2))) else 0)))
theorem L14c_ok : TabOK Try.prog L14c := L14b_ok.add (callable_of Try.func13 (by kernel_rfl) (by kernel_rfl)) (entry_ok fun v h => c_vset_Most v.1 v.2 h)
@[go_sem] theorem L14c_old {g : FuncId} {xs : List A} (h : g ≠ 13) : L14c.f g xs = L14b.f g xs := Tab.add_ne h
@[go_sem] theorem L14c_eff {g : FuncId} : L14c.eff g = L14b.eff g := rfl
@[go_sem] theorem L14c_frz {g : FuncId} : L14c.frz g = L14b.frz g := rfl
@[go_sem] theorem L14c_effT : L14c.effT = L14b.effT := rfl
@[go_sem] theorem L14c_fix : L14c.fix = L14b.fix := rfl
@[go_sem] theorem L14c_nf : L14c.nf = L14b.nf := rfl
@[go_sem] theorem L14c_ords {n : Nat} : L14c.ords n = L14b.ords n := rfl
@[go_sem] theorem L14c_hp : L14c.hp = L14b.hp := rfl
theorem L14c_vset_Most (v : List Known × Int) (h : smallK v.1) : L14c.f 13 [.slc (v.1.map Known.enc), .int .i64 v.2] = some (.int .i64 (if repOK v.2 = true then mostR (setR (hasL13 (runsK v.1 v.2))) else 0)) :=
  (Tab.add_eq : L14c.f 13 [.slc (v.1.map Known.enc), .int .i64 v.2] = (entry (fun (v : List Known × Int) => [.slc (v.1.map Known.enc), .int .i64 v.2]) (fun v => smallK v.1) (fun v => .int .i64 (if repOK v.2 = true then mostR (setR (hasL13 (runsK v.1 v.2))) else 0))) [.slc (v.1.map Known.enc), .int .i64 v.2]).trans (entry_eq (fun i j h => by first | (cases i; cases j; rfl; done) | simpa [Prod.ext_iff, and_assoc] using h | (simp at h; omega)) v h)
noncomputable def L14d : Tab := L14c.add 10 (entry (fun (s : List Known) => [.slc (s.map Known.enc)]) (fun s => smallK s) (fun s => .agg (vecC (baseV s) 16)))
theorem L14d_ok : TabOK Try.prog L14d := L14c_ok.add (callable_of Try.func10 (by kernel_rfl) (by kernel_rfl)) (entry_ok fun s h => c_vset_Vector s h)
@[go_sem] theorem L14d_old {g : FuncId} {xs : List A} (h : g ≠ 10) : L14d.f g xs = L14c.f g xs := Tab.add_ne h
@[go_sem] theorem L14d_eff {g : FuncId} : L14d.eff g = L14c.eff g := rfl
@[go_sem] theorem L14d_frz {g : FuncId} : L14d.frz g = L14c.frz g := rfl
@[go_sem] theorem L14d_effT : L14d.effT = L14c.effT := rfl
@[go_sem] theorem L14d_fix : L14d.fix = L14c.fix := rfl
@[go_sem] theorem L14d_nf : L14d.nf = L14c.nf := rfl
@[go_sem] theorem L14d_ords {n : Nat} : L14d.ords n = L14c.ords n := rfl
@[go_sem] theorem L14d_hp : L14d.hp = L14c.hp := rfl
theorem L14d_vset_Vector (s : List Known) (h : smallK s) : L14d.f 10 [.slc (s.map Known.enc)] = some (.agg (vecC (baseV s) 16)) :=
  (Tab.add_eq : L14d.f 10 [.slc (s.map Known.enc)] = (entry (fun (s : List Known) => [.slc (s.map Known.enc)]) (fun s => smallK s) (fun s => .agg (vecC (baseV s) 16))) [.slc (s.map Known.enc)]).trans (entry_eq (fun i j h => by first | (cases i; cases j; rfl; done) | simpa [Prod.ext_iff, and_assoc] using h | (simp at h; omega)) s h)
noncomputable def L14e : Tab := L14d.add 21 (entry (fun (v : List Known × List Ver) => [.slc (v.1.map Known.enc), .slc (v.2.map Ver.enc)]) (fun v => smallK v.1 ∧ sumK v.1 + v.2.length ≤ 1000000) (fun v => .slc ((ofK (v.1 ++ oneS v.2)).map Known.enc)))
theorem L14e_ok : TabOK Try.prog L14e := L14d_ok.add (callable_of Try.func21 (by kernel_rfl) (by kernel_rfl)) (entry_ok fun v h => c_vset_Add v.1 v.2 h.1 h.2)
@[go_sem] theorem L14e_old {g : FuncId} {xs : List A} (h : g ≠ 21) : L14e.f g xs = L14d.f g xs := Tab.add_ne h
@[go_sem] theorem L14e_eff {g : FuncId} : L14e.eff g = L14d.eff g := rfl
@[go_sem] theorem L14e_frz {g : FuncId} : L14e.frz g = L14d.frz g := rfl
@[go_sem] theorem L14e_effT : L14e.effT = L14d.effT := rfl
@[go_sem] theorem L14e_fix : L14e.fix = L14d.fix := rfl
@[go_sem] theorem L14e_nf : L14e.nf = L14d.nf := rfl
@[go_sem] theorem L14e_ords {n : Nat} : L14e.ords n = L14d.ords n := rfl
@[go_sem] theorem L14e_hp : L14e.hp = L14d.hp := rfl
theorem L14e_vset_Add (v : List Known × List Ver) (h : smallK v.1 ∧ sumK v.1 + v.2.length ≤ 1000000) : L14e.f 21 [.slc (v.1.map Known.enc), .slc (v.2.map Ver.enc)] = some (.slc ((ofK (v.1 ++ oneS v.2)).map Known.enc)) :=
  (Tab.add_eq : L14e.f 21 [.slc (v.1.map Known.enc), .slc (v.2.map Ver.enc)] = (entry (fun (v : List Known × List Ver) => [.slc (v.1.map Known.enc), .slc (v.2.map Ver.enc)]) (fun v => smallK v.1 ∧ sumK v.1 + v.2.length ≤ 1000000) (fun v => .slc ((ofK (v.1 ++ oneS v.2)).map Known.enc))) [.slc (v.1.map Known.enc), .slc (v.2.map Ver.enc)]).trans (entry_eq (fun i j h => by first | (cases i; cases j; rfl; done) | simpa [Prod.ext_iff, and_assoc] using h | (simp at h; omega)) v h)
noncomputable def L14f : Tab := L14e.add 22 (entry (fun (v : List Known × List Ver) => [.slc (v.1.map Known.enc), .slc (v.2.map Ver.enc)]) (fun v => midK v.1 ∧ sumK v.1 + v.2.length ≤ 1000) (fun v => .slc ((ofK (v.1 ++ oneS v.2)).map Known.enc)))
theorem L14f_ok : TabOK Try.prog L14f := L14e_ok.add (callable_of Try.func22 (by kernel_rfl) (by kernel_rfl)) (entry_ok fun v h => c_ref14_Add v.1 v.2 h.1 h.2)
@[go_sem] theorem L14f_old {g : FuncId} {xs : List A} (h : g ≠ 22) : L14f.f g xs = L14e.f g xs := Tab.add_ne h
@[go_sem] theorem L14f_eff {g : FuncId} : L14f.eff g = L14e.eff g := rfl
@[go_sem] theorem L14f_frz {g : FuncId} : L14f.frz g = L14e.frz g := rfl
@[go_sem] theorem L14f_effT : L14f.effT = L14e.effT := rfl
@[go_sem] theorem L14f_fix : L14f.fix = L14e.fix := rfl
@[go_sem] theorem L14f_nf : L14f.nf = L14e.nf := rfl
@[go_sem] theorem L14f_ords {n : Nat} : L14f.ords n = L14e.ords n := rfl
@[go_sem] theorem L14f_hp : L14f.hp = L14e.hp := rfl
theorem L14f_ref14_Add (v : List Known × List Ver) (h : midK v.1 ∧ sumK v.1 + v.2.length ≤ 1000) : L14f.f 22 [.slc (v.1.map Known.enc), .slc (v.2.map Ver.enc)] = some (.slc ((ofK (v.1 ++ oneS v.2)).map Known.enc)) :=
  (Tab.add_eq : L14f.f 22 [.slc (v.1.map Known.enc), .slc (v.2.map Ver.enc)] = (entry (fun (v : List Known × List Ver) => [.slc (v.1.map Known.enc), .slc (v.2.map Ver.enc)]) (fun v => midK v.1 ∧ sumK v.1 + v.2.length ≤ 1000) (fun v => .slc ((ofK (v.1 ++ oneS v.2)).map Known.enc))) [.slc (v.1.map Known.enc), .slc (v.2.map Ver.enc)]).trans (entry_eq (fun i j h => by first | (cases i; cases j; rfl; done) | simpa [Prod.ext_iff, and_assoc] using h | (simp at h; omega)) v h)
theorem l_Within {a b : List Known} (ha : smallK a) (hb : smallK b) : L14a.f 27 [.slc (a.map Known.enc), .slc (b.map Known.enc)] = some (.bool ((opK 3 a b).length == 0)) := L14a_vset_Within (a, b) ⟨ha, hb⟩
theorem l_Same {a b : List Known} (ha : smallK a) (hb : smallK b) (ha' : smallK (ofK a)) (hb' : smallK (ofK b)) : L14b.f 28 [.slc (a.map Known.enc), .slc (b.map Known.enc)] = some (.bool (sameK (ofK a) (ofK b))) := L14b_vset_Same (a, b) ⟨ha, hb, ha', hb'⟩
theorem l_Most {s : List Known} {n : Int} (h : smallK s) : L14c.f 13 [.slc (s.map Known.enc), .int .i64 n] = some (.int .i64 (if repOK n = true then mostR (setR (hasL13 (runsK s n))) else 0)) := L14c_vset_Most (s, n) h
theorem l_Vector {s : List Known} (h : smallK s) : L14d.f 10 [.slc (s.map Known.enc)] = some (.agg (vecC (baseV s) 16)) := L14d_vset_Vector s h
theorem l_Add {s : List Known} {l : List Ver} (h : smallK s) (h' : sumK s + l.length ≤ 1000000) : L14e.f 21 [.slc (s.map Known.enc), .slc (l.map Ver.enc)] = some (.slc ((ofK (s ++ oneS l)).map Known.enc)) := L14e_vset_Add (s, l) ⟨h, h'⟩
theorem l_rAdd {s : List Known} {l : List Ver} (h : midK s) (h' : sumK s + l.length ≤ 1000) : L14f.f 22 [.slc (s.map Known.enc), .slc (l.map Ver.enc)] = some (.slc ((ofK (s ++ oneS l)).map Known.enc)) := L14f_ref14_Add (s, l) ⟨h, h'⟩

theorem fits_ver {x : List A} (h : fitsL [.int .i64, .int .i64] x) : ∃ r c : Int, x = [.int .i64 r, .int .i64 c] := by
  simp only [fitsL, fits] at h
  obtain ⟨y, zs, rfl, ⟨n, rfl, _⟩, y2, zs2, rfl, ⟨m, rfl, _⟩, rfl⟩ := h
  exact ⟨n, m, rfl⟩
theorem fits_vers {x : A} (h : fits (.rows [.int .i64, .int .i64]) x) : ∃ l : List Ver, x = .slc (l.map Ver.enc) ∧ l.length ≤ maxLen := by
  simp only [fits] at h
  obtain ⟨es, rfl, hl, he⟩ := h
  obtain ⟨l, rfl, _⟩ := list_of (f := Ver.enc) (P := fun _ => True) (es := es) (fun e hx => by
    obtain ⟨ys, rfl, hy⟩ := he e hx
    obtain ⟨r, c, rfl⟩ := fits_ver (by simpa only [fitsL, fits] using hy)
    exact ⟨⟨r, c⟩, rfl, trivial⟩)
  exact ⟨l, rfl, by simpa using hl⟩
theorem fits_knowns {x : A} (h : fits (.rows [.int .i64, .rows [.int .i64, .int .i64]]) x) : ∃ l : List Known, x = .slc (l.map Known.enc) ∧ l.length ≤ maxLen ∧ ∀ k ∈ l, k.rs.length ≤ maxLen := by
  simp only [fits] at h
  obtain ⟨es, rfl, hl, he⟩ := h
  obtain ⟨l, rfl, hk⟩ := list_of (f := Known.enc) (P := fun k => k.rs.length ≤ maxLen) (es := es) (fun e hx => by
    obtain ⟨ys, rfl, hy⟩ := he e hx
    simp only [fitsL] at hy
    obtain ⟨y, zs, rfl, h1, y2, zs2, rfl, h2, rfl⟩ := hy
    simp only [fits] at h1
    obtain ⟨n, rfl, _⟩ := h1
    obtain ⟨rs, rfl, hr⟩ := fits_runs h2
    exact ⟨⟨n, rs⟩, rfl, hr⟩)
  exact ⟨l, rfl, by simpa using hl, hk⟩
/-- What is not long. -/
theorem long_small {s : List Known} {m : Nat} (h : longK s m = false) : s.length ≤ m ∧ sumK s ≤ m * m := by
  unfold longK at h
  rw [Bool.or_eq_false_iff] at h
  obtain ⟨h1, h2⟩ := h
  have h1' : s.length ≤ m := by have := of_decide_eq_false h1; omega
  refine ⟨h1', ?_⟩
  have h3 : ∀ k ∈ s, k.rs.length ≤ m := fun k hk => by
    rw [List.any_eq_false] at h2
    have := h2 k hk
    simp at this; omega
  have h4 : ∀ l : List Known, (∀ k ∈ l, k.rs.length ≤ m) → sumK l ≤ l.length * m := fun l => by
    induction l with
    | nil => intro _; simp [sumK]
    | cons k l ih =>
      intro hk
      have a := ih fun q hq => hk q (by simp [hq])
      have b := hk k (by simp)
      have e : sumK (k :: l) = k.rs.length + sumK l := by unfold sumK; rw [List.map_cons, List.sum_cons]
      rw [e, List.length_cons, Nat.succ_mul]; omega
  exact Nat.le_trans (h4 s h3) (Nat.mul_le_mul_right m h1')
theorem sameK_self (l : List Known) : sameK l l = true := by simp [sameK]
theorem ofK_right (s : List Known) : rightK (ofK s) = true := setT_right fun n => setR_right _
/-- A right set with what a set has is its right set. -/
theorem ofK_eq {s t : List Known} (h : rightK t = true) (hh : ∀ n, repOK n = true → ∀ c, hasL13 (runsK t n) c = hasL13 (runsK s n) c) : ofK s = t := by
  rw [← right_setK h]
  exact setT_congr fun n hn => by
    have : hasL13 (runsK s n) = hasL13 (runsK t n) := funext fun c => (hh n hn c).symm
    simp only [this]
theorem awake_set14 : ofK (oneS [⟨2, 1⟩, ⟨2, 2⟩, ⟨1, 5⟩]) = [⟨1, [⟨5, 5⟩]⟩, ⟨2, [⟨1, 2⟩]⟩] := ofK_eq (by decide) fun n hn c => by
  have e : oneS [⟨2, 1⟩, ⟨2, 2⟩, ⟨1, 5⟩] = [⟨2, [⟨1, 1⟩]⟩, ⟨2, [⟨2, 2⟩]⟩, ⟨1, [⟨5, 5⟩]⟩] := by decide
  rw [e, Bool.eq_iff_iff]
  by_cases h1 : n = 1
  · subst h1; simp [runsK]
  · by_cases h2 : n = 2
    · subst h2
      rw [has_iff, has_iff]
      simp [runsK, oneR]
      omega
    · have a1 : ¬ (1 : Int) = n := by omega
      have a2 : ¬ (2 : Int) = n := by omega
      simp [runsK, a1, a2]
theorem ok_law14_awake : codeOK Try.prog L14f Try.f8.ntmps (Try.f8.body.getD .skip) = true := by kernel_rfl
theorem c_law14_awake : CallA Try.prog 8 [] (· = .bool true) := by
  refine callA_of_body L14f_ok mixed Try.func8 rfl (Nat.le_of_ble_eq_true rfl) ok_law14_awake ?_
  unfold Try.f8
  have h1 := l_Add (s := []) (l := [⟨2, 1⟩, ⟨2, 2⟩, ⟨1, 5⟩]) ⟨by simp, by simp [sumK]⟩ (by simp [sumK])
  rw [List.nil_append, awake_set14] at h1
  have sm : smallK [⟨1, [⟨5, 5⟩]⟩, ⟨2, [⟨1, 2⟩]⟩] := ⟨by simp, by simp [sumK]⟩
  have h2 := l_Vector sm
  have h3 := l_Most (n := 1) sm
  have h4 := k_vset_Has (n := 1) (c := 5) sm
  have e1 : setR (hasL13 [⟨5, 5⟩]) = [⟨5, 5⟩] := (setR_eq (by decide) fun _ => rfl).symm
  have e2 : setR (hasL13 [⟨1, 2⟩]) = [⟨1, 2⟩] := (setR_eq (by decide) fun _ => rfl).symm
  have b3 : (if repOK 1 = true then mostR (setR (hasL13 (runsK [⟨1, [⟨5, 5⟩]⟩, ⟨2, [⟨1, 2⟩]⟩] 1))) else 0) = 5 := by
    rw [if_pos (by decide), show runsK [⟨1, [⟨5, 5⟩]⟩, ⟨2, [⟨1, 2⟩]⟩] 1 = [⟨5, 5⟩] by decide, e1]; decide
  have b4 : hasK [⟨1, [⟨5, 5⟩]⟩, ⟨2, [⟨1, 2⟩]⟩] 1 5 = true := by decide
  rw [b3] at h3
  rw [b4] at h4
  have v0 : (vecC (baseV [⟨1, [⟨5, 5⟩]⟩, ⟨2, [⟨1, 2⟩]⟩]) 16).head? = some (.int .i64 0) := by
    have := vecC_get (baseV [⟨1, [⟨5, 5⟩]⟩, ⟨2, [⟨1, 2⟩]⟩]) (i := 0) (by omega)
    rw [List.head?_eq_getElem?, this]
    unfold baseV
    rw [show runsK [⟨1, [⟨5, 5⟩]⟩, ⟨2, [⟨1, 2⟩]⟩] (((0 : Nat) : Int) + 1) = [⟨5, 5⟩] by decide, e1]; rfl
  have v1 : (List.drop 1 (vecC (baseV [⟨1, [⟨5, 5⟩]⟩, ⟨2, [⟨1, 2⟩]⟩]) 16)).head? = some (.int .i64 2) := by
    have := vecC_get (baseV [⟨1, [⟨5, 5⟩]⟩, ⟨2, [⟨1, 2⟩]⟩]) (i := 1) (by omega)
    rw [List.head?_drop, this]
    unfold baseV
    rw [show runsK [⟨1, [⟨5, 5⟩]⟩, ⟨2, [⟨1, 2⟩]⟩] (((1 : Nat) : Int) + 1) = [⟨1, 2⟩] by decide, e2]; rfl
  have tl := vecC_len (baseV [⟨1, [⟨5, 5⟩]⟩, ⟨2, [⟨1, 2⟩]⟩]) 16
  generalize vecC (baseV [⟨1, [⟨5, 5⟩]⟩, ⟨2, [⟨1, 2⟩]⟩]) 16 = V at *
  simp only [List.map_cons, List.map_nil, Known.enc, Known.cells, Run.enc, Run.cells, Ver.enc, Ver.cells] at h1 h2 h3 h4
  simp -implicitDefEqProofs (maxSteps := 600000) (disch := (first | omega | decide)) only [go_sem, ↓reduceIte, Nat.reduceEqDiff, reduceCtorEq, Nat.reduceAdd, Nat.reduceSub, Nat.reduceMul, Nat.reduceLeDiff, Nat.reduceLT, Nat.reduceBEq, Nat.reduceBNe, Int.reduceLE, Int.reduceLT, Int.reduceBEq, Int.reduceBNe, Int.reduceEq, Int.reduceNe, Int.reduceAdd, Int.reduceSub, Int.reduceMul, Int.reduceNeg, Int.reduceToNat, h1, h2, h3, h4, v0, v1, tl]
noncomputable def L14g : Tab := L14f.add 8 (entry (fun (u : Unit) => []) (fun u => True) (fun u => .bool true))
theorem L14g_ok : TabOK Try.prog L14g := L14f_ok.add (callable_of Try.func8 (by kernel_rfl) (by kernel_rfl)) (entry_ok fun u h => c_law14_awake)
@[go_sem] theorem L14g_old {g : FuncId} {xs : List A} (h : g ≠ 8) : L14g.f g xs = L14f.f g xs := Tab.add_ne h
@[go_sem] theorem L14g_eff {g : FuncId} : L14g.eff g = L14f.eff g := rfl
@[go_sem] theorem L14g_frz {g : FuncId} : L14g.frz g = L14f.frz g := rfl
@[go_sem] theorem L14g_effT : L14g.effT = L14f.effT := rfl
@[go_sem] theorem L14g_fix : L14g.fix = L14f.fix := rfl
@[go_sem] theorem L14g_nf : L14g.nf = L14f.nf := rfl
@[go_sem] theorem L14g_ords {n : Nat} : L14g.ords n = L14f.ords n := rfl
@[go_sem] theorem L14g_hp : L14g.hp = L14f.hp := rfl
theorem L14g_law14_awake (u : Unit) (h : True) : L14g.f 8 [] = some (.bool true) :=
  (Tab.add_eq : L14g.f 8 [] = (entry (fun (u : Unit) => []) (fun u => True) (fun u => .bool true)) []).trans (entry_eq (fun i j h => by first | (cases i; cases j; rfl; done) | simpa [Prod.ext_iff, and_assoc] using h | (simp at h; omega)) u h)
@[go_sem] theorem l_awake14 : L14g.f 8 [] = some (.bool true) := L14g_law14_awake () trivial
theorem small_long {s : List Known} {m : Nat} (hm : m ≤ 16) (h : longK s m = false) : s.length ≤ 16 ∧ sumK s ≤ 256 := by
  have := long_small h
  have : m * m ≤ 16 * 16 := Nat.mul_le_mul hm hm
  omega
theorem small_256 {s : List Known} (h : s.length ≤ 16 ∧ sumK s ≤ 256) : smallK s ∧ midK s ∧ smallK (ofK s) := by
  have := sumK_of h.2
  exact ⟨⟨by omega, by omega⟩, mid_of (by omega) (by omega), ⟨by omega, by omega⟩⟩
theorem ok_law14_VsetOf : codeOK Try.prog L14g Try.f4.ntmps (Try.f4.body.getD .skip) = true := by kernel_rfl
theorem c_law14_VsetOf (s : List Known) (l : List Ver) (r c : Int) (hs : s.length ≤ 9223372036854775807) (hl : l.length ≤ 9223372036854775807) : CallA Try.prog 4 [.slc (s.map Known.enc), .slc (l.map Ver.enc), .agg [.int .i64 r, .int .i64 c]] (· = .bool true) := by
  refine callA_of_body L14g_ok mixed Try.func4 rfl (Nat.le_of_ble_eq_true rfl) ok_law14_VsetOf ?_
  unfold Try.f4
  have h0 := k_ref14_Long (m := 16) hs
  cases h1 : longK s 16 with
  | true => simp -implicitDefEqProofs (maxSteps := 600000) (disch := (first | omega | decide)) only [go_sem, ↓reduceIte, Nat.reduceEqDiff, reduceCtorEq, Nat.reduceAdd, Nat.reduceSub, Nat.reduceMul, Nat.reduceLeDiff, Nat.reduceLT, Nat.reduceBEq, Nat.reduceBNe, Int.reduceLE, Int.reduceLT, Int.reduceBEq, Int.reduceBNe, Int.reduceEq, Int.reduceNe, Int.reduceAdd, Int.reduceSub, Int.reduceMul, Int.reduceNeg, Int.reduceToNat, h0, h1]
  | false =>
    by_cases h2 : (16 : Int) < (l.length : Int)
    · simp -implicitDefEqProofs (maxSteps := 600000) (disch := (first | omega | decide)) only [go_sem, ↓reduceIte, Nat.reduceEqDiff, reduceCtorEq, Nat.reduceAdd, Nat.reduceSub, Nat.reduceMul, Nat.reduceLeDiff, Nat.reduceLT, Nat.reduceBEq, Nat.reduceBNe, Int.reduceLE, Int.reduceLT, Int.reduceBEq, Int.reduceBNe, Int.reduceEq, Int.reduceNe, Int.reduceAdd, Int.reduceSub, Int.reduceMul, Int.reduceNeg, Int.reduceToNat, h0, h1, h2, List.length_map]
    · have sm := small_long (m := 16) (by omega) h1
      obtain ⟨s1, s2, s3⟩ := small_256 sm
      have ol := oneS_len l
      have sa : smallK (ofK (s ++ oneS l)) := by
        have := sumK_of (s := s ++ oneS l) (B := 272) (by rw [sumK_append]; omega)
        exact ⟨by omega, by omega⟩
      have f1 := k_vset_Right s1
      have f2 := k_ref14_Right s1
      have f3 := k_vset_Has (n := r) (c := c) s1
      have f4 := k_ref14_Has (n := r) (c := c) s1
      have f5 := k_vset_Of s1
      have f6 := k_ref14_Of s2
      have f7 := k_ref14_Same s3 s3
      have f8 := l_Add (l := l) s1 (by omega)
      have f9 := l_rAdd (l := l) s2 (by omega)
      have f10 := k_ref14_Same sa sa
      rw [sameK_self] at f7 f10
      have w2 : ∀ x : Bool, (x == x) = true := fun x => by simp
      simp -implicitDefEqProofs (maxSteps := 600000) (disch := (first | omega | decide)) only [go_sem, ↓reduceIte, Nat.reduceEqDiff, reduceCtorEq, Nat.reduceAdd, Nat.reduceSub, Nat.reduceMul, Nat.reduceLeDiff, Nat.reduceLT, Nat.reduceBEq, Nat.reduceBNe, Int.reduceLE, Int.reduceLT, Int.reduceBEq, Int.reduceBNe, Int.reduceEq, Int.reduceNe, Int.reduceAdd, Int.reduceSub, Int.reduceMul, Int.reduceNeg, Int.reduceToNat, h0, h1, h2, f1, f2, f3, f4, f5, f6, f7, f8, f9, f10, w2, List.length_map]
theorem opK_small {op : Int} {a b : List Known} {B : Nat} (hB : B ≤ 10000) (ha : sumK a ≤ B) (hb : sumK b ≤ B) : smallK (opK op a b) := by
  have := sumK_op (op := op) ha hb
  exact ⟨by omega, by omega⟩
theorem hasK_op {op : Int} {a b : List Known} {n c : Int} : hasK (opK op a b) n c = opF op (hasK a n c) (hasK b n c) := by
  unfold opK
  rw [setT_has (fun n => isR_op op _ _)]
  unfold hasK
  cases repOK n with
  | false => simp [opF_ff]
  | true => simp only [Bool.true_and]; rfl
theorem ok_law14_VsetSets : codeOK Try.prog L14g Try.f5.ntmps (Try.f5.body.getD .skip) = true := by kernel_rfl
theorem c_law14_VsetSets (a b : List Known) (r c : Int) (ha : a.length ≤ 9223372036854775807) (hb : b.length ≤ 9223372036854775807) : CallA Try.prog 5 [.slc (a.map Known.enc), .slc (b.map Known.enc), .agg [.int .i64 r, .int .i64 c]] (· = .bool true) := by
  refine callA_of_body L14g_ok mixed Try.func5 rfl (Nat.le_of_ble_eq_true rfl) ok_law14_VsetSets ?_
  unfold Try.f5
  have h0 := k_ref14_Long (m := 12) ha
  have h0' := k_ref14_Long (m := 12) hb
  cases h1 : longK a 12 with
  | true => simp -implicitDefEqProofs (maxSteps := 600000) (disch := (first | omega | decide)) only [go_sem, ↓reduceIte, Nat.reduceEqDiff, reduceCtorEq, Nat.reduceAdd, Nat.reduceSub, Nat.reduceMul, Nat.reduceLeDiff, Nat.reduceLT, Nat.reduceBEq, Nat.reduceBNe, Int.reduceLE, Int.reduceLT, Int.reduceBEq, Int.reduceBNe, Int.reduceEq, Int.reduceNe, Int.reduceAdd, Int.reduceSub, Int.reduceMul, Int.reduceNeg, Int.reduceToNat, h0, h1]
  | false =>
    cases h2 : longK b 12 with
    | true => simp -implicitDefEqProofs (maxSteps := 600000) (disch := (first | omega | decide)) only [go_sem, ↓reduceIte, Nat.reduceEqDiff, reduceCtorEq, Nat.reduceAdd, Nat.reduceSub, Nat.reduceMul, Nat.reduceLeDiff, Nat.reduceLT, Nat.reduceBEq, Nat.reduceBNe, Int.reduceLE, Int.reduceLT, Int.reduceBEq, Int.reduceBNe, Int.reduceEq, Int.reduceNe, Int.reduceAdd, Int.reduceSub, Int.reduceMul, Int.reduceNeg, Int.reduceToNat, h0, h0', h1, h2]
    | false =>
      have sa := small_long (m := 12) (by omega) h1
      have sb := small_long (m := 12) (by omega) h2
      obtain ⟨a1, a2, a3⟩ := small_256 sa
      obtain ⟨b1, b2, b3⟩ := small_256 sb
      have u1 := opK_small (op := 1) (B := 256) (by omega) sa.2 sb.2
      have u2 := opK_small (op := 2) (B := 256) (by omega) sa.2 sb.2
      have u3 := opK_small (op := 3) (B := 256) (by omega) sa.2 sb.2
      have f1 := k_vset_Union a1 b1
      have f2 := k_vset_Meet a1 b1
      have f3 := k_vset_Less a1 b1
      have g1 := k_ref14_Make opOK1 a2 b2
      have g2 := k_ref14_Make opOK2 a2 b2
      have g3 := k_ref14_Make opOK3 a2 b2
      have e1 := k_ref14_Same u1 u1
      have e2 := k_ref14_Same u2 u2
      have e3 := k_ref14_Same u3 u3
      rw [sameK_self] at e1 e2 e3
      have k1 := k_ref14_Has (n := r) (c := c) u1
      have k2 := k_ref14_Has (n := r) (c := c) u2
      have k3 := k_ref14_Has (n := r) (c := c) u3
      rw [hasK_op] at k1 k2 k3
      have ka := k_ref14_Has (n := r) (c := c) a1
      have kb := k_ref14_Has (n := r) (c := c) b1
      cases x : hasK a r c <;> cases y : hasK b r c <;>
        (rw [x, y] at k1 k2 k3
         rw [x] at ka
         rw [y] at kb
         simp -implicitDefEqProofs (maxSteps := 600000) (disch := (first | omega | decide)) only [go_sem, ↓reduceIte, Nat.reduceEqDiff, reduceCtorEq, Nat.reduceAdd, Nat.reduceSub, Nat.reduceMul, Nat.reduceLeDiff, Nat.reduceLT, Nat.reduceBEq, Nat.reduceBNe, Int.reduceLE, Int.reduceLT, Int.reduceBEq, Int.reduceBNe, Int.reduceEq, Int.reduceNe, Int.reduceAdd, Int.reduceSub, Int.reduceMul, Int.reduceNeg, Int.reduceToNat, h0, h0', h1, h2, f1, f2, f3, g1, g2, g3, e1, e2, e3, k1, k2, k3, ka, kb, opF, Bool.or_true, Bool.or_false, Bool.and_true, Bool.and_false, Bool.not_true, Bool.not_false, beq_self_eq_true, List.length_map])
end Go.Proofs.Ytbnmicpgbcfooaa
namespace Go.Proofs.Ytbnmicpgbcfooaa
open Go.Abs
set_option linter.unusedSimpArgs false
set_option linter.unusedVariables false
set_option maxRecDepth 20000
set_option maxHeartbeats 8000000

/-- What a set has of a replica. -/
def hk (s : List Known) (n c : Int) : Bool := hasL13 (runsK s n) c
theorem hk_op {op : Int} {a b : List Known} {n : Int} (h : repOK n = true) (c : Int) : hk (opK op a b) n c = opF op (hk a n c) (hk b n c) := by
  unfold hk opK
  rw [setT_runs, if_pos h, setR_has (isR_op _ _ _)]; rfl
theorem hk_of {s : List Known} {n : Int} (h : repOK n = true) (c : Int) : hk (ofK s) n c = hk s n c := by
  unfold hk ofK
  rw [setT_runs, if_pos h, setR_has (isR_has _)]
theorem opK_eq {op op' : Int} {a b a' b' : List Known} (h : ∀ n, repOK n = true → ∀ c, opF op (hk a n c) (hk b n c) = opF op' (hk a' n c) (hk b' n c)) : opK op a b = opK op' a' b' := setT_congr fun n hn => by
  have e : opP op (runsK a n) (runsK b n) = opP op' (runsK a' n) (runsK b' n) := funext fun c => h n hn c
  simp only [e]
theorem opK_of_eq {op : Int} {a b s : List Known} (h : ∀ n, repOK n = true → ∀ c, opF op (hk a n c) (hk b n c) = hk s n c) : opK op a b = ofK s := setT_congr fun n hn => by
  have e : opP op (runsK a n) (runsK b n) = hasL13 (runsK s n) := funext fun c => h n hn c
  simp only [e]
theorem setR_none {p : Int → Bool} (h : ∀ c, p c = false) : setR p = [] := (setR_eq (l := []) rfl fun c => by rw [h]; rfl).symm
theorem mkT_nil {t : Int → List Run} (h : ∀ n, repOK n = true → t n = []) : setT t = [] := by
  have e : setT t = setT (runsK []) := setT_congr fun n hn => by rw [h n hn]; rfl
  rw [e]; exact right_setT (s := []) rfl
theorem opK_none {op : Int} {a b : List Known} (h : ∀ n, repOK n = true → ∀ c, opF op (hk a n c) (hk b n c) = false) : opK op a b = [] := mkT_nil fun n hn => setR_none fun c => h n hn c
theorem opK_len {op : Int} {a b : List Known} : ((opK op a b).length == 0) = true ↔ ∀ n, repOK n = true → ∀ c, opF op (hk a n c) (hk b n c) = false := by
  rw [beq_iff_eq, List.length_eq_zero_iff]
  refine ⟨fun h n hn c => ?_, opK_none⟩
  have := hk_op (op := op) (a := a) (b := b) hn c
  rw [h] at this
  rw [← this]; rfl
theorem ofK_eq_iff {a b : List Known} : ofK a = ofK b ↔ ∀ n, repOK n = true → ∀ c, hk a n c = hk b n c := by
  constructor
  · intro h n hn c
    rw [← hk_of hn, ← hk_of (s := b) hn, h]
  · intro h
    exact setT_congr fun n hn => by
      have e : hasL13 (runsK a n) = hasL13 (runsK b n) := funext fun c => h n hn c
      simp only [e]
theorem same_len {a b : List Known} : sameK (ofK a) (ofK b) = ((opK 3 a b).length == 0 && (opK 3 b a).length == 0) := by
  rw [Bool.eq_iff_iff, Bool.and_eq_true, opK_len, opK_len]
  unfold sameK
  rw [decide_eq_true_iff, ofK_eq_iff]
  constructor
  · intro h
    exact ⟨fun n hn c => by rw [h n hn c]; cases hk b n c <;> rfl, fun n hn c => by rw [h n hn c]; cases hk b n c <;> rfl⟩
  · rintro ⟨h1, h2⟩ n hn c
    have a1 := h1 n hn c
    have a2 := h2 n hn c
    revert a1 a2
    cases hk a n c <;> cases hk b n c <;> simp [opF]
theorem lenI {l : List Known} : ((l.length : Int) == 0) = (l.length == 0) := by
  rw [Bool.eq_iff_iff, beq_iff_eq, beq_iff_eq]; omega
theorem ok_law14_VsetSame : codeOK Try.prog L14g Try.f7.ntmps (Try.f7.body.getD .skip) = true := by kernel_rfl
theorem c_law14_VsetSame (a b : List Known) (ha : a.length ≤ 9223372036854775807) (hb : b.length ≤ 9223372036854775807) : CallA Try.prog 7 [.slc (a.map Known.enc), .slc (b.map Known.enc)] (· = .bool true) := by
  refine callA_of_body L14g_ok mixed Try.func7 rfl (Nat.le_of_ble_eq_true rfl) ok_law14_VsetSame ?_
  unfold Try.f7
  have h0 := k_ref14_Long (m := 12) ha
  have h0' := k_ref14_Long (m := 12) hb
  cases h1 : longK a 12 with
  | true => simp -implicitDefEqProofs (maxSteps := 600000) (disch := (first | omega | decide)) only [go_sem, ↓reduceIte, Nat.reduceEqDiff, reduceCtorEq, Nat.reduceAdd, Nat.reduceSub, Nat.reduceMul, Nat.reduceLeDiff, Nat.reduceLT, Nat.reduceBEq, Nat.reduceBNe, Int.reduceLE, Int.reduceLT, Int.reduceBEq, Int.reduceBNe, Int.reduceEq, Int.reduceNe, Int.reduceAdd, Int.reduceSub, Int.reduceMul, Int.reduceNeg, Int.reduceToNat, h0, h1]
  | false =>
    cases h2 : longK b 12 with
    | true => simp -implicitDefEqProofs (maxSteps := 600000) (disch := (first | omega | decide)) only [go_sem, ↓reduceIte, Nat.reduceEqDiff, reduceCtorEq, Nat.reduceAdd, Nat.reduceSub, Nat.reduceMul, Nat.reduceLeDiff, Nat.reduceLT, Nat.reduceBEq, Nat.reduceBNe, Int.reduceLE, Int.reduceLT, Int.reduceBEq, Int.reduceBNe, Int.reduceEq, Int.reduceNe, Int.reduceAdd, Int.reduceSub, Int.reduceMul, Int.reduceNeg, Int.reduceToNat, h0, h0', h1, h2]
    | false =>
      have sa := small_long (m := 12) (by omega) h1
      have sb := small_long (m := 12) (by omega) h2
      obtain ⟨a1, a2, a3⟩ := small_256 sa
      obtain ⟨b1, b2, b3⟩ := small_256 sb
      have f1 := l_Same a1 b1 a3 b3
      have f2 := k_ref14_Make opOK3 a2 b2
      have f3 := k_ref14_Of a2
      have f4 := k_ref14_Of b2
      have f5 := k_ref14_Same a3 b3
      have f6 := l_Within a1 b1
      have f7 := l_Within b1 a1
      rw [same_len] at f1 f5
      have hi := lenI (l := opK 3 a b)
      cases x : (opK 3 a b).length == 0 <;> cases y : (opK 3 b a).length == 0 <;>
        (rw [x, y] at f1 f5
         rw [x] at f6 hi
         rw [y] at f7
         simp -implicitDefEqProofs (maxSteps := 600000) (disch := (first | omega | decide)) only [go_sem, ↓reduceIte, Nat.reduceEqDiff, reduceCtorEq, Nat.reduceAdd, Nat.reduceSub, Nat.reduceMul, Nat.reduceLeDiff, Nat.reduceLT, Nat.reduceBEq, Nat.reduceBNe, Int.reduceLE, Int.reduceLT, Int.reduceBEq, Int.reduceBNe, Int.reduceEq, Int.reduceNe, Int.reduceAdd, Int.reduceSub, Int.reduceMul, Int.reduceNeg, Int.reduceToNat, h0, h0', h1, h2, f1, f2, f3, f4, f5, f6, f7, hi, Bool.and_true, Bool.and_false, Bool.true_and, Bool.false_and, beq_self_eq_true, List.length_map])
theorem vec_head {f : Nat → Int} {k : Nat} (h : k < 16) : (List.drop (k * 1) (vecC f 16)).head? = some (.int .i64 (f k)) := by
  rw [Nat.mul_one, List.head?_drop, vecC_get f h]
theorem ok_law14_VsetVector : codeOK Try.prog L14g Try.f3.ntmps (Try.f3.body.getD .skip) = true := by kernel_rfl
theorem c_law14_VsetVector (s : List Known) (n : Int) (hs : s.length ≤ 9223372036854775807) : CallA Try.prog 3 [.slc (s.map Known.enc), .int .i64 n] (· = .bool true) := by
  refine callA_of_body L14g_ok mixed Try.func3 rfl (Nat.le_of_ble_eq_true rfl) ok_law14_VsetVector ?_
  unfold Try.f3
  have h0 := k_ref14_Long (m := 16) hs
  cases h1 : longK s 16 with
  | true => simp -implicitDefEqProofs (maxSteps := 600000) (disch := (first | omega | decide)) only [go_sem, ↓reduceIte, Nat.reduceEqDiff, reduceCtorEq, Nat.reduceAdd, Nat.reduceSub, Nat.reduceMul, Nat.reduceLeDiff, Nat.reduceLT, Nat.reduceBEq, Nat.reduceBNe, Int.reduceLE, Int.reduceLT, Int.reduceBEq, Int.reduceBNe, Int.reduceEq, Int.reduceNe, Int.reduceAdd, Int.reduceSub, Int.reduceMul, Int.reduceNeg, Int.reduceToNat, h0, h1]
  | false =>
    have sm := small_long (m := 16) (by omega) h1
    obtain ⟨s1, s2, s3⟩ := small_256 sm
    have f1 := l_Vector s1
    have tl := vecC_len (baseV s) 16
    have hu := fun m => (vec_mem m (baseV s) 16).2.2
    have hle := fun m => leL_self (hu m)
    have w1 : ∀ x : Int, (x == x) = true := fun x => by simp
    simp -implicitDefEqProofs (maxSteps := 600000) (disch := (first | omega | decide)) only [go_sem, ↓reduceIte, Nat.reduceEqDiff, reduceCtorEq, Nat.reduceAdd, Nat.reduceSub, Nat.reduceMul, Nat.reduceLeDiff, Nat.reduceLT, Nat.reduceBEq, Nat.reduceBNe, Int.reduceLE, Int.reduceLT, Int.reduceBEq, Int.reduceBNe, Int.reduceEq, Int.reduceNe, Int.reduceAdd, Int.reduceSub, Int.reduceMul, Int.reduceNeg, Int.reduceToNat, h0, h1, f1, tl]
    refine wpA_loop [0, 1, 5] (ι := {k : Nat // k ≤ 16}) (fun p => [(6, .int .i64 p.1)]) (fun _ => []) (fun p => 16 - p.1) ⟨0, by omega⟩ (Nat.zero_le _) ?_ ?_
    · simp -implicitDefEqProofs (maxSteps := 600000) (disch := (first | omega | decide)) only [go_sem, ↓reduceIte, Nat.reduceEqDiff, reduceCtorEq, Nat.reduceAdd, Nat.reduceSub, Nat.reduceMul, Nat.reduceLeDiff, Nat.reduceLT, Nat.reduceBEq, Nat.reduceBNe, Int.reduceLE, Int.reduceLT, Int.reduceBEq, Int.reduceBNe, Int.reduceEq, Int.reduceNe, Int.reduceAdd, Int.reduceSub, Int.reduceMul, Int.reduceNeg, Int.reduceToNat, hle]
    · rintro ⟨k, hk⟩
      simp only
      by_cases hlt : k < 16
      · have hlt' : (k : Int) < 16 := by omega
        have c1 : (0 : Int) ≤ (k : Int) := by omega
        have hv := vec_head (f := baseV s) hlt
        have hr := k_ref14_Runs (n := (k : Int) + 1) s1
        have hrl := s2.2 ((k : Int) + 1)
        have ho := l_ref13_Of (l := runsK s ((k : Int) + 1)) hrl
        have hM := l_Most (n := (k : Int) + 1) s1
        rw [if_pos (repOK_iff.2 (by omega))] at hM
        have hb : baseV s k = baseR (setR (hasL13 (runsK s ((k : Int) + 1)))) := rfl
        rw [hb] at hv
        have hql := setR_has_len (runsK s ((k : Int) + 1))
        generalize setR (hasL13 (runsK s ((k : Int) + 1))) = q at *
        have next : ∃ j : {k : Nat // k ≤ 16}, (k : Int) + 1 = (j.1 : Int) ∧ 16 - j.1 < 16 - k := ⟨⟨k + 1, by omega⟩, by simp, by show 16 - (k + 1) < 16 - k; omega⟩
        rcases List.eq_nil_or_concat q with rfl | ⟨rs, r, rfl⟩
        · simp -implicitDefEqProofs (maxSteps := 600000) (disch := (first | omega | decide)) only [go_sem, ↓reduceIte, Nat.reduceEqDiff, reduceCtorEq, Nat.reduceAdd, Nat.reduceSub, Nat.reduceMul, Nat.reduceLeDiff, Nat.reduceLT, Nat.reduceBEq, Nat.reduceBNe, Int.reduceLE, Int.reduceLT, Int.reduceBEq, Int.reduceBNe, Int.reduceEq, Int.reduceNe, Int.reduceAdd, Int.reduceSub, Int.reduceMul, Int.reduceNeg, Int.reduceToNat, hlt', c1, hr, ho, hM, hv, baseR, mostR, List.getLast?_nil, w1, hle, wrap_i64, List.length_map, List.map_nil]
          exact next
        · rw [List.concat_eq_append] at *
          have hm : mostR (rs ++ [r]) = r.t := by simp [mostR]
          rw [hm] at hM
          have z1 : ((rs ++ [r]).map Run.enc)[rs.length]? = some (.agg [.int .i64 r.f, .int .i64 r.t]) := by simp [Run.enc, Run.cells]
          have hl1 : (rs ++ [r]).length = rs.length + 1 := by simp
          have c2 : (0 : Int) < ((rs.length + 1 : Nat) : Int) := by omega
          have c3 : (((rs.length + 1 : Nat) : Int) - 1).toNat = rs.length := by omega
          have c4 : (0 : Int) ≤ ((rs.length + 1 : Nat) : Int) - 1 := by omega
          obtain ⟨x, xs, hx⟩ : ∃ x xs, rs ++ [r] = x :: xs := by
            cases rs with
            | nil => exact ⟨r, [], rfl⟩
            | cons y ys => exact ⟨y, ys ++ [r], rfl⟩
          have z2 : ((rs ++ [r]).map Run.enc)[0]? = some (.agg [.int .i64 x.f, .int .i64 x.t]) := by rw [hx]; rfl
          have z3 : baseR (rs ++ [r]) = if x.f = 1 then x.t else 0 := by rw [hx]; rfl
          have hl2 : ((rs ++ [r]).map Run.enc).length = rs.length + 1 := by rw [List.length_map, hl1]
          rw [z3] at hv
          generalize (rs ++ [r]).map Run.enc = Q at *
          rw [hl1] at hql
          cases h2 : x.f == 1 with
          | true =>
            have h2' : x.f = 1 := by simpa using h2
            rw [if_pos h2'] at hv
            simp -implicitDefEqProofs (maxSteps := 600000) (disch := (first | omega | decide)) only [go_sem, ↓reduceIte, Nat.reduceEqDiff, reduceCtorEq, Nat.reduceAdd, Nat.reduceSub, Nat.reduceMul, Nat.reduceLeDiff, Nat.reduceLT, Nat.reduceBEq, Nat.reduceBNe, Int.reduceLE, Int.reduceLT, Int.reduceBEq, Int.reduceBNe, Int.reduceEq, Int.reduceNe, Int.reduceAdd, Int.reduceSub, Int.reduceMul, Int.reduceNeg, Int.reduceToNat, hlt', c1, c2, c3, c4, z1, z2, hl2, h2, hr, ho, hM, hv, w1, hle, wrap_i64, List.length_map]
            exact next
          | false =>
            have h2' : x.f ≠ 1 := by simpa using h2
            rw [if_neg h2'] at hv
            simp -implicitDefEqProofs (maxSteps := 600000) (disch := (first | omega | decide)) only [go_sem, ↓reduceIte, Nat.reduceEqDiff, reduceCtorEq, Nat.reduceAdd, Nat.reduceSub, Nat.reduceMul, Nat.reduceLeDiff, Nat.reduceLT, Nat.reduceBEq, Nat.reduceBNe, Int.reduceLE, Int.reduceLT, Int.reduceBEq, Int.reduceBNe, Int.reduceEq, Int.reduceNe, Int.reduceAdd, Int.reduceSub, Int.reduceMul, Int.reduceNeg, Int.reduceToNat, hlt', c1, c2, c3, c4, z1, z2, hl2, h2, hr, ho, hM, hv, w1, hle, wrap_i64, List.length_map]
            exact next
      · have hlt' : ¬ (k : Int) < 16 := by omega
        have hM := l_Most (n := n) s1
        by_cases n1 : 1 ≤ n
        · by_cases n2 : n ≤ 16
          · simp -implicitDefEqProofs (maxSteps := 600000) (disch := (first | omega | decide)) only [go_sem, ↓reduceIte, Nat.reduceEqDiff, reduceCtorEq, Nat.reduceAdd, Nat.reduceSub, Nat.reduceMul, Nat.reduceLeDiff, Nat.reduceLT, Nat.reduceBEq, Nat.reduceBNe, Int.reduceLE, Int.reduceLT, Int.reduceBEq, Int.reduceBNe, Int.reduceEq, Int.reduceNe, Int.reduceAdd, Int.reduceSub, Int.reduceMul, Int.reduceNeg, Int.reduceToNat, hlt', n1, n2, List.length_map]
          · rw [if_neg (by rw [repOK_iff]; omega)] at hM
            simp -implicitDefEqProofs (maxSteps := 600000) (disch := (first | omega | decide)) only [go_sem, ↓reduceIte, Nat.reduceEqDiff, reduceCtorEq, Nat.reduceAdd, Nat.reduceSub, Nat.reduceMul, Nat.reduceLeDiff, Nat.reduceLT, Nat.reduceBEq, Nat.reduceBNe, Int.reduceLE, Int.reduceLT, Int.reduceBEq, Int.reduceBNe, Int.reduceEq, Int.reduceNe, Int.reduceAdd, Int.reduceSub, Int.reduceMul, Int.reduceNeg, Int.reduceToNat, hlt', n1, n2, hM, List.length_map]
        · rw [if_neg (by rw [repOK_iff]; omega)] at hM
          simp -implicitDefEqProofs (maxSteps := 600000) (disch := (first | omega | decide)) only [go_sem, ↓reduceIte, Nat.reduceEqDiff, reduceCtorEq, Nat.reduceAdd, Nat.reduceSub, Nat.reduceMul, Nat.reduceLeDiff, Nat.reduceLT, Nat.reduceBEq, Nat.reduceBNe, Int.reduceLE, Int.reduceLT, Int.reduceBEq, Int.reduceBNe, Int.reduceEq, Int.reduceNe, Int.reduceAdd, Int.reduceSub, Int.reduceMul, Int.reduceNeg, Int.reduceToNat, hlt', n1, hM, List.length_map]
end Go.Proofs.Ytbnmicpgbcfooaa
namespace Go.Proofs.Ytbnmicpgbcfooaa
open Go.Abs
set_option linter.unusedSimpArgs false
set_option linter.unusedVariables false
set_option maxRecDepth 20000
set_option maxHeartbeats 8000000

theorem base_max {p q : Int → Bool} {l : List Run} (hl : rightL l = true) (hp : ∀ n, hasL13 l n = (p n || q n)) {a b : List Run} (ha : rightL a = true) (hb : rightL b = true) (pa : ∀ n, hasL13 a n = p n) (qb : ∀ n, hasL13 b n = q n) :
    baseR a ≤ baseR l ∧ baseR b ≤ baseR l := by
  obtain ⟨l0, l1, l2, l3⟩ := base_spec hl
  obtain ⟨a0, a1, a2, a3⟩ := base_spec ha
  obtain ⟨b0, b1, b2, b3⟩ := base_spec hb
  rw [hp, Bool.or_eq_false_iff, ← pa, ← qb] at l3
  constructor
  · rcases Int.lt_or_le (baseR l) (baseR a) with h | h
    · have := a2 (baseR l + 1) (by omega) (by omega)
      rw [l3.1] at this; cases this
    · exact h
  · rcases Int.lt_or_le (baseR l) (baseR b) with h | h
    · have := b2 (baseR l + 1) (by omega) (by omega)
      rw [l3.2] at this; cases this
    · exact h
theorem base_min {p q : Int → Bool} {l : List Run} (hl : rightL l = true) (hp : ∀ n, hasL13 l n = (p n && q n)) {a b : List Run} (ha : rightL a = true) (hb : rightL b = true) (pa : ∀ n, hasL13 a n = p n) (qb : ∀ n, hasL13 b n = q n) :
    baseR l = if baseR b < baseR a then baseR b else baseR a := by
  obtain ⟨l0, l1, l2, l3⟩ := base_spec hl
  obtain ⟨a0, a1, a2, a3⟩ := base_spec ha
  obtain ⟨b0, b1, b2, b3⟩ := base_spec hb
  have h1 : baseR l ≤ baseR a := by
    rcases Int.lt_or_le (baseR a) (baseR l) with h | h
    · have := l2 (baseR a + 1) (by omega) (by omega)
      rw [hp, ← pa, a3] at this; simp at this
    · exact h
  have h2 : baseR l ≤ baseR b := by
    rcases Int.lt_or_le (baseR b) (baseR l) with h | h
    · have := l2 (baseR b + 1) (by omega) (by omega)
      rw [hp, ← qb, b3] at this; simp at this
    · exact h
  have h3 : ¬ (baseR l < baseR a ∧ baseR l < baseR b) := by
    rintro ⟨h3, h4⟩
    have e1 := a2 (baseR l + 1) (by omega) (by omega)
    have e2 := b2 (baseR l + 1) (by omega) (by omega)
    rw [hp, ← pa, ← qb, e1, e2] at l3; cases l3
  split <;> omega
theorem baseV_eq {s : List Known} {k : Nat} (h : k < 16) : ∃ l, rightL l = true ∧ (∀ c, hasL13 l c = hk s ((k : Int) + 1) c) ∧ baseV s k = baseR l := ⟨_, setR_right _, fun c => setR_has (isR_has _) c, rfl⟩
theorem baseV_max {a b : List Known} {k : Nat} (h : k < 16) : ¬ baseV (opK 1 a b) k < (if baseV b k > baseV a k then baseV b k else baseV a k) := by
  have hr : repOK ((k : Int) + 1) = true := repOK_iff.2 (by omega)
  obtain ⟨l, l1, l2, l3⟩ := baseV_eq (s := opK 1 a b) h
  obtain ⟨x, x1, x2, x3⟩ := baseV_eq (s := a) h
  obtain ⟨y, y1, y2, y3⟩ := baseV_eq (s := b) h
  have := base_max (p := hk a ((k : Int) + 1)) (q := hk b ((k : Int) + 1)) l1 (fun n => by rw [l2, hk_op hr]; rfl) x1 y1 x2 y2
  rw [l3, x3, y3]
  split <;> omega
theorem baseV_min {a b : List Known} {k : Nat} (h : k < 16) : baseV (opK 2 a b) k = (if baseV b k < baseV a k then baseV b k else baseV a k) := by
  have hr : repOK ((k : Int) + 1) = true := repOK_iff.2 (by omega)
  obtain ⟨l, l1, l2, l3⟩ := baseV_eq (s := opK 2 a b) h
  obtain ⟨x, x1, x2, x3⟩ := baseV_eq (s := a) h
  obtain ⟨y, y1, y2, y3⟩ := baseV_eq (s := b) h
  have := base_min (p := hk a ((k : Int) + 1)) (q := hk b ((k : Int) + 1)) l1 (fun n => by rw [l2, hk_op hr]; rfl) x1 y1 x2 y2
  rw [l3, x3, y3]
  exact this
theorem law_parts {a b : List Known} : opK 1 (opK 3 a b) (opK 2 a b) = ofK a := opK_of_eq fun n hn c => by
  rw [hk_op hn, hk_op hn]
  cases hk a n c <;> cases hk b n c <;> rfl
theorem law_join {a b : List Known} : opK 1 (opK 3 a b) b = opK 1 a b := opK_eq fun n hn c => by
  rw [hk_op hn]
  cases hk a n c <;> cases hk b n c <;> rfl
theorem law_apart {a b : List Known} : opK 2 (opK 3 a b) b = [] := opK_none fun n hn c => by
  rw [hk_op hn]
  cases hk a n c <;> cases hk b n c <;> rfl
theorem law_comm {a b : List Known} : opK 1 b a = opK 1 a b := opK_eq fun n hn c => by
  cases hk a n c <;> cases hk b n c <;> rfl
theorem law_in {a b : List Known} : opK 3 (opK 2 a b) a = [] := opK_none fun n hn c => by
  rw [hk_op hn]
  cases hk a n c <;> cases hk b n c <;> rfl
theorem law_of {a b : List Known} : opK 3 a (opK 1 a b) = [] := opK_none fun n hn c => by
  rw [hk_op hn]
  cases hk a n c <;> cases hk b n c <;> rfl
theorem ok_law14_VsetLaws : codeOK Try.prog L14g Try.f6.ntmps (Try.f6.body.getD .skip) = true := by kernel_rfl
theorem c_law14_VsetLaws (a b : List Known) (ha : a.length ≤ 9223372036854775807) (hb : b.length ≤ 9223372036854775807) : CallA Try.prog 6 [.slc (a.map Known.enc), .slc (b.map Known.enc)] (· = .bool true) := by
  refine callA_of_body L14g_ok mixed Try.func6 rfl (Nat.le_of_ble_eq_true rfl) ok_law14_VsetLaws ?_
  unfold Try.f6
  have h0 := k_ref14_Long (m := 10) ha
  have h0' := k_ref14_Long (m := 10) hb
  cases h1 : longK a 10 with
  | true => simp -implicitDefEqProofs (maxSteps := 600000) (disch := (first | omega | decide)) only [go_sem, ↓reduceIte, Nat.reduceEqDiff, reduceCtorEq, Nat.reduceAdd, Nat.reduceSub, Nat.reduceMul, Nat.reduceLeDiff, Nat.reduceLT, Nat.reduceBEq, Nat.reduceBNe, Int.reduceLE, Int.reduceLT, Int.reduceBEq, Int.reduceBNe, Int.reduceEq, Int.reduceNe, Int.reduceAdd, Int.reduceSub, Int.reduceMul, Int.reduceNeg, Int.reduceToNat, h0, h1]
  | false =>
    cases h2 : longK b 10 with
    | true => simp -implicitDefEqProofs (maxSteps := 600000) (disch := (first | omega | decide)) only [go_sem, ↓reduceIte, Nat.reduceEqDiff, reduceCtorEq, Nat.reduceAdd, Nat.reduceSub, Nat.reduceMul, Nat.reduceLeDiff, Nat.reduceLT, Nat.reduceBEq, Nat.reduceBNe, Int.reduceLE, Int.reduceLT, Int.reduceBEq, Int.reduceBNe, Int.reduceEq, Int.reduceNe, Int.reduceAdd, Int.reduceSub, Int.reduceMul, Int.reduceNeg, Int.reduceToNat, h0, h0', h1, h2]
    | false =>
      have sa := long_small (m := 10) h1
      have sb := long_small (m := 10) h2
      obtain ⟨a1, a2, a3⟩ := small_256 (s := a) (by omega)
      obtain ⟨b1, b2, b3⟩ := small_256 (s := b) (by omega)
      have u1 := opK_small (op := 1) (B := 100) (by omega) sa.2 sb.2
      have u2 := opK_small (op := 2) (B := 100) (by omega) sa.2 sb.2
      have u3 := opK_small (op := 3) (B := 100) (by omega) sa.2 sb.2
      have u4 : smallK (opK 1 a b) := u1
      have f1 := k_vset_Union a1 b1
      have f2 := k_vset_Meet a1 b1
      have f3 := k_vset_Less a1 b1
      have v1 := l_Vector a1
      have v2 := l_Vector b1
      have v3 := l_Vector u1
      have v4 := l_Vector u2
      have t1 := vecC_len (baseV a) 16
      have t2 := vecC_len (baseV b) 16
      have t3 := vecC_len (baseV (opK 1 a b)) 16
      have t4 := vecC_len (baseV (opK 2 a b)) 16
      have hle := fun m (s : List Known) => leL_self (vec_mem m (baseV s) 16).2.2
      have w1 : ∀ x : Int, (x == x) = true := fun x => by simp
      simp -implicitDefEqProofs (maxSteps := 600000) (disch := (first | omega | decide)) only [go_sem, ↓reduceIte, Nat.reduceEqDiff, reduceCtorEq, Nat.reduceAdd, Nat.reduceSub, Nat.reduceMul, Nat.reduceLeDiff, Nat.reduceLT, Nat.reduceBEq, Nat.reduceBNe, Int.reduceLE, Int.reduceLT, Int.reduceBEq, Int.reduceBNe, Int.reduceEq, Int.reduceNe, Int.reduceAdd, Int.reduceSub, Int.reduceMul, Int.reduceNeg, Int.reduceToNat, h0, h0', h1, h2, f1, f2, f3, v1, v2, v3, v4, t1, t2, t3, t4]
      refine wpA_loop [0, 1, 5, 6, 7, 8, 9, 10, 11] (ι := {k : Nat // k ≤ 16}) (fun p => [(12, .int .i64 p.1)]) (fun _ => []) (fun p => 16 - p.1) ⟨0, by omega⟩ (Nat.zero_le _) ?_ ?_
      · simp -implicitDefEqProofs (maxSteps := 600000) (disch := (first | omega | decide)) only [go_sem, ↓reduceIte, Nat.reduceEqDiff, reduceCtorEq, Nat.reduceAdd, Nat.reduceSub, Nat.reduceMul, Nat.reduceLeDiff, Nat.reduceLT, Nat.reduceBEq, Nat.reduceBNe, Int.reduceLE, Int.reduceLT, Int.reduceBEq, Int.reduceBNe, Int.reduceEq, Int.reduceNe, Int.reduceAdd, Int.reduceSub, Int.reduceMul, Int.reduceNeg, Int.reduceToNat, hle]
      · rintro ⟨k, hk⟩
        simp only
        by_cases hlt : k < 16
        · have hlt' : (k : Int) < 16 := by omega
          have c1 : (0 : Int) ≤ (k : Int) := by omega
          have g1 := vec_head (f := baseV a) hlt
          have g2 := vec_head (f := baseV b) hlt
          have g3 := vec_head (f := baseV (opK 1 a b)) hlt
          have g4 := vec_head (f := baseV (opK 2 a b)) hlt
          have m1 := baseV_max (a := a) (b := b) hlt
          have m2 := baseV_min (a := a) (b := b) hlt
          rw [m2] at g4
          simp -implicitDefEqProofs (maxSteps := 600000) (disch := (first | omega | decide)) only [go_sem, ↓reduceIte, Nat.reduceEqDiff, reduceCtorEq, Nat.reduceAdd, Nat.reduceSub, Nat.reduceMul, Nat.reduceLeDiff, Nat.reduceLT, Nat.reduceBEq, Nat.reduceBNe, Int.reduceLE, Int.reduceLT, Int.reduceBEq, Int.reduceBNe, Int.reduceEq, Int.reduceNe, Int.reduceAdd, Int.reduceSub, Int.reduceMul, Int.reduceNeg, Int.reduceToNat, hlt', c1, g1, g2, g3, g4, m1, w1, hle, wrap_i64]
          exact ⟨⟨k + 1, by omega⟩, by simp, by show 16 - (k + 1) < 16 - k; omega⟩
        · have hlt' : ¬ (k : Int) < 16 := by omega
          have e1 := k_vset_Union u3 u2
          rw [law_parts] at e1
          have e2 := k_vset_Of a1
          have e3 := k_ref14_Same a3 a3
          have e4 := k_vset_Union u3 b1
          rw [law_join] at e4
          have e5 := k_ref14_Same u1 u1
          have e6 := k_vset_Meet u3 b1
          rw [law_apart] at e6
          have e7 := k_vset_Union b1 a1
          rw [law_comm] at e7
          have e8 := l_Within u2 a1
          rw [law_in] at e8
          have e9 := l_Within a1 u1
          rw [law_of] at e9
          rw [sameK_self] at e3 e5
          simp only [List.map_nil, List.length_nil] at e6 e8 e9
          simp -implicitDefEqProofs (maxSteps := 600000) (disch := (first | omega | decide)) only [go_sem, ↓reduceIte, Nat.reduceEqDiff, reduceCtorEq, Nat.reduceAdd, Nat.reduceSub, Nat.reduceMul, Nat.reduceLeDiff, Nat.reduceLT, Nat.reduceBEq, Nat.reduceBNe, Int.reduceLE, Int.reduceLT, Int.reduceBEq, Int.reduceBNe, Int.reduceEq, Int.reduceNe, Int.reduceAdd, Int.reduceSub, Int.reduceMul, Int.reduceNeg, Int.reduceToNat, hlt', e1, e2, e3, e4, e5, e6, e7, e8, e9, List.length_nil, List.map_nil, beq_self_eq_true]
end Go.Proofs.Ytbnmicpgbcfooaa
