/- What the laws of this claim rest on: the abstract executor, its soundness, and what the functions compute on pure data. No condition. -/
import Derived.Test.YtbnmicpgbcfooaaGreatU8
set_option linter.unusedVariables false
set_option linter.unusedSimpArgs false
namespace Go.Proofs.YtbnmicpgbcfooaaGreat
open Go.Abs
set_option linter.unusedSimpArgs false
set_option linter.unusedVariables false
set_option maxRecDepth 20000
set_option maxHeartbeats 16000000
noncomputable def L15a : Tab := P17i.add 19 (entry (fun (a : List Pc) => [.slc (a.map Pc.enc)]) (fun a => okR a ∧ a.length ≤ 500) (fun a => .slc ((setP (whatP 1 a [] [])).map Pc.enc)))
theorem L15a_ok : TabOK Tryz.prog L15a := P17i_ok.add (callable_of Tryz.func19 (by kernel_rfl) (by kernel_rfl)) (entry_ok fun a h => c_ref15_Of a h.1 h.2)
@[go_sem] theorem L15a_old {g : FuncId} {xs : List A} (h : g ≠ 19) : L15a.f g xs = P17i.f g xs := Tab.add_ne h
theorem L15a_ref15_Of (a : List Pc) (h : okR a ∧ a.length ≤ 500) : L15a.f 19 [.slc (a.map Pc.enc)] = some (.slc ((setP (whatP 1 a [] [])).map Pc.enc)) :=
  (Tab.add_eq : L15a.f 19 [.slc (a.map Pc.enc)] = (entry (fun (a : List Pc) => [.slc (a.map Pc.enc)]) (fun a => okR a ∧ a.length ≤ 500) (fun a => .slc ((setP (whatP 1 a [] [])).map Pc.enc))) [.slc (a.map Pc.enc)]).trans (entry_eq (fun i j h => by first | (cases i; cases j; rfl; done) | simpa [Prod.ext_iff, and_assoc] using h | (simp at h; omega)) a h)
noncomputable def L15b : Tab := L15a.add 23 (entry (fun (v : List Pc × List Pc) => [.slc (v.1.map Pc.enc), .slc (v.2.map Pc.enc)]) (fun v => (okR v.1 ∧ okR v.2) ∧ v.1.length ≤ 500 ∧ v.2.length ≤ 500) (fun v => .slc ((setP (whatP 1 v.1 v.2 [])).map Pc.enc)))
theorem L15b_ok : TabOK Tryz.prog L15b := L15a_ok.add (callable_of Tryz.func23 (by kernel_rfl) (by kernel_rfl)) (entry_ok fun v h => c_ref15_Join v.1 v.2 h.1.1 h.1.2 h.2.1 h.2.2)
@[go_sem] theorem L15b_old {g : FuncId} {xs : List A} (h : g ≠ 23) : L15b.f g xs = L15a.f g xs := Tab.add_ne h
theorem L15b_ref15_Join (v : List Pc × List Pc) (h : (okR v.1 ∧ okR v.2) ∧ v.1.length ≤ 500 ∧ v.2.length ≤ 500) : L15b.f 23 [.slc (v.1.map Pc.enc), .slc (v.2.map Pc.enc)] = some (.slc ((setP (whatP 1 v.1 v.2 [])).map Pc.enc)) :=
  (Tab.add_eq : L15b.f 23 [.slc (v.1.map Pc.enc), .slc (v.2.map Pc.enc)] = (entry (fun (v : List Pc × List Pc) => [.slc (v.1.map Pc.enc), .slc (v.2.map Pc.enc)]) (fun v => (okR v.1 ∧ okR v.2) ∧ v.1.length ≤ 500 ∧ v.2.length ≤ 500) (fun v => .slc ((setP (whatP 1 v.1 v.2 [])).map Pc.enc))) [.slc (v.1.map Pc.enc), .slc (v.2.map Pc.enc)]).trans (entry_eq (fun i j h => by first | (cases i; cases j; rfl; done) | simpa [Prod.ext_iff, and_assoc] using h | (simp at h; omega)) v h)
noncomputable def L15c : Tab := L15b.add 28 (entry (fun (v : List Pc × List Pc) => [.slc (v.1.map Pc.enc), .slc (v.2.map Pc.enc)]) (fun v => (okR v.1 ∧ okR v.2) ∧ v.1.length ≤ 500 ∧ v.2.length ≤ 500) (fun v => .slc ((setP (whatP 2 v.1 v.2 [])).map Pc.enc)))
theorem L15c_ok : TabOK Tryz.prog L15c := L15b_ok.add (callable_of Tryz.func28 (by kernel_rfl) (by kernel_rfl)) (entry_ok fun v h => c_ref15_Less v.1 v.2 h.1.1 h.1.2 h.2.1 h.2.2)
@[go_sem] theorem L15c_old {g : FuncId} {xs : List A} (h : g ≠ 28) : L15c.f g xs = L15b.f g xs := Tab.add_ne h
theorem L15c_ref15_Less (v : List Pc × List Pc) (h : (okR v.1 ∧ okR v.2) ∧ v.1.length ≤ 500 ∧ v.2.length ≤ 500) : L15c.f 28 [.slc (v.1.map Pc.enc), .slc (v.2.map Pc.enc)] = some (.slc ((setP (whatP 2 v.1 v.2 [])).map Pc.enc)) :=
  (Tab.add_eq : L15c.f 28 [.slc (v.1.map Pc.enc), .slc (v.2.map Pc.enc)] = (entry (fun (v : List Pc × List Pc) => [.slc (v.1.map Pc.enc), .slc (v.2.map Pc.enc)]) (fun v => (okR v.1 ∧ okR v.2) ∧ v.1.length ≤ 500 ∧ v.2.length ≤ 500) (fun v => .slc ((setP (whatP 2 v.1 v.2 [])).map Pc.enc))) [.slc (v.1.map Pc.enc), .slc (v.2.map Pc.enc)]).trans (entry_eq (fun i j h => by first | (cases i; cases j; rfl; done) | simpa [Prod.ext_iff, and_assoc] using h | (simp at h; omega)) v h)
noncomputable def L15d : Tab := L15c.add 32 (entry (fun (v : List Pc × List Rng) => [.slc (v.1.map Pc.enc), .slc (v.2.map Rng.enc)]) (fun v => (okR v.1 ∧ okL v.2) ∧ v.1.length ≤ 500 ∧ v.2.length ≤ 500) (fun v => .slc ((setP (whatP 3 v.1 [] v.2)).map Pc.enc)))
theorem L15d_ok : TabOK Tryz.prog L15d := L15c_ok.add (callable_of Tryz.func32 (by kernel_rfl) (by kernel_rfl)) (entry_ok fun v h => c_ref15_Restrict v.1 v.2 h.1.1 h.2.1 h.2.2 h.1.2)
@[go_sem] theorem L15d_old {g : FuncId} {xs : List A} (h : g ≠ 32) : L15d.f g xs = L15c.f g xs := Tab.add_ne h
theorem L15d_ref15_Restrict (v : List Pc × List Rng) (h : (okR v.1 ∧ okL v.2) ∧ v.1.length ≤ 500 ∧ v.2.length ≤ 500) : L15d.f 32 [.slc (v.1.map Pc.enc), .slc (v.2.map Rng.enc)] = some (.slc ((setP (whatP 3 v.1 [] v.2)).map Pc.enc)) :=
  (Tab.add_eq : L15d.f 32 [.slc (v.1.map Pc.enc), .slc (v.2.map Rng.enc)] = (entry (fun (v : List Pc × List Rng) => [.slc (v.1.map Pc.enc), .slc (v.2.map Rng.enc)]) (fun v => (okR v.1 ∧ okL v.2) ∧ v.1.length ≤ 500 ∧ v.2.length ≤ 500) (fun v => .slc ((setP (whatP 3 v.1 [] v.2)).map Pc.enc))) [.slc (v.1.map Pc.enc), .slc (v.2.map Rng.enc)]).trans (entry_eq (fun i j h => by first | (cases i; cases j; rfl; done) | simpa [Prod.ext_iff, and_assoc] using h | (simp at h; omega)) v h)
noncomputable def L15e : Tab := L15d.add 24 (entry (fun (v : List UInt8 × List Ver) => [.str v.1, .slc (v.2.map Ver.enc)]) (fun v => v.1.length ≤ 9223372036854775807 ∧ v.2.length ≤ 50000) (fun v => .slc ((oneP v.1 v.2).map Pc.enc)))
theorem L15e_ok : TabOK Tryz.prog L15e := L15d_ok.add (callable_of Tryz.func24 (by kernel_rfl) (by kernel_rfl)) (entry_ok fun v h => c_ref15_One v.1 v.2 h.1 h.2)
@[go_sem] theorem L15e_old {g : FuncId} {xs : List A} (h : g ≠ 24) : L15e.f g xs = L15d.f g xs := Tab.add_ne h
theorem L15e_ref15_One (v : List UInt8 × List Ver) (h : v.1.length ≤ 9223372036854775807 ∧ v.2.length ≤ 50000) : L15e.f 24 [.str v.1, .slc (v.2.map Ver.enc)] = some (.slc ((oneP v.1 v.2).map Pc.enc)) :=
  (Tab.add_eq : L15e.f 24 [.str v.1, .slc (v.2.map Ver.enc)] = (entry (fun (v : List UInt8 × List Ver) => [.str v.1, .slc (v.2.map Ver.enc)]) (fun v => v.1.length ≤ 9223372036854775807 ∧ v.2.length ≤ 50000) (fun v => .slc ((oneP v.1 v.2).map Pc.enc))) [.str v.1, .slc (v.2.map Ver.enc)]).trans (entry_eq (fun i j h => by first | (cases i; cases j; rfl; done) | simpa [Prod.ext_iff, and_assoc] using h | (simp at h; omega)) v h)
noncomputable def L15f : Tab := L15e.add 22 (entry (fun (v : List Pc × List UInt8 × List Ver) => [.slc (v.1.map Pc.enc), .str v.2.1, .slc (v.2.2.map Ver.enc)]) (fun v => (okP v.1 ∧ okP (v.1 ++ oneP v.2.1 v.2.2)) ∧ v.2.1.length ≤ 9223372036854775807 ∧ v.2.2.length ≤ 50000) (fun v => .slc ((setP (atP (v.1 ++ oneP v.2.1 v.2.2))).map Pc.enc)))
theorem L15f_ok : TabOK Tryz.prog L15f := L15e_ok.add (callable_of Tryz.func22 (by kernel_rfl) (by kernel_rfl)) (entry_ok fun v h => c_know_Add v.1 v.2.1 v.2.2 h.1.1 h.2.1 h.2.2 h.1.2)
@[go_sem] theorem L15f_old {g : FuncId} {xs : List A} (h : g ≠ 22) : L15f.f g xs = L15e.f g xs := Tab.add_ne h
@[go_sem] theorem L15f_eff {g : FuncId} : L15f.eff g = false := rfl
@[go_sem] theorem L15f_ords {n : Nat} : L15f.ords n = [] := rfl
theorem L15f_know_Add (v : List Pc × List UInt8 × List Ver) (h : (okP v.1 ∧ okP (v.1 ++ oneP v.2.1 v.2.2)) ∧ v.2.1.length ≤ 9223372036854775807 ∧ v.2.2.length ≤ 50000) : L15f.f 22 [.slc (v.1.map Pc.enc), .str v.2.1, .slc (v.2.2.map Ver.enc)] = some (.slc ((setP (atP (v.1 ++ oneP v.2.1 v.2.2))).map Pc.enc)) :=
  (Tab.add_eq : L15f.f 22 [.slc (v.1.map Pc.enc), .str v.2.1, .slc (v.2.2.map Ver.enc)] = (entry (fun (v : List Pc × List UInt8 × List Ver) => [.slc (v.1.map Pc.enc), .str v.2.1, .slc (v.2.2.map Ver.enc)]) (fun v => (okP v.1 ∧ okP (v.1 ++ oneP v.2.1 v.2.2)) ∧ v.2.1.length ≤ 9223372036854775807 ∧ v.2.2.length ≤ 50000) (fun v => .slc ((setP (atP (v.1 ++ oneP v.2.1 v.2.2))).map Pc.enc))) [.slc (v.1.map Pc.enc), .str v.2.1, .slc (v.2.2.map Ver.enc)]).trans (entry_eq (fun i j h => by first | (cases i; cases j; rfl; done) | simpa [Prod.ext_iff, and_assoc] using h | (simp at h; omega)) v h)
theorem q_Of {a : List Pc} (h : okR a) (hl : a.length ≤ 500) : L15a.f 19 [.slc (a.map Pc.enc)] = some (.slc ((setP (atP a)).map Pc.enc)) := by
  have := L15a_ref15_Of a ⟨h, hl⟩
  rw [what_of] at this; exact this
theorem q_Join {a b : List Pc} (ha : okR a) (hb : okR b) (hl : a.length ≤ 500 ∧ b.length ≤ 500) : L15b.f 23 [.slc (a.map Pc.enc), .slc (b.map Pc.enc)] = some (.slc ((setP (atP (a ++ b))).map Pc.enc)) := by
  have := L15b_ref15_Join (a, b) ⟨⟨ha, hb⟩, hl⟩
  simp only [what_join] at this; exact this
theorem q_Less {a b : List Pc} (ha : okR a) (hb : okR b) (hl : a.length ≤ 500 ∧ b.length ≤ 500) : L15c.f 28 [.slc (a.map Pc.enc), .slc (b.map Pc.enc)] = some (.slc ((setP (lessP a b)).map Pc.enc)) := by
  have := L15c_ref15_Less (a, b) ⟨⟨ha, hb⟩, hl⟩
  simp only [what_less] at this; exact this
theorem q_Restrict {a : List Pc} {l : List Rng} (ha : okR a) (ho : okL l) (hl : a.length ≤ 500 ∧ l.length ≤ 500) : L15d.f 32 [.slc (a.map Pc.enc), .slc (l.map Rng.enc)] = some (.slc ((setP (restP a l)).map Pc.enc)) := by
  have := L15d_ref15_Restrict (a, l) ⟨⟨ha, ho⟩, hl⟩
  simp only [what_rest] at this; exact this
theorem q_One {x : List UInt8} {l : List Ver} (hx : x.length ≤ 9223372036854775807) (hl : l.length ≤ 50000) : L15e.f 24 [.str x, .slc (l.map Ver.enc)] = some (.slc ((oneP x l).map Pc.enc)) := L15e_ref15_One (x, l) ⟨hx, hl⟩
theorem q_Add {k : List Pc} {x : List UInt8} {l : List Ver} (hk : okP k) (hk' : okP (k ++ oneP x l)) (hx : x.length ≤ 9223372036854775807) (hl : l.length ≤ 50000) : L15f.f 22 [.slc (k.map Pc.enc), .str x, .slc (l.map Ver.enc)] = some (.slc ((setP (atP (k ++ oneP x l))).map Pc.enc)) := L15f_know_Add (k, x, l) ⟨⟨hk, hk'⟩, hx, hl⟩
theorem sameP_self (k : List Pc) : sameP k k = true := by simp [sameP]
def set13 : List Known := [⟨1, [⟨1, 3⟩]⟩]
def set14 : List Known := [⟨1, [⟨1, 4⟩]⟩]
def aw : List Pc := [⟨⟨[], [97], false⟩, set13⟩, ⟨⟨[97], [97, 0], false⟩, set14⟩, ⟨⟨[97, 0], [], true⟩, set13⟩]
theorem aw_right : rightP aw = true := by decide
theorem aw_all : setS (hasRs [⟨[], [], true⟩]) = [⟨[], [], true⟩] := setS_self (by decide)
theorem aw_one : oneP [97] [⟨1, 4⟩] = [⟨⟨[97], [97, 0], false⟩, [⟨1, [⟨4, 4⟩]⟩]⟩] := by
  have e : oneS [⟨1, 4⟩] = [⟨1, [⟨4, 4⟩]⟩] := by decide
  have e2 : ofK [⟨1, [⟨4, 4⟩]⟩] = [⟨1, [⟨4, 4⟩]⟩] := ofK_self (by decide)
  unfold oneP
  rw [e, e2, if_pos (by decide)]; rfl
theorem aw_at : atP ([⟨⟨[], [], true⟩, set13⟩] ++ [⟨⟨[97], [97, 0], false⟩, [⟨1, [⟨4, 4⟩]⟩]⟩]) = atP aw := by
  funext x
  have hn : ∀ y : List UInt8, ltB y [] = false := nil_low
  have h0 : hasR ⟨[], [], true⟩ x = true := by unfold hasR; rw [hn]; rfl
  have r1 : hasR ⟨[97], [97, 0], false⟩ x = (!ltB x [97] && ltB x [97, 0]) := by unfold hasR; simp [show rightR ⟨[97], [97, 0], false⟩ = true by decide]
  have r2 : hasR ⟨[], [97], false⟩ x = ltB x [97] := by unfold hasR; rw [hn]; simp [show rightR ⟨[], [97], false⟩ = true by decide]
  have r3 : hasR ⟨[97, 0], [], true⟩ x = !ltB x [97, 0] := by unfold hasR; simp [show rightR ⟨[97, 0], [], true⟩ = true by decide]
  have hlt : ltB [97] [97, 0] = true := by decide
  unfold atP
  refine ofK_eq_iff.2 fun n hn c => ?_
  have key : hasL13 ([⟨1, 3⟩] ++ [⟨4, 4⟩]) c = hasL13 [⟨1, 4⟩] c := by
    rw [Bool.eq_iff_iff, has_iff, has_iff]
    simp [oneR]; omega
  cases a : ltB x [97] with
  | true =>
    have b : ltB x [97, 0] = true := lt_trans' a hlt
    simp [setAt, aw, h0, r1, r2, r3, a, b]
  | false =>
    cases b : ltB x [97, 0] with
    | true =>
      simp only [setAt, aw, h0, r1, r2, r3, a, b, List.cons_append, List.nil_append, List.filter_cons, List.filter_nil, if_true, Bool.not_false, Bool.not_true, Bool.and_self, Bool.false_eq_true, if_false, List.flatMap_cons, List.flatMap_nil, List.append_nil]
      unfold hk
      by_cases h1 : (1 : Int) = n
      · subst h1
        simp only [set13, set14, List.cons_append, List.nil_append, runsK, if_true, List.append_nil]
        exact key
      · simp only [set13, set14, List.cons_append, List.nil_append, runsK, h1, if_false]
    | false => simp [setAt, aw, h0, r1, r2, r3, a, b]
theorem wP_all {l : List Rng} {s : List Known} : wP (allP l s) = l.length * (s.length + sumK s) := by
  induction l with
  | nil => simp [allP, wP]
  | cons r l ih =>
    show wP (⟨r, s⟩ :: allP l s) = _
    rw [wP_cons, ih, List.length_cons, Nat.succ_mul]
    show s.length + sumK s + l.length * (s.length + sumK s) = _
    omega
theorem ok_law15_awake : codeOK Tryz.prog L15f Tryz.f8.ntmps (Tryz.f8.body.getD .skip) = true := by kernel_rfl
theorem c_law15_awake : CallA Tryz.prog 8 [] (· = .bool true) := by
  refine callA_of_body L15f_ok mixed Tryz.func8 rfl (Nat.le_of_ble_eq_true rfl) ok_law15_awake ?_
  unfold Tryz.f8
  have o1 : okL [(⟨[], [], true⟩ : Rng)] := fun r hr => by rcases List.mem_singleton.1 hr with rfl; exact ⟨Nat.zero_le _, Nat.zero_le _⟩
  have s13 : set13.length + sumK set13 = 2 := by decide
  have k0 : okP [(⟨⟨[], [], true⟩, set13⟩ : Pc)] := ⟨⟨by simp, by rw [wP_cons, s13]; simp [wP]⟩, fun p hp => by rcases List.mem_singleton.1 hp with rfl; exact ⟨Nat.zero_le _, Nat.zero_le _⟩⟩
  have h1 := p_All (l := [⟨[], [], true⟩]) (s := set13) (by simp) o1 (by rw [aw_all]; exact k0)
  rw [aw_all] at h1
  have e1 : allP [⟨[], [], true⟩] set13 = [⟨⟨[], [], true⟩, set13⟩] := rfl
  rw [e1, ofP_right (by decide)] at h1
  have k1 : okP ([⟨⟨[], [], true⟩, set13⟩] ++ oneP [97] [⟨1, 4⟩]) := by
    rw [aw_one]
    refine okP_append k0 ⟨⟨by simp, by decide⟩, fun p hp => by simp only [List.mem_singleton] at hp; subst hp; simp⟩ (by simp) (by decide)
  have h2 := q_Add (x := [97]) (l := [⟨1, 4⟩]) k0 k1 (by simp) (by simp)
  rw [aw_one, aw_at, ofP_right aw_right] at h2
  have k2 : okP aw := ⟨⟨by decide, by decide⟩, fun p hp => by
    simp only [aw, List.mem_cons, List.not_mem_nil, or_false] at hp
    rcases hp with rfl | rfl | rfl <;> simp⟩
  have h3 := p_Has (x := [97]) (n := 1) (c := 4) k2 (by simp)
  have h4 := p_Has (x := [98]) (n := 1) (c := 4) k2 (by simp)
  have h5 := p_Right k2
  rw [show hasP aw [97] 1 4 = true by decide] at h3
  rw [show hasP aw [98] 1 4 = false by decide] at h4
  rw [aw_right] at h5
  simp only [aw, set13, set14, List.map_cons, List.map_nil, Pc.enc_eq, Known.enc_eq, Run.enc_eq, Rng.enc_eq, Ver.enc_eq] at h1 h2 h3 h4 h5
  simp -implicitDefEqProofs (maxSteps := 600000) (disch := (first | omega | decide)) only [go_sem, ↓reduceIte, seval, h1, h2, h3, h4, h5]
  try trace_state
noncomputable def L15g : Tab := L15f.add 8 (entry (fun (u : Unit) => []) (fun u => True) (fun u => .bool true))
theorem L15g_ok : TabOK Tryz.prog L15g := L15f_ok.add (callable_of Tryz.func8 (by kernel_rfl) (by kernel_rfl)) (entry_ok fun u h => c_law15_awake)
@[go_sem] theorem L15g_old {g : FuncId} {xs : List A} (h : g ≠ 8) : L15g.f g xs = L15f.f g xs := Tab.add_ne h
@[go_sem] theorem L15g_eff {g : FuncId} : L15g.eff g = false := rfl
@[go_sem] theorem L15g_ords {n : Nat} : L15g.ords n = [] := rfl
theorem L15g_law15_awake (u : Unit) (h : True) : L15g.f 8 [] = some (.bool true) :=
  (Tab.add_eq : L15g.f 8 [] = (entry (fun (u : Unit) => []) (fun u => True) (fun u => .bool true)) []).trans (entry_eq (fun i j h => by first | (cases i; cases j; rfl; done) | simpa [Prod.ext_iff, and_assoc] using h | (simp at h; omega)) u h)
@[go_sem] theorem l_awake15 : L15g.f 8 [] = some (.bool true) := L15g_law15_awake () trivial
set_option maxHeartbeats 8000000
theorem c_ref08_Long2 (l : List Rng) (m : Int) (hl : l.length ≤ 9223372036854775807) : CallA Tryz.prog 20 [.slc (l.map Rng.enc), .int .i64 m] (· = .bool (longRs l m)) := by
  refine callA_of_body T07_ok mixed Tryz.func20 rfl (Nat.le_of_ble_eq_true rfl) ok_ref08_Long ?_
  unfold Tryz.f20
  by_cases h0 : m < (l.length : Int)
  · have hh : longRs l m = true := by simp [longRs, h0]
    simp -implicitDefEqProofs (maxSteps := 600000) (disch := (first | omega | decide)) only [go_sem, ↓reduceIte, seval, h0, hh, List.length_map]
  · have hh : longRs l m = l.any fun r => decide (40 < r.lo.length) || decide (40 < r.hi.length) := by simp [longRs, h0]
    simp -implicitDefEqProofs (maxSteps := 600000) (disch := (first | omega | decide)) only [go_sem, ↓reduceIte, seval, h0, List.length_map]
    rw [hh]
    refine wpA_loop [0] (ι := {k : Nat // k ≤ l.length ∧ (l.any fun r => decide (40 < r.lo.length) || decide (40 < r.hi.length)) = ((l.drop k).any fun r => decide (40 < r.lo.length) || decide (40 < r.hi.length))}) (fun p => [(5, .int .i64 p.1), (4, .bool false)]) (fun _ => []) (fun p => l.length - p.1) ⟨0, by omega, rfl⟩ (Nat.zero_le _) ?_ ?_
    · simp -implicitDefEqProofs (maxSteps := 600000) (disch := (first | omega | decide)) only [go_sem, ↓reduceIte, seval]
    · rintro ⟨k, hk, hd⟩
      simp only
      by_cases hlt : k < l.length
      · have hlt' : (k : Int) < (l.length : Int) := by omega
        have e1 := rng_get hlt
        rw [List.drop_eq_getElem_cons hlt, List.any_cons] at hd
        generalize hx : l[k] = x at *
        obtain ⟨lo, hi, op⟩ := x
        simp only at hd
        by_cases h1 : 40 < lo.length
        · have h1' : (40 : Int) < (lo.length : Int) := by omega
          rw [decide_eq_true h1, Bool.true_or, Bool.true_or] at hd
          simp -implicitDefEqProofs (maxSteps := 600000) (disch := (first | omega | decide)) only [go_sem, ↓reduceIte, seval, hlt', e1, h1', hd, wrap_i64, List.length_map]
        · have h1' : ¬ (40 : Int) < (lo.length : Int) := by omega
          by_cases h2 : 40 < hi.length
          · have h2' : (40 : Int) < (hi.length : Int) := by omega
            rw [decide_eq_true h2, Bool.or_true, Bool.true_or] at hd
            simp -implicitDefEqProofs (maxSteps := 600000) (disch := (first | omega | decide)) only [go_sem, ↓reduceIte, seval, hlt', e1, h1', h2', hd, wrap_i64, List.length_map]
          · have h2' : ¬ (40 : Int) < (hi.length : Int) := by omega
            rw [decide_eq_false h1, decide_eq_false h2, Bool.or_false, Bool.false_or] at hd
            simp -implicitDefEqProofs (maxSteps := 600000) (disch := (first | omega | decide)) only [go_sem, ↓reduceIte, seval, hlt', e1, h1', h2', wrap_i64, List.length_map]
            exact ⟨⟨k + 1, hlt, hd⟩, by simp, by show l.length - (k + 1) < l.length - k; omega⟩
      · have hlt' : ¬ (k : Int) < (l.length : Int) := by omega
        rw [List.drop_of_length_le (by omega)] at hd
        simp -implicitDefEqProofs (maxSteps := 600000) (disch := (first | omega | decide)) only [go_sem, ↓reduceIte, seval, hlt', hd, List.length_map]
theorem long_len {l : List Rng} {m : Int} (h : longRs l m = false) : ¬ m < (l.length : Int) := by
  unfold longRs at h
  simp only [Bool.or_eq_false_iff, decide_eq_false_iff_not] at h
  exact h.1
theorem setS_len2 (a b : List Rng) (kp : Bool → Bool → Bool) : (setS fun s => kp (hasRs a s) (hasRs b s)).length ≤ 1 + 2 * (a.length + b.length) := by
  rw [← (mk_of (kp := kp) (a := a) (b := b) (edgesS_up a b) (edgesS_nil a b) (edgesS_len17 a b) (fun r hr => edgesS_all a b r (by simp [hr])) (fun r hr => edgesS_all a b r (by simp [hr]))).1, List.length_reverse]
  have h1 := mkS_len (fun s => kp (hasRs a s) (hasRs b s)) (edgesS a b) ([], false)
  have h2 := edgesS_len a b
  have h3 : (mkS (fun s => kp (hasRs a s) (hasRs b s)) (edgesS a b)).1.length ≤ 0 + (edgesS a b).length := h1
  omega
theorem isS_not (a : List Rng) : IsS fun s => !hasRs a s := isS_kp (fun x _ => !x) a a
theorem isS_and (a b : List Rng) : IsS fun s => hasRs a s && hasRs b s := isS_kp (fun x y => x && y) a b
theorem len_and (a b : List Rng) : (setS fun s => hasRs a s && hasRs b s).length ≤ 1 + 2 * (a.length + b.length) := setS_len2 a b fun x y => x && y
theorem len_not (a : List Rng) : (setS fun s => !hasRs a s).length ≤ 1 + 4 * a.length := by
  have := setS_len2 a a fun x _ => !x
  omega
theorem fits_rng8 {x : List A} (h : fitsL [.str, .str, .bool] x) : ∃ r : Rng, x = [.str r.lo, .str r.hi, .bool r.op] ∧ r.ok := by
  have ml := maxLen_le
  simp only [fitsL, fits] at h
  obtain ⟨y1, z1, rfl, ⟨s1, rfl, h1⟩, y2, z2, rfl, ⟨s2, rfl, h2⟩, y3, z3, rfl, ⟨b, rfl⟩, rfl⟩ := h
  exact ⟨⟨s1, s2, b⟩, rfl, Nat.le_trans h1 ml, Nat.le_trans h2 ml⟩
theorem fits_rngs {x : A} (h : fits (.rows [.str, .str, .bool]) x) : ∃ l : List Rng, x = .slc (l.map Rng.enc) ∧ l.length ≤ maxLen ∧ okL l := by
  simp only [fits] at h
  obtain ⟨es, rfl, hl, he⟩ := h
  obtain ⟨l, rfl, hk⟩ := list_of (f := Rng.enc) (P := fun r => r.ok) (es := es) (fun e hx => by
    obtain ⟨ys, rfl, hy⟩ := he e hx
    obtain ⟨r, rfl, hr⟩ := fits_rng8 (by simpa only [fitsL, fits] using hy)
    exact ⟨r, rfl, hr⟩)
  exact ⟨l, rfl, by simpa using hl, hk⟩
set_option maxHeartbeats 16000000
noncomputable def L15h : Tab := L15g.add 20 (entry (fun (v : List Rng × Int) => [.slc (v.1.map Rng.enc), .int .i64 v.2]) (fun v => v.1.length ≤ 9223372036854775807) (fun v => .bool (longRs v.1 v.2)))
theorem L15h_ok : TabOK Tryz.prog L15h := L15g_ok.add (callable_of Tryz.func20 (by kernel_rfl) (by kernel_rfl)) (entry_ok fun v h => c_ref08_Long2 v.1 v.2 h)
@[go_sem] theorem L15h_old {g : FuncId} {xs : List A} (h : g ≠ 20) : L15h.f g xs = L15g.f g xs := Tab.add_ne h
@[go_sem] theorem L15h_eff {g : FuncId} : L15h.eff g = false := rfl
@[go_sem] theorem L15h_ords {n : Nat} : L15h.ords n = [] := rfl
theorem L15h_ref08_Long (v : List Rng × Int) (h : v.1.length ≤ 9223372036854775807) : L15h.f 20 [.slc (v.1.map Rng.enc), .int .i64 v.2] = some (.bool (longRs v.1 v.2)) :=
  (Tab.add_eq : L15h.f 20 [.slc (v.1.map Rng.enc), .int .i64 v.2] = (entry (fun (v : List Rng × Int) => [.slc (v.1.map Rng.enc), .int .i64 v.2]) (fun v => v.1.length ≤ 9223372036854775807) (fun v => .bool (longRs v.1 v.2))) [.slc (v.1.map Rng.enc), .int .i64 v.2]).trans (entry_eq (fun i j h => by first | (cases i; cases j; rfl; done) | simpa [Prod.ext_iff, and_assoc] using h | (simp at h; omega)) v h)
theorem q_rLong {l : List Rng} {m : Int} (h : l.length ≤ 9223372036854775807) : L15h.f 20 [.slc (l.map Rng.enc), .int .i64 m] = some (.bool (longRs l m)) := L15h_ref08_Long (l, m) h
theorem lenP {k : List Pc} : ((k.length : Int) == 0) = (k.length == 0) := by
  rw [Bool.eq_iff_iff, beq_iff_eq, beq_iff_eq]; omega
theorem small_le {l : List Known} {B : Nat} (h : l.length + sumK l ≤ B) (hB : B ≤ 1000000) : smallK l := ⟨by omega, by omega⟩
theorem less_in {a m : List Pc} (h : ∀ x n, repOK n = true → ∀ c, hk (setAt a x) n c = true → hk (setAt m x) n c = true) : lessP a m = fun _ => [] := by
  funext x; exact less_none.2 (h x)
theorem hk_setAt_join {a b : List Pc} {x : List UInt8} {n : Int} (hn : repOK n = true) (c : Int) : hk (setAt (setP (atP (a ++ b))) x) n c = (hk (setAt a x) n c || hk (setAt b x) n c) := by
  rw [setAt_setP (isP_at _), hk_atP hn, setAt_append, hk_append]
theorem ok_law15_KnowSame : codeOK Tryz.prog L15g Tryz.f5.ntmps (Tryz.f5.body.getD .skip) = true := by kernel_rfl
theorem c_law15_KnowSame (a b : List Pc) (ha : a.length ≤ 9223372036854775807) (hb : b.length ≤ 9223372036854775807) (ga : ∀ p ∈ a, p.s.length ≤ 9223372036854775807) (gb : ∀ p ∈ b, p.s.length ≤ 9223372036854775807) :
    CallA Tryz.prog 5 [.slc (a.map Pc.enc), .slc (b.map Pc.enc)] (· = .bool true) := by
  refine callA_of_body L15g_ok mixed Tryz.func5 rfl (Nat.le_of_ble_eq_true rfl) ok_law15_KnowSame ?_
  unfold Tryz.f5
  have h0 := p_rLong (m := 8) ha ga
  have h0' := p_rLong (m := 8) hb gb
  cases h1 : longP a 8 with
  | true => simp -implicitDefEqProofs (maxSteps := 600000) (disch := (first | omega | decide)) only [go_sem, ↓reduceIte, seval, h0, h1]
  | false =>
    cases h2 : longP b 8 with
    | true => simp -implicitDefEqProofs (maxSteps := 600000) (disch := (first | omega | decide)) only [go_sem, ↓reduceIte, seval, h0, h0', h1, h2]
    | false =>
      have sa := longP_small (m := 8) h1
      have sb := longP_small (m := 8) h2
      have ra := okR_of sa (by omega)
      have rb := okR_of sb (by omega)
      obtain ⟨sa1, sa2, sa3⟩ := sa
      obtain ⟨sb1, sb2, sb3⟩ := sb
      have oa := okP_at (k := a) (N := 8) (W := 2176) sa1 sa2 (by omega) (by omega)
      have ob := okP_at (k := b) (N := 8) (W := 2176) sb1 sb2 (by omega) (by omega)
      have hab : (a ++ b).length ≤ 16 ∧ wP (a ++ b) ≤ 4352 := by rw [List.length_append, wP_append]; omega
      have kab := okP_append ra.1 rb.1 (by omega) (by omega)
      have oj := okP_at (k := a ++ b) (N := 16) (W := 4352) hab.1 hab.2 (by omega) (by omega)
      have od := okP_less (a := a) (b := b) (N := 8) (M := 8) (W := 2176) (V := 2176) sa1 sb1 sa2 sb2 (by omega) (by omega)
      have sl : ∀ x, smallK (lessP a b x) := fun x => small_le (less_w x) (by omega)
      have sl' : ∀ x, smallK (lessP b a x) := fun x => small_le (less_w x) (by omega)
      have f1 := p_Same ra.1 rb.1 oa.1 ob.1
      have f2 := q_Of ra (by omega)
      have f3 := q_Of rb (by omega)
      have f4 := p_rSame oa.1 ob.1
      have f5 := p_Within ra.1 rb.1 sl
      have f6 := p_Within rb.1 ra.1 sl'
      have f7 := q_Less ra rb (by omega)
      rw [sameP_less] at f1 f4
      have hi := lenP (k := setP (lessP a b))
      have f8 := p_Join2 kab
      -- what is joined
      have ja : atP (setP (atP (a ++ b))) = atP (a ++ b) := atP_setP (isP_at _) (atP_right _)
      have ea : lessP a (setP (atP (a ++ b))) = fun _ => [] := less_in fun x n hn c h => by rw [hk_setAt_join hn, h]; rfl
      have eb : lessP b (setP (atP (a ++ b))) = fun _ => [] := less_in fun x n hn c h => by rw [hk_setAt_join hn, h, Bool.or_true]
      have en : setP (fun _ : List UInt8 => ([] : List Known)) = [] := setP_none fun _ => rfl
      have f9 := p_Within ra.1 oj.1 (by rw [ea]; exact fun _ => ⟨by simp, by simp [sumK]⟩)
      have f10 := p_Within rb.1 oj.1 (by rw [eb]; exact fun _ => ⟨by simp, by simp [sumK]⟩)
      rw [ea, en] at f9
      rw [eb, en] at f10
      have kba := okP_append rb.1 ra.1 (by omega) (by omega)
      have f11 := p_Join2 kba
      have eba : atP (b ++ a) = atP (a ++ b) := at_ext fun x n hn c => by rw [setAt_append, setAt_append, hk_append, hk_append, Bool.or_comm]
      rw [eba] at f11
      have f12 := p_Less ra.1 rb.1 sl
      have kdb : okP (setP (lessP a b) ++ b) := okP_append od.1 rb.1 (by omega) (by omega)
      have f13 := p_Join2 kdb
      have edb : atP (setP (lessP a b) ++ b) = atP (a ++ b) := at_ext fun x n hn c => by
        rw [setAt_append, setAt_append, hk_append, hk_append, setAt_setP (isP_less a b), hk_lessP hn]
        cases hk (setAt a x) n c <;> cases hk (setAt b x) n c <;> rfl
      rw [edb] at f13
      have f14 := p_Same oj.1 oj.1 (by rw [ja]; exact oj.1) (by rw [ja]; exact oj.1)
      rw [sameP_self] at f14
      cases x : (setP (lessP a b)).length == 0 <;> cases y : (setP (lessP b a)).length == 0 <;>
        (rw [x, y] at f1 f4
         rw [x] at f5 hi
         rw [y] at f6
         simp -implicitDefEqProofs (maxSteps := 600000) (disch := (first | omega | decide)) only [go_sem, ↓reduceIte, seval, h0, h0', h1, h2, f1, f2, f3, f4, f5, f6, f7, f8, f9, f10, f11, f12, f13, f14, hi, Bool.and_true, Bool.and_false, Bool.true_and, Bool.false_and, beq_self_eq_true, List.length_nil, List.length_map])
theorem ok_law15_KnowSets : codeOK Tryz.prog L15h Tryz.f6.ntmps (Tryz.f6.body.getD .skip) = true := by kernel_rfl
theorem c_law15_KnowSets (a b : List Pc) (l : List Rng) (ha : a.length ≤ 9223372036854775807) (hb : b.length ≤ 9223372036854775807) (ga : ∀ p ∈ a, p.s.length ≤ 9223372036854775807) (gb : ∀ p ∈ b, p.s.length ≤ 9223372036854775807) (hl : l.length ≤ 9223372036854775807) (ol : okL l) :
    CallA Tryz.prog 6 [.slc (a.map Pc.enc), .slc (b.map Pc.enc), .slc (l.map Rng.enc)] (· = .bool true) := by
  refine callA_of_body L15h_ok mixed Tryz.func6 rfl (Nat.le_of_ble_eq_true rfl) ok_law15_KnowSets ?_
  unfold Tryz.f6
  have h0 := p_rLong (m := 8) ha ga
  have h0' := p_rLong (m := 8) hb gb
  have h0'' := q_rLong (m := 8) hl
  cases h1 : longP a 8 with
  | true => simp -implicitDefEqProofs (maxSteps := 600000) (disch := (first | omega | decide)) only [go_sem, ↓reduceIte, seval, h0, h1]
  | false =>
    cases h2 : longP b 8 with
    | true => simp -implicitDefEqProofs (maxSteps := 600000) (disch := (first | omega | decide)) only [go_sem, ↓reduceIte, seval, h0, h0', h1, h2]
    | false =>
      cases h3 : longRs l 8 with
      | true => simp -implicitDefEqProofs (maxSteps := 600000) (disch := (first | omega | decide)) only [go_sem, ↓reduceIte, seval, h0, h0', h0'', h1, h2, h3]
      | false =>
        have hll := long_len h3
        have sa := longP_small (m := 8) h1
        have sb := longP_small (m := 8) h2
        have ra := okR_of sa (by omega)
        have rb := okR_of sb (by omega)
        obtain ⟨sa1, sa2, sa3⟩ := sa
        obtain ⟨sb1, sb2, sb3⟩ := sb
        have oa := okP_at (k := a) (N := 8) (W := 2176) sa1 sa2 (by omega) (by omega)
        have hab : (a ++ b).length ≤ 16 ∧ wP (a ++ b) ≤ 4352 := by rw [List.length_append, wP_append]; omega
        have kab := okP_append ra.1 rb.1 (by omega) (by omega)
        have oj := okP_at (k := a ++ b) (N := 16) (W := 4352) hab.1 hab.2 (by omega) (by omega)
        have od := okP_less (a := a) (b := b) (N := 8) (M := 8) (W := 2176) (V := 2176) sa1 sb1 sa2 sb2 (by omega) (by omega)
        have sl : ∀ x, smallK (lessP a b x) := fun x => small_le (less_w x) (by omega)
        have ow := (setS_okL l).2
        have orr := okP_rest (a := a) (l := setS (hasRs l)) (N := 8) (M := 8) (W := 2176) sa1 (by omega) sa2 (by omega) (by omega)
        rw [rest_set] at orr
        have f1 := p_Join2 kab
        have f2 := q_Join ra rb (by omega)
        have f3 := p_rSame oj.1 oj.1
        have f4 := p_Less ra.1 rb.1 sl
        have f5 := q_Less ra rb (by omega)
        have f6 := p_rSame od.1 od.1
        have f7 := p_Restrict (l := l) ra.1 (by omega) ol
        rw [rest_set] at f7
        have f8 := q_Restrict (l := l) ra ol (by omega)
        have f9 := p_rSame orr.1 orr.1
        have f10 := p_Join1 ra.1
        have f11 := q_Of ra (by omega)
        have f12 := p_rSame oa.1 oa.1
        have f13 := p_Join0
        have en : setP (atP []) = [] := setP_none fun x => mkT_nil fun n _ => setR_none fun c => rfl
        rw [en] at f13
        rw [sameP_self] at f3 f6 f9 f12
        simp only [List.map_nil] at f13
        simp -implicitDefEqProofs (maxSteps := 600000) (disch := (first | omega | decide)) only [go_sem, ↓reduceIte, seval, h0, h0', h0'', h1, h2, h3, f1, f2, f3, f4, f5, f6, f7, f8, f9, f10, f11, f12, f13, List.length_nil, List.map_nil, List.length_map, beq_self_eq_true]
theorem fits_pcs {x : A} (h : fits (.rows [.str, .str, .bool, .rows [.int .i64, .rows [.int .i64, .int .i64]]]) x) : ∃ l : List Pc, x = .slc (l.map Pc.enc) ∧ l.length ≤ maxLen ∧ ∀ p ∈ l, p.s.length ≤ maxLen := by
  simp only [fits] at h
  obtain ⟨es, rfl, hl, he⟩ := h
  obtain ⟨l, rfl, hk⟩ := list_of (f := Pc.enc) (P := fun p => p.s.length ≤ maxLen) (es := es) (fun e hx => by
    obtain ⟨ys, rfl, hy⟩ := he e hx
    simp only [fitsL] at hy
    obtain ⟨y1, z1, rfl, h1, y2, z2, rfl, h2, y3, z3, rfl, h3, y4, z4, rfl, h4, rfl⟩ := hy
    simp only [fits] at h1 h2 h3
    obtain ⟨s1, rfl, _⟩ := h1
    obtain ⟨s2, rfl, _⟩ := h2
    obtain ⟨b, rfl⟩ := h3
    obtain ⟨ks, rfl, hks, _⟩ := fits_knowns h4
    exact ⟨⟨⟨s1, s2, b⟩, ks⟩, rfl, hks⟩)
  exact ⟨l, rfl, by simpa using hl, hk⟩
noncomputable def G15 : Tab := { L15h with ords := fun n => if n = 7 then
  [[0,1,2,3,4,5,6,7,8,9,10,11,12,13,14], [0,1,2,3,4,5,6,7,8,9,10,12,11,13,14], [0,1,2,3,4,5,6,7,8,9,11,10,12,13,14], [0,1,2,3,4,5,6,7,8,9,11,12,10,13,14],
   [0,1,2,3,4,5,6,7,8,9,11,12,13,10,14], [0,1,2,3,4,5,6,7,8,9,12,10,11,13,14], [0,1,2,3,4,5,6,7,8,9,12,11,10,13,14], [0,1,2,3,4,5,6,7,8,9,12,11,13,10,14]] else [] }
theorem G15_ok : TabOK Tryz.prog G15 := ⟨L15h_ok.f, L15h_ok.hp⟩
@[go_sem] theorem G15_f : G15.f = L15h.f := rfl
@[go_sem] theorem G15_eff {g : FuncId} : G15.eff g = false := rfl
@[go_sem] theorem G15_ords7 : G15.ords 7 =
  [[0,1,2,3,4,5,6,7,8,9,10,11,12,13,14], [0,1,2,3,4,5,6,7,8,9,10,12,11,13,14], [0,1,2,3,4,5,6,7,8,9,11,10,12,13,14], [0,1,2,3,4,5,6,7,8,9,11,12,10,13,14],
   [0,1,2,3,4,5,6,7,8,9,11,12,13,10,14], [0,1,2,3,4,5,6,7,8,9,12,10,11,13,14], [0,1,2,3,4,5,6,7,8,9,12,11,10,13,14], [0,1,2,3,4,5,6,7,8,9,12,11,13,10,14]] := rfl
@[go_sem] theorem G15_ords {n : Nat} (h : n ≠ 7) : G15.ords n = [] := if_neg h
theorem ok_ref15_Right : codeOK Tryz.prog G15 Tryz.f12.ntmps (Tryz.f12.body.getD .skip) = true := by kernel_rfl
theorem c_ref15_Right (k : List Pc) (hk : okP k) : CallA Tryz.prog 12 [.slc (k.map Pc.enc)] (· = .bool (rightP k)) := by
  refine callA_of_body G15_ok mixed Tryz.func12 rfl (Nat.le_of_ble_eq_true rfl) ok_ref15_Right ?_
  unfold Tryz.f12
  obtain ⟨⟨k1, k2⟩, k3⟩ := id hk
  simp -implicitDefEqProofs (maxSteps := 600000) (disch := (first | omega | decide)) only [go_sem, ↓reduceIte, seval, List.length_map]
  refine wpA_loop [0] (ι := {j : Nat // j ≤ k.length ∧ rightP k = goP (prevP k j) (k.drop j)}) (fun p => [(3, .int .i64 p.1)]) (fun _ => []) (fun p => k.length - p.1) ⟨0, by omega, rfl⟩ (Nat.zero_le _) ?_ ?_
  · simp -implicitDefEqProofs (maxSteps := 600000) (disch := (first | omega | decide)) only [go_sem, ↓reduceIte, seval]
  · rintro ⟨j, hj, hd⟩
    simp only at hj hd ⊢
    by_cases hlt : j < k.length
    · have hlt' : (j : Int) < (k.length : Int) := by omega
      have e1 := pc_get hlt
      have hok := k3 _ (List.getElem_mem hlt)
      have hsm := okP_small hk (List.getElem_mem hlt)
      have hp' : prevP k (j + 1) = some k[j] := by
        unfold prevP; rw [if_neg (by omega), Nat.add_sub_cancel, getElem!_pos k j hlt]
      rw [List.drop_eq_getElem_cons hlt] at hd
      generalize hx : k[j] = x at *
      obtain ⟨⟨lo, hi, op⟩, s⟩ := x
      simp only [goP, onePc] at hd hok hsm
      have next : rightP k = goP (some ⟨⟨lo, hi, op⟩, s⟩) (k.drop (j + 1)) → ∃ i : {j : Nat // j ≤ k.length ∧ rightP k = goP (prevP k j) (k.drop j)}, (j : Int) + 1 = (i.1 : Int) ∧ k.length - i.1 < k.length - j := fun h => ⟨⟨j + 1, hlt, by rw [hp']; exact h⟩, by simp, by show k.length - (j + 1) < k.length - j; omega⟩
      cases h1 : rightR ⟨lo, hi, op⟩ with
      | false =>
        have hh : rightP k = false := by rw [hd, h1]; simp
        simp -implicitDefEqProofs (maxSteps := 600000) (disch := (first | omega | decide)) only [go_sem, ↓reduceIte, seval, hlt', e1, h1, hh, List.length_map]
      | true =>
        cases h2 : ((s.length : Int) == 0) with
        | true =>
          have h20 : (s.length : Int) = 0 := by simpa using h2
          have : s = [] := List.length_eq_zero_iff.1 (by omega)
          have hh : rightP k = false := by rw [hd, this]; simp
          simp -implicitDefEqProofs (maxSteps := 600000) (disch := (first | omega | decide)) only [go_sem, ↓reduceIte, seval, hlt', e1, h1, h2, hh, List.length_map]
        | false =>
          have hne : s.isEmpty = false := by
            cases s with
            | nil => simp at h2
            | cons _ _ => rfl
          have hvr := k_ref14_Right hsm
          cases h3 : rightK s with
          | false =>
            have hh : rightP k = false := by rw [hd, h3]; simp
            rw [h3] at hvr
            simp -implicitDefEqProofs (maxSteps := 600000) (disch := (first | omega | decide)) only [go_sem, ↓reduceIte, seval, hlt', e1, h1, h2, hvr, hh, List.length_map]
          | true =>
            rw [h3] at hvr
            rw [h1, hne, h3] at hd
            simp only [Bool.not_false, Bool.and_self, Bool.true_and] at hd
            by_cases hj0 : j = 0
            · have hz : ((j : Int) == 0) = true := by simp [hj0]
              have hh : rightP k = goP (some ⟨⟨lo, hi, op⟩, s⟩) (k.drop (j + 1)) := by
                rw [hd]; unfold prevP; rw [if_pos hj0, Bool.true_and]
              simp -implicitDefEqProofs (maxSteps := 600000) (disch := (first | omega | decide)) only [go_sem, ↓reduceIte, seval, hlt', e1, h1, h2, hvr, hz, wrap_i64, List.length_map]
              exact next hh
            · have hz : ((j : Int) == 0) = false := by simp; omega
              have hlt2 : j - 1 < k.length := by omega
              have e2 := pc_get hlt2
              have hok2 := k3 _ (List.getElem_mem hlt2)
              have hsm2 := okP_small hk (List.getElem_mem hlt2)
              have hpk : prevP k j = some k[j - 1] := by unfold prevP; rw [if_neg hj0, getElem!_pos k (j - 1) hlt2]
              rw [hpk] at hd
              generalize hy : k[j - 1] = y at *
              obtain ⟨⟨lo', hi', op'⟩, s'⟩ := y
              simp only at hok2 hsm2
              have c1 : ((j : Int) - 1).toNat = j - 1 := by omega
              have c2 : (0 : Int) ≤ (j : Int) - 1 := by omega
              have hsame := k_ref14_Same hsm2 hsm
              simp only [nextPc] at hd
              cases h4 : op' with
              | true =>
                have hh : rightP k = false := by rw [hd, h4]; simp
                subst h4
                simp -implicitDefEqProofs (maxSteps := 6000000) (disch := (first | omega | decide)) only [go_sem, ↓reduceIte, seval, hlt', e1, h1, h2, hvr, hz, e2, c1, c2, hh, wrap_i64, List.length_map]
              | false =>
                subst h4
                cases h5 : ltB lo hi' with
                | true =>
                  have hh : rightP k = false := by rw [hd, h5]; simp
                  simp -implicitDefEqProofs (maxSteps := 6000000) (disch := (first | omega | decide)) only [go_sem, ↓reduceIte, seval, hlt', e1, h1, h2, hvr, hz, e2, c1, c2, h5, hh, wrap_i64, List.length_map]
                | false =>
                  cases h6 : hi' == lo with
                  | false =>
                    have hh : rightP k = goP (some ⟨⟨lo, hi, op⟩, s⟩) (k.drop (j + 1)) := by rw [hd, h5, h6]; simp
                    simp -implicitDefEqProofs (maxSteps := 6000000) (disch := (first | omega | decide)) only [go_sem, ↓reduceIte, seval, hlt', e1, h1, h2, hvr, hz, e2, c1, c2, h5, h6, wrap_i64, List.length_map]
                    exact next hh
                  | true =>
                    cases h7 : sameK s' s with
                    | true =>
                      have h7' : s' = s := by simpa [sameK] using h7
                      rw [h7] at hsame
                      have hh : rightP k = false := by rw [hd, h6, h7']; simp
                      simp -implicitDefEqProofs (maxSteps := 6000000) (disch := (first | omega | decide)) only [go_sem, ↓reduceIte, seval, hlt', e1, h1, h2, hvr, hz, e2, c1, c2, h5, h6, hsame, hh, wrap_i64, List.length_map]
                    | false =>
                      have h7' : s' ≠ s := by simpa [sameK] using h7
                      rw [h7] at hsame
                      have hh : rightP k = goP (some ⟨⟨lo, hi, op⟩, s⟩) (k.drop (j + 1)) := by rw [hd, h5, h6, decide_eq_false h7']; simp
                      simp -implicitDefEqProofs (maxSteps := 6000000) (disch := (first | omega | decide)) only [go_sem, ↓reduceIte, seval, hlt', e1, h1, h2, hvr, hz, e2, c1, c2, h5, h6, hsame, wrap_i64, List.length_map]
                      exact next hh
    · have hlt' : ¬ (j : Int) < (k.length : Int) := by omega
      have hh : rightP k = true := by rw [hd, List.drop_of_length_le (by omega)]; rfl
      simp -implicitDefEqProofs (maxSteps := 600000) (disch := (first | omega | decide)) only [go_sem, ↓reduceIte, seval, hlt', hh, List.length_map]
noncomputable def L15i : Tab := L15h.add 12 (entry (fun (k : List Pc) => [.slc (k.map Pc.enc)]) (fun k => okP k) (fun k => .bool (rightP k)))
theorem L15i_ok : TabOK Tryz.prog L15i := L15h_ok.add (callable_of Tryz.func12 (by kernel_rfl) (by kernel_rfl)) (entry_ok fun k h => c_ref15_Right k h)
@[go_sem] theorem L15i_old {g : FuncId} {xs : List A} (h : g ≠ 12) : L15i.f g xs = L15h.f g xs := Tab.add_ne h
@[go_sem] theorem L15i_eff {g : FuncId} : L15i.eff g = false := rfl
@[go_sem] theorem L15i_ords {n : Nat} : L15i.ords n = [] := rfl
theorem L15i_ref15_Right (k : List Pc) (h : okP k) : L15i.f 12 [.slc (k.map Pc.enc)] = some (.bool (rightP k)) :=
  (Tab.add_eq : L15i.f 12 [.slc (k.map Pc.enc)] = (entry (fun (k : List Pc) => [.slc (k.map Pc.enc)]) (fun k => okP k) (fun k => .bool (rightP k))) [.slc (k.map Pc.enc)]).trans (entry_eq (fun i j h => by first | (cases i; cases j; rfl; done) | simpa [Prod.ext_iff, and_assoc] using h | (simp at h; omega)) k h)
theorem q_rRight {k : List Pc} (h : okP k) : L15i.f 12 [.slc (k.map Pc.enc)] = some (.bool (rightP k)) := L15i_ref15_Right k h
theorem hasP_setP {k : List Pc} {x : List UInt8} {n c : Int} : hasP (setP (atP k)) x n c = hasP k x n c := by
  rw [hasP_at, hasP_at, setAt_setP (isP_at k)]
  unfold hasK
  cases hn : repOK n with
  | false => rfl
  | true => exact congrArg _ (hk_atP (k := k) (x := x) hn c)
theorem ok_law15_KnowOf : codeOK Tryz.prog L15i Tryz.f3.ntmps (Tryz.f3.body.getD .skip) = true := by kernel_rfl
theorem c_law15_KnowOf (k : List Pc) (x : List UInt8) (n c : Int) (hk : k.length ≤ 9223372036854775807) (gk : ∀ p ∈ k, p.s.length ≤ 9223372036854775807) (hx : x.length ≤ 9223372036854775807) :
    CallA Tryz.prog 3 [.slc (k.map Pc.enc), .str x, .agg [.int .i64 n, .int .i64 c]] (· = .bool true) := by
  refine callA_of_body L15i_ok mixed Tryz.func3 rfl (Nat.le_of_ble_eq_true rfl) ok_law15_KnowOf ?_
  unfold Tryz.f3
  have h0 := p_rLong (m := 12) hk gk
  cases h1 : longP k 12 with
  | true => simp -implicitDefEqProofs (maxSteps := 600000) (disch := (first | omega | decide)) only [go_sem, ↓reduceIte, seval, h0, h1]
  | false =>
    by_cases h2 : (300 : Int) < (x.length : Int)
    · simp -implicitDefEqProofs (maxSteps := 600000) (disch := (first | omega | decide)) only [go_sem, ↓reduceIte, seval, h0, h1, h2]
    · have sk := longP_small (m := 12) h1
      have rk := okR_of sk (by omega)
      obtain ⟨sk1, sk2, sk3⟩ := sk
      have oo := okP_at (k := k) (N := 12) (W := 3264) sk1 sk2 (by omega) (by omega)
      have sm := (setAt_small rk.1 x).2
      have f1 := p_Of rk.1
      have f2 := p_Right rk.1
      have f3 := q_rRight rk.1
      have f4 := p_Has (n := n) (c := c) rk.1 hx
      have f5 := p_rHas (n := n) (c := c) rk.1 hx
      have f6 := p_At rk.1 hx
      have f7 := p_rAt rk hx
      have f8 := k_ref14_Same (a := atP k x) (b := atP k x) sm sm
      have f9 := q_Of rk (by omega)
      have f10 := p_rSame oo.1 oo.1
      have f11 := p_Right oo.1
      have f12 := p_rHas (x := x) (n := n) (c := c) oo.1 hx
      rw [setP_right] at f11
      rw [hasP_setP] at f12
      rw [sameK_self] at f8
      rw [sameP_self] at f10
      have w2 : ∀ x : Bool, (x == x) = true := fun x => by simp
      simp -implicitDefEqProofs (maxSteps := 600000) (disch := (first | omega | decide)) only [go_sem, ↓reduceIte, seval, h0, h1, h2, f1, f2, f3, f4, f5, f6, f7, f8, f9, f10, f11, f12, w2]
theorem hk_allP {l : List Rng} {s : List Known} {x : List UInt8} {n c : Int} : hk (setAt (allP l s) x) n c = (hasRs l x && hk s n c) := by
  induction l with
  | nil => rfl
  | cons r l ih =>
    have e : setAt (allP (r :: l) s) x = (if hasR r x = true then s else []) ++ setAt (allP l s) x := by
      unfold setAt allP
      by_cases h : hasR r x = true
      · simp [h]
      · simp [h]
    rw [e, hk_append, ih, hasRs_cons]
    have h3 : hk [] n c = false := rfl
    cases hasR r x with
    | true => rw [if_pos rfl]; cases hk s n c <;> cases hasRs l x <;> rfl
    | false => rw [if_neg (by simp), h3]; cases hk s n c <;> cases hasRs l x <;> rfl
theorem at_all {l : List Rng} {s : List Known} : atP (allP (setS (hasRs l)) s) = atP (allP l s) := at_ext fun x n hn c => by rw [hk_allP, hk_allP, has_setS]
theorem okR_all {l : List Rng} {s : List Known} (hl : l.length ≤ 8) (ho : okL l) (hs : s.length ≤ 8) (hs' : sumK s ≤ 64) : okR (allP l s) := by
  have hw : wP (allP l s) ≤ 8 * 72 := by rw [wP_all]; exact Nat.mul_le_mul hl (by omega)
  have e : (allP l s).length = l.length := by simp [allP]
  exact ⟨⟨⟨by omega, by omega⟩, fun p hp => by
    obtain ⟨r, hr, rfl⟩ := List.mem_map.1 hp
    exact ho r hr⟩, by omega⟩
theorem okR_one {x : List UInt8} {l : List Ver} (hl : l.length ≤ 8) : okR (oneP x l) ∧ (oneP x l).length ≤ 1 ∧ wP (oneP x l) ≤ 24 := by
  unfold oneP
  split
  · rename_i h
    have h1 := of_decide_eq_true h.1
    have h2 := ofK_w (oneS l)
    have h3 := oneS_len l
    obtain ⟨k1, k2, _, _⟩ := right_parts (of_right (t := x) h1.2)
    have hw : wP [⟨ofR x, ofK (oneS l)⟩] ≤ 24 := by
      rw [wP_cons]
      show (ofK (oneS l)).length + sumK (ofK (oneS l)) + 0 ≤ 24
      omega
    exact ⟨⟨⟨⟨by simp, by omega⟩, fun p hp => by rcases List.mem_singleton.1 hp with rfl; exact (show (ofR x).lo.length ≤ 9223372036854775807 ∧ (ofR x).hi.length ≤ 9223372036854775807 by omega)⟩, by omega⟩, by simp, hw⟩
  · exact ⟨okR_nil, by simp, by simp [wP]⟩
noncomputable def N15 : Tab := { L15h with ords := fun n => if n = 11 then [[999999, 1]] else [] }
theorem N15_ok : TabOK Tryz.prog N15 := ⟨L15h_ok.f, L15h_ok.hp⟩
@[go_sem] theorem N15_f : N15.f = L15h.f := rfl
@[go_sem] theorem N15_eff {g : FuncId} : N15.eff g = false := rfl
@[go_sem] theorem N15_fix {n : Nat} : N15.fix n = false := rfl
@[go_sem] theorem N15_ords11 : N15.ords 11 = [[999999, 1]] := rfl
@[go_sem] theorem N15_ords {n : Nat} (h : n ≠ 11) : N15.ords n = [] := if_neg h
theorem ok_law15_KnowAdds : codeOK Tryz.prog N15 Tryz.f4.ntmps (Tryz.f4.body.getD .skip) = true := by kernel_rfl
theorem c_law15_KnowAdds (k : List Pc) (x : List UInt8) (vs : List Ver) (l : List Rng) (s : List Known) (hk : k.length ≤ 9223372036854775807) (gk : ∀ p ∈ k, p.s.length ≤ 9223372036854775807) (hx : x.length ≤ 9223372036854775807)
    (hv : vs.length ≤ 9223372036854775807) (hl : l.length ≤ 9223372036854775807) (ol : okL l) (hs : s.length ≤ 9223372036854775807) :
    CallA Tryz.prog 4 [.slc (k.map Pc.enc), .agg [.str x, .slc (vs.map Ver.enc), .slc (l.map Rng.enc), .slc (s.map Known.enc)]] (· = .bool true) := by
  refine callA_of_body N15_ok mixed Tryz.func4 rfl (Nat.le_of_ble_eq_true rfl) ok_law15_KnowAdds ?_
  unfold Tryz.f4
  have h0 := p_rLong (m := 8) hk gk
  have h0' := q_rLong (m := 8) hl
  have h0'' := k_ref14_Long (m := 8) hs
  cases h1 : longP k 8 with
  | true => simp -implicitDefEqProofs (maxSteps := 600000) (disch := (first | omega | decide)) only [go_sem, ↓reduceIte, seval, h0, h1]
  | false =>
    by_cases h2 : (300 : Int) < (x.length : Int)
    · simp -implicitDefEqProofs (maxSteps := 600000) (disch := (first | omega | decide)) only [go_sem, ↓reduceIte, seval, h0, h1, h2]
    · by_cases h3 : (8 : Int) < (vs.length : Int)
      · simp -implicitDefEqProofs (maxSteps := 600000) (disch := (first | omega | decide)) only [go_sem, ↓reduceIte, seval, h0, h1, h2, h3, List.length_map]
      · cases h4 : longRs l 8 with
        | true => simp -implicitDefEqProofs (maxSteps := 600000) (disch := (first | omega | decide)) only [go_sem, ↓reduceIte, seval, h0, h0', h1, h2, h3, h4, List.length_map]
        | false =>
          cases h5 : longK s 8 with
          | true => simp -implicitDefEqProofs (maxSteps := 600000) (disch := (first | omega | decide)) only [go_sem, ↓reduceIte, seval, h0, h0', h0'', h1, h2, h3, h4, h5, List.length_map]
          | false =>
            have hll := long_len h4
            have hss := long_small (m := 8) h5
            have sk := longP_small (m := 8) h1
            have rk := okR_of sk (by omega)
            obtain ⟨sk1, sk2, sk3⟩ := sk
            obtain ⟨ro, ro1, ro2⟩ := okR_one (x := x) (l := vs) (by omega)
            have ko := okP_append rk.1 ro.1 (by omega) (by omega)
            have hko : (k ++ oneP x vs).length ≤ 9 ∧ wP (k ++ oneP x vs) ≤ 2200 := by rw [List.length_append, wP_append]; omega
            have oj := okP_at (k := k ++ oneP x vs) (N := 9) (W := 2200) hko.1 hko.2 (by omega) (by omega)
            have ral := okR_all (l := l) (s := s) (by omega) ol hss.1 hss.2
            have o2 := setS_okL l
            have rown := okR_all (l := setS (hasRs l)) (s := s) (by omega) o2.1 hss.1 hss.2
            have lal : (allP l s).length = l.length := by simp [allP]
            have wal : wP (allP l s) ≤ 576 := by rw [wP_all]; exact Nat.mul_le_mul (show l.length ≤ 8 by omega) (show s.length + sumK s ≤ 72 by omega)
            have oal := okP_at (k := allP l s) (N := 8) (W := 576) (by omega) wal (by omega) (by omega)
            have f1 := q_Add (k := k) (x := x) (l := vs) rk.1 ko (by omega) (by omega)
            have f2 := q_One (x := x) (l := vs) (by omega) (by omega)
            have f3 := q_Join rk ro (by omega)
            have f4 := p_rSame oj.1 oj.1
            have f5 := p_All (l := l) (s := s) (by omega) ol rown.1
            rw [at_all] at f5
            have f6 := q_Of ral (by omega)
            have f7 := p_rSame oal.1 oal.1
            rw [sameP_self] at f4 f7
            simp -implicitDefEqProofs (maxSteps := 600000) (disch := (first | omega | decide)) only [go_sem, ↓reduceIte, seval, h0, h0', h0'', h1, h2, h3, h4, h5, List.length_map]
            refine wpA_loop_nil 5 4 rfl ?_
            refine wpA_loop [0, 3, 35, 36] (ι := {j : Nat // j ≤ l.length}) (fun p => [(37, .int .i64 p.1), (5, .row 1 0 4 p.1 false)]) (fun p => [(1, .row 4 ((allP (l.take p.1) s).map Pc.enc))]) (fun p => l.length - p.1) ⟨0, by omega⟩ (Nat.zero_le _) ?_ ?_
            · simp -implicitDefEqProofs (maxSteps := 600000) (disch := (first | omega | decide)) only [go_sem, ↓reduceIte, seval]
              simp [allP]
            · rintro ⟨j, hj⟩
              simp only
              have hcl : ((allP (l.take j) s).map Pc.enc).length = j := by simp [allP]; omega
              have tl : ((allP (l.take j) s).map Pc.enc).take j = (allP (l.take j) s).map Pc.enc := List.take_of_length_le (Nat.le_of_eq hcl)
              by_cases hlt : j < l.length
              · have hlt' : (j : Int) < (l.length : Int) := by omega
                have e1 := rng_get hlt
                have hst : allP (l.take (j + 1)) s = allP (l.take j) s ++ [⟨l[j], s⟩] := by
                  rw [← List.take_append_getElem hlt]; unfold allP; rw [List.map_append]; rfl
                generalize hp : l[j] = p at *
                obtain ⟨lo, hi, op⟩ := p
                simp -implicitDefEqProofs (maxSteps := 600000) (disch := (first | omega | decide)) only [go_sem, ↓reduceIte, seval, hlt', e1, tl, hcl, wrap_i64, List.length_map]
                exact ⟨by omega, ⟨j + 1, hlt⟩, ⟨⟨by simp, rfl⟩, by rw [hst, List.map_append]; rfl⟩, by show l.length - (j + 1) < l.length - j; omega⟩
              · have hlt' : ¬ (j : Int) < (l.length : Int) := by omega
                obtain rfl : j = l.length := by omega
                rw [List.take_length] at *
                have hle : (l.length ≤ l.length) = True := by simp
                simp -implicitDefEqProofs (maxSteps := 600000) (disch := (first | omega | decide)) only [go_sem, ↓reduceIte, seval, hlt', tl, hcl, hle, f1, f2, f3, f4, f5, f6, f7, List.length_map]
theorem rest_at {k m : List Pc} {l : List Rng} (h : atP k = atP m) : restP k l = restP m l := by
  funext x; unfold restP; rw [h]
theorem ok_law15_KnowLaws : codeOK Tryz.prog L15h Tryz.f7.ntmps (Tryz.f7.body.getD .skip) = true := by kernel_rfl
theorem c_law15_KnowLaws (a b : List Pc) (l m : List Rng) (ha : a.length ≤ 9223372036854775807) (hb : b.length ≤ 9223372036854775807) (ga : ∀ p ∈ a, p.s.length ≤ 9223372036854775807) (gb : ∀ p ∈ b, p.s.length ≤ 9223372036854775807)
    (hl : l.length ≤ 9223372036854775807) (ol : okL l) (hm : m.length ≤ 9223372036854775807) (om : okL m) :
    CallA Tryz.prog 7 [.slc (a.map Pc.enc), .slc (b.map Pc.enc), .agg [.slc (l.map Rng.enc), .slc (m.map Rng.enc)]] (· = .bool true) := by
  refine callA_of_body L15h_ok mixed Tryz.func7 rfl (Nat.le_of_ble_eq_true rfl) ok_law15_KnowLaws ?_
  unfold Tryz.f7
  have h0 := p_rLong (m := 6) ha ga
  have h0' := p_rLong (m := 6) hb gb
  have h0l := q_rLong (m := 6) hl
  have h0m := q_rLong (m := 6) hm
  cases h1 : longP a 6 with
  | true => simp -implicitDefEqProofs (maxSteps := 600000) (disch := (first | omega | decide)) only [go_sem, ↓reduceIte, seval, h0, h1]
  | false =>
    cases h2 : longP b 6 with
    | true => simp -implicitDefEqProofs (maxSteps := 600000) (disch := (first | omega | decide)) only [go_sem, ↓reduceIte, seval, h0, h0', h1, h2]
    | false =>
      cases h3 : longRs l 6 with
      | true => simp -implicitDefEqProofs (maxSteps := 600000) (disch := (first | omega | decide)) only [go_sem, ↓reduceIte, seval, h0, h0', h0l, h1, h2, h3]
      | false =>
        cases h4 : longRs m 6 with
        | true => simp -implicitDefEqProofs (maxSteps := 600000) (disch := (first | omega | decide)) only [go_sem, ↓reduceIte, seval, h0, h0', h0l, h0m, h1, h2, h3, h4]
        | false =>
          have hll := long_len h3
          have hml := long_len h4
          have sa := longP_small (m := 6) h1
          have sb := longP_small (m := 6) h2
          have ra := okR_of sa (by omega)
          have rb := okR_of sb (by omega)
          obtain ⟨sa1, sa2, sa3⟩ := sa
          obtain ⟨sb1, sb2, sb3⟩ := sb
          have hab : (a ++ b).length ≤ 12 ∧ wP (a ++ b) ≤ 3264 := by rw [List.length_append, wP_append]; omega
          have kab := okP_append ra.1 rb.1 (by omega) (by omega)
          have oj := okP_at (k := a ++ b) (N := 12) (W := 3264) hab.1 hab.2 (by omega) (by omega)
          have oa := okP_at (k := a) (N := 6) (W := 1632) sa1 sa2 (by omega) (by omega)
          have ja : atP (setP (atP (a ++ b))) = atP (a ++ b) := atP_setP (isP_at _) (atP_right _)
          have ow := (setS_okL l).2
          have orj := okP_rest (a := a ++ b) (l := setS (hasRs l)) (N := 12) (M := 6) (W := 3264) hab.1 (by omega) hab.2 (by omega) (by omega)
          rw [rest_set] at orj
          have ora := okP_rest (a := a) (l := setS (hasRs l)) (N := 6) (M := 6) (W := 1632) sa1 (by omega) sa2 (by omega) (by omega)
          rw [rest_set] at ora
          have orb := okP_rest (a := b) (l := setS (hasRs l)) (N := 6) (M := 6) (W := 1632) sb1 (by omega) sb2 (by omega) (by omega)
          rw [rest_set] at orb
          -- one
          have f1 := p_Join2 kab
          have f2 := p_Restrict (l := l) oj.1 (by omega) ol
          rw [rest_set, rest_at ja] at f2
          have f3 := p_Restrict (l := l) ra.1 (by omega) ol
          rw [rest_set] at f3
          have f4 := p_Restrict (l := l) rb.1 (by omega) ol
          rw [rest_set] at f4
          have f5 := p_Join2 (okP_append ora.1 orb.1 (by omega) (by omega))
          have e1 : atP (setP (restP a l) ++ setP (restP b l)) = restP (a ++ b) l := by
            funext x
            refine right_ext (atP_right _ _) (rest_right _ _ _) fun n hn c => ?_
            rw [hk_atP hn, setAt_append, hk_append, setAt_setP (isP_rest a l), setAt_setP (isP_rest b l), hk_restP hn, hk_restP hn, hk_restP hn, setAt_append, hk_append]
            cases hasRs l x <;> rfl
          rw [e1] at f5
          have f6 := p_rSame orj.1 orj.1
          -- two
          have lmt := len_and l m
          have omt := setS_ok fun s => hasRs l s && hasRs m s
          have hmt : ∀ x, hasRs (setS fun s => hasRs l s && hasRs m s) x = (hasRs l x && hasRs m x) := fun x => setS_has (isS_and l m) x
          have f7 := p_Restrict (l := m) ora.1 (by omega) om
          have f8 := p_ranges_Meet (a := l) (b := m) ⟨by omega, by omega⟩ ol om
          generalize (setS fun s => hasRs l s && hasRs m s) = mt at *
          have f9 := p_Restrict (l := mt) ra.1 (by omega) omt
          have owm := (setS_okL mt).2
          have orm := okP_rest (a := a) (l := setS (hasRs mt)) (N := 6) (M := 25) (W := 1632) sa1 (by omega) sa2 (by omega) (by omega)
          rw [rest_set] at f7 f9 orm
          have e2 : restP (setP (restP a l)) m = restP a mt := by
            funext x
            refine right_ext (rest_right _ _ _) (rest_right _ _ _) fun n hn c => ?_
            rw [hk_restP hn, setAt_setP (isP_rest a l), hk_restP hn, hk_restP hn, hmt]
            cases hasRs l x <;> cases hasRs m x <;> rfl
          rw [e2] at f7
          have f10 := p_rSame orm.1 orm.1
          -- three
          have lnt := len_not l
          have ont := setS_ok fun s => !hasRs l s
          have hnt : ∀ x, hasRs (setS fun s => !hasRs l s) x = !hasRs l x := fun x => setS_has (isS_not l) x
          have f11 := p_ranges_Not (l := l) (by omega) ol
          generalize (setS fun s => !hasRs l s) = nt at *
          have f12 := p_Restrict (l := nt) ra.1 (by omega) ont
          have own := (setS_okL nt).2
          have orn := okP_rest (a := a) (l := setS (hasRs nt)) (N := 6) (M := 25) (W := 1632) sa1 (by omega) sa2 (by omega) (by omega)
          rw [rest_set] at f12 orn
          have f13 := p_Join2 (okP_append ora.1 orn.1 (by omega) (by omega))
          have e3 : atP (setP (restP a l) ++ setP (restP a nt)) = atP a := by
            funext x
            refine right_ext (atP_right _ _) (atP_right _ _) fun n hn c => ?_
            rw [hk_atP hn, hk_atP hn, setAt_append, hk_append, setAt_setP (isP_rest a l), setAt_setP (isP_rest a nt), hk_restP hn, hk_restP hn, hnt]
            cases hasRs l x <;> cases hk (setAt a x) n c <;> rfl
          rw [e3] at f13
          have f14 := p_Of ra.1
          have f15 := p_rSame oa.1 oa.1
          -- what is left
          have od := okP_less (a := a) (b := b) (N := 6) (M := 6) (W := 1632) (V := 1632) sa1 sb1 sa2 sb2 (by omega) (by omega)
          have ea : lessP a (setP (atP (a ++ b))) = fun _ => [] := less_in fun x n hn c h => by rw [hk_setAt_join hn, h]; rfl
          have en : setP (fun _ : List UInt8 => ([] : List Known)) = [] := setP_none fun _ => rfl
          have f16 := p_Less ra.1 oj.1 (by rw [ea]; exact fun _ => ⟨by simp, by simp [sumK]⟩)
          rw [ea, en] at f16
          have el : lessP (setP (atP (a ++ b))) b = lessP a b := by
            funext x
            refine right_ext (less_right _ _ _) (less_right _ _ _) fun n hn c => ?_
            rw [hk_lessP hn, hk_lessP hn, hk_setAt_join hn]
            cases hk (setAt a x) n c <;> cases hk (setAt b x) n c <;> rfl
          have sl : ∀ x, smallK (lessP a b x) := fun x => small_le (less_w x) (by omega)
          have f17 := p_Less oj.1 rb.1 (by rw [el]; exact sl)
          rw [el] at f17
          have f18 := p_Less ra.1 rb.1 sl
          have f19 := p_rSame od.1 od.1
          rw [sameP_self] at f6 f10 f15 f19
          simp only [List.map_nil] at f16
          simp -implicitDefEqProofs (maxSteps := 600000) (disch := (first | omega | decide)) only [go_sem, ↓reduceIte, seval, h0, h0', h0l, h0m, h1, h2, h3, h4, f1, f2, f3, f4, f5, f6, f7, f8, f9, f10, f11, f12, f13, f14, f15, f16, f17, f18, f19, List.length_nil, List.map_nil, List.length_map, beq_self_eq_true]
theorem fits_adds {x : List A} (h : fitsL [.str, .rows [.int .i64, .int .i64], .rows [.str, .str, .bool], .rows [.int .i64, .rows [.int .i64, .int .i64]]] x) : ∃ (s : List UInt8) (vs : List Ver) (l : List Rng) (t : List Known), x = [.str s, .slc (vs.map Ver.enc), .slc (l.map Rng.enc), .slc (t.map Known.enc)] ∧
    (s.length ≤ maxLen ∧ vs.length ≤ maxLen) ∧ (l.length ≤ maxLen ∧ okL l) ∧ t.length ≤ maxLen := by
  simp only [fitsL] at h
  obtain ⟨y1, z1, rfl, h1, y2, z2, rfl, h2, y3, z3, rfl, h3, y4, z4, rfl, h4, rfl⟩ := h
  simp only [fits] at h1
  obtain ⟨s, rfl, hs⟩ := h1
  obtain ⟨vs, rfl, hv⟩ := fits_vers h2
  obtain ⟨l, rfl, hl, ol⟩ := fits_rngs h3
  obtain ⟨t, rfl, ht, _⟩ := fits_knowns h4
  exact ⟨s, vs, l, t, rfl, ⟨hs, hv⟩, ⟨hl, ol⟩, ht⟩
theorem fits_two {x : List A} (h : fitsL [.rows [.str, .str, .bool], .rows [.str, .str, .bool]] x) : ∃ (l m : List Rng), x = [.slc (l.map Rng.enc), .slc (m.map Rng.enc)] ∧ (l.length ≤ maxLen ∧ okL l) ∧ m.length ≤ maxLen ∧ okL m := by
  simp only [fitsL] at h
  obtain ⟨y1, z1, rfl, h1, y2, z2, rfl, h2, rfl⟩ := h
  obtain ⟨l, rfl, hl, ol⟩ := fits_rngs h1
  obtain ⟨m, rfl, hm, om⟩ := fits_rngs h2
  exact ⟨l, m, rfl, ⟨hl, ol⟩, hm, om⟩
end Go.Proofs.YtbnmicpgbcfooaaGreat
