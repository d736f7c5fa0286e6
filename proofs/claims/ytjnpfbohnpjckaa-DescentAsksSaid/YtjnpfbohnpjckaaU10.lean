/- What the laws of this claim rest on: the abstract executor, its soundness, and what the functions compute on pure data. No condition. -/
import Derived.Test.YtjnpfbohnpjckaaU5
import Derived.Test.YtjnpfbohnpjckaaU8
set_option linter.unusedVariables false
set_option linter.unusedSimpArgs false
namespace Go.Proofs.Ytjnpfbohnpjckaa
open Go.Abs
set_option linter.unusedSimpArgs false
set_option linter.unusedVariables false
set_option maxRecDepth 20000
set_option maxHeartbeats 16000000
def treeA (t : Tm) (seed bits : Int) : A := .dptr [encM t, .int .u64 seed, .int .i64 bits]
theorem entry_eq32 {ι : Type} {enc : ι → List A} {ok : ι → Prop} {spec : ι → A} (hi : ∀ i j, ok i → ok j → enc i = enc j → spec i = spec j) (i : ι) (h : ok i) : entry enc ok spec (enc i) = some (spec i) := by
  have hx : ∃ j, enc j = enc i ∧ ok j := ⟨i, rfl, h⟩
  unfold entry
  rw [dif_pos hx, hi _ _ (Classical.choose_spec hx).2 h (Classical.choose_spec hx).1]
@[simp] theorem encM_iff {a b : Tm} : (encM a = encM b) = (a = b) := propext ⟨encM_inj, fun h => by rw [h]⟩
theorem ok_tree_node_count : codeOK Try.prog R32n Try.f49.ntmps (Try.f49.body.getD .skip) = true := by kernel_rfl
theorem c_count (t : Tm) : CallA Try.prog 49 [encM t] (· = .int .i64 t.n) := by
  refine callA_of_body R32n_ok mixed Try.func49 rfl (Nat.le_of_ble_eq_true rfl) ok_tree_node_count ?_
  unfold Try.f49
  cases t with
  | leaf =>
    simp only [encM, Tm.n]
    simp -implicitDefEqProofs (disch := (first | omega | decide)) only [go_sem, ↓reduceIte, seval]
  | node x l r o =>
    have e : ((Tm.node x l r o).n : Int) = 1 + l.n + r.n := by simp only [Tm.n]; omega
    rw [e]
    simp only [encM]
    simp -implicitDefEqProofs (disch := (first | omega | decide)) only [go_sem, ↓reduceIte, seval]
theorem ok_tree_node_total : codeOK Try.prog R32n Try.f64.ntmps (Try.f64.body.getD .skip) = true := by kernel_rfl
theorem c_total (t : Tm) : CallA Try.prog 64 [encM t] (· = .int .u64 t.s) := by
  refine callA_of_body R32n_ok mixed Try.func64 rfl (Nat.le_of_ble_eq_true rfl) ok_tree_node_total ?_
  unfold Try.f64
  cases t with
  | leaf =>
    simp only [encM, Tm.s]
    simp -implicitDefEqProofs (disch := (first | omega | decide)) only [go_sem, ↓reduceIte, seval]
  | node x l r o =>
    simp only [encM]
    simp -implicitDefEqProofs (disch := (first | omega | decide)) only [go_sem, ↓reduceIte, seval]
@[go_sem] theorem encM_under {m : Nat} {t : Tm} : A.under m (encM t) = true := by cases t <;> rfl
@[go_sem] theorem encM_viewS {H : List Go.Abs.Obj} {t : Tm} : view H (encM t) = some (encM t) := by cases t <;> rfl
@[go_sem] theorem encM_pureS {t : Tm} : A.pure (encM t) = true := by cases t <;> rfl
theorem encM_view (H : List Go.Abs.Obj) (t : Tm) : view H (encM t) = some (encM t) := by cases t <;> rfl
theorem encM_pure (t : Tm) : (encM t).pure = true := by cases t <;> rfl
theorem ok_tree_Tree_top : codeOK Try.prog R32n Try.f48.ntmps (Try.f48.body.getD .skip) = true := by kernel_rfl
theorem c_top (t : Tm) (seed bits : Int) : CallA Try.prog 48 [treeA t seed bits] (· = encM t) := by
  refine callA_of_body R32n_ok mixed Try.func48 rfl (Nat.le_of_ble_eq_true rfl) ok_tree_Tree_top ?_
  unfold Try.f48
  unfold treeA
  have e := fun H => encM_view H t
  generalize encM t = E at *
  simp -implicitDefEqProofs (disch := (first | omega | decide)) only [go_sem, ↓reduceIte, seval, e]
noncomputable def V32a : Tab := R32n.add 49 (entry (fun t : Tm => [encM t]) (fun _ => True) (fun t => .int .i64 t.n))
theorem V32a_ok : TabOK Try.prog V32a := R32n_ok.ent Try.func49 (by kernel_rfl) (by kernel_rfl) fun t _ => c_count t
@[go_sem] theorem V32a_old {g : FuncId} {xs : List A} (h : g ≠ 49) : V32a.f g xs = R32n.f g xs := Tab.add_ne h
theorem v_count (t : Tm) : V32a.f 49 [encM t] = some (.int .i64 t.n) := Tab.ent_eq (Γ := R32n) (g := 49) (enc := fun t : Tm => [encM t]) (ok := fun _ => True) (spec := fun t => .int .i64 t.n) (fun i j h => by simpa using h) t trivial
noncomputable def V32b : Tab := V32a.add 64 (entry (fun t : Tm => [encM t]) (fun _ => True) (fun t => .int .u64 t.s))
theorem V32b_ok : TabOK Try.prog V32b := V32a_ok.ent Try.func64 (by kernel_rfl) (by kernel_rfl) fun t _ => c_total t
@[go_sem] theorem V32b_old {g : FuncId} {xs : List A} (h : g ≠ 64) : V32b.f g xs = V32a.f g xs := Tab.add_ne h
theorem v_total (t : Tm) : V32b.f 64 [encM t] = some (.int .u64 t.s) := Tab.ent_eq (Γ := V32a) (g := 64) (enc := fun t : Tm => [encM t]) (ok := fun _ => True) (spec := fun t => .int .u64 t.s) (fun i j h => by simpa using h) t trivial
noncomputable def V32c : Tab := V32b.add 48 (entry (fun v : Tm × Int × Int => [treeA v.1 v.2.1 v.2.2]) (fun _ => True) (fun v => encM v.1))
theorem V32c_ok : TabOK Try.prog V32c := V32b_ok.ent Try.func48 (by kernel_rfl) (by kernel_rfl) fun v _ => c_top v.1 v.2.1 v.2.2
@[go_sem] theorem V32c_old {g : FuncId} {xs : List A} (h : g ≠ 48) : V32c.f g xs = V32b.f g xs := Tab.add_ne h
@[go_sem] theorem V32c_s : V32c.pl V32b := ⟨fun _ => rfl, fun _ => rfl, rfl, fun _ => rfl, rfl, fun _ => rfl, rfl⟩
theorem v_top (t : Tm) (seed bits : Int) : V32c.f 48 [.dptr [encM t, .int .u64 seed, .int .i64 bits]] = some (encM t) := Tab.ent_eq (Γ := V32b) (g := 48) (enc := fun v : Tm × Int × Int => [treeA v.1 v.2.1 v.2.2]) (ok := fun _ => True) (spec := fun v => encM v.1) (fun i j h => by simp [treeA] at h; exact Prod.ext h.1 (Prod.ext h.2.1 h.2.2)) (t, seed, bits) trivial
def ahI (t : Tm) (k : List UInt8) : Int × Int := ((belowK k t.its).length, IntKind.u64.wrap (rsum (belowK k t.its)))
theorem ok_tree_Tree_ahead : codeOK Try.prog V32c Try.f63.ntmps (Try.f63.body.getD .skip) = true := by kernel_rfl
theorem c_ahead (t : Tm) (seed bits : Int) (k : List UInt8) (hr : risesK t.its) (hn : t.n ≤ 1000) (hk : k.length ≤ 9223372036854775807) (hkl : ∀ p ∈ t.its, p.1.key.length ≤ 9223372036854775807) : CallA Try.prog 63 [treeA t seed bits, .str k] (· = .tup [.int .i64 (ahI t k).1, .int .u64 (ahI t k).2]) := by
  refine callA_of_body V32c_ok mixed Try.func63 rfl (Nat.le_of_ble_eq_true rfl) ok_tree_Tree_ahead ?_
  unfold Try.f63
  have g1 := v_top t seed bits
  unfold treeA ahI
  have ev := encM_pure t
  simp -implicitDefEqProofs (disch := (first | omega | decide)) only [go_sem, ↓reduceIte, seval, g1]
  refine wpA_loop [0, 1] (ι := {v : Tm × List (It × Int) // belowK k t.its = v.2 ++ belowK k v.1.its ∧ risesK v.1.its ∧ v.2.length + v.1.n ≤ 1000 ∧ ∀ p ∈ v.1.its, p.1.key.length ≤ 9223372036854775807}) (fun v => [(8, encM v.1.1), (6, .int .i64 v.1.2.length), (7, .int .u64 (IntKind.u64.wrap (rsum v.1.2)))]) (fun _ => []) (fun v => v.1.1.n) ⟨(t, []), rfl, hr, by simpa using hn, hkl⟩ (Nat.zero_le _) ?_ ?_
  · simp -implicitDefEqProofs (disch := (first | omega | decide)) only [go_sem, ↓reduceIte, seval]
    decide
  · rintro ⟨⟨T, L⟩, h1, h2, h3, h4⟩
    simp only at h1 h2 h3 h4 ⊢
    cases T with
    | leaf =>
      simp only [encM]
      have h1' : belowK k t.its = L := by rw [h1]; simp [belowK, Tm.its]
      rw [h1']
      simp -implicitDefEqProofs (disch := (first | omega | decide)) only [go_sem, ↓reduceIte, seval]
    | node x l r o =>
      have hb := below_node (k := k) h2
      obtain ⟨hl, hrr⟩ := rises_parts h2
      have hxl := h4 (x, o) (by simp [Tm.its])
      have g2 := p_key_Cmp (a := x.key) (b := k) ⟨hxl, hk⟩
      have g3 := v_count l
      have g4 := v_total l
      simp only [Tm.n] at h3
      have e1 := encM_view [] l
      have e2 := encM_view [] r
      have hp1 := encM_pure l
      have hp2 := encM_pure r
      simp only [encM]
      by_cases hx : ltB x.key k = true
      · rw [if_pos hx] at hb
        have q1 : cmpB x.key k < 0 := by rw [cmp_of_lt hx]; decide
        have q2 : IntKind.i64.wrap (1 + (l.n : Int)) = 1 + (l.n : Int) := by rw [wrap_i64]; omega
        have q3 : IntKind.i64.wrap ((L.length : Int) + (1 + (l.n : Int))) = (L.length : Int) + (1 + (l.n : Int)) := by rw [wrap_i64]; omega
        simp -implicitDefEqProofs (disch := (first | omega | decide)) only [go_sem, ↓reduceIte, seval, g2, g3, g4, q1, q2, q3]
        refine ⟨⟨(r, L ++ l.its ++ [(x, o)]), by simp only; rw [h1, hb]; simp, hrr, by simp only [List.length_append, Tm.n_eq]; simp; omega, fun p hp => h4 p (by simp [Tm.its, hp])⟩, ⟨rfl, ?_, ?_⟩, by show r.n < 1 + l.n + r.n; omega⟩
        · simp only [List.length_append, Tm.n_eq]; simp; omega
        · simp only [rsum_app, rsum_cons, Tm.s_eq, wrapU]; simp [rsum]; omega
      · rw [if_neg hx] at hb
        have q1 : ¬ cmpB x.key k < 0 := fun h => hx (by rcases cmp_cases x.key k with h' | h' | h' <;> rw [h'] at h <;> first | omega | simp [ltB, h'])
        simp -implicitDefEqProofs (disch := (first | omega | decide)) only [go_sem, ↓reduceIte, seval, g2, q1]
        exact ⟨⟨(l, L), by simp only; rw [h1, hb], hl, by simp only; omega, fun p hp => h4 p (by simp [Tm.its, hp])⟩, ⟨rfl, rfl, rfl⟩, by show l.n < 1 + l.n + r.n; omega⟩
noncomputable def V32d : Tab := V32c.add 63 (entry (fun v : Tm × Int × Int × List UInt8 => [treeA v.1 v.2.1 v.2.2.1, .str v.2.2.2]) (fun v => risesK v.1.its ∧ v.1.n ≤ 1000 ∧ v.2.2.2.length ≤ 9223372036854775807 ∧ ∀ p ∈ v.1.its, p.1.key.length ≤ 9223372036854775807) (fun v => .tup [.int .i64 (ahI v.1 v.2.2.2).1, .int .u64 (ahI v.1 v.2.2.2).2]))
theorem V32d_ok : TabOK Try.prog V32d := V32c_ok.ent Try.func63 (by kernel_rfl) (by kernel_rfl) fun v h => c_ahead v.1 v.2.1 v.2.2.1 v.2.2.2 h.1 h.2.1 h.2.2.1 h.2.2.2
@[go_sem] theorem V32d_old {g : FuncId} {xs : List A} (h : g ≠ 63) : V32d.f g xs = V32c.f g xs := Tab.add_ne h
@[go_sem] theorem V32d_s : V32d.pl V32c := ⟨fun _ => rfl, fun _ => rfl, rfl, fun _ => rfl, rfl, fun _ => rfl, rfl⟩
theorem v_ahead {t : Tm} {seed bits : Int} {k : List UInt8} (h : risesK t.its ∧ t.n ≤ 1000 ∧ k.length ≤ 9223372036854775807 ∧ ∀ p ∈ t.its, p.1.key.length ≤ 9223372036854775807) : V32d.f 63 [.dptr [encM t, .int .u64 seed, .int .i64 bits], .str k] = some (.tup [.int .i64 (ahI t k).1, .int .u64 (ahI t k).2]) := Tab.ent_eq (Γ := V32c) (g := 63) (enc := fun v : Tm × Int × Int × List UInt8 => [treeA v.1 v.2.1 v.2.2.1, .str v.2.2.2]) (ok := fun v => risesK v.1.its ∧ v.1.n ≤ 1000 ∧ v.2.2.2.length ≤ 9223372036854775807 ∧ ∀ p ∈ v.1.its, p.1.key.length ≤ 9223372036854775807) (spec := fun v => .tup [.int .i64 (ahI v.1 v.2.2.2).1, .int .u64 (ahI v.1 v.2.2.2).2]) (fun i j h => by simp [treeA] at h; exact Prod.ext h.1.1 (Prod.ext h.1.2.1 (Prod.ext h.1.2.2 h.2))) (t, seed, bits, k) h
theorem below_len (k : List UInt8) (l : List (It × Int)) : (belowK k l).length ≤ l.length := List.length_filter_le _ _
def ofT (t : Tm) (r : Rng) : Int × Int := ((if r.op = true then (t.n : Int) else (ahI t r.hi).1) - (ahI t r.lo).1, IntKind.u64.wrap ((if r.op = true then t.s else (ahI t r.hi).2) - (ahI t r.lo).2))
theorem ok_tree_Tree_of : codeOK Try.prog V32d Try.f46.ntmps (Try.f46.body.getD .skip) = true := by kernel_rfl
theorem c_of (t : Tm) (seed bits : Int) (r : Rng) (hr : rightR r = true) (ht : risesK t.its) (hn : t.n ≤ 1000) (hkl : ∀ p ∈ t.its, p.1.key.length ≤ 9223372036854775807) : CallA Try.prog 46 [treeA t seed bits, r.enc] (· = .tup [.int .i64 (ofT t r).1, .int .u64 (ofT t r).2]) := by
  refine callA_of_body V32d_ok mixed Try.func46 rfl (Nat.le_of_ble_eq_true rfl) ok_tree_Tree_of ?_
  unfold Try.f46
  have hlen : r.lo.length ≤ 17 ∧ r.hi.length ≤ 17 := by
    unfold rightR at hr
    simp only [Bool.and_eq_true, decide_eq_true_eq] at hr
    exact hr.1
  have g0 := T07f_span_Right (r.lo, r.hi, r.op) ⟨by simp only; omega, by simp only; omega⟩
  have g1 := v_ahead (t := t) (seed := seed) (bits := bits) (k := r.lo) ⟨ht, hn, by omega, hkl⟩
  have g2 := v_ahead (t := t) (seed := seed) (bits := bits) (k := r.hi) ⟨ht, hn, by omega, hkl⟩
  have g3 := v_top t seed bits
  have g4 := v_count t
  have g5 := v_total t
  have b1 : 0 ≤ (ahI t r.lo).1 ∧ (ahI t r.lo).1 ≤ 1000 := by have := below_len r.lo t.its; rw [Tm.n_eq] at this; unfold ahI; simp only; omega
  have b2 : 0 ≤ (ahI t r.hi).1 ∧ (ahI t r.hi).1 ≤ 1000 := by have := below_len r.hi t.its; rw [Tm.n_eq] at this; unfold ahI; simp only; omega
  unfold treeA ofT
  obtain ⟨lo, hi, op⟩ := r
  simp only at g0 g1 g2 b1 b2 hlen ⊢
  rw [hr] at g0
  generalize (ahI t lo).1 = m1 at *
  generalize (ahI t lo).2 = s1 at *
  generalize (ahI t hi).1 = m2 at *
  generalize (ahI t hi).2 = s2 at *
  clear hr ht hkl
  simp only [Rng.enc]
  cases op with
  | true =>
    have q1 : IntKind.i64.wrap ((t.n : Int) - m1) = (t.n : Int) - m1 := by rw [wrap_i64]; omega
    simp -implicitDefEqProofs (disch := (first | omega | decide)) only [go_sem, ↓reduceIte, seval, g0, g1, g3, g4, g5, q1]
  | false =>
    have q1 : IntKind.i64.wrap (m2 - m1) = m2 - m1 := by rw [wrap_i64]; omega
    simp -implicitDefEqProofs (disch := (first | omega | decide)) only [go_sem, ↓reduceIte, seval, g0, g1, g2, g3, g4, g5, q1]
noncomputable def V32e : Tab := V32d.add 46 (entry (fun v : Tm × Int × Int × Rng => [treeA v.1 v.2.1 v.2.2.1, v.2.2.2.enc]) (fun v => rightR v.2.2.2 = true ∧ risesK v.1.its ∧ v.1.n ≤ 1000 ∧ ∀ p ∈ v.1.its, p.1.key.length ≤ 9223372036854775807) (fun v => .tup [.int .i64 (ofT v.1 v.2.2.2).1, .int .u64 (ofT v.1 v.2.2.2).2]))
theorem V32e_ok : TabOK Try.prog V32e := V32d_ok.ent Try.func46 (by kernel_rfl) (by kernel_rfl) fun v h => c_of v.1 v.2.1 v.2.2.1 v.2.2.2 h.1 h.2.1 h.2.2.1 h.2.2.2
@[go_sem] theorem V32e_old {g : FuncId} {xs : List A} (h : g ≠ 46) : V32e.f g xs = V32d.f g xs := Tab.add_ne h
@[go_sem] theorem V32e_s : V32e.pl V32d := ⟨fun _ => rfl, fun _ => rfl, rfl, fun _ => rfl, rfl, fun _ => rfl, rfl⟩
theorem v_of {t : Tm} {seed bits : Int} {r : Rng} (h : rightR r = true ∧ risesK t.its ∧ t.n ≤ 1000 ∧ ∀ p ∈ t.its, p.1.key.length ≤ 9223372036854775807) : V32e.f 46 [.dptr [encM t, .int .u64 seed, .int .i64 bits], .agg [.str r.lo, .str r.hi, .bool r.op]] = some (.tup [.int .i64 (ofT t r).1, .int .u64 (ofT t r).2]) := Tab.ent_eq (Γ := V32d) (g := 46) (enc := fun v : Tm × Int × Int × Rng => [treeA v.1 v.2.1 v.2.2.1, v.2.2.2.enc]) (ok := fun v => rightR v.2.2.2 = true ∧ risesK v.1.its ∧ v.1.n ≤ 1000 ∧ ∀ p ∈ v.1.its, p.1.key.length ≤ 9223372036854775807) (spec := fun v => .tup [.int .i64 (ofT v.1 v.2.2.2).1, .int .u64 (ofT v.1 v.2.2.2).2]) (fun i j h => by simp [treeA] at h; exact Prod.ext h.1.1 (Prod.ext h.1.2.1 (Prod.ext h.1.2.2 h.2))) (t, seed, bits, r) h
def treeOf (t : Tm) (l : List It) (seed : Int) : Prop := t.its = l.map fun x => (x, hashI seed x)
theorem of_sum {t : Tm} {l : List It} {seed : Int} {r : Rng} (hr : rightR r = true) (ht : treeOf t l seed) : (ofT t r).2 = sumI seed (inR21 l r) := by
  rw [range_sum seed l hr]
  unfold ofT ahI
  rw [Tm.s_eq, ht]
theorem ok_tree_Tree_Sum : codeOK Try.prog V32e Try.f31.ntmps (Try.f31.body.getD .skip) = true := by kernel_rfl
theorem c_Sum (t : Tm) (l : List It) (seed bits : Int) (r : Rng) (hl : treeOf t l seed) (hr : rightR r = true) (ht : risesK t.its) (hn : t.n ≤ 1000) (hkl : ∀ p ∈ t.its, p.1.key.length ≤ 9223372036854775807) : CallA Try.prog 31 [treeA t seed bits, r.enc] (· = .int .u64 (sum21 l r seed bits)) := by
  refine callA_of_body V32e_ok mixed Try.func31 rfl (Nat.le_of_ble_eq_true rfl) ok_tree_Tree_Sum ?_
  unfold Try.f31
  have g1 := v_of (t := t) (seed := seed) (bits := bits) (r := r) ⟨hr, ht, hn, hkl⟩
  rw [of_sum hr hl] at g1
  have g2 := H32k_hash_Cut (sumI seed (inR21 l r), bits) (sumI_range _ _)
  unfold treeA sum21
  simp only at g2
  generalize sumI seed (inR21 l r) = S at *
  generalize (ofT t r).1 = M at *
  obtain ⟨lo, hi, op⟩ := r
  simp only [Rng.enc]
  simp -implicitDefEqProofs (disch := (first | omega | decide)) only [go_sem, ↓reduceIte, seval, g1, g2]
theorem ok_tree_Tree_At : codeOK Try.prog V32e Try.f33.ntmps (Try.f33.body.getD .skip) = true := by kernel_rfl
theorem c_At (t : Tm) (seed bits : Int) (i : Nat) (hn : t.n ≤ 1000) (x : It) (o : Int) (hx : t.its[i]? = some (x, o)) : CallA Try.prog 33 [treeA t seed bits, .int .i64 i] (· = .tup [x.enc, .bool true]) := by
  refine callA_of_body V32e_ok mixed Try.func33 rfl (Nat.le_of_ble_eq_true rfl) ok_tree_Tree_At ?_
  unfold Try.f33
  have g1 := v_top t seed bits
  have g2 := v_count t
  have hi : i < t.n := by have := (List.getElem?_eq_some_iff.1 hx).1; rw [Tm.n_eq] at this; exact this
  have q1 : ¬ (i : Int) < 0 := by omega
  have q2 : ¬ (t.n : Int) ≤ (i : Int) := by omega
  unfold treeA
  simp -implicitDefEqProofs (disch := (first | omega | decide)) only [go_sem, ↓reduceIte, seval, g1, g2, q1, q2]
  refine wpA_loop [0, 4, 5] (ι := {v : Tm × Nat // v.1.its[v.2]? = some (x, o) ∧ v.1.n ≤ 1000}) (fun v => [(6, encM v.1.1), (1, .int .i64 v.1.2)]) (fun _ => []) (fun v => v.1.1.n) ⟨(t, i), hx, hn⟩ (Nat.zero_le _) ?_ ?_
  · simp -implicitDefEqProofs (disch := (first | omega | decide)) only [go_sem, ↓reduceIte, seval]
  · rintro ⟨⟨T, j⟩, h1, h2⟩
    simp only at h1 h2 ⊢
    cases T with
    | leaf => simp [Tm.its] at h1
    | node y l r p =>
      have g3 := v_count l
      simp only [Tm.its, Tm.n] at h1 h2
      have hln := Tm.n_eq l
      simp only [encM]
      by_cases hj : j < l.n
      · rw [List.getElem?_append_left (by omega)] at h1
        have r1 : (j : Int) < (l.n : Int) := by omega
        simp -implicitDefEqProofs (disch := (first | omega | decide)) only [go_sem, ↓reduceIte, seval, g3, r1]
        exact ⟨⟨(l, j), h1, by simp only; omega⟩, ⟨rfl, rfl⟩, by show l.n < 1 + l.n + r.n; omega⟩
      · rw [List.getElem?_append_right (by omega), hln] at h1
        have r1 : ¬ (j : Int) < (l.n : Int) := by omega
        by_cases hj2 : j = l.n
        · subst hj2
          rw [Nat.sub_self] at h1
          simp only [List.getElem?_cons_zero, Option.some.injEq, Prod.mk.injEq] at h1
          obtain ⟨rfl, rfl⟩ := h1
          have r2 : ¬ (l.n : Int) < (l.n : Int) := by omega
          obtain ⟨a1, a2, a3, a4, a5, a6, a7⟩ := y
          simp -implicitDefEqProofs (disch := (first | omega | decide)) only [go_sem, ↓reduceIte, seval, g3, r1, r2]
          try rfl
        · obtain ⟨m, hm⟩ : ∃ m, j - l.n = m + 1 := ⟨j - l.n - 1, by omega⟩
          rw [hm, List.getElem?_cons_succ] at h1
          have r2 : (l.n : Int) < (j : Int) := by omega
          have r3 : IntKind.i64.wrap ((l.n : Int) + 1) = (l.n : Int) + 1 := by rw [wrap_i64]; omega
          have hjr : m < r.n := by have := (List.getElem?_eq_some_iff.1 h1).1; rw [Tm.n_eq] at this; exact this
          have r4 : IntKind.i64.wrap ((j : Int) - ((l.n : Int) + 1)) = (m : Int) := by rw [wrap_i64] <;> omega
          simp -implicitDefEqProofs (disch := (first | omega | decide)) only [go_sem, ↓reduceIte, seval, g3, r1, r2, r3, r4]
          exact ⟨⟨(r, m), h1, by simp only; omega⟩, ⟨rfl, rfl⟩, by show r.n < 1 + l.n + r.n; omega⟩
theorem ok_nat_Middle : codeOK Try.prog V32e Try.f32.ntmps (Try.f32.body.getD .skip) = true := by kernel_rfl
theorem c_Middle (a b : Nat) (hab : a < b) (hb : b ≤ 100000) : CallA Try.prog 32 [.int .i64 a, .int .i64 b] (· = .int .i64 ((a + (b - a) / 2 : Nat) : Int)) := by
  refine callA_of_body V32e_ok mixed Try.func32 rfl (Nat.le_of_ble_eq_true rfl) ok_nat_Middle ?_
  unfold Try.f32
  have q1 : ¬ (b : Int) ≤ (a : Int) := by omega
  have e1 : IntKind.u64.wrap (b : Int) = (b : Int) := wrap_u64 (by omega)
  have e2 : IntKind.u64.wrap (a : Int) = (a : Int) := wrap_u64 (by omega)
  have e3 : IntKind.u64.wrap ((b : Int) - (a : Int)) = ((b - a : Nat) : Int) := by rw [wrap_u64 (by omega)]; omega
  have e4 : IntKind.u64.wrap (((b - a : Nat) : Int).tdiv 2) = (((b - a) / 2 : Nat) : Int) := by rw [Int.tdiv_eq_ediv_of_nonneg (by omega), wrap_u64 (by omega)]; omega
  have e5 : IntKind.i64.wrap (((b - a) / 2 : Nat) : Int) = (((b - a) / 2 : Nat) : Int) := wrap_i64 (by omega)
  simp -implicitDefEqProofs (disch := (first | omega | decide)) only [go_sem, ↓reduceIte, seval, q1]
  rw [e1, e2, e3, e4, e5, wrap_i64 (by omega)]
  omega
theorem treeOf_inj {t : Tm} {l l' : List It} {seed : Int} (h : treeOf t l seed) (h' : treeOf t l' seed) : l = l' := by
  unfold treeOf at h h'
  rw [h] at h'
  have := congrArg (List.map (·.1)) h'
  simpa [List.map_map, Function.comp_def] using this
def okT32 (t : Tm) (l : List It) (seed : Int) : Prop := treeOf t l seed ∧ risesK t.its ∧ t.n ≤ 1000 ∧ ∀ p ∈ t.its, p.1.key.length ≤ 9223372036854775807
noncomputable def V32f : Tab := V32e.add 31 (entry (fun v : Tm × List It × Int × Int × Rng => [treeA v.1 v.2.2.1 v.2.2.2.1, v.2.2.2.2.enc]) (fun v => okT32 v.1 v.2.1 v.2.2.1 ∧ rightR v.2.2.2.2 = true) (fun v => .int .u64 (sum21 v.2.1 v.2.2.2.2 v.2.2.1 v.2.2.2.1)))
theorem V32f_ok : TabOK Try.prog V32f := V32e_ok.ent Try.func31 (by kernel_rfl) (by kernel_rfl) fun v h => c_Sum v.1 v.2.1 v.2.2.1 v.2.2.2.1 v.2.2.2.2 h.1.1 h.2 h.1.2.1 h.1.2.2.1 h.1.2.2.2
@[go_sem] theorem V32f_old {g : FuncId} {xs : List A} (h : g ≠ 31) : V32f.f g xs = V32e.f g xs := Tab.add_ne h
theorem v_Sum {t : Tm} {l : List It} {seed bits : Int} {r : Rng} (h : okT32 t l seed) (hr : rightR r = true) : V32f.f 31 [.dptr [encM t, .int .u64 seed, .int .i64 bits], .agg [.str r.lo, .str r.hi, .bool r.op]] = some (.int .u64 (sum21 l r seed bits)) :=
  Tab.add_eq.trans (entry_eq32 (enc := fun v : Tm × List It × Int × Int × Rng => [treeA v.1 v.2.2.1 v.2.2.2.1, v.2.2.2.2.enc]) (ok := fun v => okT32 v.1 v.2.1 v.2.2.1 ∧ rightR v.2.2.2.2 = true) (spec := fun v => .int .u64 (sum21 v.2.1 v.2.2.2.2 v.2.2.1 v.2.2.2.1)) (fun a b ha hb e => by
    obtain ⟨t, l, s, n, r⟩ := a
    obtain ⟨t', l', s', n', r'⟩ := b
    simp [treeA] at e
    obtain ⟨⟨rfl, rfl, rfl⟩, rfl⟩ := e
    rw [treeOf_inj ha.1.1 hb.1.1]) (t, l, seed, bits, r) ⟨h, hr⟩)
def atA (t : Tm) (i : Nat) : A := ((t.its[i]?).map fun p : It × Int => It.enc p.1).getD .any
noncomputable def V32g : Tab := V32f.add 33 (entry (fun v : Tm × Int × Int × Nat => [treeA v.1 v.2.1 v.2.2.1, .int .i64 (v.2.2.2 : Int)]) (fun v => v.1.n ≤ 1000 ∧ v.2.2.2 < v.1.its.length) (fun v => .tup [atA v.1 v.2.2.2, .bool true]))
theorem V32g_ok : TabOK Try.prog V32g := V32f_ok.ent Try.func33 (by kernel_rfl) (by kernel_rfl) fun v h => by
  have hx := List.getElem?_eq_getElem h.2
  unfold atA
  rw [hx]
  exact c_At v.1 v.2.1 v.2.2.1 v.2.2.2 h.1 (v.1.its[v.2.2.2]'h.2).1 (v.1.its[v.2.2.2]'h.2).2 hx
@[go_sem] theorem V32g_old {g : FuncId} {xs : List A} (h : g ≠ 33) : V32g.f g xs = V32f.f g xs := Tab.add_ne h
theorem v_At {t : Tm} {l : List It} {seed bits : Int} {i : Nat} (h : okT32 t l seed) (hi : i < l.length) : V32g.f 33 [.dptr [encM t, .int .u64 seed, .int .i64 bits], .int .i64 (i : Int)] = some (.tup [l[i].enc, .bool true]) := by
  have hl : t.its.length = l.length := by rw [h.1, List.length_map]
  have h1 : V32g.f 33 [.dptr [encM t, .int .u64 seed, .int .i64 bits], .int .i64 (i : Int)] = some (.tup [atA t i, .bool true]) := Tab.ent_eq (Γ := V32f) (g := 33) (enc := fun v : Tm × Int × Int × Nat => [treeA v.1 v.2.1 v.2.2.1, .int .i64 (v.2.2.2 : Int)]) (ok := fun v => v.1.n ≤ 1000 ∧ v.2.2.2 < v.1.its.length) (spec := fun v => .tup [atA v.1 v.2.2.2, .bool true]) (fun i j h => by simp [treeA] at h; exact Prod.ext h.1.1 (Prod.ext h.1.2.1 (Prod.ext h.1.2.2 (by omega)))) (t, seed, bits, i) ⟨h.2.2.1, by rw [hl]; exact hi⟩
  unfold atA at h1
  rw [h1, h.1, List.getElem?_map, List.getElem?_eq_getElem hi]; rfl
noncomputable def V32h : Tab := V32g.add 32 (entry (fun v : Nat × Nat => [.int .i64 (v.1 : Int), .int .i64 (v.2 : Int)]) (fun v => v.1 < v.2 ∧ v.2 ≤ 100000) (fun v => .int .i64 ((v.1 + (v.2 - v.1) / 2 : Nat) : Int)))
theorem V32h_ok : TabOK Try.prog V32h := V32g_ok.ent Try.func32 (by kernel_rfl) (by kernel_rfl) fun v h => c_Middle v.1 v.2 h.1 h.2
@[go_sem] theorem V32h_old {g : FuncId} {xs : List A} (h : g ≠ 32) : V32h.f g xs = V32g.f g xs := Tab.add_ne h
@[go_sem] theorem V32h_s : V32h.pl V32g := ⟨fun _ => rfl, fun _ => rfl, rfl, fun _ => rfl, rfl, fun _ => rfl, rfl⟩
theorem v_Middle {a b : Nat} (h : a < b ∧ b ≤ 100000) : V32h.f 32 [.int .i64 (a : Int), .int .i64 (b : Int)] = some (.int .i64 ((a + (b - a) / 2 : Nat) : Int)) := Tab.ent_eq (Γ := V32g) (g := 32) (enc := fun v : Nat × Nat => [.int .i64 (v.1 : Int), .int .i64 (v.2 : Int)]) (ok := fun v => v.1 < v.2 ∧ v.2 ≤ 100000) (spec := fun v => .int .i64 ((v.1 + (v.2 - v.1) / 2 : Nat) : Int)) (fun i j h => by simp at h; exact Prod.ext (by omega) (by omega)) (a, b) h
structure Pt where
  f : Nat
  t : Nat
  r : Rng
def Pt.enc (p : Pt) : A := .agg [.int .i64 p.f, .int .i64 p.t, .str p.r.lo, .str p.r.hi, .bool p.r.op]
theorem Pt.enc_inj (p q : Pt) (h : p.enc = q.enc) : p = q := by
  obtain ⟨a, b, lo, hi, op⟩ := p
  obtain ⟨a', b', lo', hi', op'⟩ := q
  simp [Pt.enc] at h
  obtain ⟨h1, h2, rfl, rfl, rfl⟩ := h
  rw [show a = a' by omega, show b = b' by omega]
@[simp] theorem map_pt_inj {l m : List Pt} : (l.map Pt.enc = m.map Pt.enc) = (l = m) := map_inj Pt.enc_inj
structure Ds where
  t : Tm
  l : List It
  seed : Int
  bits : Int
  os : List Pt
  fs : List Rng
  a : Nat
def Ds.ok (d : Ds) : Prop := okT32 d.t d.l d.seed ∧ (∀ p ∈ d.os, rightR p.r = true) ∧ d.os.length ≤ 1000 ∧ d.fs.length ≤ 1000 ∧ (∀ r ∈ d.fs, rightR r = true) ∧ d.a ≤ 1000
def Ds.cells (d : Ds) : List A := [treeA d.t d.seed d.bits, .slc (d.os.map Pt.enc), .slc (d.fs.map Rng.enc), .int .i64 d.a]
inductive DX where
  | nil
  | plain
  | some (d : Ds)
def DX.enc : DX → A
  | .nil => .nilp
  | .plain => .dptr [.nilp, .slc [], .slc [], .int .i64 0]
  | .some d => .dptr d.cells
def DX.ok : DX → Prop
  | .some d => d.ok
  | _ => True
def DX.os : DX → List Pt
  | .some d => d.os
  | _ => []
def DX.fs : DX → List Rng
  | .some d => d.fs
  | _ => []
def DX.a : DX → Nat
  | .some d => d.a
  | _ => 0
def noQ : A := .tup [.agg [.str [], .str [], .bool false, .int .u64 0], .bool false]
def qA (d : Ds) (p : Pt) : A := .tup [.agg [.str p.r.lo, .str p.r.hi, .bool p.r.op, .int .u64 (sum21 d.l p.r d.seed d.bits)], .bool true]
def nextA : DX → A
  | .some d => match d.os.getLast? with | some p => qA d p | none => noQ
  | _ => noQ
theorem ok_descent_Descent_Next : codeOK Try.prog V32h Try.f11.ntmps (Try.f11.body.getD .skip) = true := by kernel_rfl
theorem c_Next_nil : CallA Try.prog 11 [.nilp] (· = noQ) := by
  refine callA_of_body V32h_ok mixed Try.func11 rfl (Nat.le_of_ble_eq_true rfl) ok_descent_Descent_Next ?_
  unfold Try.f11
  unfold noQ
  simp -implicitDefEqProofs (disch := (first | omega | decide)) only [go_sem, ↓reduceIte, seval]
theorem c_Next_empty (x : A) (y : List A) : CallA Try.prog 11 [.dptr (x :: .slc [] :: y)] (· = noQ) := by
  refine callA_of_body V32h_ok mixed Try.func11 rfl (Nat.le_of_ble_eq_true rfl) ok_descent_Descent_Next ?_
  unfold Try.f11
  unfold noQ
  simp -implicitDefEqProofs (disch := (first | omega | decide)) only [go_sem, ↓reduceIte, seval]
theorem c_Next_some (d : Ds) (hd : d.ok) (p : Pt) (hp : d.os.getLast? = some p) : CallA Try.prog 11 [.dptr d.cells] (· = qA d p) := by
  refine callA_of_body V32h_ok mixed Try.func11 rfl (Nat.le_of_ble_eq_true rfl) ok_descent_Descent_Next ?_
  unfold Try.f11
  obtain ⟨h1, h2, h3, h4, h5, h6⟩ := hd
  have hm : p ∈ d.os := List.mem_of_getLast? hp
  have g1 := v_Sum (bits := d.bits) h1 (h2 p hm)
  have hne : d.os ≠ [] := fun h => by rw [h] at hp; simp at hp
  have hlen : 0 < d.os.length := List.length_pos_iff.2 hne
  have e0 : d.os[d.os.length - 1]? = some p := by rw [← List.getLast?_eq_getElem?]; exact hp
  have e1 : (d.os.map Pt.enc)[d.os.length - 1]? = some (.agg [.int .i64 p.f, .int .i64 p.t, .str p.r.lo, .str p.r.hi, .bool p.r.op]) := by rw [List.getElem?_map, e0]; rfl
  unfold Ds.cells qA treeA
  generalize hS : sum21 d.l p.r d.seed d.bits = S at *
  obtain ⟨t, l, seed, bits, os, fs, a⟩ := d
  simp only at *
  obtain ⟨n, hn⟩ : ∃ n, os.length = n + 1 := ⟨os.length - 1, by omega⟩
  rw [hn, Nat.add_sub_cancel] at e1
  have q1 : (((os.length : Nat) : Int) == 0) = false := by simp; omega
  have q2 : IntKind.i64.wrap (((os.length : Nat) : Int) - 1) = (n : Int) := by rw [wrap_i64] <;> omega
  have q3 : (0 : Int) ≤ (n : Int) := by omega
  have q4 : (n : Int).toNat = n := Int.toNat_natCast _
  clear hn
  simp -implicitDefEqProofs (disch := (first | omega | decide)) only [go_sem, ↓reduceIte, seval, g1, e1, q1, q2, q3, q4, List.length_map]
theorem c_Next (x : DX) (hx : x.ok) : CallA Try.prog 11 [x.enc] (· = nextA x) := by
  cases x with
  | nil => exact c_Next_nil
  | plain => exact c_Next_empty .nilp _
  | some d =>
    unfold nextA
    simp only
    cases hl : d.os.getLast? with
    | none =>
      have : d.os = [] := List.getLast?_eq_none_iff.1 hl
      show CallA Try.prog 11 [.dptr [treeA d.t d.seed d.bits, .slc (d.os.map Pt.enc), .slc (d.fs.map Rng.enc), .int .i64 d.a]] (· = noQ)
      rw [this]
      exact c_Next_empty _ _
    | some p => exact c_Next_some d hx p hl
theorem ok_descent_Descent_Asked : codeOK Try.prog V32h Try.f12.ntmps (Try.f12.body.getD .skip) = true := by kernel_rfl
theorem c_Asked (x : DX) : CallA Try.prog 12 [x.enc] (· = .int .i64 x.a) := by
  refine callA_of_body V32h_ok mixed Try.func12 rfl (Nat.le_of_ble_eq_true rfl) ok_descent_Descent_Asked ?_
  unfold Try.f12
  cases x with
  | nil =>
    unfold DX.enc DX.a
    simp -implicitDefEqProofs (disch := (first | omega | decide)) only [go_sem, ↓reduceIte, seval]
    try rfl
  | plain =>
    unfold DX.enc DX.a
    simp -implicitDefEqProofs (disch := (first | omega | decide)) only [go_sem, ↓reduceIte, seval]
    try rfl
  | some d =>
    unfold DX.enc DX.a Ds.cells
    simp -implicitDefEqProofs (disch := (first | omega | decide)) only [go_sem, ↓reduceIte, seval]
theorem okL_right {l : List Rng} (h : ∀ r ∈ l, rightR r = true) : okL l := fun r hr => by
  have := h r hr
  unfold rightR at this
  simp only [Bool.and_eq_true, decide_eq_true_eq] at this
  exact ⟨by omega, by omega⟩
theorem ok_descent_Descent_Found : codeOK Try.prog V32h Try.f15.ntmps (Try.f15.body.getD .skip) = true := by kernel_rfl
theorem c_Found (x : DX) (hx : x.ok) : CallA Try.prog 15 [x.enc] (· = .slc ((setS (hasRs x.fs)).map Rng.enc)) := by
  refine callA_of_body V32h_ok mixed Try.func15 rfl (Nat.le_of_ble_eq_true rfl) ok_descent_Descent_Found ?_
  unfold Try.f15
  have g0 : J32b.f 34 [.slc []] = some (.slc ((setS (hasRs [])).map Rng.enc)) := j_rOf (l := []) ⟨by simp, by intro r h; cases h⟩
  have e0 : (setS (hasRs [])).map Rng.enc = [] := by
    rw [← setS_eq (l := []) (p := hasRs []) rfl fun _ => rfl]; rfl
  cases x with
  | nil =>
    unfold DX.enc DX.fs
    rw [e0]
    simp -implicitDefEqProofs (disch := (first | omega | decide)) only [go_sem, ↓reduceIte, seval]
  | plain =>
    unfold DX.enc DX.fs
    rw [e0] at g0 ⊢
    simp -implicitDefEqProofs (disch := (first | omega | decide)) only [go_sem, ↓reduceIte, seval, g0]
  | some d =>
    obtain ⟨h1, h2, h3, h4, h5, h6⟩ := hx
    have g1 := j_rOf (l := d.fs) ⟨by omega, okL_right h5⟩
    unfold DX.enc DX.fs Ds.cells
    simp only
    generalize setS (hasRs d.fs) = F at *
    simp -implicitDefEqProofs (disch := (first | omega | decide)) only [go_sem, ↓reduceIte, seval, g1]
theorem Ds.eq_of {d e : Ds} (hd : d.ok) (he : e.ok) (h : d.cells = e.cells) : d = e := by
  obtain ⟨t, l, seed, bits, os, fs, a⟩ := d
  obtain ⟨t', l', seed', bits', os', fs', a'⟩ := e
  simp [Ds.cells, treeA] at h
  obtain ⟨⟨rfl, rfl, rfl⟩, rfl, h2, h3⟩ := h
  have h4 : l = l' := treeOf_inj hd.1.1 he.1.1
  have h5 : fs = fs' := h2
  subst h4
  subst h5
  rw [show a = a' by omega]
theorem DX.eq_of {x y : DX} (hx : x.ok) (hy : y.ok) (h : x.enc = y.enc) : x = y := by
  cases x with
  | nil => cases y <;> simp [DX.enc] at h; rfl
  | plain =>
    cases y with
    | nil => simp [DX.enc] at h
    | plain => rfl
    | some e => simp [DX.enc, Ds.cells, treeA] at h
  | some d =>
    cases y with
    | nil => simp [DX.enc] at h
    | plain => simp [DX.enc, Ds.cells, treeA] at h
    | some e =>
      simp only [DX.enc, A.dptr.injEq] at h
      rw [Ds.eq_of hx hy h]
noncomputable def W32a : Tab := V32h.add 11 (entry (fun x : DX => [x.enc]) (fun x => x.ok) nextA)
theorem W32a_ok : TabOK Try.prog W32a := V32h_ok.ent Try.func11 (by kernel_rfl) (by kernel_rfl) fun x h => c_Next x h
@[go_sem] theorem W32a_old {g : FuncId} {xs : List A} (h : g ≠ 11) : W32a.f g xs = V32h.f g xs := Tab.add_ne h
theorem w_Next {x : DX} (h : x.ok) : W32a.f 11 [x.enc] = some (nextA x) :=
  Tab.add_eq.trans (entry_eq32 (enc := fun x : DX => [x.enc]) (ok := fun x => x.ok) (spec := nextA) (fun a b ha hb e => by rw [DX.eq_of ha hb (List.cons.inj e).1]) x h)
noncomputable def W32b : Tab := W32a.add 12 (entry (fun x : DX => [x.enc]) (fun x => x.ok) (fun x => .int .i64 x.a))
theorem W32b_ok : TabOK Try.prog W32b := W32a_ok.ent Try.func12 (by kernel_rfl) (by kernel_rfl) fun x _ => c_Asked x
@[go_sem] theorem W32b_old {g : FuncId} {xs : List A} (h : g ≠ 12) : W32b.f g xs = W32a.f g xs := Tab.add_ne h
theorem w_Asked {x : DX} (h : x.ok) : W32b.f 12 [x.enc] = some (.int .i64 x.a) :=
  Tab.add_eq.trans (entry_eq32 (enc := fun x : DX => [x.enc]) (ok := fun x => x.ok) (spec := fun x => .int .i64 x.a) (fun a b ha hb e => by rw [DX.eq_of ha hb (List.cons.inj e).1]) x h)
noncomputable def W32c : Tab := W32b.add 15 (entry (fun x : DX => [x.enc]) (fun x => x.ok) (fun x => .slc ((setS (hasRs x.fs)).map Rng.enc)))
theorem W32c_ok : TabOK Try.prog W32c := W32b_ok.ent Try.func15 (by kernel_rfl) (by kernel_rfl) fun x h => c_Found x h
@[go_sem] theorem W32c_old {g : FuncId} {xs : List A} (h : g ≠ 15) : W32c.f g xs = W32b.f g xs := Tab.add_ne h
theorem w_Found {x : DX} (h : x.ok) : W32c.f 15 [x.enc] = some (.slc ((setS (hasRs x.fs)).map Rng.enc)) :=
  Tab.add_eq.trans (entry_eq32 (enc := fun x : DX => [x.enc]) (ok := fun x => x.ok) (spec := fun x => .slc ((setS (hasRs x.fs)).map Rng.enc)) (fun a b ha hb e => by rw [DX.eq_of ha hb (List.cons.inj e).1]) x h)
end Go.Proofs.Ytjnpfbohnpjckaa
namespace Go.Abs
theorem callH_boxnilR {P : Program} {f : FuncId} {xs : List A} {H R : List Obj} {cs : List A} {r : A} {S : List Nat} (i k : Nat) (hR : ∀ o ∈ R, ∃ k es, o = Obj.row k es) (hi : cs[i]? = some .nils) (h : CallH P f xs H r (.box cs :: R) S) :
    CallH P f xs H r (.box (setNth cs i (.row (R.length + 1) 0 k 0 false)) :: (R ++ [.row k []])) S := by
  intro N φ w vs hN hrel hfree hrep
  refine Calls.mono (h N φ w vs hN hrel hfree hrep) ?_
  rintro e w' ⟨v, φ', rfl, hv, hrel', ht, hl⟩
  have e1 : φ'.length = R.length + 1 := hrel'.len
  have hget : ∀ m : Nat, (φ' ++ [Own.nil])[m]? = if m = R.length + 1 then some .nil else φ'[m]? := fun m => by
    rw [List.getElem?_append]
    split
    · rw [if_neg (by omega)]
    · split
      · rename_i h1 h2; subst h2; simp [e1]
      · rename_i h1 h2
        rw [List.getElem?_eq_none (by simp; omega), List.getElem?_eq_none (by omega)]
  have hat : ∀ m b k : Nat, (φ' ++ [Own.nil])[m]? = some (Own.loc b k) → φ'[m]? = some (.loc b k) := fun m b k hm => by
    rw [hget] at hm
    split at hm
    · simp at hm
    · exact hm
  have hold : ∀ (m : Nat) (p : Own), φ'[m]? = some p → (φ' ++ [Own.nil])[m]? = some p := fun m p hp => by
    have := (List.getElem?_eq_some_iff.1 hp).1
    rw [hget, if_neg (by omega)]; exact hp
  have hext : Ext (fun _ => True) (envOf N φ' w') (envOf N (φ' ++ [.nil]) w') := {
    size := Nat.le_refl _
    blk := fun b _ hn => ⟨by
      rintro (h0 | ⟨m, k', hm⟩)
      · exact hn (.inl h0)
      · exact hn (.inr ⟨m, k', hat m b k' hm⟩), rfl⟩
    refs := fun n o _ hn _ => hold n o hn
    own := fun n b k' c e fr _ _ hc => ⟨c, fr, hc, rfl⟩ }
  refine ⟨v, φ' ++ [.nil], rfl, Rep.mono hext _ _ hv fun _ _ => trivial, ?_, ?_, by simp at hl ⊢; omega⟩
  · exact {
      len := by simp [e1]
      objs := fun n o p ho hp => by
        rw [nthO_eq] at ho
        cases n with
        | zero =>
          simp only [List.getElem?_cons_zero, Option.some.injEq] at ho
          subst ho
          rw [hget, if_neg (by omega)] at hp
          have hob := hrel'.objs 0 (.box cs) p rfl hp
          cases p with
          | nil => simp [ObjRel] at hob
          | free => simp [ObjRel] at hob
          | loc b k' =>
            simp only [ObjRel] at hob ⊢
            refine ⟨hob.1, RepM_iff.2 fun j y hy => ?_⟩
            rw [setNth_eq, List.getElem?_set] at hy
            split at hy
            · rename_i e
              subst e
              split at hy
              · simp at hy
                subst hy
                obtain ⟨u, hu, h1', hr⟩ := RepM_iff.1 hob.2 i _ hi
                refine ⟨u, hu, h1', ?_⟩
                simp only [Rep] at hr
                subst hr
                simp only [Rep]
                exact .inl ⟨.nil, by show (φ' ++ [Own.nil])[R.length + 1]? = _; rw [hget, if_pos rfl], by simp, trivial, fun _ => trivial, none, rfl⟩
              · simp at hy
            · obtain ⟨u, hu, h1', hr⟩ := RepM_iff.1 hob.2 j y hy
              exact ⟨u, hu, h1', Rep.mono hext _ _ hr fun _ _ => trivial⟩
        | succ n =>
          rw [List.getElem?_cons_succ, List.getElem?_append] at ho
          split at ho
          · rename_i hn
            rw [hget, if_neg (by omega)] at hp
            obtain ⟨k0, es, rfl⟩ := hR o (List.mem_of_getElem? ho)
            exact ObjRel.mono hext (hrel'.objs (n + 1) _ p (by rw [nthO_eq]; exact ho) hp) (fun b k _ c e fr hc => hc) (fun cs hcs => by cases hcs)
          · rename_i hn
            have hn2 : n - R.length = 0 := by
              have := (List.getElem?_eq_some_iff.1 ho).1
              simp at this; omega
            rw [hn2] at ho
            simp only [List.getElem?_cons_zero, Option.some.injEq] at ho
            subst ho
            rw [hget, if_pos (by omega)] at hp
            obtain rfl := Option.some.inj hp
            simp [ObjRel]
      own := fun n b k' hn => hrel'.own n b k' (hat n b k' hn)
      inj := fun n m b k' k'' hn hm => hrel'.inj n m b k' k'' (hat n b k' hn) (hat m b k'' hm) }
  · exact {
      os := ht.os
      tape := ht.tape
      output := ht.output
      drawn := ht.drawn
      size := ht.size
      block := ht.block
      shape := ht.shape
      own := fun n b k' hn => ht.own n b k' (hat n b k' hn)
      stay := fun n p hS hp => hold n p (ht.stay n p hS hp) }
end Go.Abs
namespace Go.Proofs.Ytjnpfbohnpjckaa
open Go.Abs
set_option linter.unusedSimpArgs false
set_option linter.unusedVariables false
set_option maxRecDepth 20000
set_option maxHeartbeats 32000000
def dsO (t : Tm) (seed bits : Int) (es : List Pt) (n : Nat) (fs : List Rng) (a : Nat) : List Go.Abs.Obj := [.box [treeA t seed bits, .row 1 0 5 n false, .row 2 0 3 fs.length false, .int .i64 a], .row 5 (es.map Pt.enc), .row 3 (fs.map Rng.enc)]
def ordsT : Nat → List (List Nat) := fun n => if n = 11 then [[1,2,3,4,5,6,7,0,8,9,10,11], [1,2,3,4,5,6,7,8,0,9,10,11]] else if n = 17 then [[1,2,3,4,5,6,7,0,8,9,10,11], [1,2,3,4,5,6,7,8,0,9,10,11]] else []
noncomputable def TT : Tab := { W32c with fix := fun n => n == 0, nf := 3, ords := ordsT }
theorem TT_ok : TabOK Try.prog TT := ⟨W32c_ok.f, W32c_ok.hp⟩
@[go_sem] theorem TT_f : TT.f = W32c.f := rfl
@[go_sem] theorem TT_eff {g : FuncId} : TT.eff g = false := rfl
@[go_sem] theorem TT_fix {n : Nat} : TT.fix n = (n == 0) := rfl
@[go_sem] theorem TT_ords11 : TT.ords 11 = [[1,2,3,4,5,6,7,0,8,9,10,11], [1,2,3,4,5,6,7,8,0,9,10,11]] := rfl
@[go_sem] theorem TT_ords17 : TT.ords 17 = [[1,2,3,4,5,6,7,0,8,9,10,11], [1,2,3,4,5,6,7,8,0,9,10,11]] := rfl
@[go_sem] theorem TT_ords0 : TT.ords 0 = [] := rfl
@[go_sem] theorem TT_ords1 : TT.ords 1 = [] := rfl
@[go_sem] theorem TT_ords2 : TT.ords 2 = [] := rfl
@[go_sem] theorem TT_ords3 : TT.ords 3 = [] := rfl
@[go_sem] theorem TT_ords4 : TT.ords 4 = [] := rfl
@[go_sem] theorem TT_ords5 : TT.ords 5 = [] := rfl
@[go_sem] theorem TT_ords6 : TT.ords 6 = [] := rfl
@[go_sem] theorem TT_ords7 : TT.ords 7 = [] := rfl
@[go_sem] theorem TT_ords8 : TT.ords 8 = [] := rfl
@[go_sem] theorem TT_ords9 : TT.ords 9 = [] := rfl
@[go_sem] theorem TT_ords10 : TT.ords 10 = [] := rfl
@[go_sem] theorem TT_ords12 : TT.ords 12 = [] := rfl
@[go_sem] theorem TT_ords13 : TT.ords 13 = [] := rfl
@[go_sem] theorem TT_ords14 : TT.ords 14 = [] := rfl
@[go_sem] theorem TT_ords15 : TT.ords 15 = [] := rfl
@[go_sem] theorem TT_ords16 : TT.ords 16 = [] := rfl
@[go_sem] theorem TT_ords18 : TT.ords 18 = [] := rfl
theorem ok_descent_Descent_Tell : codeOK Try.prog TT Try.f13.ntmps (Try.f13.body.getD .skip) = true := by kernel_rfl
@[go_sem] theorem take_rngs {l : List Rng} : List.take l.length (l.map Rng.enc) = l.map Rng.enc := List.take_of_length_le (by simp)
theorem zero_q {r : Rng} (h : r ≠ ⟨[], [], false⟩) (S : Int) : (r.lo == [] && (r.hi == [] && (!r.op && S == 0))) = false := by
  obtain ⟨lo, hi, op⟩ := r
  rw [Bool.eq_false_iff]
  intro hh
  simp at hh
  obtain ⟨h1, h2, h3, _⟩ := hh
  exact h (by rw [h1, h2, h3])
theorem h_Tell_same (t : Tm) (l : List It) (seed bits : Int) (es : List Pt) (m : Nat) (fs : List Rng) (a : Nat) (p : Pt) (h1 : okT32 t l seed) (hp : es[m]? = some p) (hr : ∀ q ∈ es.take (m + 1), rightR q.r = true) (he : es.length ≤ 1000) (hf : fs.length ≤ 999) (hfr : ∀ r ∈ fs, rightR r = true) (ha : a ≤ 999) (hz : p.r ≠ ⟨[], [], false⟩) :
    CallH Try.prog 13 [.ref 0 0, .bool true] (dsO t seed bits es (m + 1) fs a) (.bool true) (dsO t seed bits es m fs (a + 1)) [1, 2] := by
  refine callH_of_body TT_ok mixed Try.func13 rfl (Nat.le_of_ble_eq_true rfl) (fun n h h' => by have h : n < 3 := h; simp at h'; have e : n = 0 := (by omega); subst e; rfl) (by show 3 ≤ 3; simp) (by show 3 ≤ 3; simp) ok_descent_Descent_Tell ?_
  unfold Try.f13
  have hm : m < es.length := (List.getElem?_eq_some_iff.1 hp).1
  have hd : Ds.ok ⟨t, l, seed, bits, es.take (m + 1), fs, a⟩ := ⟨h1, hr, by simp only [List.length_take]; omega, by simp only; omega, hfr, by simp only; omega⟩
  have gN := w_Next (x := .some ⟨t, l, seed, bits, es.take (m + 1), fs, a⟩) hd
  have hl : (es.take (m + 1)).getLast? = some p := by
    rw [List.getLast?_eq_getElem?, List.length_take, Nat.min_eq_left (by omega), Nat.add_sub_cancel, List.getElem?_take, if_pos (by omega)]; exact hp
  have eN : nextA (.some ⟨t, l, seed, bits, es.take (m + 1), fs, a⟩) = qA ⟨t, l, seed, bits, es.take (m + 1), fs, a⟩ p := by
    unfold nextA; simp only; rw [hl]
  rw [eN] at gN
  have qz := zero_q hz (sum21 l p.r seed bits)
  have e1 : (es.map Pt.enc)[m]? = some (.agg [.int .i64 p.f, .int .i64 p.t, .str p.r.lo, .str p.r.hi, .bool p.r.op]) := by rw [List.getElem?_map, hp]; rfl
  have vt : List.take (m + 1) (es.map Pt.enc) = (es.take (m + 1)).map Pt.enc := List.map_take.symm
  have vm : List.take m (es.map Pt.enc) = (es.take m).map Pt.enc := List.map_take.symm
  have q1 : m + 1 ≤ es.length := hm
  have q2 : IntKind.i64.wrap (((m + 1 : Nat) : Int) - 1) = (m : Int) := by rw [wrap_i64] <;> omega
  have q3 : (0 : Int) ≤ (m : Int) := by omega
  have q4 : (m : Int).toNat = m := Int.toNat_natCast _
  have q5 : (m : Int) < ((m + 1 : Nat) : Int) := by omega
  have q6 : (m : Int) ≤ ((m + 1 : Nat) : Int) := by omega
  have q7 : ((m : Int) - 0).toNat = m := by omega
  have q8 : IntKind.i64.wrap ((a : Int) + 1) = ((a + 1 : Nat) : Int) := by rw [wrap_i64 (by omega)]; omega
  unfold DX.enc Ds.cells qA treeA at gN
  simp only at gN
  generalize sum21 l p.r seed bits = S at *
  obtain ⟨pf, pt, lo, hi, op⟩ := p
  simp only at e1 qz gN
  unfold dsO treeA
  clear h1 hp hr hfr hz hd hl eN
  simp -implicitDefEqProofs (maxSteps := 6000000) (disch := (first | omega | decide)) only [go_sem, ↓reduceIte, seval, gN, e1, vt, vm, q1, q2, q3, q4, q5, q6, q7, q8, qz, List.length_map, Nat.zero_add, Nat.le_refl]
theorem h_Tell_small (t : Tm) (l : List It) (seed bits : Int) (es : List Pt) (m : Nat) (fs : List Rng) (a : Nat) (p : Pt) (h1 : okT32 t l seed) (hp : es[m]? = some p) (hr : ∀ q ∈ es.take (m + 1), rightR q.r = true) (he : es.length ≤ 1000) (hf : fs.length ≤ 999) (hfr : ∀ r ∈ fs, rightR r = true) (ha : a ≤ 999) (hz : p.r ≠ ⟨[], [], false⟩) (hs : p.t < p.f + 2) (hb : p.f ≤ 100000 ∧ p.t ≤ 100000) :
    CallH Try.prog 13 [.ref 0 0, .bool false] (dsO t seed bits es (m + 1) fs a) (.bool true) (dsO t seed bits es m (fs ++ [p.r]) (a + 1)) [1, 2] := by
  refine callH_of_body TT_ok mixed Try.func13 rfl (Nat.le_of_ble_eq_true rfl) (fun n h h' => by have h : n < 3 := h; simp at h'; have e : n = 0 := (by omega); subst e; rfl) (by show 3 ≤ 3; simp) (by show 3 ≤ 3; simp) ok_descent_Descent_Tell ?_
  unfold Try.f13
  have hm : m < es.length := (List.getElem?_eq_some_iff.1 hp).1
  have hd : Ds.ok ⟨t, l, seed, bits, es.take (m + 1), fs, a⟩ := ⟨h1, hr, by simp only [List.length_take]; omega, by simp only; omega, hfr, by simp only; omega⟩
  have gN := w_Next (x := .some ⟨t, l, seed, bits, es.take (m + 1), fs, a⟩) hd
  have hl : (es.take (m + 1)).getLast? = some p := by
    rw [List.getLast?_eq_getElem?, List.length_take, Nat.min_eq_left (by omega), Nat.add_sub_cancel, List.getElem?_take, if_pos (by omega)]; exact hp
  have eN : nextA (.some ⟨t, l, seed, bits, es.take (m + 1), fs, a⟩) = qA ⟨t, l, seed, bits, es.take (m + 1), fs, a⟩ p := by
    unfold nextA; simp only; rw [hl]
  rw [eN] at gN
  have qz := zero_q hz (sum21 l p.r seed bits)
  have e1 : (es.map Pt.enc)[m]? = some (.agg [.int .i64 p.f, .int .i64 p.t, .str p.r.lo, .str p.r.hi, .bool p.r.op]) := by rw [List.getElem?_map, hp]; rfl
  have vt : List.take (m + 1) (es.map Pt.enc) = (es.take (m + 1)).map Pt.enc := List.map_take.symm
  have vm : List.take m (es.map Pt.enc) = (es.take m).map Pt.enc := List.map_take.symm
  have q1 : m + 1 ≤ es.length := hm
  have q2 : IntKind.i64.wrap (((m + 1 : Nat) : Int) - 1) = (m : Int) := by rw [wrap_i64] <;> omega
  have q3 : (0 : Int) ≤ (m : Int) := by omega
  have q4 : (m : Int).toNat = m := Int.toNat_natCast _
  have q5 : (m : Int) < ((m + 1 : Nat) : Int) := by omega
  have q6 : (m : Int) ≤ ((m + 1 : Nat) : Int) := by omega
  have q7 : ((m : Int) - 0).toNat = m := by omega
  have q8 : IntKind.i64.wrap ((a : Int) + 1) = ((a + 1 : Nat) : Int) := by rw [wrap_i64 (by omega)]; omega
  unfold DX.enc Ds.cells qA treeA at gN
  simp only at gN
  have r1 : IntKind.i64.wrap ((p.t : Int) - (p.f : Int)) = (p.t : Int) - (p.f : Int) := by rw [wrap_i64]; omega
  have r2 : (p.t : Int) - (p.f : Int) < 2 := by omega
  have efs : fs.map Rng.enc ++ [.agg [.str p.r.lo, .str p.r.hi, .bool p.r.op]] = (fs ++ [p.r]).map Rng.enc := by rw [List.map_append]; rfl
  have efl : (fs ++ [p.r]).length = fs.length + 1 := by simp
  unfold dsO treeA
  rw [efl, ← efs]
  generalize sum21 l p.r seed bits = S at *
  obtain ⟨pf, pt, lo, hi, op⟩ := p
  simp only at e1 qz gN r1 r2
  clear h1 hp hr hfr hz hd hl eN efs efl
  simp -implicitDefEqProofs (maxSteps := 6000000) (disch := (first | omega | decide)) only [go_sem, ↓reduceIte, seval, gN, e1, vt, vm, q1, q2, q3, q4, q5, q6, q7, q8, qz, r1, r2, List.length_map, Nat.zero_add, Nat.le_refl]
  try omega
theorem h_Tell_big (t : Tm) (l : List It) (seed bits : Int) (es : List Pt) (m : Nat) (fs : List Rng) (a : Nat) (p : Pt) (h1 : okT32 t l seed) (hp : es[m]? = some p) (hr : ∀ q ∈ es.take (m + 1), rightR q.r = true) (he : es.length ≤ 1000) (hf : fs.length ≤ 999) (hfr : ∀ r ∈ fs, rightR r = true) (ha : a ≤ 999) (hz : p.r ≠ ⟨[], [], false⟩) (hs : p.f + 2 ≤ p.t) (hb : p.t ≤ l.length) (x : It) (hx : l[p.f + (p.t - p.f) / 2]? = some x) :
    CallH Try.prog 13 [.ref 0 0, .bool false] (dsO t seed bits es (m + 1) fs a) (.bool true) (dsO t seed bits (es.take m ++ [(⟨p.f + (p.t - p.f) / 2, p.t, ⟨x.key, p.r.hi, p.r.op⟩⟩ : Pt), (⟨p.f, p.f + (p.t - p.f) / 2, ⟨p.r.lo, x.key, false⟩⟩ : Pt)]) (m + 2) fs (a + 1)) [1, 2] := by
  refine callH_of_body TT_ok mixed Try.func13 rfl (Nat.le_of_ble_eq_true rfl) (fun n h h' => by have h : n < 3 := h; simp at h'; have e : n = 0 := (by omega); subst e; rfl) (by show 3 ≤ 3; simp) (by show 3 ≤ 3; simp) ok_descent_Descent_Tell ?_
  unfold Try.f13
  have hm : m < es.length := (List.getElem?_eq_some_iff.1 hp).1
  have hd : Ds.ok ⟨t, l, seed, bits, es.take (m + 1), fs, a⟩ := ⟨h1, hr, by simp only [List.length_take]; omega, by simp only; omega, hfr, by simp only; omega⟩
  have gN := w_Next (x := .some ⟨t, l, seed, bits, es.take (m + 1), fs, a⟩) hd
  have hl : (es.take (m + 1)).getLast? = some p := by
    rw [List.getLast?_eq_getElem?, List.length_take, Nat.min_eq_left (by omega), Nat.add_sub_cancel, List.getElem?_take, if_pos (by omega)]; exact hp
  have eN : nextA (.some ⟨t, l, seed, bits, es.take (m + 1), fs, a⟩) = qA ⟨t, l, seed, bits, es.take (m + 1), fs, a⟩ p := by
    unfold nextA; simp only; rw [hl]
  rw [eN] at gN
  have qz := zero_q hz (sum21 l p.r seed bits)
  have e1 : (es.map Pt.enc)[m]? = some (.agg [.int .i64 p.f, .int .i64 p.t, .str p.r.lo, .str p.r.hi, .bool p.r.op]) := by rw [List.getElem?_map, hp]; rfl
  have vt : List.take (m + 1) (es.map Pt.enc) = (es.take (m + 1)).map Pt.enc := List.map_take.symm
  have vm : List.take m (es.map Pt.enc) = (es.take m).map Pt.enc := List.map_take.symm
  have q1 : m + 1 ≤ es.length := hm
  have q2 : IntKind.i64.wrap (((m + 1 : Nat) : Int) - 1) = (m : Int) := by rw [wrap_i64] <;> omega
  have q3 : (0 : Int) ≤ (m : Int) := by omega
  have q4 : (m : Int).toNat = m := Int.toNat_natCast _
  have q5 : (m : Int) < ((m + 1 : Nat) : Int) := by omega
  have q6 : (m : Int) ≤ ((m + 1 : Nat) : Int) := by omega
  have q7 : ((m : Int) - 0).toNat = m := by omega
  have q8 : IntKind.i64.wrap ((a : Int) + 1) = ((a + 1 : Nat) : Int) := by rw [wrap_i64 (by omega)]; omega
  unfold DX.enc Ds.cells qA treeA at gN
  simp only at gN
  have hln : l.length ≤ 1000 := by have := h1.2.2.1; have h2 := congrArg List.length h1.1; rw [Tm.n_eq, List.length_map] at h2; omega
  have r1 : IntKind.i64.wrap ((p.t : Int) - (p.f : Int)) = (p.t : Int) - (p.f : Int) := by rw [wrap_i64]; omega
  have r2 : ¬ (p.t : Int) - (p.f : Int) < 2 := by omega
  have gM := v_Middle (a := p.f) (b := p.t) ⟨by omega, by omega⟩
  obtain ⟨hxi, hxe⟩ := List.getElem?_eq_some_iff.1 hx
  have gA := v_At (bits := bits) h1 hxi
  rw [hxe] at gA
  have eos : (es.take m).map Pt.enc ++ [.agg [.int .i64 ((p.f + (p.t - p.f) / 2 : Nat) : Int), .int .i64 p.t, .str x.key, .str p.r.hi, .bool p.r.op], .agg [.int .i64 p.f, .int .i64 ((p.f + (p.t - p.f) / 2 : Nat) : Int), .str p.r.lo, .str x.key, .bool false]] = (es.take m ++ [(⟨p.f + (p.t - p.f) / 2, p.t, ⟨x.key, p.r.hi, p.r.op⟩⟩ : Pt), (⟨p.f, p.f + (p.t - p.f) / 2, ⟨p.r.lo, x.key, false⟩⟩ : Pt)]).map Pt.enc := by rw [List.map_append]; rfl
  unfold dsO treeA
  rw [← eos]
  generalize sum21 l p.r seed bits = S at *
  generalize (p.f + (p.t - p.f) / 2 : Nat) = mid at *
  obtain ⟨pf, pt, lo, hi, op⟩ := p
  obtain ⟨x1, x2, x3, x4, x5, x6, x7⟩ := x
  simp only at e1 qz gN r1 r2 gM gA
  simp only [It.enc] at gA
  have q9 : m ≤ es.length := by omega
  clear h1 hp hr hfr hz hd hl eN eos hx hxe
  simp -implicitDefEqProofs (maxSteps := 6000000) (disch := (first | omega | decide)) only [go_sem, ↓reduceIte, seval, gN, e1, vt, vm, q1, q2, q3, q4, q5, q6, q7, q8, q9, qz, r1, r2, gM, gA, List.length_map, Nat.zero_add, Nat.le_refl]
  try omega
def qe (l : List It) (seed bits : Int) (r : Rng) : A := .agg [.str r.lo, .str r.hi, .bool r.op, .int .u64 (sum21 l r seed bits)]
def wkO (l : List It) (seed bits : Int) (ws : List Bool) (qs fs : List Rng) : List Go.Abs.Obj := [.box [.slc (l.map It.enc), .int .u64 seed, .int .i64 bits, .slc (ws.map .bool), .row 1 0 4 qs.length false, .row 2 0 3 fs.length false], .row 4 (qs.map (qe l seed bits)), .row 3 (fs.map Rng.enc)]
def keyI (l : List It) (m : Nat) : List UInt8 := match l[m]? with | some x => x.key | none => []
def goW (l : List It) (ws : List Bool) : Nat → Nat → Nat → Rng → List Rng → List Rng → List Rng × List Rng × Bool
  | 0, _, _, _, qs, fs => (qs, fs, true)
  | b + 1, f, t, r, qs, fs =>
    if ws.length < qs.length + 1 then (qs ++ [r], fs, false)
    else if ws[qs.length]? = some true then (qs ++ [r], fs, true)
    else if t < f + 2 then (qs ++ [r], fs ++ [r], true)
    else
      match goW l ws b f (f + (t - f) / 2) ⟨r.lo, keyI l (f + (t - f) / 2), false⟩ (qs ++ [r]) fs with
      | (q, fs', true) => goW l ws b (f + (t - f) / 2) t ⟨keyI l (f + (t - f) / 2), r.hi, r.op⟩ q fs'
      | x => x
theorem goW_inv (l : List It) (ws : List Bool) : ∀ (b f t : Nat) (r : Rng) (qs fs : List Rng), qs.length ≤ ws.length → fs.length ≤ qs.length →
    (goW l ws b f t r qs fs).1.length ≤ ws.length + 1 ∧ (goW l ws b f t r qs fs).2.1.length ≤ (goW l ws b f t r qs fs).1.length ∧ ((goW l ws b f t r qs fs).2.2 = true → (goW l ws b f t r qs fs).1.length ≤ ws.length)
  | 0, f, t, r, qs, fs, h1, h2 => ⟨by simp only [goW]; omega, h2, fun _ => h1⟩
  | b + 1, f, t, r, qs, fs, h1, h2 => by
    unfold goW
    split
    · simp; omega
    · rename_i hc
      split
      · simp; omega
      · split
        · simp; omega
        · have i1 := goW_inv l ws b f (f + (t - f) / 2) ⟨r.lo, keyI l (f + (t - f) / 2), false⟩ (qs ++ [r]) fs (by simp; omega) (by simp; omega)
          generalize goW l ws b f (f + (t - f) / 2) ⟨r.lo, keyI l (f + (t - f) / 2), false⟩ (qs ++ [r]) fs = g at *
          obtain ⟨q, fs', d⟩ := g
          obtain ⟨j1, j2, j3⟩ := i1
          cases d with
          | false => exact ⟨j1, j2, j3⟩
          | true => exact goW_inv l ws b (f + (t - f) / 2) t _ q fs' (j3 rfl) j2
abbrev WV := (List It × Int × Int × List Bool) × (List Rng × List Rng) × Nat × Nat × Rng
def WV.ok (b : Nat) (v : WV) : Prop := v.1.1.length ≤ 1000 ∧ (∀ x ∈ v.1.1, rightI x = true) ∧ v.1.2.2.2.length ≤ 1000 ∧ v.2.1.1.length ≤ v.1.2.2.2.length ∧ v.2.1.2.length ≤ v.2.1.1.length ∧ v.2.2.1 ≤ v.2.2.2.1 ∧ v.2.2.2.1 ≤ v.1.1.length ∧ v.2.2.2.1 - v.2.2.1 < b ∧ v.2.2.2.2.ok
def ordsW : Nat → List (List Nat) := fun n => if n = 1 then [[1,2,3,4,5,6,7,8,9,10,11,12,13,14,15,16,17,18,19,20,21,0,22,23,24,25], [1,2,3,4,5,6,7,8,9,10,11,12,13,14,15,16,17,18,19,20,21,22,0,23,24,25]] else if n = 7 then [[1,2,3,4,5,6,0,7,8,9,10], [1,2,3,4,5,6,7,0,8,9,10]] else []
noncomputable def WH (b : Nat) : Tab := W32c.addH 29 (entryH (fun v : WV => [.ref 0 0, .int .i64 v.2.2.1, .int .i64 v.2.2.2.1, v.2.2.2.2.enc]) (fun v => wkO v.1.1 v.1.2.1 v.1.2.2.1 v.1.2.2.2 v.2.1.1 v.2.1.2) (WV.ok b)
    (fun v => (.bool (goW v.1.1 v.1.2.2.2 b v.2.2.1 v.2.2.2.1 v.2.2.2.2 v.2.1.1 v.2.1.2).2.2, wkO v.1.1 v.1.2.1 v.1.2.2.1 v.1.2.2.2 (goW v.1.1 v.1.2.2.2 b v.2.2.1 v.2.2.2.1 v.2.2.2.2 v.2.1.1 v.2.1.2).1 (goW v.1.1 v.1.2.2.2 b v.2.2.1 v.2.2.2.1 v.2.2.2.2 v.2.1.1 v.2.1.2).2.1, [1, 2])))
noncomputable def WG (b : Nat) : Tab := { WH b with eff := fun f => f == 29, fix := fun n => n == 0, nf := 3, ords := ordsW }
@[go_sem] theorem WG_f {b : Nat} : (WG b).f = W32c.f := rfl
@[go_sem] theorem WG_eff {b : Nat} {g : FuncId} : (WG b).eff g = (g == 29) := rfl
@[go_sem] theorem WG_frz {b : Nat} {g : FuncId} : (WG b).frz g = false := rfl
@[go_sem] theorem WG_fix {b n : Nat} : (WG b).fix n = (n == 0) := rfl
@[go_sem] theorem WG_ords1 {b : Nat} : (WG b).ords 1 = [[1,2,3,4,5,6,7,8,9,10,11,12,13,14,15,16,17,18,19,20,21,0,22,23,24,25], [1,2,3,4,5,6,7,8,9,10,11,12,13,14,15,16,17,18,19,20,21,22,0,23,24,25]] := rfl
@[go_sem] theorem WG_ords7 {b : Nat} : (WG b).ords 7 = [[1,2,3,4,5,6,0,7,8,9,10], [1,2,3,4,5,6,7,0,8,9,10]] := rfl
@[go_sem] theorem WG_ords0 {b : Nat} : (WG b).ords 0 = [] := rfl
@[go_sem] theorem WG_ords2 {b : Nat} : (WG b).ords 2 = [] := rfl
@[go_sem] theorem WG_ords3 {b : Nat} : (WG b).ords 3 = [] := rfl
@[go_sem] theorem WG_ords4 {b : Nat} : (WG b).ords 4 = [] := rfl
@[go_sem] theorem WG_ords5 {b : Nat} : (WG b).ords 5 = [] := rfl
@[go_sem] theorem WG_ords6 {b : Nat} : (WG b).ords 6 = [] := rfl
@[go_sem] theorem WG_ords8 {b : Nat} : (WG b).ords 8 = [] := rfl
@[go_sem] theorem WG_ords9 {b : Nat} : (WG b).ords 9 = [] := rfl
@[go_sem] theorem WG_ords10 {b : Nat} : (WG b).ords 10 = [] := rfl
@[go_sem] theorem WG_ords11 {b : Nat} : (WG b).ords 11 = [] := rfl
theorem map_inj' {α β : Type} {g : α → β} (hg : ∀ x y, g x = g y → x = y) : ∀ {l m : List α}, l.map g = m.map g → l = m
  | [], [], _ => rfl
  | [], _ :: _, h => by simp at h
  | _ :: _, [], h => by simp at h
  | a :: l, b :: m, h => by
    simp only [List.map_cons, List.cons.injEq] at h
    rw [hg _ _ h.1, map_inj' hg h.2]
theorem qe_inj {l : List It} {seed bits : Int} {a b : List Rng} (h : a.map (qe l seed bits) = b.map (qe l seed bits)) : a = b := map_inj' (fun x y h => by
  obtain ⟨a1, a2, a3⟩ := x
  obtain ⟨b1, b2, b3⟩ := y
  simp [qe] at h
  obtain ⟨rfl, rfl, rfl, _⟩ := h
  rfl) h
theorem WG_Go {b : Nat} {l : List It} {seed bits : Int} {ws : List Bool} {qs fs : List Rng} {f t : Nat} {r : Rng} (h : WV.ok b ((l, seed, bits, ws), (qs, fs), f, t, r)) :
    (WG b).hp 29 [.ref 0 0, .int .i64 f, .int .i64 t, r.enc] (wkO l seed bits ws qs fs) = some (.bool (goW l ws b f t r qs fs).2.2, wkO l seed bits ws (goW l ws b f t r qs fs).1 (goW l ws b f t r qs fs).2.1, [1, 2]) := by
  have h2 : (WH b).hp 29 [.ref 0 0, .int .i64 f, .int .i64 t, r.enc] (wkO l seed bits ws qs fs) = _ := Tab.addH_eq
  exact h2.trans (entryH_eq (enc := fun v : WV => [.ref 0 0, .int .i64 v.2.2.1, .int .i64 v.2.2.2.1, v.2.2.2.2.enc]) (obs := fun v => wkO v.1.1 v.1.2.1 v.1.2.2.1 v.1.2.2.2 v.2.1.1 v.2.1.2) (ok := WV.ok b) (fun x y e e' => by
    obtain ⟨⟨l1, s1, b1, a1⟩, ⟨q1, f1⟩, u1, t1, r1⟩ := x
    obtain ⟨⟨l2, s2, b2, a2⟩, ⟨q2, f2⟩, u2, t2, r2⟩ := y
    obtain ⟨lo1, hi1, op1⟩ := r1
    obtain ⟨lo2, hi2, op2⟩ := r2
    simp [Rng.enc] at e
    simp [wkO] at e'
    obtain ⟨⟨h1, h2, h3, h4, _⟩, h5, h6⟩ := e'
    subst h1 h2 h3
    subst h4
    have h5 := qe_inj h5
    subst h5
    subst h6
    obtain ⟨e1, e2, rfl, rfl, rfl⟩ := e
    rw [show u1 = u2 by omega, show t1 = t2 by omega]) ((l, seed, bits, ws), (qs, fs), f, t, r) h)
theorem ok_Go (b : Nat) : codeOK Try.prog (WG b) Try.f29.ntmps (Try.f29.body.getD .skip) = true := by kernel_rfl
theorem h_Go : ∀ (b : Nat) (l : List It) (seed bits : Int) (ws : List Bool) (qs fs : List Rng) (f t : Nat) (r : Rng), WV.ok b ((l, seed, bits, ws), (qs, fs), f, t, r) →
    CallH Try.prog 29 [.ref 0 0, .int .i64 f, .int .i64 t, r.enc] (wkO l seed bits ws qs fs) (.bool (goW l ws b f t r qs fs).2.2) (wkO l seed bits ws (goW l ws b f t r qs fs).1 (goW l ws b f t r qs fs).2.1) [1, 2]
  | 0, l, seed, bits, ws, qs, fs, f, t, r, h => by
    obtain ⟨_, _, _, _, _, _, _, h8, _⟩ := h
    exact absurd h8 (Nat.not_lt_zero _)
  | b + 1, l, seed, bits, ws, qs, fs, f, t, r, h => by
    have hT0 : TabOK Try.prog (WH b) := W32c_ok.addH (callable_of Try.func29 (by kernel_rfl) (by kernel_rfl)) (entryH_ok fun v hv => h_Go b v.1.1 v.1.2.1 v.1.2.2.1 v.1.2.2.2 v.2.1.1 v.2.1.2 v.2.2.1 v.2.2.2.1 v.2.2.2.2 hv)
    have hT : TabOK Try.prog (WG b) := ⟨hT0.f, hT0.hp⟩
    refine callH_of_body hT mixed Try.func29 rfl (Nat.le_of_ble_eq_true rfl) (fun n h h' => by have h : n < 3 := h; simp at h'; have e : n = 0 := (by omega); subst e; rfl) (by show 3 ≤ 3; simp) (by show 3 ≤ 3; simp) (ok_Go _) ?_
    unfold Try.f29
    obtain ⟨h1, h2, h3, h4, h5, h6, h7, h8, h9⟩ := h
    simp only at h1 h2 h3 h4 h5 h6 h7 h8 h9
    have gS := s_Sum (seed := seed) (bits := bits) ⟨Nat.le_trans h1 (by decide), h9, h2⟩
    have q1 : IntKind.i64.wrap (((qs.length + 1 : Nat) : Int) - 1) = (qs.length : Int) := by rw [wrap_i64] <;> omega
    have q2 : (0 : Int) ≤ (qs.length : Int) := by omega
    have q3 : ((qs.length : Nat) : Int).toNat = qs.length := Int.toNat_natCast _
    have tk : List.take qs.length (qs.map (qe l seed bits)) = qs.map (qe l seed bits) := List.take_of_length_le (by simp)
    have tf : List.take fs.length (fs.map Rng.enc) = fs.map Rng.enc := List.take_of_length_le (by simp)
    have qS : qe l seed bits r = .agg [.str r.lo, .str r.hi, .bool r.op, .int .u64 (sum21 l r seed bits)] := rfl
    have bq : (qs.length + 1) * 48 ≤ 140737488355328 := by omega
    have bf : (fs.length + 1) * 40 ≤ 140737488355328 := by omega
    have r1 : IntKind.i64.wrap ((t : Int) - (f : Int)) = (t : Int) - (f : Int) := by rw [wrap_i64]; omega
    obtain ⟨lo, hi, op⟩ := r
    simp only [Rng.enc] at gS
    simp only at qS
    unfold goW
    by_cases c1 : ws.length < qs.length + 1
    · rw [if_pos c1]
      have c1' : (ws.length : Int) < ((qs.length + 1 : Nat) : Int) := by omega
      unfold wkO
      simp only [List.length_append, List.length_cons, List.length_nil, Nat.zero_add, List.map_append, List.map_cons, List.map_nil]
      rw [qS]
      generalize sum21 l ⟨lo, hi, op⟩ seed bits = S at *
      simp -implicitDefEqProofs (maxSteps := 6000000) (disch := (first | omega | decide)) only [go_sem, ↓reduceIte, seval, gS, c1', tk, bq, List.length_map, Nat.zero_add, Nat.le_refl]
    · rw [if_neg c1]
      have c1' : ¬ (ws.length : Int) < ((qs.length + 1 : Nat) : Int) := by omega
      have hlt : qs.length < ws.length := by omega
      have c2 : (qs.length : Int) < (ws.length : Int) := by omega
      have e0 : ws[qs.length]? = some ws[qs.length] := List.getElem?_eq_getElem hlt
      have e1 : (ws.map A.bool)[qs.length]? = some (.bool ws[qs.length]) := by rw [List.getElem?_map, e0]; rfl
      rw [e0]
      cases ha : ws[qs.length] with
      | true =>
        rw [ha] at e1
        rw [if_pos rfl]
        clear ha e0
        unfold wkO
        simp only [List.length_append, List.length_cons, List.length_nil, Nat.zero_add, List.map_append, List.map_cons, List.map_nil]
        rw [qS]
        generalize sum21 l ⟨lo, hi, op⟩ seed bits = S at *
        simp -implicitDefEqProofs (maxSteps := 6000000) (disch := (first | omega | decide)) only [go_sem, ↓reduceIte, seval, gS, c1', c2, e1, q1, q2, q3, tk, bq, List.length_map, Nat.zero_add, Nat.le_refl]
      | false =>
        rw [ha] at e1
        rw [if_neg (by simp)]
        clear ha e0
        by_cases c3 : t < f + 2
        · rw [if_pos c3]
          have r2 : (t : Int) - (f : Int) < 2 := by omega
          unfold wkO
          simp only [List.length_append, List.length_cons, List.length_nil, Nat.zero_add, List.map_append, List.map_cons, List.map_nil, Rng.enc]
          rw [qS]
          generalize sum21 l ⟨lo, hi, op⟩ seed bits = S at *
          simp -implicitDefEqProofs (maxSteps := 6000000) (disch := (first | omega | decide)) only [go_sem, ↓reduceIte, seval, gS, c1', c2, e1, q1, q2, q3, r1, r2, tk, tf, bq, bf, List.length_map, Nat.zero_add, Nat.le_refl]
        · rw [if_neg c3]
          have r2 : ¬ (t : Int) - (f : Int) < 2 := by omega
          have hml : f + (t - f) / 2 < l.length := by omega
          have r3 : IntKind.i64.wrap (((t : Int) - (f : Int)).tdiv 2) = (((t - f) / 2 : Nat) : Int) := by
            rw [Int.tdiv_eq_ediv_of_nonneg (by omega), show ((t : Int) - (f : Int)) / 2 = (((t - f) / 2 : Nat) : Int) by omega, wrap_i64]; omega
          have r4 : IntKind.i64.wrap ((f : Int) + (((t - f) / 2 : Nat) : Int)) = ((f + (t - f) / 2 : Nat) : Int) := by rw [wrap_i64] <;> omega
          have e2 := it_get hml
          have hk : keyI l (f + (t - f) / 2) = l[f + (t - f) / 2].key := by unfold keyI; rw [List.getElem?_eq_getElem hml]
          have hkl : l[f + (t - f) / 2].key.length ≤ 16 := by
            have := h2 _ (List.getElem_mem hml)
            unfold rightI at this
            simp only [Bool.and_eq_true, decide_eq_true_eq] at this
            omega
          rw [hk]
          generalize l[f + (t - f) / 2] = x at *
          obtain ⟨x1, x2, x3, x4, x5, x6, x7⟩ := x
          simp only at e2 hk hkl
          have m1 : (0 : Int) ≤ ((f + (t - f) / 2 : Nat) : Int) := by omega
          have m2 : ((f + (t - f) / 2 : Nat) : Int).toNat = f + (t - f) / 2 := Int.toNat_natCast _
          have m3 : ((f + (t - f) / 2 : Nat) : Int) < (l.length : Int) := by omega
          have ho : Rng.ok ⟨lo, x1, false⟩ := ⟨h9.1, by simp only; omega⟩
          have g1 := WG_Go (b := b) (l := l) (seed := seed) (bits := bits) (ws := ws) (qs := qs ++ [⟨lo, hi, op⟩]) (fs := fs) (f := f) (t := f + (t - f) / 2) (r := ⟨lo, x1, false⟩) ⟨h1, h2, h3, by simp; omega, by simp; omega, by simp only; omega, by simp only; omega, by simp only; omega, ho⟩
          have i1 := goW_inv l ws b f (f + (t - f) / 2) ⟨lo, x1, false⟩ (qs ++ [⟨lo, hi, op⟩]) fs (by simp; omega) (by simp; omega)
          generalize goW l ws b f (f + (t - f) / 2) ⟨lo, x1, false⟩ (qs ++ [⟨lo, hi, op⟩]) fs = g at *
          obtain ⟨Q1, F1, d1⟩ := g
          obtain ⟨j1, j2, j3⟩ := i1
          simp only at j1 j2 j3
          simp only [wkO, List.length_append, List.length_cons, List.length_nil, Nat.zero_add, List.map_append, List.map_cons, List.map_nil, Rng.enc] at g1
          rw [qS] at g1
          cases d1 with
          | false =>
            simp only
            unfold wkO
            generalize sum21 l ⟨lo, hi, op⟩ seed bits = S at *
            generalize f + (t - f) / 2 = mid at *
            simp -implicitDefEqProofs (maxSteps := 6000000) (disch := (first | omega | decide)) only [go_sem, ↓reduceIte, seval, gS, c1', c2, e1, q1, q2, q3, r1, r2, r3, r4, e2, m1, m2, m3, g1, tk, tf, bq, bf, List.length_map, Nat.zero_add, Nat.le_refl]
          | true =>
            have j3 := j3 rfl
            have ho2 : Rng.ok ⟨x1, hi, op⟩ := ⟨by simp only; omega, h9.2⟩
            have g2 := WG_Go (b := b) (l := l) (seed := seed) (bits := bits) (ws := ws) (qs := Q1) (fs := F1) (f := f + (t - f) / 2) (t := t) (r := ⟨x1, hi, op⟩) ⟨h1, h2, h3, j3, j2, by simp only; omega, by simp only; omega, by simp only; omega, ho2⟩
            simp only
            generalize goW l ws b (f + (t - f) / 2) t ⟨x1, hi, op⟩ Q1 F1 = g at *
            obtain ⟨Q2, F2, d2⟩ := g
            simp only [wkO, Rng.enc] at g2
            simp only
            unfold wkO
            generalize sum21 l ⟨lo, hi, op⟩ seed bits = S at *
            generalize f + (t - f) / 2 = mid at *
            cases d2 <;> simp -implicitDefEqProofs (maxSteps := 6000000) (disch := (first | omega | decide)) only [go_sem, ↓reduceIte, seval, gS, c1', c2, e1, q1, q2, q3, r1, r2, r3, r4, e2, m1, m2, m3, g1, g2, tk, tf, bq, bf, List.length_map, Nat.zero_add, Nat.le_refl]
end Go.Proofs.Ytjnpfbohnpjckaa
namespace Go.Abs
theorem callH_boxinR {P : Program} {f : FuncId} {xs ds : List A} {R : List Obj} {r : A} {H' : List Obj} {S S' : List Nat} (i k : Nat) (hR : ∀ o ∈ R, ∃ k es, o = Obj.row k es) (hi : ds[i]? = some (.row (R.length + 1) 0 k 0 false)) (hS : ∀ n ∈ S, n ≤ R.length → n ∈ S')
    (h : CallH P f xs (.box ds :: (R ++ [.row k []])) r H' S) : CallH P f xs (.box (setNth ds i .nils) :: R) r H' S' := by
  intro N φ w vs hN hrel hfree hrep
  have e1 : φ.length = R.length + 1 := hrel.len
  have hget : ∀ m : Nat, (φ ++ [Own.nil])[m]? = if m = R.length + 1 then some .nil else φ[m]? := fun m => by
    rw [List.getElem?_append]
    split
    · rw [if_neg (by omega)]
    · split
      · rename_i h1 h2; subst h2; simp [e1]
      · rename_i h1 h2
        rw [List.getElem?_eq_none (by simp; omega), List.getElem?_eq_none (by omega)]
  have hat : ∀ m b k : Nat, (φ ++ [Own.nil])[m]? = some (Own.loc b k) → φ[m]? = some (.loc b k) := fun m b k hm => by
    rw [hget] at hm
    split at hm
    · simp at hm
    · exact hm
  have hold : ∀ (m : Nat) (p : Own), φ[m]? = some p → (φ ++ [Own.nil])[m]? = some p := fun m p hp => by
    have := (List.getElem?_eq_some_iff.1 hp).1
    rw [hget, if_neg (by omega)]; exact hp
  have hext : Ext (fun _ => True) (envOf N φ w) (envOf N (φ ++ [.nil]) w) := {
    size := Nat.le_refl _
    blk := fun b _ hn => ⟨by
      rintro (h0 | ⟨m, k', hm⟩)
      · exact hn (.inl h0)
      · exact hn (.inr ⟨m, k', hat m b k' hm⟩), rfl⟩
    refs := fun n o _ hn _ => hold n o hn
    own := fun n b k' c e fr _ _ hc => ⟨c, fr, hc, rfl⟩ }
  have hil : i < ds.length := (List.getElem?_eq_some_iff.1 hi).1
  have hrel1 : HeapRel N (φ ++ [.nil]) (.box ds :: (R ++ [.row k []])) w := {
    len := by simp [e1]
    objs := fun n o p ho hp => by
      rw [nthO_eq] at ho
      cases n with
      | zero =>
        simp only [List.getElem?_cons_zero, Option.some.injEq] at ho
        subst ho
        rw [hget, if_neg (by omega)] at hp
        have hob := hrel.objs 0 _ p rfl hp
        cases p with
        | nil => simp [ObjRel] at hob
        | free => simp [ObjRel] at hob
        | loc b kk =>
          simp only [ObjRel] at hob ⊢
          refine ⟨hob.1, RepM_iff.2 fun j y hy => ?_⟩
          by_cases hj : j = i
          · subst hj
            rw [hi] at hy
            obtain rfl := Option.some.inj hy
            obtain ⟨u, hu, h1', hr⟩ := RepM_iff.1 hob.2 j .nils (by rw [setNth_eq, List.getElem?_set, if_pos rfl, if_pos hil])
            refine ⟨u, hu, h1', ?_⟩
            simp only [Rep] at hr
            subst hr
            simp only [Rep]
            exact .inl ⟨.nil, by show (φ ++ [Own.nil])[R.length + 1]? = _; rw [hget, if_pos rfl], by simp, trivial, fun _ => trivial, none, rfl⟩
          · obtain ⟨u, hu, h1', hr⟩ := RepM_iff.1 hob.2 j y (by rw [setNth_eq, List.getElem?_set, if_neg (fun e => hj e.symm)]; exact hy)
            exact ⟨u, hu, h1', Rep.mono hext _ _ hr fun _ _ => trivial⟩
      | succ n =>
        rw [List.getElem?_cons_succ, List.getElem?_append] at ho
        split at ho
        · rename_i hn
          rw [hget, if_neg (by omega)] at hp
          obtain ⟨k0, es, rfl⟩ := hR o (List.mem_of_getElem? ho)
          exact ObjRel.mono hext (hrel.objs (n + 1) _ p (by rw [nthO_eq]; exact ho) hp) (fun b k _ c e fr hc => hc) (fun cs hcs => by cases hcs)
        · rename_i hn
          have hn2 : n - R.length = 0 := by
            have := (List.getElem?_eq_some_iff.1 ho).1
            simp at this; omega
          rw [hn2] at ho
          simp only [List.getElem?_cons_zero, Option.some.injEq] at ho
          subst ho
          rw [hget, if_pos (by omega)] at hp
          obtain rfl := Option.some.inj hp
          simp [ObjRel]
    own := fun n b k' hn => hrel.own n b k' (hat n b k' hn)
    inj := fun n m b k' k'' hn hm => hrel.inj n m b k' k'' (hat n b k' hn) (hat m b k'' hm) }
  have hfree1 : ∀ n : Nat, (φ ++ [Own.nil])[n]? ≠ some Own.free := fun n => by
    rw [hget]
    split
    · simp
    · exact hfree n
  refine Calls.mono (h N (φ ++ [.nil]) w vs hN hrel1 hfree1 (RepL.mono hext _ _ hrep fun _ _ => trivial)) ?_
  rintro e w' ⟨v, φ', rfl, hv, hrel', ht, hl⟩
  refine ⟨v, φ', rfl, hv, hrel', ?_, by simp at hl ⊢; omega⟩
  exact {
    os := ht.os
    tape := ht.tape
    output := ht.output
    drawn := ht.drawn
    size := ht.size
    block := fun b hb hn => ht.block b hb fun n k' hm => hn n k' (hat n b k' hm)
    shape := ht.shape
    own := fun n b k' hn => by
      rcases ht.own n b k' hn with h0 | ⟨m, k'', hm⟩
      · exact .inl h0
      · exact .inr ⟨m, k'', hat m b k'' hm⟩
    stay := fun n p hns hp => by
      have hn := (List.getElem?_eq_some_iff.1 hp).1
      exact ht.stay n p (fun hs => hns (hS n hs (by omega))) (hold n p hp) }
end Go.Abs
namespace Go.Proofs.Ytjnpfbohnpjckaa
open Go.Abs
set_option linter.unusedSimpArgs false
set_option linter.unusedVariables false
set_option maxRecDepth 20000
set_option maxHeartbeats 16000000
def runW (l : List It) (ws : List Bool) : List Rng × List Rng × Bool := goW l ws (l.length + 1) 0 l.length ⟨[], [], true⟩ [] []
def RV.ok (v : List It × Int × Int × List Bool) : Prop := v.1.length ≤ 1000 ∧ (∀ x ∈ v.1, rightI x = true) ∧ v.2.2.2.length ≤ 900
theorem h_GoTop (v : List It × Int × Int × List Bool) (h : RV.ok v) :
    CallH Try.prog 29 [.ref 0 0, .int .i64 0, .int .i64 v.1.length, .agg [.str [], .str [], .bool true]] [.box [.slc (v.1.map It.enc), .int .u64 v.2.1, .int .i64 v.2.2.1, .slc (v.2.2.2.map .bool), .nils, .nils]] (.bool (runW v.1 v.2.2.2).2.2) (wkO v.1 v.2.1 v.2.2.1 v.2.2.2 (runW v.1 v.2.2.2).1 (runW v.1 v.2.2.2).2.1) [] := by
  have h0 := h_Go (v.1.length + 1) v.1 v.2.1 v.2.2.1 v.2.2.2 [] [] 0 v.1.length ⟨[], [], true⟩ ⟨h.1, h.2.1, Nat.le_trans h.2.2 (by decide), Nat.zero_le _, Nat.zero_le _, Nat.zero_le _, Nat.le_refl _, by simp, by simp [Rng.ok]⟩
  have h1 := callH_boxinR (S' := [1]) (R := [.row 4 []]) (ds := [.slc (v.1.map It.enc), .int .u64 v.2.1, .int .i64 v.2.2.1, .slc (v.2.2.2.map .bool), .row 1 0 4 0 false, .row 2 0 3 0 false]) 5 3 (fun o ho => by simp at ho; exact ⟨_, _, ho⟩) rfl (fun n hn hn2 => by simp at hn hn2 ⊢; omega) h0
  exact callH_boxinR (S' := []) (R := []) (ds := [.slc (v.1.map It.enc), .int .u64 v.2.1, .int .i64 v.2.2.1, .slc (v.2.2.2.map .bool), .row 1 0 4 0 false, .nils]) 4 4 (fun o ho => by simp at ho) rfl (fun n hn hn2 => by simp at hn hn2; omega) h1
noncomputable def WR0 : Tab := W32c.addH 29 (entryH (fun v : List It × Int × Int × List Bool => [.ref 0 0, .int .i64 0, .int .i64 v.1.length, .agg [.str [], .str [], .bool true]]) (fun v => [.box [.slc (v.1.map It.enc), .int .u64 v.2.1, .int .i64 v.2.2.1, .slc (v.2.2.2.map .bool), .nils, .nils]]) RV.ok
  (fun v => (.bool (runW v.1 v.2.2.2).2.2, wkO v.1 v.2.1 v.2.2.1 v.2.2.2 (runW v.1 v.2.2.2).1 (runW v.1 v.2.2.2).2.1, [])))
theorem WR0_ok : TabOK Try.prog WR0 := W32c_ok.addH (callable_of Try.func29 (by kernel_rfl) (by kernel_rfl)) (entryH_ok fun v h => h_GoTop v h)
noncomputable def WR : Tab := { WR0 with eff := fun f => f == 29 || f == 30, frz := fun f => f == 30 }
theorem WR_ok : TabOK Try.prog WR := ⟨WR0_ok.f, WR0_ok.hp⟩
@[go_sem] theorem WR_f : WR.f = W32c.f := rfl
@[go_sem] theorem WR_eff {g : FuncId} : WR.eff g = (g == 29 || g == 30) := rfl
@[go_sem] theorem WR_frz {g : FuncId} : WR.frz g = (g == 30) := rfl
@[go_sem] theorem WR_fix {n : Nat} : WR.fix n = false := rfl
@[go_sem] theorem WR_ords {n : Nat} : WR.ords n = [] := rfl
theorem wr_Go (v : List It × Int × Int × List Bool) (h : RV.ok v) : WR.hp 29 [.ref 0 0, .int .i64 0, .int .i64 v.1.length, .agg [.str [], .str [], .bool true]] [.box [.slc (v.1.map It.enc), .int .u64 v.2.1, .int .i64 v.2.2.1, .slc (v.2.2.2.map .bool), .nils, .nils]] = some (.bool (runW v.1 v.2.2.2).2.2, wkO v.1 v.2.1 v.2.2.1 v.2.2.2 (runW v.1 v.2.2.2).1 (runW v.1 v.2.2.2).2.1, []) := by
  have h2 : WR0.hp 29 [.ref 0 0, .int .i64 0, .int .i64 v.1.length, .agg [.str [], .str [], .bool true]] [.box [.slc (v.1.map It.enc), .int .u64 v.2.1, .int .i64 v.2.2.1, .slc (v.2.2.2.map .bool), .nils, .nils]] = _ := Tab.addH_eq
  exact h2.trans (entryH_eq (enc := fun v : List It × Int × Int × List Bool => [.ref 0 0, .int .i64 0, .int .i64 v.1.length, .agg [.str [], .str [], .bool true]]) (obs := fun v => [.box [.slc (v.1.map It.enc), .int .u64 v.2.1, .int .i64 v.2.2.1, .slc (v.2.2.2.map .bool), .nils, .nils]]) (ok := RV.ok) (fun x y _ e' => by
    obtain ⟨l1, s1, b1, a1⟩ := x
    obtain ⟨l2, s2, b2, a2⟩ := y
    simp at e'
    obtain ⟨rfl, rfl, rfl, rfl⟩ := e'
    rfl) v h)
noncomputable def wkA (l : List It) (seed bits : Int) (ws : List Bool) : A := .tup [.dptr [.slc (l.map It.enc), .int .u64 seed, .int .i64 bits, .slc (ws.map .bool), .slc ((runW l ws).1.map (qe l seed bits)), .slc ((setS (hasRs (runW l ws).2.1)).map Rng.enc)], .bool (runW l ws).2.2]
theorem goW_ok (l : List It) (ws : List Bool) (hl : ∀ x ∈ l, rightI x = true) : ∀ (b f t : Nat) (r : Rng) (qs fs : List Rng), r.ok → okL fs → okL (goW l ws b f t r qs fs).2.1
  | 0, f, t, r, qs, fs, hr, hf => hf
  | b + 1, f, t, r, qs, fs, hr, hf => by
    have hk : (keyI l (f + (t - f) / 2)).length ≤ 16 := by
      unfold keyI
      split
      · rename_i x hx
        have := hl x (List.mem_of_getElem? hx)
        unfold rightI at this
        simp only [Bool.and_eq_true, decide_eq_true_eq] at this
        omega
      · simp
    unfold goW
    split
    · exact hf
    · split
      · exact hf
      · split
        · intro x hx
          rcases List.mem_append.1 hx with hx | hx
          · exact hf x hx
          · rw [List.mem_singleton.1 hx]; exact hr
        · have i1 := goW_ok l ws hl b f (f + (t - f) / 2) ⟨r.lo, keyI l (f + (t - f) / 2), false⟩ (qs ++ [r]) fs ⟨hr.1, by simp only; omega⟩ hf
          generalize goW l ws b f (f + (t - f) / 2) ⟨r.lo, keyI l (f + (t - f) / 2), false⟩ (qs ++ [r]) fs = g at *
          obtain ⟨q, fs', d⟩ := g
          cases d with
          | false => exact i1
          | true => exact goW_ok l ws hl b _ t _ q fs' ⟨by simp only; omega, hr.2⟩ i1
theorem ok_ref32_Run : codeOK Try.prog WR Try.f10.ntmps (Try.f10.body.getD .skip) = true := by kernel_rfl
theorem c_Run (l : List It) (seed bits : Int) (ws : List Bool) (h : RV.ok (l, seed, bits, ws)) : CallA Try.prog 10 [.slc (l.map It.enc), .int .u64 seed, .int .i64 bits, .slc (ws.map .bool)] (· = wkA l seed bits ws) := by
  refine callA_of_body WR_ok mixed Try.func10 rfl (Nat.le_of_ble_eq_true rfl) ok_ref32_Run ?_
  unfold Try.f10
  have g1 := wr_Go _ h
  have hb := goW_inv l ws (l.length + 1) 0 l.length ⟨[], [], true⟩ [] [] (Nat.zero_le _) (Nat.le_refl _)
  have ho := goW_ok l ws h.2.1 (l.length + 1) 0 l.length ⟨[], [], true⟩ [] [] (by simp [Rng.ok]) (fun r hr => by cases hr)
  obtain ⟨h1, h2, h3⟩ := h
  simp only at h1 h2 h3 g1
  unfold wkA
  unfold runW at *
  generalize goW l ws (l.length + 1) 0 l.length ⟨[], [], true⟩ [] [] = g at *
  obtain ⟨Q, F, d⟩ := g
  simp only at hb ho g1 ⊢
  have g2 := j_ref08_Of (l := F) ⟨by omega, ho⟩
  generalize setS (hasRs F) = Z at *
  simp only [wkO] at g1
  have tF : List.take F.length (F.map Rng.enc) = F.map Rng.enc := List.take_of_length_le (by simp)
  have tQ : List.take Q.length (Q.map (qe l seed bits)) = Q.map (qe l seed bits) := List.take_of_length_le (by simp)
  simp -implicitDefEqProofs (maxSteps := 6000000) (disch := (first | omega | decide)) only [go_sem, ↓reduceIte, seval, g1, g2, tF, tQ, List.length_map, Nat.le_refl]
end Go.Proofs.Ytjnpfbohnpjckaa
