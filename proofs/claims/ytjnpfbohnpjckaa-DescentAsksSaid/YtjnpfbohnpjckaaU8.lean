/- What the laws of this claim rest on: the abstract executor, its soundness, and what the functions compute on pure data. No condition. -/
import Derived.Test.YtjnpfbohnpjckaaU5
set_option linter.unusedVariables false
set_option linter.unusedSimpArgs false
namespace Go.Proofs.Ytjnpfbohnpjckaa
open Go.Abs
set_option linter.unusedSimpArgs false
set_option linter.unusedVariables false
set_option maxRecDepth 20000
set_option maxHeartbeats 16000000
def logN (n : Nat) : Nat := if n ≤ 1 then 0 else if n ≤ 2 then 1 else if n ≤ 4 then 2 else if n ≤ 8 then 3 else if n ≤ 16 then 4 else if n ≤ 32 then 5 else 6
theorem logN_le (n : Nat) : logN n ≤ 6 := by
  unfold logN
  repeat' split
  all_goals omega
theorem ok_ref01_Log : codeOK Try.prog R32k Try.f17.ntmps (Try.f17.body.getD .skip) = true := by kernel_rfl
theorem c_ref01_Log (n : Nat) (h : n ≤ 64) : CallA Try.prog 17 [.int .i64 n] (· = .int .i64 (logN n)) := by
  refine callA_of_body R32k_ok mixed Try.func17 rfl (Nat.le_of_ble_eq_true rfl) ok_ref01_Log ?_
  unfold Try.f17
  simp -implicitDefEqProofs (disch := (first | omega | decide)) only [go_sem, ↓reduceIte, seval]
  refine wpA_loop [0] (ι := {p : Nat × Nat // (p.2 ≤ logN n ∧ p.1 = 2 ^ p.2)}) (fun p => [(4, .int .i64 p.1.1), (3, .int .i64 p.1.2)]) (fun _ => []) (fun p => 64 - p.1.2) ⟨(1, 0), by omega, rfl⟩ (Nat.zero_le _) ?_ ?_
  · simp -implicitDefEqProofs (disch := (first | omega | decide)) only [go_sem, ↓reduceIte, seval]
    try exact ⟨rfl, rfl⟩
  · rintro ⟨⟨m, k⟩, hk, hm⟩
    simp only at hm hk ⊢
    have hle := logN_le n
    have hk6 : k ≤ 6 := by omega
    have hmv : m ≤ 64 ∧ (m < n → k + 1 ≤ logN n ∧ 2 * m = 2 ^ (k + 1)) ∧ (¬ m < n → k = logN n) := by
      have : k = 0 ∨ k = 1 ∨ k = 2 ∨ k = 3 ∨ k = 4 ∨ k = 5 ∨ k = 6 := by omega
      rcases this with rfl | rfl | rfl | rfl | rfl | rfl | rfl <;> subst hm <;> unfold logN at * <;> refine ⟨by decide, fun h1 => ⟨?_, by decide⟩, fun h1 => ?_⟩ <;> (repeat' split) <;> (repeat' split at hk) <;> omega
    obtain ⟨h1, h2, h3⟩ := hmv
    by_cases hlt : m < n
    · have hlt' : (m : Int) < (n : Int) := by omega
      have hk' : (k : Int) < 62 := by omega
      obtain ⟨q1, q2⟩ := h2 hlt
      have w1 : IntKind.i64.wrap (2 * (m : Int)) = ((2 * m : Nat) : Int) := by rw [wrap_i64 (by omega)]; omega
      have w3 : IntKind.i64.wrap ((k : Int) + 1) = ((k + 1 : Nat) : Int) := by rw [wrap_i64 (by omega)]; omega
      simp -implicitDefEqProofs (disch := (first | omega | decide)) only [go_sem, ↓reduceIte, seval, hlt', hk', w1, w3]
      exact ⟨⟨(2 * m, k + 1), q1, q2⟩, ⟨rfl, rfl⟩, by show 64 - (k + 1) < 64 - k; omega⟩
    · have hlt' : ¬ (m : Int) < (n : Int) := by omega
      have e2 := h3 hlt
      simp -implicitDefEqProofs (disch := (first | omega | decide)) only [go_sem, ↓reduceIte, seval, hlt', e2]
@[simp] theorem Rng.enc_iff32 {r s : Rng} : (r.enc = s.enc) = (r = s) := propext ⟨fun h => by obtain ⟨a, b, c⟩ := r; obtain ⟨a', b', c'⟩ := s; simpa [Rng.enc] using h, fun h => by rw [h]⟩
def inR21 (l : List It) (r : Rng) : List It := l.filter fun x => hasR r x.key
theorem filter_snoc32 {α : Type} {l : List α} {k : Nat} {f : α → Bool} (h : k < l.length) : (l.take (k + 1)).filter f = (l.take k).filter f ++ (if f l[k] = true then [l[k]] else []) := by
  rw [← List.take_append_getElem h, List.filter_append]
  congr 1
  cases hf : f l[k] <;> simp [hf]
theorem row_it (l : List It) (x : It) : l.map It.enc ++ [.agg [.str x.key, .int .i64 x.rep, .int .i64 x.cnt, .int .i64 x.rank, .int .i64 x.prio, .bool x.dead, .str x.body]] = (l ++ [x]).map It.enc := by rw [List.map_append]; rfl
theorem take_it (l : List It) : List.take l.length (l.map It.enc) = l.map It.enc := List.take_of_length_le (by simp)
theorem ok_ref21_In : codeOK Try.prog R32k Try.f20.ntmps (Try.f20.body.getD .skip) = true := by kernel_rfl
theorem c_ref21_In (l : List It) (r : Rng) (hl : l.length ≤ 1000000) (hr : r.ok) (hk : okI l) : CallA Try.prog 20 [.slc (l.map It.enc), r.enc] (· = .slc ((inR21 l r).map It.enc)) := by
  refine callA_of_body R32k_ok mixed Try.func20 rfl (Nat.le_of_ble_eq_true rfl) ok_ref21_In ?_
  unfold Try.f20
  obtain ⟨lo, hi, op⟩ := r
  obtain ⟨hr1, hr2⟩ := hr
  simp -implicitDefEqProofs (disch := (first | omega | decide)) only [go_sem, ↓reduceIte, seval, List.length_map]
  refine wpA_loop_nil 5 7 rfl ?_
  refine wpA_loop [0, 3] (ι := {j : Nat // j ≤ l.length}) (fun j => [(6, .int .i64 j.1), (5, .row 1 0 7 (inR21 (l.take j.1) ⟨lo, hi, op⟩).length false)]) (fun j => [(1, .row 7 ((inR21 (l.take j.1) ⟨lo, hi, op⟩).map It.enc))]) (fun j => l.length - j.1) ⟨0, by omega⟩ (Nat.zero_le _) ?_ ?_
  · simp -implicitDefEqProofs (disch := (first | omega | decide)) only [go_sem, ↓reduceIte, seval]
    first | done | (simp [inR21]; done)
  · rintro ⟨j, hj⟩
    simp only
    have hgl : (inR21 (l.take j) ⟨lo, hi, op⟩).length ≤ 1000000 := by
      have := List.length_filter_le (fun x : It => hasR ⟨lo, hi, op⟩ x.key) (l.take j)
      rw [List.length_take] at this
      unfold inR21; omega
    have tk := take_it (inR21 (l.take j) ⟨lo, hi, op⟩)
    by_cases hlt : j < l.length
    · have q1 : (j : Int) < (l.length : Int) := by omega
      have q2 : (0 : Int) ≤ (j : Int) := by omega
      have q3 : ((j : Nat) : Int).toNat = j := Int.toNat_natCast _
      have q4 : IntKind.i64.wrap ((j : Int) + 1) = (j : Int) + 1 := by rw [wrap_i64]; omega
      have e1 := it_get hlt
      have g1 := t_ref07_Has (lo := lo) (hi := hi) (op := op) (s := l[j].key) hr1 hr2 (hk _ (List.getElem_mem hlt)).1
      have hsn : inR21 (l.take (j + 1)) ⟨lo, hi, op⟩ = inR21 (l.take j) ⟨lo, hi, op⟩ ++ (if hasR ⟨lo, hi, op⟩ l[j].key = true then [l[j]] else []) := filter_snoc32 (f := fun x : It => hasR ⟨lo, hi, op⟩ x.key) hlt
      generalize l[j] = x at *
      generalize inR21 (l.take j) ⟨lo, hi, op⟩ = G at *
      cases hh : hasR ⟨lo, hi, op⟩ x.key with
      | true =>
        rw [hh] at g1 hsn
        simp only [if_true] at hsn
        simp -implicitDefEqProofs (disch := (first | omega | decide)) only [go_sem, ↓reduceIte, seval, q1, q2, q3, q4, e1, g1, tk, List.length_map]
        exact ⟨⟨Nat.le_refl _, by omega⟩, ⟨j + 1, hlt⟩, ⟨⟨by simp, by rw [hsn]; simp⟩, by rw [hsn]; exact row_it G x⟩, by show l.length - (j + 1) < l.length - j; omega⟩
      | false =>
        rw [hh] at g1 hsn
        simp only [Bool.false_eq_true, if_false, List.append_nil] at hsn
        simp -implicitDefEqProofs (disch := (first | omega | decide)) only [go_sem, ↓reduceIte, seval, q1, q2, q3, q4, e1, g1, List.length_map]
        exact ⟨⟨j + 1, hlt⟩, ⟨⟨by simp, by rw [hsn]⟩, by rw [hsn]⟩, by show l.length - (j + 1) < l.length - j; omega⟩
    · have q1 : ¬ (j : Int) < (l.length : Int) := by omega
      have e0 : l.take j = l := List.take_of_length_le (by omega)
      rw [e0]
      have tk2 := take_it (inR21 l ⟨lo, hi, op⟩)
      simp -implicitDefEqProofs (disch := (first | omega | decide)) only [go_sem, ↓reduceIte, seval, q1, tk2, List.length_map, Nat.le_refl]
noncomputable def R32l : Tab := R32k.add 20 (entry (fun (v : List It × Rng) => [.slc (v.1.map It.enc), v.2.enc]) (fun v => v.1.length ≤ 1000000 ∧ v.2.ok ∧ okI v.1) (fun v => .slc ((inR21 v.1 v.2).map It.enc)))
theorem R32l_ok : TabOK Try.prog R32l := R32k_ok.ent Try.func20 (by kernel_rfl) (by kernel_rfl) fun v h => c_ref21_In v.1 v.2 h.1 h.2.1 h.2.2
@[go_sem] theorem R32l_old {g : FuncId} {xs : List A} (h : g ≠ 20) : R32l.f g xs = R32k.f g xs := Tab.add_ne h
@[go_sem] theorem R32l_s : R32l.pl R32k := ⟨fun _ => rfl, fun _ => rfl, rfl, fun _ => rfl, rfl, fun _ => rfl, rfl⟩
theorem R32l_ref21_In (v : List It × Rng) (h : v.1.length ≤ 1000000 ∧ v.2.ok ∧ okI v.1) : R32l.f 20 [.slc (v.1.map It.enc), v.2.enc] = some (.slc ((inR21 v.1 v.2).map It.enc)) := Tab.ent_eq (Γ := R32k) (fun i j h => by simpa [Prod.ext_iff, and_assoc] using h) v h
theorem s_In {l : List It} {r : Rng} (h : l.length ≤ 1000000 ∧ r.ok ∧ okI l) : R32l.f 20 [.slc (l.map It.enc), r.enc] = some (.slc ((inR21 l r).map It.enc)) := R32l_ref21_In (l, r) h
theorem rightI_ok {x : It} (h : rightI x = true) : x.ok := by
  obtain ⟨h1, h2, h3, h4, h5, h6⟩ := rightI_iff h
  exact ⟨by omega, by omega⟩
def sum21 (l : List It) (r : Rng) (seed bits : Int) : Int := cutH (sumI seed (inR21 l r)) bits
theorem ok_ref21_Sum : codeOK Try.prog R32l Try.f18.ntmps (Try.f18.body.getD .skip) = true := by kernel_rfl
theorem c_ref21_Sum (l : List It) (r : Rng) (seed bits : Int) (hl : l.length ≤ 1000000) (hr : r.ok) (hx : ∀ x ∈ l, rightI x = true) : CallA Try.prog 18 [.slc (l.map It.enc), r.enc, .int .u64 seed, .int .i64 bits] (· = .int .u64 (sum21 l r seed bits)) := by
  refine callA_of_body R32l_ok mixed Try.func18 rfl (Nat.le_of_ble_eq_true rfl) ok_ref21_Sum ?_
  unfold Try.f18
  have g1 := s_In (l := l) (r := r) ⟨hl, hr, fun x h => rightI_ok (hx x h)⟩
  have hfl : (inR21 l r).length ≤ 1000000 := Nat.le_trans (List.length_filter_le _ _) hl
  have g2 := R32j_ref20_Sum (seed, inR21 l r) ⟨hfl, fun x h => hx x (List.mem_filter.1 h).1⟩
  have g3 := R32k_ref20_Cut (sumI seed (inR21 l r), bits) (sumI_range _ _)
  simp only at g2 g3
  unfold sum21
  generalize inR21 l r = G at *
  generalize sumI seed G = S at *
  obtain ⟨lo, hi, op⟩ := r
  simp only [Rng.enc] at g1
  simp -implicitDefEqProofs (disch := (first | omega | decide)) only [go_sem, ↓reduceIte, seval, g1, g2, g3]
noncomputable def R32m : Tab := R32l.add 18 (entry (fun (v : List It × Rng × Int × Int) => [.slc (v.1.map It.enc), v.2.1.enc, .int .u64 v.2.2.1, .int .i64 v.2.2.2]) (fun v => v.1.length ≤ 1000000 ∧ v.2.1.ok ∧ ∀ x ∈ v.1, rightI x = true) (fun v => .int .u64 (sum21 v.1 v.2.1 v.2.2.1 v.2.2.2)))
theorem R32m_ok : TabOK Try.prog R32m := R32l_ok.ent Try.func18 (by kernel_rfl) (by kernel_rfl) fun v h => c_ref21_Sum v.1 v.2.1 v.2.2.1 v.2.2.2 h.1 h.2.1 h.2.2
@[go_sem] theorem R32m_old {g : FuncId} {xs : List A} (h : g ≠ 18) : R32m.f g xs = R32l.f g xs := Tab.add_ne h
@[go_sem] theorem R32m_s : R32m.pl R32l := ⟨fun _ => rfl, fun _ => rfl, rfl, fun _ => rfl, rfl, fun _ => rfl, rfl⟩
theorem R32m_ref21_Sum (v : List It × Rng × Int × Int) (h : v.1.length ≤ 1000000 ∧ v.2.1.ok ∧ ∀ x ∈ v.1, rightI x = true) : R32m.f 18 [.slc (v.1.map It.enc), v.2.1.enc, .int .u64 v.2.2.1, .int .i64 v.2.2.2] = some (.int .u64 (sum21 v.1 v.2.1 v.2.2.1 v.2.2.2)) := Tab.ent_eq (Γ := R32l) (fun i j h => by simpa [Prod.ext_iff, and_assoc] using h) v h
theorem s_Sum {l : List It} {r : Rng} {seed bits : Int} (h : l.length ≤ 1000000 ∧ r.ok ∧ ∀ x ∈ l, rightI x = true) : R32m.f 18 [.slc (l.map It.enc), r.enc, .int .u64 seed, .int .i64 bits] = some (.int .u64 (sum21 l r seed bits)) := R32m_ref21_Sum (l, r, seed, bits) h
def placeK (l : List It) (k : List UInt8) : Int := match l.findIdx? fun x => x.key == k with | some i => (i : Int) | none => -1
def getK (l : List It) (k : List UInt8) : Option It := l.find? fun x => x.key == k
theorem place_getK (l : List It) (k : List UInt8) : (placeK l k = -1 ∧ getK l k = none) ∨ ∃ i, ∃ h : i < l.length, placeK l k = (i : Int) ∧ getK l k = some l[i] := by
  unfold placeK getK
  cases h : l.findIdx? (fun x => x.key == k) with
  | none =>
    refine .inl ⟨rfl, ?_⟩
    rw [List.find?_eq_none]
    intro x hx
    have := List.findIdx?_eq_none_iff.1 h x hx
    simpa using this
  | some i =>
    obtain ⟨hi, h1, h2⟩ := List.findIdx?_eq_some_iff_getElem.1 h
    refine .inr ⟨i, hi, rfl, ?_⟩
    rw [List.find?_eq_some_iff_getElem]
    exact ⟨h1, i, hi, rfl, fun j hj => by simpa using h2 j hj⟩
theorem ok_ref21_Place : codeOK Try.prog R32m Try.f35.ntmps (Try.f35.body.getD .skip) = true := by kernel_rfl
theorem c_ref21_Place (l : List It) (k : List UInt8) (hl : l.length ≤ 1000000) : CallA Try.prog 35 [.slc (l.map It.enc), .str k] (· = .int .i64 (placeK l k)) := by
  refine callA_of_body R32m_ok mixed Try.func35 rfl (Nat.le_of_ble_eq_true rfl) ok_ref21_Place ?_
  unfold Try.f35
  simp -implicitDefEqProofs (disch := (first | omega | decide)) only [go_sem, ↓reduceIte, seval, List.length_map]
  refine wpA_loop [0, 1] (ι := {i : Nat // i ≤ l.length ∧ ∀ j, j < i → ∀ h : j < l.length, (l[j].key == k) = false}) (fun i => [(5, .int .i64 i.1)]) (fun _ => []) (fun i => l.length - i.1) ⟨0, by omega, fun j hj => absurd hj (by omega)⟩ (Nat.zero_le _) ?_ ?_
  · simp -implicitDefEqProofs (disch := (first | omega | decide)) only [go_sem, ↓reduceIte, seval]
    try rfl
  · rintro ⟨i, hi, hd⟩
    simp only
    by_cases hlt : i < l.length
    · have hlt' : (i : Int) < (l.length : Int) := by omega
      have p1 : (0 : Int) ≤ (i : Int) := by omega
      have t1 : ((i : Nat) : Int).toNat = i := Int.toNat_natCast _
      have e1 := it_get hlt
      cases hk : l[i].key == k with
      | true =>
        have hp : placeK l k = (i : Int) := by
          unfold placeK
          rw [List.findIdx?_eq_some_iff_getElem.2 ⟨hlt, hk, fun j hj => by rw [hd j hj (by omega)]; simp⟩]
        rw [hp]
        generalize l[i] = x at *
        simp -implicitDefEqProofs (disch := (first | omega | decide)) only [go_sem, ↓reduceIte, seval, hlt', p1, t1, e1, hk, wrap_i64, List.length_map]
      | false =>
        have hd2 : ∀ j, j < i + 1 → ∀ h : j < l.length, (l[j].key == k) = false := fun j hj h => by
          by_cases e : j = i
          · subst e; exact hk
          · exact hd j (by omega) h
        generalize l[i] = x at *
        simp -implicitDefEqProofs (disch := (first | omega | decide)) only [go_sem, ↓reduceIte, seval, hlt', p1, t1, e1, hk, wrap_i64, List.length_map]
        exact ⟨⟨i + 1, hlt, hd2⟩, by simp, by show l.length - (i + 1) < l.length - i; omega⟩
    · have hlt' : ¬ (i : Int) < (l.length : Int) := by omega
      have hp : placeK l k = -1 := by
        unfold placeK
        rw [List.findIdx?_eq_none_iff.2 fun x hx => by
          obtain ⟨j, hj, rfl⟩ := List.getElem_of_mem hx
          exact hd j (by omega) hj]
      rw [hp]
      simp -implicitDefEqProofs (disch := (first | omega | decide)) only [go_sem, ↓reduceIte, seval, hlt', List.length_map]
noncomputable def R32n : Tab := R32m.add 35 (entry (fun (v : List It × List UInt8) => [.slc (v.1.map It.enc), .str v.2]) (fun v => v.1.length ≤ 1000000) (fun v => .int .i64 (placeK v.1 v.2)))
theorem R32n_ok : TabOK Try.prog R32n := R32m_ok.ent Try.func35 (by kernel_rfl) (by kernel_rfl) fun v h => c_ref21_Place v.1 v.2 h
@[go_sem] theorem R32n_old {g : FuncId} {xs : List A} (h : g ≠ 35) : R32n.f g xs = R32m.f g xs := Tab.add_ne h
@[go_sem] theorem R32n_s : R32n.pl R32m := ⟨fun _ => rfl, fun _ => rfl, rfl, fun _ => rfl, rfl, fun _ => rfl, rfl⟩
theorem R32n_ref21_Place (v : List It × List UInt8) (h : v.1.length ≤ 1000000) : R32n.f 35 [.slc (v.1.map It.enc), .str v.2] = some (.int .i64 (placeK v.1 v.2)) := Tab.ent_eq (Γ := R32m) (fun i j h => by simpa [Prod.ext_iff, and_assoc] using h) v h
theorem s_Place {l : List It} {k : List UInt8} (h : l.length ≤ 1000000) : R32n.f 35 [.slc (l.map It.enc), .str k] = some (.int .i64 (placeK l k)) := R32n_ref21_Place (l, k) h
def difP (b : List It) (x : It) : Bool := decide (getK b x.key ≠ some x)
def goneP (a : List It) (x : It) : Bool := (getK a x.key).isNone
def keyL (l : List It) : List (List UInt8) := l.map (·.key)
theorem keyL_len (l : List It) : (keyL l).length = l.length := by unfold keyL; rw [List.length_map]
theorem keyL_app (l m : List It) : keyL (l ++ m) = keyL l ++ keyL m := by unfold keyL; rw [List.map_append]
def diffL (a b : List It) : List (List UInt8) := keyL (a.filter (difP b)) ++ keyL (b.filter (goneP a))
theorem row_str (l : List (List UInt8)) (s : List UInt8) : l.map A.str ++ [.str s] = (l ++ [s]).map A.str := by simp
theorem take_strs (l : List (List UInt8)) : List.take l.length (l.map A.str) = l.map A.str := List.take_of_length_le (by simp)
theorem difP_none {b : List It} {x : It} (h : getK b x.key = none) : difP b x = true := by simp [difP, h]
theorem difP_some {b : List It} {x y : It} (h : getK b x.key = some y) : difP b x = !decide (y = x) := by
  unfold difP
  rw [h]
  by_cases e : y = x
  · subst e; simp
  · simp [e]
theorem ok_ref32_Differ : codeOK Try.prog R32n Try.f16.ntmps (Try.f16.body.getD .skip) = true := by kernel_rfl
theorem c_ref32_Differ (a b : List It) (ha : a.length ≤ 1000) (hb : b.length ≤ 1000) : CallA Try.prog 16 [.slc (a.map It.enc), .slc (b.map It.enc)] (· = .slc ((diffL a b).map .str)) := by
  refine callA_of_body R32n_ok mixed Try.func16 rfl (Nat.le_of_ble_eq_true rfl) ok_ref32_Differ ?_
  unfold Try.f16
  simp -implicitDefEqProofs (disch := (first | omega | decide)) only [go_sem, ↓reduceIte, seval, List.length_map]
  refine wpA_loop_nil 5 1 rfl ?_
  refine wpA_loop [0, 1] (ι := {j : Nat // j ≤ a.length}) (fun j => [(6, .int .i64 j.1), (5, .row 0 0 1 (keyL ((a.take j.1).filter (difP b))).length false)]) (fun j => [(0, .row 1 ((keyL ((a.take j.1).filter (difP b))).map .str))]) (fun j => a.length - j.1) ⟨0, by omega⟩ (Nat.zero_le _) ?_ ?_
  · simp -implicitDefEqProofs (disch := (first | omega | decide)) only [go_sem, ↓reduceIte, seval]
    first | done | (simp [keyL]; done)
  · rintro ⟨j, hj⟩
    simp only
    have hgl : (keyL ((a.take j).filter (difP b))).length ≤ 1000 := by
      have := List.length_filter_le (difP b) (a.take j)
      rw [List.length_take] at this
      rw [keyL_len]; omega
    have tk := take_strs (keyL ((a.take j).filter (difP b)))
    by_cases hlt : j < a.length
    · have q1 : (j : Int) < (a.length : Int) := by omega
      have q2 : (0 : Int) ≤ (j : Int) := by omega
      have q3 : ((j : Nat) : Int).toNat = j := Int.toNat_natCast _
      have q4 : IntKind.i64.wrap ((j : Int) + 1) = (j : Int) + 1 := by rw [wrap_i64]; omega
      have e1 := it_get hlt
      have g1 := s_Place (l := b) (k := a[j].key) (by omega)
      have hp := place_getK b a[j].key
      have hsn : keyL ((a.take (j + 1)).filter (difP b)) = keyL ((a.take j).filter (difP b)) ++ (if difP b a[j] = true then [a[j].key] else []) := by
        rw [filter_snoc32 hlt, keyL_app]
        congr 1
        split <;> rfl
      generalize a[j] = x at *
      generalize keyL ((a.take j).filter (difP b)) = G at *
      have yes : difP b x = true → keyL ((a.take (j + 1)).filter (difP b)) = G ++ [x.key] := fun h => by rw [hsn, h]; rfl
      have no : difP b x = false → keyL ((a.take (j + 1)).filter (difP b)) = G := fun h => by rw [hsn, h]; simp
      clear hsn
      rcases hp with ⟨h1, h2⟩ | ⟨i, hi, h1, h2⟩
      · rw [h1] at g1
        have hy := yes (difP_none h2)
        simp -implicitDefEqProofs (disch := (first | omega | decide)) only [go_sem, ↓reduceIte, seval, q1, q2, q3, q4, e1, g1, tk, List.length_map]
        exact ⟨⟨Nat.le_refl _, by omega⟩, ⟨j + 1, hlt⟩, ⟨⟨by simp, by rw [hy]; simp⟩, by rw [hy]; exact row_str G x.key⟩, by show a.length - (j + 1) < a.length - j; omega⟩
      · rw [h1] at g1
        have e2 := it_get hi
        have hd := difP_some h2
        rw [it_eq] at hd
        have r1 : ¬ (i : Int) < 0 := by omega
        have r2 : (0 : Int) ≤ (i : Int) := by omega
        have r3 : ((i : Nat) : Int).toNat = i := Int.toNat_natCast _
        have r4 : (i : Int) < (b.length : Int) := by omega
        generalize b[i] = y at *
        cases hB : (y.key == x.key && (y.rep == x.rep && (y.cnt == x.cnt && (y.rank == x.rank && (y.prio == x.prio && (y.dead == x.dead && y.body == x.body)))))) with
        | true =>
          rw [hB] at hd
          have hn := no hd
          simp -implicitDefEqProofs (disch := (first | omega | decide)) only [go_sem, ↓reduceIte, seval, q1, q2, q3, q4, e1, g1, e2, r1, r2, r3, r4, hB, List.length_map]
          exact ⟨⟨j + 1, hlt⟩, ⟨⟨by simp, by rw [hn]⟩, by rw [hn]⟩, by show a.length - (j + 1) < a.length - j; omega⟩
        | false =>
          rw [hB] at hd
          have hy := yes hd
          simp -implicitDefEqProofs (disch := (first | omega | decide)) only [go_sem, ↓reduceIte, seval, q1, q2, q3, q4, e1, g1, e2, r1, r2, r3, r4, hB, tk, List.length_map]
          exact ⟨⟨Nat.le_refl _, by omega⟩, ⟨j + 1, hlt⟩, ⟨⟨by simp, by rw [hy]; simp⟩, by rw [hy]; exact row_str G x.key⟩, by show a.length - (j + 1) < a.length - j; omega⟩
    · have q1 : ¬ (j : Int) < (a.length : Int) := by omega
      have e0 : a.take j = a := List.take_of_length_le (by omega)
      rw [e0] at hgl tk ⊢
      unfold diffL
      generalize keyL (a.filter (difP b)) = F at *
      simp -implicitDefEqProofs (disch := (first | omega | decide)) only [go_sem, ↓reduceIte, seval, q1, List.length_map]
      refine wpA_loop [0, 1] (ι := {j : Nat // j ≤ b.length}) (fun j => [(8, .int .i64 j.1), (5, .row 0 0 1 (F ++ keyL ((b.take j.1).filter (goneP a))).length false)]) (fun j => [(0, .row 1 ((F ++ keyL ((b.take j.1).filter (goneP a))).map .str))]) (fun j => b.length - j.1) ⟨0, by omega⟩ (Nat.zero_le _) ?_ ?_
      · simp -implicitDefEqProofs (disch := (first | omega | decide)) only [go_sem, ↓reduceIte, seval]
        first | done | (simp [keyL]; done)
      · rintro ⟨j, hj⟩
        simp only
        have hgl2 : (F ++ keyL ((b.take j).filter (goneP a))).length ≤ 2000 := by
          have := List.length_filter_le (goneP a) (b.take j)
          rw [List.length_take] at this
          rw [List.length_append, keyL_len]; omega
        have tk2 := take_strs (F ++ keyL ((b.take j).filter (goneP a)))
        by_cases hlt : j < b.length
        · have q1 : (j : Int) < (b.length : Int) := by omega
          have q2 : (0 : Int) ≤ (j : Int) := by omega
          have q3 : ((j : Nat) : Int).toNat = j := Int.toNat_natCast _
          have q4 : IntKind.i64.wrap ((j : Int) + 1) = (j : Int) + 1 := by rw [wrap_i64]; omega
          have e1 := it_get hlt
          have g1 := s_Place (l := a) (k := b[j].key) (by omega)
          have hp := place_getK a b[j].key
          have hsn : F ++ keyL ((b.take (j + 1)).filter (goneP a)) = F ++ keyL ((b.take j).filter (goneP a)) ++ (if goneP a b[j] = true then [b[j].key] else []) := by
            rw [filter_snoc32 hlt, keyL_app, List.append_assoc]
            congr 2
            split <;> rfl
          generalize b[j] = x at *
          generalize F ++ keyL ((b.take j).filter (goneP a)) = G at *
          rcases hp with ⟨h1, h2⟩ | ⟨i, hi, h1, h2⟩
          · rw [h1] at g1
            have hy : F ++ keyL ((b.take (j + 1)).filter (goneP a)) = G ++ [x.key] := by rw [hsn]; simp [goneP, h2]
            simp -implicitDefEqProofs (disch := (first | omega | decide)) only [go_sem, ↓reduceIte, seval, q1, q2, q3, q4, e1, g1, tk2, List.length_map]
            exact ⟨⟨Nat.le_refl _, by omega⟩, ⟨j + 1, hlt⟩, ⟨⟨by simp, by rw [hy]; simp⟩, by rw [hy]; exact row_str G x.key⟩, by show b.length - (j + 1) < b.length - j; omega⟩
          · rw [h1] at g1
            have hn : F ++ keyL ((b.take (j + 1)).filter (goneP a)) = G := by rw [hsn]; simp [goneP, h2]
            have r1 : ¬ (i : Int) < 0 := by omega
            simp -implicitDefEqProofs (disch := (first | omega | decide)) only [go_sem, ↓reduceIte, seval, q1, q2, q3, q4, e1, g1, r1, List.length_map]
            exact ⟨⟨j + 1, hlt⟩, ⟨⟨by simp, by rw [hn]⟩, by rw [hn]⟩, by show b.length - (j + 1) < b.length - j; omega⟩
        · have q1 : ¬ (j : Int) < (b.length : Int) := by omega
          have e0 : b.take j = b := List.take_of_length_le (by omega)
          rw [e0] at tk2 ⊢
          simp -implicitDefEqProofs (disch := (first | omega | decide)) only [go_sem, ↓reduceIte, seval, q1, tk2, List.length_map, Nat.le_refl]
inductive Tm where
  | leaf
  | node (x : It) (l r : Tm) (o : Int)
def Tm.h : Tm → Nat
  | .leaf => 0
  | .node _ l r _ => 1 + max l.h r.h
def Tm.n : Tm → Nat
  | .leaf => 0
  | .node _ l r _ => 1 + l.n + r.n
def Tm.s : Tm → Int
  | .leaf => 0
  | .node _ l r o => IntKind.u64.wrap (IntKind.u64.wrap (o + l.s) + r.s)
def Tm.its : Tm → List (It × Int)
  | .leaf => []
  | .node x l r o => l.its ++ (x, o) :: r.its
def encM : Tm → A
  | .leaf => .nilp
  | .node x l r o => .dptr [.str x.key, .int .i64 x.rep, .int .i64 x.cnt, .int .i64 x.rank, .int .i64 x.prio, .bool x.dead, .str x.body, encM l, encM r, .int .i64 (1 + max (l.h : Int) r.h), .int .i64 (1 + l.n + r.n), .int .u64 o, .int .u64 (Tm.s (.node x l r o))]
theorem encM_inj : ∀ {a b : Tm}, encM a = encM b → a = b
  | .leaf, .leaf, _ => rfl
  | .leaf, .node .., h => by simp [encM] at h
  | .node .., .leaf, h => by simp [encM] at h
  | .node x l r o, .node x' l' r' o', h => by
    obtain ⟨a1, a2, a3, a4, a5, a6, a7⟩ := x
    obtain ⟨b1, b2, b3, b4, b5, b6, b7⟩ := x'
    simp only [encM, A.dptr.injEq, List.cons.injEq, A.str.injEq, A.int.injEq, A.bool.injEq, true_and] at h
    obtain ⟨h1, h2, h3, h4, h5, h6, h7, hl, hr, _, _, ho, _⟩ := h
    rw [encM_inj hl, encM_inj hr, h1, h2, h3, h4, h5, h6, h7, ho]
def rsum (l : List (It × Int)) : Int := (l.map (·.2)).sum
theorem rsum_app (l m : List (It × Int)) : rsum (l ++ m) = rsum l + rsum m := by unfold rsum; rw [List.map_append, List.sum_append]
theorem rsum_cons (p : It × Int) (l : List (It × Int)) : rsum (p :: l) = p.2 + rsum l := by unfold rsum; rw [List.map_cons, List.sum_cons]
theorem wrapU (x : Int) : IntKind.u64.wrap x = x % 18446744073709551616 := by
  unfold IntKind.wrap; simp [IntKind.bits, IntKind.signed]
theorem Tm.s_eq : ∀ t : Tm, t.s = IntKind.u64.wrap (rsum t.its)
  | .leaf => rfl
  | .node x l r o => by
    simp only [Tm.s, Tm.its, Tm.s_eq l, Tm.s_eq r, rsum_app, rsum_cons, wrapU]
    omega
theorem Tm.n_eq : ∀ t : Tm, t.its.length = t.n
  | .leaf => rfl
  | .node _ l r _ => by simp [Tm.its, Tm.n, Tm.n_eq l, Tm.n_eq r]; omega
def belowK (k : List UInt8) (l : List (It × Int)) : List (It × Int) := l.filter fun p => ltB p.1.key k
def risesK (l : List (It × Int)) : Prop := l.Pairwise fun p q => ltB p.1.key q.1.key = true
theorem below_node {x : It} {l r : Tm} {o : Int} {k : List UInt8} (h : risesK (Tm.node x l r o).its) : belowK k (Tm.node x l r o).its = if ltB x.key k = true then l.its ++ (x, o) :: belowK k r.its else belowK k l.its := by
  unfold risesK at h
  simp only [Tm.its] at h ⊢
  rw [List.pairwise_append] at h
  obtain ⟨_, h2, h3⟩ := h
  obtain ⟨h4, _⟩ := List.pairwise_cons.1 h2
  unfold belowK
  rw [List.filter_append]
  by_cases hx : ltB x.key k = true
  · rw [if_pos hx, List.filter_eq_self.2 (fun p hp => lt_trans' (h3 p hp (x, o) (by simp)) hx), List.filter_cons_of_pos (by exact hx)]
  · rw [if_neg hx, List.filter_cons_of_neg (by exact hx), List.filter_eq_nil_iff.2 (fun p hp hpk => hx (lt_trans' (h4 p hp) hpk)), List.append_nil]
theorem rises_parts {x : It} {l r : Tm} {o : Int} (h : risesK (Tm.node x l r o).its) : risesK l.its ∧ risesK r.its := by
  unfold risesK at *
  simp only [Tm.its] at h
  rw [List.pairwise_append] at h
  exact ⟨h.1, (List.pairwise_cons.1 h.2.1).2⟩
theorem sumI_eq (seed : Int) (l : List It) : sumI seed l = IntKind.u64.wrap (rsum (l.map fun x => (x, hashI seed x))) := by
  unfold sumI
  have : ∀ (l : List It) (s t : Int), s = IntKind.u64.wrap t → l.foldl (fun s x => IntKind.u64.wrap (s + hashI seed x)) s = IntKind.u64.wrap (t + rsum (l.map fun x => (x, hashI seed x))) := fun l => by
    induction l with
    | nil => intro s t h; simp [rsum, h]
    | cons x l ih =>
      intro s t h
      rw [List.foldl_cons, ih (IntKind.u64.wrap (s + hashI seed x)) (t + hashI seed x) (by rw [h, wrapU, wrapU, wrapU]; omega), List.map_cons, rsum_cons]
      congr 1
      simp only; omega
  have h2 := this l 0 0 (by decide)
  rw [Int.zero_add] at h2
  exact h2
theorem range_sum (seed : Int) (l : List It) {r : Rng} (hr : rightR r = true) :
    sumI seed (inR21 l r) = IntKind.u64.wrap ((if r.op = true then IntKind.u64.wrap (rsum (l.map fun x => (x, hashI seed x))) else IntKind.u64.wrap (rsum (belowK r.hi (l.map fun x => (x, hashI seed x))))) - IntKind.u64.wrap (rsum (belowK r.lo (l.map fun x => (x, hashI seed x))))) := by
  rw [sumI_eq]
  have key : rsum ((inR21 l r).map fun x => (x, hashI seed x)) = (if r.op = true then rsum (l.map fun x => (x, hashI seed x)) else rsum (belowK r.hi (l.map fun x => (x, hashI seed x)))) - rsum (belowK r.lo (l.map fun x => (x, hashI seed x))) := by
    induction l with
    | nil => simp [inR21, rsum, belowK]
    | cons x l ih =>
      unfold inR21 belowK at ih ⊢
      rw [List.map_cons]
      cases h1 : ltB x.key r.lo with
      | true =>
        have hno : hasR r x.key = false := by simp [hasR, h1]
        rw [List.filter_cons_of_neg (by simp [hno]), List.filter_cons_of_pos (p := fun p : It × Int => ltB p.1.key r.lo) (by exact h1), rsum_cons, rsum_cons, ih]
        cases hop : r.op with
        | true => simp; omega
        | false =>
          have h2 : ltB x.key r.hi = true := by
            unfold rightR at hr
            rw [hop] at hr
            simp at hr
            exact lt_trans' h1 hr.2
          simp only [Bool.false_eq_true, if_false]
          rw [List.filter_cons_of_pos (p := fun p : It × Int => ltB p.1.key r.hi) (by exact h2), rsum_cons]
          simp only; omega
      | false =>
        rw [List.filter_cons_of_neg (p := fun p : It × Int => ltB p.1.key r.lo) (by simp [h1])]
        cases hop : r.op with
        | true =>
          rw [hop] at ih
          have hy : hasR r x.key = true := by simp [hasR, h1, hr, hop]
          rw [List.filter_cons_of_pos (by exact hy), List.map_cons, rsum_cons, ih]
          simp [rsum_cons]; omega
        | false =>
          rw [hop] at ih
          simp only [Bool.false_eq_true, if_false] at ih ⊢
          cases h2 : ltB x.key r.hi with
          | true =>
            have hy : hasR r x.key = true := by simp [hasR, h1, hr, hop, h2]
            rw [List.filter_cons_of_pos (by exact hy), List.map_cons, rsum_cons, ih, List.filter_cons_of_pos (p := fun p : It × Int => ltB p.1.key r.hi) (by exact h2), rsum_cons]
            simp only; omega
          | false =>
            have hno : hasR r x.key = false := by simp [hasR, h1, hop, h2]
            rw [List.filter_cons_of_neg (by simp [hno]), ih, List.filter_cons_of_neg (p := fun p : It × Int => ltB p.1.key r.hi) (by simp [h2])]
  rw [key]
  split <;> simp only [wrapU] <;> omega
end Go.Proofs.Ytjnpfbohnpjckaa
