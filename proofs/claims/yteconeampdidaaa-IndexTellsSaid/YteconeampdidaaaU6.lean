/- What the laws of this claim rest on: the abstract executor, its soundness, and what the functions compute on pure data. No condition. -/
import Derived.Test.YteconeampdidaaaU5
set_option linter.unusedVariables false
set_option linter.unusedSimpArgs false
namespace Go.Proofs.Yteconeampdidaaa
open Go.Abs
set_option linter.unusedSimpArgs false
set_option linter.unusedVariables false
set_option maxRecDepth 20000
set_option maxHeartbeats 16000000
def Et.enc (x : Et) : A := .agg [.int .i64 x.r, .int .i64 x.c, .str x.k]
@[go_sem] theorem Et.enc_eq {r c : Int} {k : List UInt8} : Et.enc ⟨r, c, k⟩ = .agg [.int .i64 r, .int .i64 c, .str k] := rfl
theorem Et.enc_inj (x y : Et) (h : x.enc = y.enc) : x = y := by
  obtain ⟨a, b, c⟩ := x; obtain ⟨a', b', c'⟩ := y
  simpa [Et.enc] using h
@[simp] theorem map_et_inj {l m : List Et} : (l.map Et.enc = m.map Et.enc) = (l = m) := map_inj Et.enc_inj
theorem et_get {l : List Et} {k : Nat} (h : k < l.length) : (l.map Et.enc)[k]? = some (.agg [.int .i64 l[k].r, .int .i64 l[k].c, .str l[k].k]) := by
  rw [List.getElem?_map, List.getElem?_eq_getElem h]; rfl
theorem row_et (l : List Et) (x : Et) : l.map Et.enc ++ [.agg [.int .i64 x.r, .int .i64 x.c, .str x.k]] = (l ++ [x]).map Et.enc := by rw [List.map_append]; rfl
@[go_sem] theorem take_et {l : List Et} : List.take l.length (l.map Et.enc) = l.map Et.enc := List.take_of_length_le (by simp)
theorem filter_snoc2 {α : Type} {l : List α} {k : Nat} {f : α → Bool} (h : k < l.length) : (l.take (k + 1)).filter f = (l.take k).filter f ++ (if f l[k] = true then [l[k]] else []) := by
  rw [← List.take_append_getElem h, List.filter_append]
  congr 1
  cases hf : f l[k] <;> simp [hf]
theorem ok_ref22_Place : codeOK Try.prog X22g Try.f16.ntmps (Try.f16.body.getD .skip) = true := by kernel_rfl
theorem c_ref22_Place (l : List Et) (r c : Int) (hl : l.length ≤ 1000000) : CallA Try.prog 16 [.slc (l.map Et.enc), .agg [.int .i64 r, .int .i64 c]] (· = .int .i64 (placeT l r c)) := by
  refine callA_of_body X22g_ok mixed Try.func16 rfl (Nat.le_of_ble_eq_true rfl) ok_ref22_Place ?_
  unfold Try.f16
  simp -implicitDefEqProofs (disch := (first | omega | decide)) only [go_sem, ↓reduceIte, seval, List.length_map]
  refine wpA_loop [0, 3] (ι := {i : Nat // i ≤ l.length ∧ ∀ j, j < i → ∀ h : j < l.length, ¬ (l[j].r = r ∧ l[j].c = c)}) (fun i => [(5, .int .i64 i.1)]) (fun _ => []) (fun i => l.length - i.1) ⟨0, by omega, fun j hj => absurd hj (by omega)⟩ (Nat.zero_le _) ?_ ?_
  · simp -implicitDefEqProofs (disch := (first | omega | decide)) only [go_sem, ↓reduceIte, seval]
    try rfl
  · rintro ⟨i, hi, hd⟩
    simp only
    by_cases hlt : i < l.length
    · have hlt' : (i : Int) < (l.length : Int) := by omega
      have p1 : (0 : Int) ≤ (i : Int) := by omega
      have t1 : ((i : Nat) : Int).toNat = i := Int.toNat_natCast _
      have e1 := et_get hlt
      by_cases hk : l[i].r = r ∧ l[i].c = c
      · have hp : placeT l r c = (i : Int) := by
          unfold placeT
          rw [List.findIdx?_eq_some_iff_getElem.2 ⟨hlt, by simpa using hk, fun j hj => by have := hd j hj (by omega); simpa using this⟩]
        rw [hp]
        have b1 : (l[i].r == r) = true := by simpa using hk.1
        have b2 : (l[i].c == c) = true := by simpa using hk.2
        generalize l[i] = x at *
        simp -implicitDefEqProofs (disch := (first | omega | decide)) only [go_sem, ↓reduceIte, seval, hlt', p1, t1, e1, b1, b2, wrap_i64, List.length_map]
      · have hd2 : ∀ j, j < i + 1 → ∀ h : j < l.length, ¬ (l[j].r = r ∧ l[j].c = c) := fun j hj h => by
          by_cases e : j = i
          · subst e; exact hk
          · exact hd j (by omega) h
        have b1 : (l[i].r == r && l[i].c == c) = false := by
          by_cases h1 : l[i].r = r
          · have : ¬ l[i].c = c := fun h2 => hk ⟨h1, h2⟩
            simp [this]
          · simp [h1]
        generalize l[i] = x at *
        simp -implicitDefEqProofs (disch := (first | omega | decide)) only [go_sem, ↓reduceIte, seval, hlt', p1, t1, e1, b1, wrap_i64, List.length_map]
        exact ⟨⟨i + 1, hlt, hd2⟩, by simp, by show l.length - (i + 1) < l.length - i; omega⟩
    · have hlt' : ¬ (i : Int) < (l.length : Int) := by omega
      have hp : placeT l r c = -1 := by
        unfold placeT
        rw [List.findIdx?_eq_none_iff.2 fun x hx => by
          obtain ⟨j, hj, rfl⟩ := List.getElem_of_mem hx
          have := hd j (by omega) hj
          simpa using this]
      rw [hp]
      simp -implicitDefEqProofs (disch := (first | omega | decide)) only [go_sem, ↓reduceIte, seval, hlt', List.length_map]
theorem ok_ref22_Drop : codeOK Try.prog X22g Try.f20.ntmps (Try.f20.body.getD .skip) = true := by kernel_rfl
theorem c_ref22_Drop (l : List Et) (r c : Int) (hl : l.length ≤ 1000000) : CallA Try.prog 20 [.slc (l.map Et.enc), .agg [.int .i64 r, .int .i64 c]] (· = .slc ((dropL l r c).map Et.enc)) := by
  refine callA_of_body X22g_ok mixed Try.func20 rfl (Nat.le_of_ble_eq_true rfl) ok_ref22_Drop ?_
  unfold Try.f20
  simp -implicitDefEqProofs (disch := (first | omega | decide)) only [go_sem, ↓reduceIte, seval, List.length_map]
  refine wpA_loop_nil 5 3 rfl ?_
  refine wpA_loop [0, 3] (ι := {i : Nat // i ≤ l.length}) (fun i => [(6, .int .i64 i.1), (5, .row 1 0 3 (dropL (l.take i.1) r c).length false)]) (fun i => [(1, .row 3 ((dropL (l.take i.1) r c).map Et.enc))]) (fun i => l.length - i.1) ⟨0, by omega⟩ (Nat.zero_le _) ?_ ?_
  · simp -implicitDefEqProofs (disch := (first | omega | decide)) only [go_sem, ↓reduceIte, seval]
    first | done | (simp [dropL]; done)
  · rintro ⟨i, hi⟩
    simp only
    have hol : (dropL (l.take i) r c).length ≤ 1000000 := by
      have := dropL_len (l.take i) r c
      rw [List.length_take] at this; omega
    have tk : List.take (dropL (l.take i) r c).length ((dropL (l.take i) r c).map Et.enc) = (dropL (l.take i) r c).map Et.enc := take_et
    by_cases hlt : i < l.length
    · have hlt' : (i : Int) < (l.length : Int) := by omega
      have p1 : (0 : Int) ≤ (i : Int) := by omega
      have t1 : ((i : Nat) : Int).toNat = i := Int.toNat_natCast _
      have w1 : IntKind.i64.wrap ((i : Int) + 1) = (i : Int) + 1 := by rw [wrap_i64]; omega
      have e1 := et_get hlt
      have hsn : dropL (l.take (i + 1)) r c = dropL (l.take i) r c ++ (if decide (¬ (l[i].r = r ∧ l[i].c = c)) = true then [l[i]] else []) := filter_snoc2 (f := fun x : Et => decide (¬ (x.r = r ∧ x.c = c))) hlt
      by_cases hk : l[i].r = r ∧ l[i].c = c
      · have b1 : (l[i].r == r) = true := by simpa using hk.1
        have b2 : (l[i].c == c) = true := by simpa using hk.2
        rw [if_neg (by simpa using hk), List.append_nil] at hsn
        generalize l[i] = x at *
        simp -implicitDefEqProofs (disch := (first | omega | decide)) only [go_sem, ↓reduceIte, seval, hlt', p1, t1, w1, e1, b1, b2, List.length_map]
        exact ⟨⟨i + 1, hlt⟩, ⟨⟨by simp, by rw [hsn]⟩, by rw [hsn]⟩, by show l.length - (i + 1) < l.length - i; omega⟩
      · have b1 : (l[i].r == r && l[i].c == c) = false := by
          by_cases h1 : l[i].r = r
          · have : ¬ l[i].c = c := fun h2 => hk ⟨h1, h2⟩
            simp [this]
          · simp [h1]
        rw [if_pos (by rw [decide_eq_true_iff]; exact hk)] at hsn
        generalize l[i] = x at *
        generalize dropL (l.take i) r c = O at *
        simp -implicitDefEqProofs (disch := (first | omega | decide)) only [go_sem, ↓reduceIte, seval, hlt', p1, t1, w1, e1, b1, tk, List.length_map]
        exact ⟨⟨Nat.le_refl _, by omega⟩, ⟨i + 1, hlt⟩, ⟨⟨by simp, by rw [hsn]; simp⟩, by rw [hsn]; exact row_et O x⟩, by show l.length - (i + 1) < l.length - i; omega⟩
    · have hlt' : ¬ (i : Int) < (l.length : Int) := by omega
      have e0 : l.take i = l := List.take_of_length_le (by omega)
      rw [e0] at *
      simp -implicitDefEqProofs (disch := (first | omega | decide)) only [go_sem, ↓reduceIte, seval, hlt', tk, List.length_map, Nat.le_refl]
noncomputable def X22h : Tab := X22g.add 16 (entry (fun (v : List Et × Int × Int) => [.slc (v.1.map Et.enc), .agg [.int .i64 v.2.1, .int .i64 v.2.2]]) (fun v => v.1.length ≤ 1000000) (fun v => .int .i64 (placeT v.1 v.2.1 v.2.2)))
theorem X22h_ok : TabOK Try.prog X22h := X22g_ok.ent Try.func16 (by kernel_rfl) (by kernel_rfl) fun v h => c_ref22_Place v.1 v.2.1 v.2.2 h
@[go_sem] theorem X22h_old {g : FuncId} {xs : List A} (h : g ≠ 16) : X22h.f g xs = X22g.f g xs := Tab.add_ne h
theorem X22h_ref22_Place (v : List Et × Int × Int) (h : v.1.length ≤ 1000000) : X22h.f 16 [.slc (v.1.map Et.enc), .agg [.int .i64 v.2.1, .int .i64 v.2.2]] = some (.int .i64 (placeT v.1 v.2.1 v.2.2)) := Tab.ent_eq (Γ := X22g) (fun i j h => by simpa [Prod.ext_iff, and_assoc] using h) v h
noncomputable def X22i : Tab := X22h.add 20 (entry (fun (v : List Et × Int × Int) => [.slc (v.1.map Et.enc), .agg [.int .i64 v.2.1, .int .i64 v.2.2]]) (fun v => v.1.length ≤ 1000000) (fun v => .slc ((dropL v.1 v.2.1 v.2.2).map Et.enc)))
theorem X22i_ok : TabOK Try.prog X22i := X22h_ok.ent Try.func20 (by kernel_rfl) (by kernel_rfl) fun v h => c_ref22_Drop v.1 v.2.1 v.2.2 h
@[go_sem] theorem X22i_old {g : FuncId} {xs : List A} (h : g ≠ 20) : X22i.f g xs = X22h.f g xs := Tab.add_ne h
@[go_sem] theorem X22i_s : X22i.pl X22h := ⟨fun _ => rfl, fun _ => rfl, rfl, fun _ => rfl, rfl, fun _ => rfl, rfl⟩
theorem X22i_ref22_Drop (v : List Et × Int × Int) (h : v.1.length ≤ 1000000) : X22i.f 20 [.slc (v.1.map Et.enc), .agg [.int .i64 v.2.1, .int .i64 v.2.2]] = some (.slc ((dropL v.1 v.2.1 v.2.2).map Et.enc)) := Tab.ent_eq (Γ := X22h) (fun i j h => by simpa [Prod.ext_iff, and_assoc] using h) v h
theorem y22_Place {l : List Et} {r c : Int} (h : l.length ≤ 1000000) : X22h.f 16 [.slc (l.map Et.enc), .agg [.int .i64 r, .int .i64 c]] = some (.int .i64 (placeT l r c)) := X22h_ref22_Place (l, r, c) h
theorem y22_Drop {l : List Et} {r c : Int} (h : l.length ≤ 1000000) : X22i.f 20 [.slc (l.map Et.enc), .agg [.int .i64 r, .int .i64 c]] = some (.slc ((dropL l r c).map Et.enc)) := X22i_ref22_Drop (l, r, c) h
def mayT (r c : Int) (k : List UInt8) : Bool := rightV ⟨r, c⟩ && decide (1 ≤ k.length ∧ k.length ≤ 16)
theorem ok_ref22_May : codeOK Try.prog X22i Try.f21.ntmps (Try.f21.body.getD .skip) = true := by kernel_rfl
theorem c_ref22_May (r c : Int) (k : List UInt8) (hk : k.length ≤ 9223372036854775807) : CallA Try.prog 21 [.agg [.int .i64 r, .int .i64 c], .str k] (· = .bool (mayT r c k)) := by
  refine callA_of_body X22i_ok mixed Try.func21 rfl (Nat.le_of_ble_eq_true rfl) ok_ref22_May ?_
  unfold Try.f21
  have g1 := K14c_ref12_Right (r, c) trivial
  have g2 := X22b_ref06_Right k hk
  simp only at g1
  unfold mayT
  cases hr : rightV ⟨r, c⟩ with
  | false => rw [hr] at g1; simp -implicitDefEqProofs (disch := (first | omega | decide)) only [go_sem, ↓reduceIte, seval, g1]
  | true => rw [hr] at g1; simp -implicitDefEqProofs (disch := (first | omega | decide)) only [go_sem, ↓reduceIte, seval, g1, g2]
noncomputable def X22j : Tab := X22i.add 21 (entry (fun (v : Int × Int × List UInt8) => [.agg [.int .i64 v.1, .int .i64 v.2.1], .str v.2.2]) (fun v => v.2.2.length ≤ 9223372036854775807) (fun v => .bool (mayT v.1 v.2.1 v.2.2)))
theorem X22j_ok : TabOK Try.prog X22j := X22i_ok.ent Try.func21 (by kernel_rfl) (by kernel_rfl) fun v h => c_ref22_May v.1 v.2.1 v.2.2 h
@[go_sem] theorem X22j_old {g : FuncId} {xs : List A} (h : g ≠ 21) : X22j.f g xs = X22i.f g xs := Tab.add_ne h
@[go_sem] theorem X22j_s : X22j.pl X22i := ⟨fun _ => rfl, fun _ => rfl, rfl, fun _ => rfl, rfl, fun _ => rfl, rfl⟩
theorem X22j_ref22_May (v : Int × Int × List UInt8) (h : v.2.2.length ≤ 9223372036854775807) : X22j.f 21 [.agg [.int .i64 v.1, .int .i64 v.2.1], .str v.2.2] = some (.bool (mayT v.1 v.2.1 v.2.2)) := Tab.ent_eq (Γ := X22i) (fun i j h => by simpa [Prod.ext_iff, and_assoc] using h) v h
theorem stEt (l : List Et) : ((l.map Et.enc).isEmpty || strideOf (l.map Et.enc) == 3) = true := by cases l <;> rfl
theorem dw_head {α : Type} {p : α → Bool} : ∀ (l : List α) (x : α) (t : List α), l.dropWhile p = x :: t → p x = false
  | [], _, _, h => by simp at h
  | y :: l, x, t, h => by
    cases hy : p y with
    | true => rw [List.dropWhile_cons_of_pos hy] at h; exact dw_head l x t h
    | false =>
      rw [List.dropWhile_cons_of_neg (by simp [hy])] at h
      injection h with h1 h2
      rw [← h1]; exact hy
theorem ok_ref22_Put : codeOK Try.prog X22j Try.f22.ntmps (Try.f22.body.getD .skip) = true := by kernel_rfl
theorem c_ref22_Put (l : List Et) (r c : Int) (k : List UInt8) (hl : l.length ≤ 1000000) : CallA Try.prog 22 [.slc (l.map Et.enc), .agg [.int .i64 r, .int .i64 c], .str k] (· = .slc ((putL l r c k).map Et.enc)) := by
  refine callA_of_body X22j_ok mixed Try.func22 rfl (Nat.le_of_ble_eq_true rfl) ok_ref22_Put ?_
  unfold Try.f22
  have g1 := y22_Drop (l := l) (r := r) (c := c) hl
  have hml := dropL_len l r c
  have hp0 : putL l r c k = (dropL l r c).takeWhile (fun x => lessV x.r x.c r c) ++ ⟨r, c, k⟩ :: (dropL l r c).dropWhile (fun x => lessV x.r x.c r c) := rfl
  rw [hp0]
  clear hp0
  generalize hm : dropL l r c = m at *
  have hl2 : m.length ≤ 1000000 := by omega
  clear hm hml
  simp -implicitDefEqProofs (disch := (first | omega | decide)) only [go_sem, ↓reduceIte, seval, g1, List.length_map]
  clear g1
  have htw := List.takeWhile_append_dropWhile (p := fun x : Et => lessV x.r x.c r c) (l := m)
  have hpx : (m.takeWhile fun x : Et => lessV x.r x.c r c) <+: m := ⟨_, htw⟩
  have htk := List.prefix_iff_eq_take.1 hpx
  have hdp : m.drop (m.takeWhile fun x : Et => lessV x.r x.c r c).length = m.dropWhile fun x : Et => lessV x.r x.c r c := by
    conv => lhs; rhs; rw [← htw]
    exact List.drop_left' rfl
  have ltw : ∀ j, ∀ (h : j < m.length), j < (m.takeWhile fun x : Et => lessV x.r x.c r c).length → lessV m[j].r m[j].c r c = true := fun j hjm hj => by
    have := List.all_takeWhile (l := m) (p := fun x : Et => lessV x.r x.c r c)
    rw [List.all_eq_true] at this
    have h2 := this _ (List.getElem_mem hj)
    rw [hpx.getElem hj] at h2
    exact h2
  have hge : ∀ h : (m.takeWhile fun x : Et => lessV x.r x.c r c).length < m.length, lessV (m[(m.takeWhile fun x : Et => lessV x.r x.c r c).length]'h).r (m[(m.takeWhile fun x : Et => lessV x.r x.c r c).length]'h).c r c = false := fun h => by
    rw [List.drop_eq_getElem_cons h] at hdp
    exact dw_head (p := fun x : Et => lessV x.r x.c r c) _ _ _ hdp.symm
  rw [← hdp, htk]
  have hle := hpx.length_le
  rw [← htk]
  clear htw hpx hdp
  generalize hn0 : (m.takeWhile fun x : Et => lessV x.r x.c r c).length = n0 at *
  rw [htk]
  clear htk hn0
  have g2 : ∀ x : Et, X22c.f 25 [.agg [.int .i64 x.r, .int .i64 x.c], .agg [.int .i64 r, .int .i64 c]] = some (.bool (lessV x.r x.c r c)) := fun x => by
    have := X22c_ref12_Less ((x.r, x.c), (r, c)) trivial
    have e : ltV ⟨x.r, x.c⟩ ⟨r, c⟩ = lessV x.r x.c r c := by
      unfold ltV lessV
      by_cases h : x.r = r <;> simp [h]
    simp only [e] at this
    exact this
  refine wpA_loop [0, 2, 4] (ι := {i : Nat // i ≤ n0}) (fun i => [(7, .int .i64 i.1)]) (fun _ => []) (fun i => n0 - i.1) ⟨0, by omega⟩ (Nat.zero_le _) ?_ ?_
  · simp -implicitDefEqProofs (disch := (first | omega | decide)) only [go_sem, ↓reduceIte, seval]
    try rfl
  · rintro ⟨i, hi⟩
    simp only
    have p1 : (0 : Int) ≤ (i : Int) := by omega
    have t1 : ((i : Nat) : Int).toNat = i := Int.toNat_natCast _
    have w1 : IntKind.i64.wrap ((i : Int) + 1) = (i : Int) + 1 := by rw [wrap_i64]; omega
    by_cases hin : i < n0
    · have hlt : i < m.length := by omega
      have hlt' : (i : Int) < (m.length : Int) := by omega
      have e1 := et_get hlt
      have hs := ltw i hlt hin
      have g3 := g2 m[i]
      rw [hs] at g3
      generalize m[i] = x at *
      simp -implicitDefEqProofs (disch := (first | omega | decide)) only [go_sem, ↓reduceIte, seval, hlt', p1, t1, w1, e1, g3, List.length_map]
      exact ⟨⟨i + 1, hin⟩, by simp, by show n0 - (i + 1) < n0 - i; omega⟩
    · obtain rfl : i = n0 := by omega
      have mt : (m.map Et.enc).take i = (m.take i).map Et.enc := List.map_take.symm
      have md : (m.map Et.enc).drop i = (m.drop i).map Et.enc := List.map_drop.symm
      have lt1 : (m.take i).length ≤ 1000000 := by rw [List.length_take]; omega
      have ld1 : (m.drop i).length ≤ 1000000 := by rw [List.length_drop]; omega
      have s1 := stEt m
      have s2 := stEt (m.take i)
      have s3 := stEt (m.drop i)
      have k1 : ∀ x : A, List.take ((m.take i).length + 1) ((m.take i).map Et.enc ++ [x]) = (m.take i).map Et.enc ++ [x] := fun x => List.take_of_length_le (by simp)
      have k2 : ∀ x : A, List.take ((m.take i).length + 1 + (m.drop i).length) ((m.take i).map Et.enc ++ [x] ++ (m.drop i).map Et.enc) = (m.take i).map Et.enc ++ [x] ++ (m.drop i).map Et.enc := fun x => List.take_of_length_le (by simp; omega)
      have k3 : ∀ x : A, ((m.take i).map Et.enc ++ [x]).length = (m.take i).length + 1 := fun x => by simp
      have k4 : ∀ x : A, ((m.take i).map Et.enc ++ [x] ++ (m.drop i).map Et.enc).length = (m.take i).length + 1 + (m.drop i).length := fun x => by simp; omega
      have k5 : List.take (m.take i).length ((m.take i).map Et.enc) = (m.take i).map Et.enc := List.take_of_length_le (by simp)
      have fin : (m.take i).map Et.enc ++ [.agg [.int .i64 r, .int .i64 c, .str k]] ++ (m.drop i).map Et.enc = (m.take i ++ (⟨r, c, k⟩ : Et) :: m.drop i).map Et.enc := by simp [Et.enc]
      by_cases hlt : i < m.length
      · have hlt' : (i : Int) < (m.length : Int) := by omega
        have e1 := et_get hlt
        have hs := hge hlt
        have g3 := g2 m[i]
        rw [hs] at g3
        generalize m[i] = x at *
        rw [← fin]
        simp -implicitDefEqProofs (disch := (first | omega | decide)) only [go_sem, ↓reduceIte, seval, hlt', p1, t1, w1, e1, g3, mt, md, s1, s2, s3, k1, k2, k3, k4, k5, List.length_map, Nat.le_refl, Int.le_refl]
        and_intros <;> omega
      · have hlt' : ¬ (i : Int) < (m.length : Int) := by omega
        rw [← fin]
        simp -implicitDefEqProofs (disch := (first | omega | decide)) only [go_sem, ↓reduceIte, seval, hlt', p1, t1, w1, mt, md, s1, s2, s3, k1, k2, k3, k4, k5, List.length_map, Nat.le_refl, Int.le_refl]
        and_intros <;> omega
noncomputable def X22k : Tab := X22j.add 22 (entry (fun (v : List Et × Int × Int × List UInt8) => [.slc (v.1.map Et.enc), .agg [.int .i64 v.2.1, .int .i64 v.2.2.1], .str v.2.2.2]) (fun v => v.1.length ≤ 1000000) (fun v => .slc ((putL v.1 v.2.1 v.2.2.1 v.2.2.2).map Et.enc)))
theorem X22k_ok : TabOK Try.prog X22k := X22j_ok.ent Try.func22 (by kernel_rfl) (by kernel_rfl) fun v h => c_ref22_Put v.1 v.2.1 v.2.2.1 v.2.2.2 h
@[go_sem] theorem X22k_old {g : FuncId} {xs : List A} (h : g ≠ 22) : X22k.f g xs = X22j.f g xs := Tab.add_ne h
@[go_sem] theorem X22k_s : X22k.pl X22j := ⟨fun _ => rfl, fun _ => rfl, rfl, fun _ => rfl, rfl, fun _ => rfl, rfl⟩
theorem X22k_ref22_Put (v : List Et × Int × Int × List UInt8) (h : v.1.length ≤ 1000000) : X22k.f 22 [.slc (v.1.map Et.enc), .agg [.int .i64 v.2.1, .int .i64 v.2.2.1], .str v.2.2.2] = some (.slc ((putL v.1 v.2.1 v.2.2.1 v.2.2.2).map Et.enc)) := Tab.ent_eq (Γ := X22j) (fun i j h => by simpa [Prod.ext_iff, and_assoc] using h) v h
theorem y22_May {r c : Int} {k : List UInt8} (h : k.length ≤ 9223372036854775807) : X22j.f 21 [.agg [.int .i64 r, .int .i64 c], .str k] = some (.bool (mayT r c k)) := X22j_ref22_May (r, c, k) h
theorem y22_Put {l : List Et} {r c : Int} {k : List UInt8} (h : l.length ≤ 1000000) : X22k.f 22 [.slc (l.map Et.enc), .agg [.int .i64 r, .int .i64 c], .str k] = some (.slc ((putL l r c k).map Et.enc)) := X22k_ref22_Put (l, r, c, k) h
theorem aftL_snoc (r c : Int) (m : Nat) {l : List Et} {i : Nat} (h : i < l.length) : aftL (l.take (i + 1)) r c m = if lessV r c l[i].r l[i].c = true ∧ (aftL (l.take i) r c m).length < m then aftL (l.take i) r c m ++ [⟨l[i].r, l[i].c⟩] else aftL (l.take i) r c m := by
  have e := filter_snoc2 (f := fun x : Et => lessV r c x.r x.c) h
  unfold aftL
  rw [e]
  cases hf : lessV r c l[i].r l[i].c with
  | false => simp
  | true =>
    simp only [if_pos, true_and, List.length_map, List.length_take, List.take_append, List.map_append]
    by_cases hl : ((l.take i).filter fun x : Et => lessV r c x.r x.c).length < m
    · rw [if_pos (by omega)]
      rw [List.take_of_length_le (l := [l[i]]) (by simp; omega)]
      rfl
    · rw [if_neg (by omega), show m - ((l.take i).filter fun x : Et => lessV r c x.r x.c).length = 0 by omega]
      simp
theorem aftL_len (l : List Et) (r c : Int) (m : Nat) : (aftL l r c m).length ≤ l.length := by
  unfold aftL
  rw [List.length_map, List.length_take]
  have := List.length_filter_le (fun x : Et => lessV r c x.r x.c) l
  omega
theorem row_ver2 (l : List Ver) (r c : Int) : l.map Ver.enc ++ [.agg [.int .i64 r, .int .i64 c]] = (l ++ [(⟨r, c⟩ : Ver)]).map Ver.enc := by rw [List.map_append]; rfl
theorem g_Less (x y r c : Int) : X22c.f 25 [.agg [.int .i64 x, .int .i64 y], .agg [.int .i64 r, .int .i64 c]] = some (.bool (lessV x y r c)) := by
  have := X22c_ref12_Less ((x, y), (r, c)) trivial
  have e : ltV ⟨x, y⟩ ⟨r, c⟩ = lessV x y r c := by
    unfold ltV lessV
    by_cases h : x = r <;> simp [h]
  simp only [e] at this
  exact this
theorem ok_ref22_After : codeOK Try.prog X22k Try.f13.ntmps (Try.f13.body.getD .skip) = true := by kernel_rfl
theorem c_ref22_After (l : List Et) (r c most : Int) (hl : l.length ≤ 1000000) : CallA Try.prog 13 [.slc (l.map Et.enc), .agg [.int .i64 r, .int .i64 c], .int .i64 most] (· = .slc ((aftL l r c most.toNat).map Ver.enc)) := by
  refine callA_of_body X22k_ok mixed Try.func13 rfl (Nat.le_of_ble_eq_true rfl) ok_ref22_After ?_
  unfold Try.f13
  obtain ⟨m, hm⟩ : ∃ m, most.toNat = m := ⟨_, rfl⟩
  have hlm : ∀ k : Nat, (k : Int) < most ↔ k < m := fun k => by omega
  rw [hm]
  clear hm
  simp -implicitDefEqProofs (disch := (first | omega | decide)) only [go_sem, ↓reduceIte, seval, List.length_map]
  refine wpA_loop_nil 7 2 rfl ?_
  refine wpA_loop [0, 2, 4] (ι := {i : Nat // i ≤ l.length}) (fun i => [(8, .int .i64 i.1), (7, .row 1 0 2 (aftL (l.take i.1) r c m).length false)]) (fun i => [(1, .row 2 ((aftL (l.take i.1) r c m).map Ver.enc))]) (fun i => l.length - i.1) ⟨0, by omega⟩ (Nat.zero_le _) ?_ ?_
  · simp -implicitDefEqProofs (disch := (first | omega | decide)) only [go_sem, ↓reduceIte, seval]
    first | done | (simp [aftL]; done)
  · rintro ⟨i, hi⟩
    simp only
    have hol : (aftL (l.take i) r c m).length ≤ 1000000 := by
      have := aftL_len (l.take i) r c m
      rw [List.length_take] at this; omega
    have tk : List.take (aftL (l.take i) r c m).length ((aftL (l.take i) r c m).map Ver.enc) = (aftL (l.take i) r c m).map Ver.enc := take_ver
    by_cases hlt : i < l.length
    · have hlt' : (i : Int) < (l.length : Int) := by omega
      have p1 : (0 : Int) ≤ (i : Int) := by omega
      have t1 : ((i : Nat) : Int).toNat = i := Int.toNat_natCast _
      have w1 : IntKind.i64.wrap ((i : Int) + 1) = (i : Int) + 1 := by rw [wrap_i64]; omega
      have e1 := et_get hlt
      have hsn := aftL_snoc r c m hlt
      have g1 := g_Less r c l[i].r l[i].c
      generalize l[i] = x at *
      generalize aftL (l.take i) r c m = O at *
      cases hk : lessV r c x.r x.c with
      | false =>
        rw [hk] at g1
        rw [if_neg (by rw [hk]; simp)] at hsn
        simp -implicitDefEqProofs (disch := (first | omega | decide)) only [go_sem, ↓reduceIte, seval, hlt', p1, t1, w1, e1, g1, List.length_map]
        exact ⟨⟨i + 1, hlt⟩, ⟨⟨by simp, by rw [hsn]⟩, by rw [hsn]⟩, by show l.length - (i + 1) < l.length - i; omega⟩
      | true =>
        rw [hk] at g1
        by_cases hO : O.length < m
        · have q1 := (hlm _).2 hO
          rw [if_pos ⟨hk, hO⟩] at hsn
          simp -implicitDefEqProofs (disch := (first | omega | decide)) only [go_sem, ↓reduceIte, seval, hlt', p1, t1, w1, e1, g1, q1, tk, List.length_map]
          exact ⟨⟨Nat.le_refl _, by omega⟩, ⟨i + 1, hlt⟩, ⟨⟨by simp, by rw [hsn]; simp⟩, by rw [hsn]; exact row_ver2 O _ _⟩, by show l.length - (i + 1) < l.length - i; omega⟩
        · have q1 : ¬ ((O.length : Nat) : Int) < most := fun h => hO ((hlm _).1 h)
          rw [if_neg (fun h => hO h.2)] at hsn
          simp -implicitDefEqProofs (disch := (first | omega | decide)) only [go_sem, ↓reduceIte, seval, hlt', p1, t1, w1, e1, g1, q1, List.length_map]
          exact ⟨⟨i + 1, hlt⟩, ⟨⟨by simp, by rw [hsn]⟩, by rw [hsn]⟩, by show l.length - (i + 1) < l.length - i; omega⟩
    · have hlt' : ¬ (i : Int) < (l.length : Int) := by omega
      have e0 : l.take i = l := List.take_of_length_le (by omega)
      rw [e0] at *
      simp -implicitDefEqProofs (disch := (first | omega | decide)) only [go_sem, ↓reduceIte, seval, hlt', tk, List.length_map, Nat.le_refl]
theorem unkL_snoc (s : List Known) {l : List Et} {i : Nat} (h : i < l.length) : unkL (l.take (i + 1)) s = unkL (l.take i) s ++ (if (!hasK s l[i].r l[i].c) = true then [⟨l[i].r, l[i].c⟩] else []) := by
  have e := filter_snoc2 (f := fun x : Et => !hasK s x.r x.c) h
  unfold unkL
  rw [e, List.map_append]
  congr 1
  cases hf : hasK s l[i].r l[i].c <;> rfl
theorem unkL_len (l : List Et) (s : List Known) : (unkL l s).length ≤ l.length := by
  unfold unkL
  rw [List.length_map]; exact List.length_filter_le _ _
theorem ok_ref22_Unknown : codeOK Try.prog X22k Try.f11.ntmps (Try.f11.body.getD .skip) = true := by kernel_rfl
theorem c_ref22_Unknown (l : List Et) (s : List Known) (hl : l.length ≤ 1000000) (hs : smallK s) : CallA Try.prog 11 [.slc (l.map Et.enc), .slc (s.map Known.enc)] (· = .slc ((unkL l s).map Ver.enc)) := by
  refine callA_of_body X22k_ok mixed Try.func11 rfl (Nat.le_of_ble_eq_true rfl) ok_ref22_Unknown ?_
  unfold Try.f11
  simp -implicitDefEqProofs (disch := (first | omega | decide)) only [go_sem, ↓reduceIte, seval, List.length_map]
  refine wpA_loop_nil 5 2 rfl ?_
  refine wpA_loop [0, 1] (ι := {i : Nat // i ≤ l.length}) (fun i => [(6, .int .i64 i.1), (5, .row 0 0 2 (unkL (l.take i.1) s).length false)]) (fun i => [(0, .row 2 ((unkL (l.take i.1) s).map Ver.enc))]) (fun i => l.length - i.1) ⟨0, by omega⟩ (Nat.zero_le _) ?_ ?_
  · simp -implicitDefEqProofs (disch := (first | omega | decide)) only [go_sem, ↓reduceIte, seval]
    first | done | (simp [unkL]; done)
  · rintro ⟨i, hi⟩
    simp only
    have hol : (unkL (l.take i) s).length ≤ 1000000 := by
      have := unkL_len (l.take i) s
      rw [List.length_take] at this; omega
    have tk : List.take (unkL (l.take i) s).length ((unkL (l.take i) s).map Ver.enc) = (unkL (l.take i) s).map Ver.enc := take_ver
    by_cases hlt : i < l.length
    · have hlt' : (i : Int) < (l.length : Int) := by omega
      have p1 : (0 : Int) ≤ (i : Int) := by omega
      have t1 : ((i : Nat) : Int).toNat = i := Int.toNat_natCast _
      have w1 : IntKind.i64.wrap ((i : Int) + 1) = (i : Int) + 1 := by rw [wrap_i64]; omega
      have e1 := et_get hlt
      have hsn := unkL_snoc s hlt
      have g1 : K14h.f 24 [.slc (s.map Known.enc), .agg [.int .i64 l[i].r, .int .i64 l[i].c]] = some (.bool (hasK s l[i].r l[i].c)) := K14h_ref14_Has (s, l[i].r, l[i].c) hs
      generalize l[i] = x at *
      generalize unkL (l.take i) s = O at *
      cases hk : hasK s x.r x.c with
      | true =>
        rw [hk] at g1
        rw [hk] at hsn
        simp only [Bool.not_true, Bool.false_eq_true, if_false, List.append_nil] at hsn
        simp -implicitDefEqProofs (disch := (first | omega | decide)) only [go_sem, ↓reduceIte, seval, hlt', p1, t1, w1, e1, g1, List.length_map]
        exact ⟨⟨i + 1, hlt⟩, ⟨⟨by simp, by rw [hsn]⟩, by rw [hsn]⟩, by show l.length - (i + 1) < l.length - i; omega⟩
      | false =>
        rw [hk] at g1
        rw [hk] at hsn
        simp only [Bool.not_false, if_true] at hsn
        simp -implicitDefEqProofs (disch := (first | omega | decide)) only [go_sem, ↓reduceIte, seval, hlt', p1, t1, w1, e1, g1, tk, List.length_map]
        exact ⟨⟨Nat.le_refl _, by omega⟩, ⟨i + 1, hlt⟩, ⟨⟨by simp, by rw [hsn]; simp⟩, by rw [hsn]; exact row_ver2 O _ _⟩, by show l.length - (i + 1) < l.length - i; omega⟩
    · have hlt' : ¬ (i : Int) < (l.length : Int) := by omega
      have e0 : l.take i = l := List.take_of_length_le (by omega)
      rw [e0] at *
      simp -implicitDefEqProofs (disch := (first | omega | decide)) only [go_sem, ↓reduceIte, seval, hlt', tk, List.length_map, Nat.le_refl]
theorem ver_get22 {l : List Ver} {k : Nat} (h : k < l.length) : (l.map Ver.enc)[k]? = some (.agg [.int .i64 l[k].r, .int .i64 l[k].c]) := by
  rw [List.getElem?_map, List.getElem?_eq_getElem h]; rfl
theorem ok_ref22_Same : codeOK Try.prog X22k Try.f9.ntmps (Try.f9.body.getD .skip) = true := by kernel_rfl
theorem c_ref22_Same (l : List Ver) (hl : l.length ≤ 1000000) : CallA Try.prog 9 [.slc (l.map Ver.enc), .slc (l.map Ver.enc)] (· = .bool true) := by
  refine callA_of_body X22k_ok mixed Try.func9 rfl (Nat.le_of_ble_eq_true rfl) ok_ref22_Same ?_
  unfold Try.f9
  simp -implicitDefEqProofs (disch := (first | omega | decide)) only [go_sem, ↓reduceIte, seval, List.length_map]
  refine wpA_loop [0, 1] (ι := {i : Nat // i ≤ l.length}) (fun i => [(5, .int .i64 i.1)]) (fun _ => []) (fun i => l.length - i.1) ⟨0, by omega⟩ (Nat.zero_le _) ?_ ?_
  · simp -implicitDefEqProofs (disch := (first | omega | decide)) only [go_sem, ↓reduceIte, seval]
    try rfl
  · rintro ⟨i, hi⟩
    simp only
    by_cases hlt : i < l.length
    · have hlt' : (i : Int) < (l.length : Int) := by omega
      have p1 : (0 : Int) ≤ (i : Int) := by omega
      have t1 : ((i : Nat) : Int).toNat = i := Int.toNat_natCast _
      have w1 : IntKind.i64.wrap ((i : Int) + 1) = (i : Int) + 1 := by rw [wrap_i64]; omega
      have e1 := ver_get22 hlt
      generalize l[i] = x at *
      simp -implicitDefEqProofs (disch := (first | omega | decide)) only [go_sem, ↓reduceIte, seval, hlt', p1, t1, w1, e1, List.length_map]
      exact ⟨⟨i + 1, hlt⟩, by simp, by show l.length - (i + 1) < l.length - i; omega⟩
    · have hlt' : ¬ (i : Int) < (l.length : Int) := by omega
      simp -implicitDefEqProofs (disch := (first | omega | decide)) only [go_sem, ↓reduceIte, seval, hlt', List.length_map]
structure Do where
  d : Bool
  r : Int
  c : Int
  k : List UInt8
def Do.enc (x : Do) : A := .agg [.bool x.d, .int .i64 x.r, .int .i64 x.c, .str x.k]
theorem do_get {l : List Do} {k : Nat} (h : k < l.length) : (l.map Do.enc)[k]? = some (.agg [.bool l[k].d, .int .i64 l[k].r, .int .i64 l[k].c, .str l[k].k]) := by
  rw [List.getElem?_map, List.getElem?_eq_getElem h]; rfl
theorem Do.enc_inj (x y : Do) (h : x.enc = y.enc) : x = y := by
  obtain ⟨a, b, c, d⟩ := x; obtain ⟨a', b', c', d'⟩ := y
  simpa [Do.enc] using h
@[simp] theorem map_do_inj {l m : List Do} : (l.map Do.enc = m.map Do.enc) = (l = m) := map_inj Do.enc_inj
def longD (l : List Do) : Bool := decide (60 < l.length) || l.any fun x => decide (60 < x.k.length)
theorem ok_law22_long : codeOK Try.prog X22k Try.f6.ntmps (Try.f6.body.getD .skip) = true := by kernel_rfl
theorem c_law22_long (l : List Do) (hl : l.length ≤ 9223372036854775807) : CallA Try.prog 6 [.slc (l.map Do.enc)] (· = .bool (longD l)) := by
  refine callA_of_body X22k_ok mixed Try.func6 rfl (Nat.le_of_ble_eq_true rfl) ok_law22_long ?_
  unfold Try.f6
  by_cases h0 : 60 < l.length
  · have h0' : (60 : Int) < (l.length : Int) := by omega
    have e : longD l = true := by simp [longD, h0]
    rw [e]
    simp -implicitDefEqProofs (disch := (first | omega | decide)) only [go_sem, ↓reduceIte, seval, h0', List.length_map]
  · have h0' : ¬ (60 : Int) < (l.length : Int) := by omega
    have e : longD l = l.any fun x => decide (60 < x.k.length) := by simp [longD, h0]
    rw [e]
    simp -implicitDefEqProofs (disch := (first | omega | decide)) only [go_sem, ↓reduceIte, seval, h0', List.length_map]
    refine wpA_loop [8, 9] (ι := {i : Nat // i ≤ l.length ∧ ∀ j, j < i → ∀ h : j < l.length, ¬ 60 < l[j].k.length}) (fun i => [(10, .int .i64 i.1)]) (fun _ => []) (fun i => l.length - i.1) ⟨0, by omega, fun j hj => absurd hj (by omega)⟩ (Nat.zero_le _) ?_ ?_
    · simp -implicitDefEqProofs (disch := (first | omega | decide)) only [go_sem, ↓reduceIte, seval]
      try rfl
    · rintro ⟨i, hi, hd⟩
      simp only
      by_cases hlt : i < l.length
      · have hlt' : (i : Int) < (l.length : Int) := by omega
        have p1 : (0 : Int) ≤ (i : Int) := by omega
        have t1 : ((i : Nat) : Int).toNat = i := Int.toNat_natCast _
        have w1 : IntKind.i64.wrap ((i : Int) + 1) = (i : Int) + 1 := by rw [wrap_i64]; omega
        have e1 := do_get hlt
        by_cases hk : 60 < l[i].k.length
        · have hk' : (60 : Int) < (l[i].k.length : Int) := by omega
          have e2 : (l.any fun x => decide (60 < x.k.length)) = true := List.any_eq_true.2 ⟨l[i], List.getElem_mem hlt, by simpa using hk⟩
          rw [e2]
          generalize l[i] = x at *
          simp -implicitDefEqProofs (disch := (first | omega | decide)) only [go_sem, ↓reduceIte, seval, hlt', p1, t1, w1, e1, hk', List.length_map]
        · have hk' : ¬ (60 : Int) < (l[i].k.length : Int) := by omega
          have hd2 : ∀ j, j < i + 1 → ∀ h : j < l.length, ¬ 60 < l[j].k.length := fun j hj h => by
            by_cases e : j = i
            · subst e; exact hk
            · exact hd j (by omega) h
          generalize l[i] = x at *
          simp -implicitDefEqProofs (disch := (first | omega | decide)) only [go_sem, ↓reduceIte, seval, hlt', p1, t1, w1, e1, hk', List.length_map]
          exact ⟨⟨i + 1, hlt, hd2⟩, by simp, by show l.length - (i + 1) < l.length - i; omega⟩
      · have hlt' : ¬ (i : Int) < (l.length : Int) := by omega
        have e2 : (l.any fun x => decide (60 < x.k.length)) = false := by
          rw [List.any_eq_false]
          intro x hx
          obtain ⟨j, hj, rfl⟩ := List.getElem_of_mem hx
          simpa using hd j (by omega) hj
        rw [e2]
        simp -implicitDefEqProofs (disch := (first | omega | decide)) only [go_sem, ↓reduceIte, seval, hlt', List.length_map]
end Go.Proofs.Yteconeampdidaaa
namespace Go.Abs
theorem callH_boxnilR {P : Program} {f : FuncId} {xs : List A} {H R : List Obj} {cs : List A} {r : A} {S : List Nat} (i k : Nat) (hR : ∀ o ∈ R, ∃ k es, o = Obj.row k es) (hi : cs[i]? = some .nils) (h : CallH P f xs H r (.box cs :: R) S) :
    CallH P f xs H r (.box (setNth cs i (.row (R.length + 1) 0 k 0 false)) :: (R ++ [.row k []])) S := by
  intro N φ w vs hN hrel hfree hrep
  refine Calls.mono (h N φ w vs hN hrel hfree hrep) ?_
  rintro e w' ⟨v, φ', rfl, hv, hrel', ht, hl⟩
  have e1 : φ'.length = R.length + 1 := hrel'.len
  have hget : ∀ m : Nat, (φ' ++ [Own.nil])[m]? = if m = R.length + 1 then some .nil else φ'[m]? := fun m => by
    rw [List.getElem?_append]
    split
    · rw [if_neg (by omega)]
    · split
      · rename_i h1 h2; subst h2; simp [e1]
      · rename_i h1 h2
        rw [List.getElem?_eq_none (by simp; omega), List.getElem?_eq_none (by omega)]
  have hat : ∀ m b k : Nat, (φ' ++ [Own.nil])[m]? = some (Own.loc b k) → φ'[m]? = some (.loc b k) := fun m b k hm => by
    rw [hget] at hm
    split at hm
    · simp at hm
    · exact hm
  have hold : ∀ (m : Nat) (p : Own), φ'[m]? = some p → (φ' ++ [Own.nil])[m]? = some p := fun m p hp => by
    have := (List.getElem?_eq_some_iff.1 hp).1
    rw [hget, if_neg (by omega)]; exact hp
  have hext : Ext (fun _ => True) (envOf N φ' w') (envOf N (φ' ++ [.nil]) w') := {
    size := Nat.le_refl _
    blk := fun b _ hn => ⟨by
      rintro (h0 | ⟨m, k', hm⟩)
      · exact hn (.inl h0)
      · exact hn (.inr ⟨m, k', hat m b k' hm⟩), rfl⟩
    refs := fun n o _ hn _ => hold n o hn
    own := fun n b k' c e fr _ _ hc => ⟨c, fr, hc, rfl⟩ }
  refine ⟨v, φ' ++ [.nil], rfl, Rep.mono hext _ _ hv fun _ _ => trivial, ?_, ?_, by simp at hl ⊢; omega⟩
  · exact {
      len := by simp [e1]
      objs := fun n o p ho hp => by
        rw [nthO_eq] at ho
        cases n with
        | zero =>
          simp only [List.getElem?_cons_zero, Option.some.injEq] at ho
          subst ho
          rw [hget, if_neg (by omega)] at hp
          have hob := hrel'.objs 0 (.box cs) p rfl hp
          cases p with
          | nil => simp [ObjRel] at hob
          | free => simp [ObjRel] at hob
          | loc b k' =>
            simp only [ObjRel] at hob ⊢
            refine ⟨hob.1, RepM_iff.2 fun j y hy => ?_⟩
            rw [setNth_eq, List.getElem?_set] at hy
            split at hy
            · rename_i e
              subst e
              split at hy
              · simp at hy
                subst hy
                obtain ⟨u, hu, h1', hr⟩ := RepM_iff.1 hob.2 i _ hi
                refine ⟨u, hu, h1', ?_⟩
                simp only [Rep] at hr
                subst hr
                simp only [Rep]
                exact .inl ⟨.nil, by show (φ' ++ [Own.nil])[R.length + 1]? = _; rw [hget, if_pos rfl], by simp, trivial, fun _ => trivial, none, rfl⟩
              · simp at hy
            · obtain ⟨u, hu, h1', hr⟩ := RepM_iff.1 hob.2 j y hy
              exact ⟨u, hu, h1', Rep.mono hext _ _ hr fun _ _ => trivial⟩
        | succ n =>
          rw [List.getElem?_cons_succ, List.getElem?_append] at ho
          split at ho
          · rename_i hn
            rw [hget, if_neg (by omega)] at hp
            obtain ⟨k0, es, rfl⟩ := hR o (List.mem_of_getElem? ho)
            exact ObjRel.mono hext (hrel'.objs (n + 1) _ p (by rw [nthO_eq]; exact ho) hp) (fun b k _ c e fr hc => hc) (fun cs hcs => by cases hcs)
          · rename_i hn
            have hn2 : n - R.length = 0 := by
              have := (List.getElem?_eq_some_iff.1 ho).1
              simp at this; omega
            rw [hn2] at ho
            simp only [List.getElem?_cons_zero, Option.some.injEq] at ho
            subst ho
            rw [hget, if_pos (by omega)] at hp
            obtain rfl := Option.some.inj hp
            simp [ObjRel]
      own := fun n b k' hn => hrel'.own n b k' (hat n b k' hn)
      inj := fun n m b k' k'' hn hm => hrel'.inj n m b k' k'' (hat n b k' hn) (hat m b k'' hm) }
  · exact {
      os := ht.os
      tape := ht.tape
      output := ht.output
      drawn := ht.drawn
      size := ht.size
      block := ht.block
      shape := ht.shape
      own := fun n b k' hn => ht.own n b k' (hat n b k' hn)
      stay := fun n p hS hp => hold n p (ht.stay n p hS hp) }
end Go.Abs
namespace Go.Proofs.Yteconeampdidaaa
open Go.Abs
set_option linter.unusedSimpArgs false
set_option linter.unusedVariables false
set_option maxRecDepth 20000
set_option maxHeartbeats 16000000
def ixO (E : Nat → List En) (m : Int) : List Go.Abs.Obj := [.box [.row 1 0 2 (E 0).length false, .row 2 0 2 (E 1).length false, .row 3 0 2 (E 2).length false, .row 4 0 2 (E 3).length false, .row 5 0 2 (E 4).length false, .row 6 0 2 (E 5).length false, .row 7 0 2 (E 6).length false, .row 8 0 2 (E 7).length false, .row 9 0 2 (E 8).length false, .row 10 0 2 (E 9).length false, .row 11 0 2 (E 10).length false, .row 12 0 2 (E 11).length false, .row 13 0 2 (E 12).length false, .row 14 0 2 (E 13).length false, .row 15 0 2 (E 14).length false, .row 16 0 2 (E 15).length false, .int .i64 m], .row 2 ((E 0).map En.enc), .row 2 ((E 1).map En.enc), .row 2 ((E 2).map En.enc), .row 2 ((E 3).map En.enc), .row 2 ((E 4).map En.enc), .row 2 ((E 5).map En.enc), .row 2 ((E 6).map En.enc), .row 2 ((E 7).map En.enc), .row 2 ((E 8).map En.enc), .row 2 ((E 9).map En.enc), .row 2 ((E 10).map En.enc), .row 2 ((E 11).map En.enc), .row 2 ((E 12).map En.enc), .row 2 ((E 13).map En.enc), .row 2 ((E 14).map En.enc), .row 2 ((E 15).map En.enc)]
noncomputable def XI0 : Tab := X22g.addH 30 (entryH (fun v : List En × En × Nat => [.row 0 0 2 v.1.length false, .int .i64 (v.2.2 : Int), .clip [v.2.1.enc]]) (fun v => [.row 2 (v.1.map En.enc)]) (fun v => v.2.2 ≤ v.1.length ∧ v.1.length ≤ 1000000) (fun v => (.row 0 0 2 (v.1.length + 1) false, [.row 2 ((insE v.1 v.2.2 v.2.1).map En.enc)], [0])))
theorem XI0_ok : TabOK Try.prog XI0 := X22g_ok.addH (callable_of Try.func30 (by kernel_rfl) (by kernel_rfl)) (entryH_ok fun v h => c_Insert v.1 v.2.1 v.2.2 h.1 h.2)
def delI (l : List En) (i : Nat) : List En := l.take i ++ l.drop (i + 1)
noncomputable def XI1 : Tab := XI0.addH 31 (entryH (fun v : List En × Nat => [.row 0 0 2 v.1.length false, .int .i64 (v.2 : Int), .int .i64 ((v.2 : Int) + 1)]) (fun v => [.row 2 (v.1.map En.enc)]) (fun v => v.2 < v.1.length ∧ v.1.length ≤ 1000000) (fun v => (.row 0 0 2 (v.1.length - 1) false, [.row 2 ((delI v.1 v.2).map En.enc)], [0])))
theorem XI1_ok : TabOK Try.prog XI1 := XI0_ok.addH (callable_of Try.func31 (by kernel_rfl) (by kernel_rfl)) (entryH_ok fun v h => by
  obtain ⟨m, hm⟩ : ∃ m, v.1.length = m + 1 := ⟨v.1.length - 1, by omega⟩
  have := c_Delete v.1 m v.2 hm (by omega) (by omega)
  rw [show v.1.length - 1 = m by omega]
  exact this)
def ordsP : List (List Nat) := [[4,5,6,7,8,9,10,0,1,2,3,12,11,13,14,15], [4,5,6,7,8,9,10,0,1,2,3,12,13,11,14,15], [4,5,6,7,8,9,10,0,1,2,3,11,12,13,14,15], [4,5,6,7,8,9,10,0,1,2,12,11,3,13,14,15], [4,5,6,7,8,9,10,0,1,2,12,13,11,3,14,15], [4,5,6,7,8,9,10,0,1,2,11,3,12,13,14,15], [4,5,6,7,8,9,10,0,1,12,11,2,3,13,14,15], [4,5,6,7,8,9,10,0,1,12,13,11,2,3,14,15], [4,5,6,7,8,9,10,0,1,11,2,3,12,13,14,15], [4,5,6,7,8,9,10,0,12,11,1,2,3,13,14,15], [4,5,6,7,8,9,10,0,12,13,11,1,2,3,14,15], [4,5,6,7,8,9,10,0,11,1,2,3,12,13,14,15], [4,5,6,7,8,9,10,1,2,3,11,0,12,13,14,15], [4,5,6,7,8,9,10,1,2,11,0,3,12,13,14,15], [4,5,6,7,8,9,10,1,11,0,2,3,12,13,14,15], [4,5,6,7,8,9,10,11,0,1,2,3,12,13,14,15]]
def ordsD : List (List Nat) := [[4,5,6,7,8,9,10,11,12,13,14,0,1,2,3,16,15,17,18,19], [4,5,6,7,8,9,10,11,12,13,14,0,1,2,3,16,17,15,18,19], [4,5,6,7,8,9,10,11,12,13,14,0,1,2,3,15,16,17,18,19], [4,5,6,7,8,9,10,11,12,13,14,0,1,2,16,15,3,17,18,19], [4,5,6,7,8,9,10,11,12,13,14,0,1,2,16,17,15,3,18,19], [4,5,6,7,8,9,10,11,12,13,14,0,1,2,15,3,16,17,18,19], [4,5,6,7,8,9,10,11,12,13,14,0,1,16,15,2,3,17,18,19], [4,5,6,7,8,9,10,11,12,13,14,0,1,16,17,15,2,3,18,19], [4,5,6,7,8,9,10,11,12,13,14,0,1,15,2,3,16,17,18,19], [4,5,6,7,8,9,10,11,12,13,14,0,16,15,1,2,3,17,18,19], [4,5,6,7,8,9,10,11,12,13,14,0,16,17,15,1,2,3,18,19], [4,5,6,7,8,9,10,11,12,13,14,0,15,1,2,3,16,17,18,19], [4,5,6,7,8,9,10,11,12,13,14,1,2,3,15,0,16,17,18,19], [4,5,6,7,8,9,10,11,12,13,14,1,2,15,0,3,16,17,18,19], [4,5,6,7,8,9,10,11,12,13,14,1,15,0,2,3,16,17,18,19], [4,5,6,7,8,9,10,11,12,13,14,15,0,1,2,3,16,17,18,19]]
noncomputable def XP : Tab := { XI1 with eff := fun f => f == 30 || f == 31, fix := fun n => n == 0, nf := 17, ords := fun n => if n = 8 then ordsP else [] }
theorem XP_ok : TabOK Try.prog XP := ⟨XI1_ok.f, XI1_ok.hp⟩
@[go_sem] theorem XP_f : XP.f = X22g.f := rfl
@[go_sem] theorem XP_eff {g : FuncId} : XP.eff g = (g == 30 || g == 31) := rfl
@[go_sem] theorem XP_frz {g : FuncId} : XP.frz g = false := rfl
@[go_sem] theorem XP_fix {n : Nat} : XP.fix n = (n == 0) := rfl
@[go_sem] theorem XP_ords8 : XP.ords 8 = [[4,5,6,7,8,9,10,0,1,2,3,12,11,13,14,15], [4,5,6,7,8,9,10,0,1,2,3,12,13,11,14,15], [4,5,6,7,8,9,10,0,1,2,3,11,12,13,14,15], [4,5,6,7,8,9,10,0,1,2,12,11,3,13,14,15], [4,5,6,7,8,9,10,0,1,2,12,13,11,3,14,15], [4,5,6,7,8,9,10,0,1,2,11,3,12,13,14,15], [4,5,6,7,8,9,10,0,1,12,11,2,3,13,14,15], [4,5,6,7,8,9,10,0,1,12,13,11,2,3,14,15], [4,5,6,7,8,9,10,0,1,11,2,3,12,13,14,15], [4,5,6,7,8,9,10,0,12,11,1,2,3,13,14,15], [4,5,6,7,8,9,10,0,12,13,11,1,2,3,14,15], [4,5,6,7,8,9,10,0,11,1,2,3,12,13,14,15], [4,5,6,7,8,9,10,1,2,3,11,0,12,13,14,15], [4,5,6,7,8,9,10,1,2,11,0,3,12,13,14,15], [4,5,6,7,8,9,10,1,11,0,2,3,12,13,14,15], [4,5,6,7,8,9,10,11,0,1,2,3,12,13,14,15]] := rfl
@[go_sem] theorem XP_ords {n : Nat} (h : n ≠ 8) : XP.ords n = [] := if_neg h
noncomputable def XD : Tab := { XI1 with eff := fun f => f == 30 || f == 31, fix := fun n => n == 0, nf := 17, ords := fun n => if n = 4 then ordsD else [] }
theorem XD_ok : TabOK Try.prog XD := ⟨XI1_ok.f, XI1_ok.hp⟩
@[go_sem] theorem XD_f : XD.f = X22g.f := rfl
@[go_sem] theorem XD_eff {g : FuncId} : XD.eff g = (g == 30 || g == 31) := rfl
@[go_sem] theorem XD_frz {g : FuncId} : XD.frz g = false := rfl
@[go_sem] theorem XD_fix {n : Nat} : XD.fix n = (n == 0) := rfl
@[go_sem] theorem XD_ords4 : XD.ords 4 = [[4,5,6,7,8,9,10,11,12,13,14,0,1,2,3,16,15,17,18,19], [4,5,6,7,8,9,10,11,12,13,14,0,1,2,3,16,17,15,18,19], [4,5,6,7,8,9,10,11,12,13,14,0,1,2,3,15,16,17,18,19], [4,5,6,7,8,9,10,11,12,13,14,0,1,2,16,15,3,17,18,19], [4,5,6,7,8,9,10,11,12,13,14,0,1,2,16,17,15,3,18,19], [4,5,6,7,8,9,10,11,12,13,14,0,1,2,15,3,16,17,18,19], [4,5,6,7,8,9,10,11,12,13,14,0,1,16,15,2,3,17,18,19], [4,5,6,7,8,9,10,11,12,13,14,0,1,16,17,15,2,3,18,19], [4,5,6,7,8,9,10,11,12,13,14,0,1,15,2,3,16,17,18,19], [4,5,6,7,8,9,10,11,12,13,14,0,16,15,1,2,3,17,18,19], [4,5,6,7,8,9,10,11,12,13,14,0,16,17,15,1,2,3,18,19], [4,5,6,7,8,9,10,11,12,13,14,0,15,1,2,3,16,17,18,19], [4,5,6,7,8,9,10,11,12,13,14,1,2,3,15,0,16,17,18,19], [4,5,6,7,8,9,10,11,12,13,14,1,2,15,0,3,16,17,18,19], [4,5,6,7,8,9,10,11,12,13,14,1,15,0,2,3,16,17,18,19], [4,5,6,7,8,9,10,11,12,13,14,15,0,1,2,3,16,17,18,19]] := rfl
@[go_sem] theorem XD_ords {n : Nat} (h : n ≠ 4) : XD.ords n = [] := if_neg h
theorem xp_insert {l : List En} {c : Int} {k : List UInt8} {i : Nat} (h : i ≤ l.length ∧ l.length ≤ 1000000) : XP.hp 30 [.row 0 0 2 l.length false, .int .i64 (i : Int), .clip [.agg [.int .i64 c, .str k]]] [.row 2 (l.map En.enc)] = some (.row 0 0 2 (l.length + 1) false, [.row 2 ((insE l i ⟨c, k⟩).map En.enc)], [0]) := by
  have h1 : XI1.hp 30 [.row 0 0 2 l.length false, .int .i64 (i : Int), .clip [.agg [.int .i64 c, .str k]]] [.row 2 (l.map En.enc)] = XI0.hp 30 [.row 0 0 2 l.length false, .int .i64 (i : Int), .clip [.agg [.int .i64 c, .str k]]] [.row 2 (l.map En.enc)] := Tab.addH_ne (by decide)
  have h2 : XI0.hp 30 [.row 0 0 2 l.length false, .int .i64 (i : Int), .clip [.agg [.int .i64 c, .str k]]] [.row 2 (l.map En.enc)] = _ := Tab.addH_eq
  have h3 : XP.hp 30 [.row 0 0 2 l.length false, .int .i64 (i : Int), .clip [.agg [.int .i64 c, .str k]]] [.row 2 (l.map En.enc)] = _ := h1.trans h2
  exact h3.trans (entryH_eq (enc := fun v : List En × En × Nat => [.row 0 0 2 v.1.length false, .int .i64 (v.2.2 : Int), .clip [v.2.1.enc]]) (obs := fun v => [.row 2 (v.1.map En.enc)]) (fun a b e e' => by
    obtain ⟨a1, ⟨a2, a3⟩, a4⟩ := a
    obtain ⟨b1, ⟨b2, b3⟩, b4⟩ := b
    simp [En.enc] at e e'
    obtain ⟨rfl⟩ := e'
    obtain ⟨_, e4, rfl, rfl⟩ := e
    rw [show a4 = b4 by omega]) (l, ⟨c, k⟩, i) h)
theorem ixC_16 (E : Nat → List En) (m : Int) : ixC E m = [.slc ((E 0).map En.enc), .slc ((E 1).map En.enc), .slc ((E 2).map En.enc), .slc ((E 3).map En.enc), .slc ((E 4).map En.enc), .slc ((E 5).map En.enc), .slc ((E 6).map En.enc), .slc ((E 7).map En.enc), .slc ((E 8).map En.enc), .slc ((E 9).map En.enc), .slc ((E 10).map En.enc), .slc ((E 11).map En.enc), .slc ((E 12).map En.enc), .slc ((E 13).map En.enc), .slc ((E 14).map En.enc), .slc ((E 15).map En.enc), .int .i64 m] := rfl
theorem xd_delete {l : List En} {i : Nat} (h : i < l.length ∧ l.length ≤ 1000000) : XD.hp 31 [.row 0 0 2 l.length false, .int .i64 (i : Int), .int .i64 ((i : Int) + 1)] [.row 2 (l.map En.enc)] = some (.row 0 0 2 (l.length - 1) false, [.row 2 ((delI l i).map En.enc)], [0]) := by
  have h2 : XI1.hp 31 [.row 0 0 2 l.length false, .int .i64 (i : Int), .int .i64 ((i : Int) + 1)] [.row 2 (l.map En.enc)] = _ := Tab.addH_eq
  have h3 : XD.hp 31 [.row 0 0 2 l.length false, .int .i64 (i : Int), .int .i64 ((i : Int) + 1)] [.row 2 (l.map En.enc)] = _ := h2
  exact h3.trans (entryH_eq (enc := fun v : List En × Nat => [.row 0 0 2 v.1.length false, .int .i64 (v.2 : Int), .int .i64 ((v.2 : Int) + 1)]) (obs := fun v => [.row 2 (v.1.map En.enc)]) (fun a b e e' => by
    obtain ⟨a1, a2⟩ := a
    obtain ⟨b1, b2⟩ := b
    simp at e e'
    obtain ⟨rfl⟩ := e'
    obtain ⟨e4, _⟩ := e
    rw [show a2 = b2 by omega]) (l, i) h)
theorem ok_Put : codeOK Try.prog XP Try.f17.ntmps (Try.f17.body.getD .skip) = true := by kernel_rfl
theorem ok_Drop : codeOK Try.prog XD Try.f18.ntmps (Try.f18.body.getD .skip) = true := by kernel_rfl
set_option maxHeartbeats 64000000
theorem h_Put_new1 (E : Nat → List En) (m c : Int) (k : List UInt8) (hr : RowsR E) (hl : ∀ i, (E i).length ≤ 1000) (hm : 0 ≤ m ∧ m ≤ 16000) (hc : 1 ≤ c ∧ c ≤ 1099511627776) (hk : 1 ≤ k.length ∧ k.length ≤ 16) (hh : hasE (E 0) c = false) :
    CallH Try.prog 17 [.ref 0 0, .agg [.int .i64 1, .int .i64 c], .str k] (ixO E m) (.bool true) (ixO (upd E 0 (insE (E 0) (posE (E 0) c) ⟨c, k⟩)) (m + 1)) [1, 2, 3, 4, 5, 6, 7, 8, 9, 10, 11, 12, 13, 14, 15, 16] := by
  refine callH_of_body XP_ok mixed Try.func17 rfl (Nat.le_of_ble_eq_true rfl) (fun n h h' => by have h : n < 17 := h; simp at h'; have e : n = 0 := (by omega); subst e; rfl) (by show 17 ≤ 17; simp) (by show 17 ≤ 17; simp) ok_Put ?_
  unfold Try.f17
  have g1 : K14b.f 27 [.agg [.int .i64 1, .int .i64 c]] = some (.bool true) := by
    have := K14b_version_Right (1, c) trivial
    have e : rightV ⟨1, c⟩ = true := by simp [rightV]; omega
    simp only at this
    rw [e] at this; exact this
  have g2 : X22a.f 28 [.str k] = some (.bool true) := by
    have := X22a_key_Right k (by omega)
    rw [decide_eq_true hk] at this; exact this
  have hp := pos_le (E 0) c
  have g3 := x22_find (l := E 0) (n := c) ⟨hr 0, by have := hl 0; omega, by omega⟩
  rw [hh] at g3
  have g4 := xp_insert (l := E 0) (c := c) (k := k) (i := posE (E 0) c) ⟨hp, by have := hl 0; omega⟩
  have tl : ((E 0).map En.enc).take (E 0).length = (E 0).map En.enc := List.take_of_length_le (by simp)
  generalize hP : posE (E 0) c = P at *
  have hil : (insE (E 0) P ⟨c, k⟩).length = (E 0).length + 1 := by unfold insE; rw [List.length_append, List.length_cons, List.length_take, List.length_drop]; omega
  have eu : ∀ j, j ≠ 0 → upd E 0 (insE (E 0) P ⟨c, k⟩) j = E j := fun j hj => if_neg hj
  have e0 : upd E 0 (insE (E 0) P ⟨c, k⟩) 0 = insE (E 0) P ⟨c, k⟩ := if_pos rfl
  unfold ixO
  simp only [e0, eu 1 (by decide), eu 2 (by decide), eu 3 (by decide), eu 4 (by decide), eu 5 (by decide), eu 6 (by decide), eu 7 (by decide), eu 8 (by decide), eu 9 (by decide), eu 10 (by decide), eu 11 (by decide), eu 12 (by decide), eu 13 (by decide), eu 14 (by decide), eu 15 (by decide)]
  rw [hil]
  generalize insE (E 0) P ⟨c, k⟩ = L' at *
  simp -implicitDefEqProofs (maxSteps := 6000000) (disch := (first | omega | decide)) only [go_sem, ↓reduceIte, seval, g1, g2, g3, g4, tl, wrap_i64, List.length_map]
  exact Nat.le_refl _
theorem h_Put_new2 (E : Nat → List En) (m c : Int) (k : List UInt8) (hr : RowsR E) (hl : ∀ i, (E i).length ≤ 1000) (hm : 0 ≤ m ∧ m ≤ 16000) (hc : 1 ≤ c ∧ c ≤ 1099511627776) (hk : 1 ≤ k.length ∧ k.length ≤ 16) (hh : hasE (E 1) c = false) :
    CallH Try.prog 17 [.ref 0 0, .agg [.int .i64 2, .int .i64 c], .str k] (ixO E m) (.bool true) (ixO (upd E 1 (insE (E 1) (posE (E 1) c) ⟨c, k⟩)) (m + 1)) [1, 2, 3, 4, 5, 6, 7, 8, 9, 10, 11, 12, 13, 14, 15, 16] := by
  refine callH_of_body XP_ok mixed Try.func17 rfl (Nat.le_of_ble_eq_true rfl) (fun n h h' => by have h : n < 17 := h; simp at h'; have e : n = 0 := (by omega); subst e; rfl) (by show 17 ≤ 17; simp) (by show 17 ≤ 17; simp) ok_Put ?_
  unfold Try.f17
  have g1 : K14b.f 27 [.agg [.int .i64 2, .int .i64 c]] = some (.bool true) := by
    have := K14b_version_Right (2, c) trivial
    have e : rightV ⟨2, c⟩ = true := by simp [rightV]; omega
    simp only at this
    rw [e] at this; exact this
  have g2 : X22a.f 28 [.str k] = some (.bool true) := by
    have := X22a_key_Right k (by omega)
    rw [decide_eq_true hk] at this; exact this
  have hp := pos_le (E 1) c
  have g3 := x22_find (l := E 1) (n := c) ⟨hr 1, by have := hl 1; omega, by omega⟩
  rw [hh] at g3
  have g4 := xp_insert (l := E 1) (c := c) (k := k) (i := posE (E 1) c) ⟨hp, by have := hl 1; omega⟩
  have tl : ((E 1).map En.enc).take (E 1).length = (E 1).map En.enc := List.take_of_length_le (by simp)
  generalize hP : posE (E 1) c = P at *
  have hil : (insE (E 1) P ⟨c, k⟩).length = (E 1).length + 1 := by unfold insE; rw [List.length_append, List.length_cons, List.length_take, List.length_drop]; omega
  have eu : ∀ j, j ≠ 1 → upd E 1 (insE (E 1) P ⟨c, k⟩) j = E j := fun j hj => if_neg hj
  have e0 : upd E 1 (insE (E 1) P ⟨c, k⟩) 1 = insE (E 1) P ⟨c, k⟩ := if_pos rfl
  unfold ixO
  simp only [e0, eu 0 (by decide), eu 2 (by decide), eu 3 (by decide), eu 4 (by decide), eu 5 (by decide), eu 6 (by decide), eu 7 (by decide), eu 8 (by decide), eu 9 (by decide), eu 10 (by decide), eu 11 (by decide), eu 12 (by decide), eu 13 (by decide), eu 14 (by decide), eu 15 (by decide)]
  rw [hil]
  generalize insE (E 1) P ⟨c, k⟩ = L' at *
  simp -implicitDefEqProofs (maxSteps := 6000000) (disch := (first | omega | decide)) only [go_sem, ↓reduceIte, seval, g1, g2, g3, g4, tl, wrap_i64, List.length_map]
  exact Nat.le_refl _
theorem h_Put_new3 (E : Nat → List En) (m c : Int) (k : List UInt8) (hr : RowsR E) (hl : ∀ i, (E i).length ≤ 1000) (hm : 0 ≤ m ∧ m ≤ 16000) (hc : 1 ≤ c ∧ c ≤ 1099511627776) (hk : 1 ≤ k.length ∧ k.length ≤ 16) (hh : hasE (E 2) c = false) :
    CallH Try.prog 17 [.ref 0 0, .agg [.int .i64 3, .int .i64 c], .str k] (ixO E m) (.bool true) (ixO (upd E 2 (insE (E 2) (posE (E 2) c) ⟨c, k⟩)) (m + 1)) [1, 2, 3, 4, 5, 6, 7, 8, 9, 10, 11, 12, 13, 14, 15, 16] := by
  refine callH_of_body XP_ok mixed Try.func17 rfl (Nat.le_of_ble_eq_true rfl) (fun n h h' => by have h : n < 17 := h; simp at h'; have e : n = 0 := (by omega); subst e; rfl) (by show 17 ≤ 17; simp) (by show 17 ≤ 17; simp) ok_Put ?_
  unfold Try.f17
  have g1 : K14b.f 27 [.agg [.int .i64 3, .int .i64 c]] = some (.bool true) := by
    have := K14b_version_Right (3, c) trivial
    have e : rightV ⟨3, c⟩ = true := by simp [rightV]; omega
    simp only at this
    rw [e] at this; exact this
  have g2 : X22a.f 28 [.str k] = some (.bool true) := by
    have := X22a_key_Right k (by omega)
    rw [decide_eq_true hk] at this; exact this
  have hp := pos_le (E 2) c
  have g3 := x22_find (l := E 2) (n := c) ⟨hr 2, by have := hl 2; omega, by omega⟩
  rw [hh] at g3
  have g4 := xp_insert (l := E 2) (c := c) (k := k) (i := posE (E 2) c) ⟨hp, by have := hl 2; omega⟩
  have tl : ((E 2).map En.enc).take (E 2).length = (E 2).map En.enc := List.take_of_length_le (by simp)
  generalize hP : posE (E 2) c = P at *
  have hil : (insE (E 2) P ⟨c, k⟩).length = (E 2).length + 1 := by unfold insE; rw [List.length_append, List.length_cons, List.length_take, List.length_drop]; omega
  have eu : ∀ j, j ≠ 2 → upd E 2 (insE (E 2) P ⟨c, k⟩) j = E j := fun j hj => if_neg hj
  have e0 : upd E 2 (insE (E 2) P ⟨c, k⟩) 2 = insE (E 2) P ⟨c, k⟩ := if_pos rfl
  unfold ixO
  simp only [e0, eu 0 (by decide), eu 1 (by decide), eu 3 (by decide), eu 4 (by decide), eu 5 (by decide), eu 6 (by decide), eu 7 (by decide), eu 8 (by decide), eu 9 (by decide), eu 10 (by decide), eu 11 (by decide), eu 12 (by decide), eu 13 (by decide), eu 14 (by decide), eu 15 (by decide)]
  rw [hil]
  generalize insE (E 2) P ⟨c, k⟩ = L' at *
  simp -implicitDefEqProofs (maxSteps := 6000000) (disch := (first | omega | decide)) only [go_sem, ↓reduceIte, seval, g1, g2, g3, g4, tl, wrap_i64, List.length_map]
  exact Nat.le_refl _
theorem h_Put_new4 (E : Nat → List En) (m c : Int) (k : List UInt8) (hr : RowsR E) (hl : ∀ i, (E i).length ≤ 1000) (hm : 0 ≤ m ∧ m ≤ 16000) (hc : 1 ≤ c ∧ c ≤ 1099511627776) (hk : 1 ≤ k.length ∧ k.length ≤ 16) (hh : hasE (E 3) c = false) :
    CallH Try.prog 17 [.ref 0 0, .agg [.int .i64 4, .int .i64 c], .str k] (ixO E m) (.bool true) (ixO (upd E 3 (insE (E 3) (posE (E 3) c) ⟨c, k⟩)) (m + 1)) [1, 2, 3, 4, 5, 6, 7, 8, 9, 10, 11, 12, 13, 14, 15, 16] := by
  refine callH_of_body XP_ok mixed Try.func17 rfl (Nat.le_of_ble_eq_true rfl) (fun n h h' => by have h : n < 17 := h; simp at h'; have e : n = 0 := (by omega); subst e; rfl) (by show 17 ≤ 17; simp) (by show 17 ≤ 17; simp) ok_Put ?_
  unfold Try.f17
  have g1 : K14b.f 27 [.agg [.int .i64 4, .int .i64 c]] = some (.bool true) := by
    have := K14b_version_Right (4, c) trivial
    have e : rightV ⟨4, c⟩ = true := by simp [rightV]; omega
    simp only at this
    rw [e] at this; exact this
  have g2 : X22a.f 28 [.str k] = some (.bool true) := by
    have := X22a_key_Right k (by omega)
    rw [decide_eq_true hk] at this; exact this
  have hp := pos_le (E 3) c
  have g3 := x22_find (l := E 3) (n := c) ⟨hr 3, by have := hl 3; omega, by omega⟩
  rw [hh] at g3
  have g4 := xp_insert (l := E 3) (c := c) (k := k) (i := posE (E 3) c) ⟨hp, by have := hl 3; omega⟩
  have tl : ((E 3).map En.enc).take (E 3).length = (E 3).map En.enc := List.take_of_length_le (by simp)
  generalize hP : posE (E 3) c = P at *
  have hil : (insE (E 3) P ⟨c, k⟩).length = (E 3).length + 1 := by unfold insE; rw [List.length_append, List.length_cons, List.length_take, List.length_drop]; omega
  have eu : ∀ j, j ≠ 3 → upd E 3 (insE (E 3) P ⟨c, k⟩) j = E j := fun j hj => if_neg hj
  have e0 : upd E 3 (insE (E 3) P ⟨c, k⟩) 3 = insE (E 3) P ⟨c, k⟩ := if_pos rfl
  unfold ixO
  simp only [e0, eu 0 (by decide), eu 1 (by decide), eu 2 (by decide), eu 4 (by decide), eu 5 (by decide), eu 6 (by decide), eu 7 (by decide), eu 8 (by decide), eu 9 (by decide), eu 10 (by decide), eu 11 (by decide), eu 12 (by decide), eu 13 (by decide), eu 14 (by decide), eu 15 (by decide)]
  rw [hil]
  generalize insE (E 3) P ⟨c, k⟩ = L' at *
  simp -implicitDefEqProofs (maxSteps := 6000000) (disch := (first | omega | decide)) only [go_sem, ↓reduceIte, seval, g1, g2, g3, g4, tl, wrap_i64, List.length_map]
  exact Nat.le_refl _
theorem h_Put_new5 (E : Nat → List En) (m c : Int) (k : List UInt8) (hr : RowsR E) (hl : ∀ i, (E i).length ≤ 1000) (hm : 0 ≤ m ∧ m ≤ 16000) (hc : 1 ≤ c ∧ c ≤ 1099511627776) (hk : 1 ≤ k.length ∧ k.length ≤ 16) (hh : hasE (E 4) c = false) :
    CallH Try.prog 17 [.ref 0 0, .agg [.int .i64 5, .int .i64 c], .str k] (ixO E m) (.bool true) (ixO (upd E 4 (insE (E 4) (posE (E 4) c) ⟨c, k⟩)) (m + 1)) [1, 2, 3, 4, 5, 6, 7, 8, 9, 10, 11, 12, 13, 14, 15, 16] := by
  refine callH_of_body XP_ok mixed Try.func17 rfl (Nat.le_of_ble_eq_true rfl) (fun n h h' => by have h : n < 17 := h; simp at h'; have e : n = 0 := (by omega); subst e; rfl) (by show 17 ≤ 17; simp) (by show 17 ≤ 17; simp) ok_Put ?_
  unfold Try.f17
  have g1 : K14b.f 27 [.agg [.int .i64 5, .int .i64 c]] = some (.bool true) := by
    have := K14b_version_Right (5, c) trivial
    have e : rightV ⟨5, c⟩ = true := by simp [rightV]; omega
    simp only at this
    rw [e] at this; exact this
  have g2 : X22a.f 28 [.str k] = some (.bool true) := by
    have := X22a_key_Right k (by omega)
    rw [decide_eq_true hk] at this; exact this
  have hp := pos_le (E 4) c
  have g3 := x22_find (l := E 4) (n := c) ⟨hr 4, by have := hl 4; omega, by omega⟩
  rw [hh] at g3
  have g4 := xp_insert (l := E 4) (c := c) (k := k) (i := posE (E 4) c) ⟨hp, by have := hl 4; omega⟩
  have tl : ((E 4).map En.enc).take (E 4).length = (E 4).map En.enc := List.take_of_length_le (by simp)
  generalize hP : posE (E 4) c = P at *
  have hil : (insE (E 4) P ⟨c, k⟩).length = (E 4).length + 1 := by unfold insE; rw [List.length_append, List.length_cons, List.length_take, List.length_drop]; omega
  have eu : ∀ j, j ≠ 4 → upd E 4 (insE (E 4) P ⟨c, k⟩) j = E j := fun j hj => if_neg hj
  have e0 : upd E 4 (insE (E 4) P ⟨c, k⟩) 4 = insE (E 4) P ⟨c, k⟩ := if_pos rfl
  unfold ixO
  simp only [e0, eu 0 (by decide), eu 1 (by decide), eu 2 (by decide), eu 3 (by decide), eu 5 (by decide), eu 6 (by decide), eu 7 (by decide), eu 8 (by decide), eu 9 (by decide), eu 10 (by decide), eu 11 (by decide), eu 12 (by decide), eu 13 (by decide), eu 14 (by decide), eu 15 (by decide)]
  rw [hil]
  generalize insE (E 4) P ⟨c, k⟩ = L' at *
  simp -implicitDefEqProofs (maxSteps := 6000000) (disch := (first | omega | decide)) only [go_sem, ↓reduceIte, seval, g1, g2, g3, g4, tl, wrap_i64, List.length_map]
  exact Nat.le_refl _
theorem h_Put_new6 (E : Nat → List En) (m c : Int) (k : List UInt8) (hr : RowsR E) (hl : ∀ i, (E i).length ≤ 1000) (hm : 0 ≤ m ∧ m ≤ 16000) (hc : 1 ≤ c ∧ c ≤ 1099511627776) (hk : 1 ≤ k.length ∧ k.length ≤ 16) (hh : hasE (E 5) c = false) :
    CallH Try.prog 17 [.ref 0 0, .agg [.int .i64 6, .int .i64 c], .str k] (ixO E m) (.bool true) (ixO (upd E 5 (insE (E 5) (posE (E 5) c) ⟨c, k⟩)) (m + 1)) [1, 2, 3, 4, 5, 6, 7, 8, 9, 10, 11, 12, 13, 14, 15, 16] := by
  refine callH_of_body XP_ok mixed Try.func17 rfl (Nat.le_of_ble_eq_true rfl) (fun n h h' => by have h : n < 17 := h; simp at h'; have e : n = 0 := (by omega); subst e; rfl) (by show 17 ≤ 17; simp) (by show 17 ≤ 17; simp) ok_Put ?_
  unfold Try.f17
  have g1 : K14b.f 27 [.agg [.int .i64 6, .int .i64 c]] = some (.bool true) := by
    have := K14b_version_Right (6, c) trivial
    have e : rightV ⟨6, c⟩ = true := by simp [rightV]; omega
    simp only at this
    rw [e] at this; exact this
  have g2 : X22a.f 28 [.str k] = some (.bool true) := by
    have := X22a_key_Right k (by omega)
    rw [decide_eq_true hk] at this; exact this
  have hp := pos_le (E 5) c
  have g3 := x22_find (l := E 5) (n := c) ⟨hr 5, by have := hl 5; omega, by omega⟩
  rw [hh] at g3
  have g4 := xp_insert (l := E 5) (c := c) (k := k) (i := posE (E 5) c) ⟨hp, by have := hl 5; omega⟩
  have tl : ((E 5).map En.enc).take (E 5).length = (E 5).map En.enc := List.take_of_length_le (by simp)
  generalize hP : posE (E 5) c = P at *
  have hil : (insE (E 5) P ⟨c, k⟩).length = (E 5).length + 1 := by unfold insE; rw [List.length_append, List.length_cons, List.length_take, List.length_drop]; omega
  have eu : ∀ j, j ≠ 5 → upd E 5 (insE (E 5) P ⟨c, k⟩) j = E j := fun j hj => if_neg hj
  have e0 : upd E 5 (insE (E 5) P ⟨c, k⟩) 5 = insE (E 5) P ⟨c, k⟩ := if_pos rfl
  unfold ixO
  simp only [e0, eu 0 (by decide), eu 1 (by decide), eu 2 (by decide), eu 3 (by decide), eu 4 (by decide), eu 6 (by decide), eu 7 (by decide), eu 8 (by decide), eu 9 (by decide), eu 10 (by decide), eu 11 (by decide), eu 12 (by decide), eu 13 (by decide), eu 14 (by decide), eu 15 (by decide)]
  rw [hil]
  generalize insE (E 5) P ⟨c, k⟩ = L' at *
  simp -implicitDefEqProofs (maxSteps := 6000000) (disch := (first | omega | decide)) only [go_sem, ↓reduceIte, seval, g1, g2, g3, g4, tl, wrap_i64, List.length_map]
  exact Nat.le_refl _
theorem h_Put_new7 (E : Nat → List En) (m c : Int) (k : List UInt8) (hr : RowsR E) (hl : ∀ i, (E i).length ≤ 1000) (hm : 0 ≤ m ∧ m ≤ 16000) (hc : 1 ≤ c ∧ c ≤ 1099511627776) (hk : 1 ≤ k.length ∧ k.length ≤ 16) (hh : hasE (E 6) c = false) :
    CallH Try.prog 17 [.ref 0 0, .agg [.int .i64 7, .int .i64 c], .str k] (ixO E m) (.bool true) (ixO (upd E 6 (insE (E 6) (posE (E 6) c) ⟨c, k⟩)) (m + 1)) [1, 2, 3, 4, 5, 6, 7, 8, 9, 10, 11, 12, 13, 14, 15, 16] := by
  refine callH_of_body XP_ok mixed Try.func17 rfl (Nat.le_of_ble_eq_true rfl) (fun n h h' => by have h : n < 17 := h; simp at h'; have e : n = 0 := (by omega); subst e; rfl) (by show 17 ≤ 17; simp) (by show 17 ≤ 17; simp) ok_Put ?_
  unfold Try.f17
  have g1 : K14b.f 27 [.agg [.int .i64 7, .int .i64 c]] = some (.bool true) := by
    have := K14b_version_Right (7, c) trivial
    have e : rightV ⟨7, c⟩ = true := by simp [rightV]; omega
    simp only at this
    rw [e] at this; exact this
  have g2 : X22a.f 28 [.str k] = some (.bool true) := by
    have := X22a_key_Right k (by omega)
    rw [decide_eq_true hk] at this; exact this
  have hp := pos_le (E 6) c
  have g3 := x22_find (l := E 6) (n := c) ⟨hr 6, by have := hl 6; omega, by omega⟩
  rw [hh] at g3
  have g4 := xp_insert (l := E 6) (c := c) (k := k) (i := posE (E 6) c) ⟨hp, by have := hl 6; omega⟩
  have tl : ((E 6).map En.enc).take (E 6).length = (E 6).map En.enc := List.take_of_length_le (by simp)
  generalize hP : posE (E 6) c = P at *
  have hil : (insE (E 6) P ⟨c, k⟩).length = (E 6).length + 1 := by unfold insE; rw [List.length_append, List.length_cons, List.length_take, List.length_drop]; omega
  have eu : ∀ j, j ≠ 6 → upd E 6 (insE (E 6) P ⟨c, k⟩) j = E j := fun j hj => if_neg hj
  have e0 : upd E 6 (insE (E 6) P ⟨c, k⟩) 6 = insE (E 6) P ⟨c, k⟩ := if_pos rfl
  unfold ixO
  simp only [e0, eu 0 (by decide), eu 1 (by decide), eu 2 (by decide), eu 3 (by decide), eu 4 (by decide), eu 5 (by decide), eu 7 (by decide), eu 8 (by decide), eu 9 (by decide), eu 10 (by decide), eu 11 (by decide), eu 12 (by decide), eu 13 (by decide), eu 14 (by decide), eu 15 (by decide)]
  rw [hil]
  generalize insE (E 6) P ⟨c, k⟩ = L' at *
  simp -implicitDefEqProofs (maxSteps := 6000000) (disch := (first | omega | decide)) only [go_sem, ↓reduceIte, seval, g1, g2, g3, g4, tl, wrap_i64, List.length_map]
  exact Nat.le_refl _
theorem h_Put_new8 (E : Nat → List En) (m c : Int) (k : List UInt8) (hr : RowsR E) (hl : ∀ i, (E i).length ≤ 1000) (hm : 0 ≤ m ∧ m ≤ 16000) (hc : 1 ≤ c ∧ c ≤ 1099511627776) (hk : 1 ≤ k.length ∧ k.length ≤ 16) (hh : hasE (E 7) c = false) :
    CallH Try.prog 17 [.ref 0 0, .agg [.int .i64 8, .int .i64 c], .str k] (ixO E m) (.bool true) (ixO (upd E 7 (insE (E 7) (posE (E 7) c) ⟨c, k⟩)) (m + 1)) [1, 2, 3, 4, 5, 6, 7, 8, 9, 10, 11, 12, 13, 14, 15, 16] := by
  refine callH_of_body XP_ok mixed Try.func17 rfl (Nat.le_of_ble_eq_true rfl) (fun n h h' => by have h : n < 17 := h; simp at h'; have e : n = 0 := (by omega); subst e; rfl) (by show 17 ≤ 17; simp) (by show 17 ≤ 17; simp) ok_Put ?_
  unfold Try.f17
  have g1 : K14b.f 27 [.agg [.int .i64 8, .int .i64 c]] = some (.bool true) := by
    have := K14b_version_Right (8, c) trivial
    have e : rightV ⟨8, c⟩ = true := by simp [rightV]; omega
    simp only at this
    rw [e] at this; exact this
  have g2 : X22a.f 28 [.str k] = some (.bool true) := by
    have := X22a_key_Right k (by omega)
    rw [decide_eq_true hk] at this; exact this
  have hp := pos_le (E 7) c
  have g3 := x22_find (l := E 7) (n := c) ⟨hr 7, by have := hl 7; omega, by omega⟩
  rw [hh] at g3
  have g4 := xp_insert (l := E 7) (c := c) (k := k) (i := posE (E 7) c) ⟨hp, by have := hl 7; omega⟩
  have tl : ((E 7).map En.enc).take (E 7).length = (E 7).map En.enc := List.take_of_length_le (by simp)
  generalize hP : posE (E 7) c = P at *
  have hil : (insE (E 7) P ⟨c, k⟩).length = (E 7).length + 1 := by unfold insE; rw [List.length_append, List.length_cons, List.length_take, List.length_drop]; omega
  have eu : ∀ j, j ≠ 7 → upd E 7 (insE (E 7) P ⟨c, k⟩) j = E j := fun j hj => if_neg hj
  have e0 : upd E 7 (insE (E 7) P ⟨c, k⟩) 7 = insE (E 7) P ⟨c, k⟩ := if_pos rfl
  unfold ixO
  simp only [e0, eu 0 (by decide), eu 1 (by decide), eu 2 (by decide), eu 3 (by decide), eu 4 (by decide), eu 5 (by decide), eu 6 (by decide), eu 8 (by decide), eu 9 (by decide), eu 10 (by decide), eu 11 (by decide), eu 12 (by decide), eu 13 (by decide), eu 14 (by decide), eu 15 (by decide)]
  rw [hil]
  generalize insE (E 7) P ⟨c, k⟩ = L' at *
  simp -implicitDefEqProofs (maxSteps := 6000000) (disch := (first | omega | decide)) only [go_sem, ↓reduceIte, seval, g1, g2, g3, g4, tl, wrap_i64, List.length_map]
  exact Nat.le_refl _
theorem h_Put_new9 (E : Nat → List En) (m c : Int) (k : List UInt8) (hr : RowsR E) (hl : ∀ i, (E i).length ≤ 1000) (hm : 0 ≤ m ∧ m ≤ 16000) (hc : 1 ≤ c ∧ c ≤ 1099511627776) (hk : 1 ≤ k.length ∧ k.length ≤ 16) (hh : hasE (E 8) c = false) :
    CallH Try.prog 17 [.ref 0 0, .agg [.int .i64 9, .int .i64 c], .str k] (ixO E m) (.bool true) (ixO (upd E 8 (insE (E 8) (posE (E 8) c) ⟨c, k⟩)) (m + 1)) [1, 2, 3, 4, 5, 6, 7, 8, 9, 10, 11, 12, 13, 14, 15, 16] := by
  refine callH_of_body XP_ok mixed Try.func17 rfl (Nat.le_of_ble_eq_true rfl) (fun n h h' => by have h : n < 17 := h; simp at h'; have e : n = 0 := (by omega); subst e; rfl) (by show 17 ≤ 17; simp) (by show 17 ≤ 17; simp) ok_Put ?_
  unfold Try.f17
  have g1 : K14b.f 27 [.agg [.int .i64 9, .int .i64 c]] = some (.bool true) := by
    have := K14b_version_Right (9, c) trivial
    have e : rightV ⟨9, c⟩ = true := by simp [rightV]; omega
    simp only at this
    rw [e] at this; exact this
  have g2 : X22a.f 28 [.str k] = some (.bool true) := by
    have := X22a_key_Right k (by omega)
    rw [decide_eq_true hk] at this; exact this
  have hp := pos_le (E 8) c
  have g3 := x22_find (l := E 8) (n := c) ⟨hr 8, by have := hl 8; omega, by omega⟩
  rw [hh] at g3
  have g4 := xp_insert (l := E 8) (c := c) (k := k) (i := posE (E 8) c) ⟨hp, by have := hl 8; omega⟩
  have tl : ((E 8).map En.enc).take (E 8).length = (E 8).map En.enc := List.take_of_length_le (by simp)
  generalize hP : posE (E 8) c = P at *
  have hil : (insE (E 8) P ⟨c, k⟩).length = (E 8).length + 1 := by unfold insE; rw [List.length_append, List.length_cons, List.length_take, List.length_drop]; omega
  have eu : ∀ j, j ≠ 8 → upd E 8 (insE (E 8) P ⟨c, k⟩) j = E j := fun j hj => if_neg hj
  have e0 : upd E 8 (insE (E 8) P ⟨c, k⟩) 8 = insE (E 8) P ⟨c, k⟩ := if_pos rfl
  unfold ixO
  simp only [e0, eu 0 (by decide), eu 1 (by decide), eu 2 (by decide), eu 3 (by decide), eu 4 (by decide), eu 5 (by decide), eu 6 (by decide), eu 7 (by decide), eu 9 (by decide), eu 10 (by decide), eu 11 (by decide), eu 12 (by decide), eu 13 (by decide), eu 14 (by decide), eu 15 (by decide)]
  rw [hil]
  generalize insE (E 8) P ⟨c, k⟩ = L' at *
  simp -implicitDefEqProofs (maxSteps := 6000000) (disch := (first | omega | decide)) only [go_sem, ↓reduceIte, seval, g1, g2, g3, g4, tl, wrap_i64, List.length_map]
  exact Nat.le_refl _
theorem h_Put_new10 (E : Nat → List En) (m c : Int) (k : List UInt8) (hr : RowsR E) (hl : ∀ i, (E i).length ≤ 1000) (hm : 0 ≤ m ∧ m ≤ 16000) (hc : 1 ≤ c ∧ c ≤ 1099511627776) (hk : 1 ≤ k.length ∧ k.length ≤ 16) (hh : hasE (E 9) c = false) :
    CallH Try.prog 17 [.ref 0 0, .agg [.int .i64 10, .int .i64 c], .str k] (ixO E m) (.bool true) (ixO (upd E 9 (insE (E 9) (posE (E 9) c) ⟨c, k⟩)) (m + 1)) [1, 2, 3, 4, 5, 6, 7, 8, 9, 10, 11, 12, 13, 14, 15, 16] := by
  refine callH_of_body XP_ok mixed Try.func17 rfl (Nat.le_of_ble_eq_true rfl) (fun n h h' => by have h : n < 17 := h; simp at h'; have e : n = 0 := (by omega); subst e; rfl) (by show 17 ≤ 17; simp) (by show 17 ≤ 17; simp) ok_Put ?_
  unfold Try.f17
  have g1 : K14b.f 27 [.agg [.int .i64 10, .int .i64 c]] = some (.bool true) := by
    have := K14b_version_Right (10, c) trivial
    have e : rightV ⟨10, c⟩ = true := by simp [rightV]; omega
    simp only at this
    rw [e] at this; exact this
  have g2 : X22a.f 28 [.str k] = some (.bool true) := by
    have := X22a_key_Right k (by omega)
    rw [decide_eq_true hk] at this; exact this
  have hp := pos_le (E 9) c
  have g3 := x22_find (l := E 9) (n := c) ⟨hr 9, by have := hl 9; omega, by omega⟩
  rw [hh] at g3
  have g4 := xp_insert (l := E 9) (c := c) (k := k) (i := posE (E 9) c) ⟨hp, by have := hl 9; omega⟩
  have tl : ((E 9).map En.enc).take (E 9).length = (E 9).map En.enc := List.take_of_length_le (by simp)
  generalize hP : posE (E 9) c = P at *
  have hil : (insE (E 9) P ⟨c, k⟩).length = (E 9).length + 1 := by unfold insE; rw [List.length_append, List.length_cons, List.length_take, List.length_drop]; omega
  have eu : ∀ j, j ≠ 9 → upd E 9 (insE (E 9) P ⟨c, k⟩) j = E j := fun j hj => if_neg hj
  have e0 : upd E 9 (insE (E 9) P ⟨c, k⟩) 9 = insE (E 9) P ⟨c, k⟩ := if_pos rfl
  unfold ixO
  simp only [e0, eu 0 (by decide), eu 1 (by decide), eu 2 (by decide), eu 3 (by decide), eu 4 (by decide), eu 5 (by decide), eu 6 (by decide), eu 7 (by decide), eu 8 (by decide), eu 10 (by decide), eu 11 (by decide), eu 12 (by decide), eu 13 (by decide), eu 14 (by decide), eu 15 (by decide)]
  rw [hil]
  generalize insE (E 9) P ⟨c, k⟩ = L' at *
  simp -implicitDefEqProofs (maxSteps := 6000000) (disch := (first | omega | decide)) only [go_sem, ↓reduceIte, seval, g1, g2, g3, g4, tl, wrap_i64, List.length_map]
  exact Nat.le_refl _
theorem h_Put_new11 (E : Nat → List En) (m c : Int) (k : List UInt8) (hr : RowsR E) (hl : ∀ i, (E i).length ≤ 1000) (hm : 0 ≤ m ∧ m ≤ 16000) (hc : 1 ≤ c ∧ c ≤ 1099511627776) (hk : 1 ≤ k.length ∧ k.length ≤ 16) (hh : hasE (E 10) c = false) :
    CallH Try.prog 17 [.ref 0 0, .agg [.int .i64 11, .int .i64 c], .str k] (ixO E m) (.bool true) (ixO (upd E 10 (insE (E 10) (posE (E 10) c) ⟨c, k⟩)) (m + 1)) [1, 2, 3, 4, 5, 6, 7, 8, 9, 10, 11, 12, 13, 14, 15, 16] := by
  refine callH_of_body XP_ok mixed Try.func17 rfl (Nat.le_of_ble_eq_true rfl) (fun n h h' => by have h : n < 17 := h; simp at h'; have e : n = 0 := (by omega); subst e; rfl) (by show 17 ≤ 17; simp) (by show 17 ≤ 17; simp) ok_Put ?_
  unfold Try.f17
  have g1 : K14b.f 27 [.agg [.int .i64 11, .int .i64 c]] = some (.bool true) := by
    have := K14b_version_Right (11, c) trivial
    have e : rightV ⟨11, c⟩ = true := by simp [rightV]; omega
    simp only at this
    rw [e] at this; exact this
  have g2 : X22a.f 28 [.str k] = some (.bool true) := by
    have := X22a_key_Right k (by omega)
    rw [decide_eq_true hk] at this; exact this
  have hp := pos_le (E 10) c
  have g3 := x22_find (l := E 10) (n := c) ⟨hr 10, by have := hl 10; omega, by omega⟩
  rw [hh] at g3
  have g4 := xp_insert (l := E 10) (c := c) (k := k) (i := posE (E 10) c) ⟨hp, by have := hl 10; omega⟩
  have tl : ((E 10).map En.enc).take (E 10).length = (E 10).map En.enc := List.take_of_length_le (by simp)
  generalize hP : posE (E 10) c = P at *
  have hil : (insE (E 10) P ⟨c, k⟩).length = (E 10).length + 1 := by unfold insE; rw [List.length_append, List.length_cons, List.length_take, List.length_drop]; omega
  have eu : ∀ j, j ≠ 10 → upd E 10 (insE (E 10) P ⟨c, k⟩) j = E j := fun j hj => if_neg hj
  have e0 : upd E 10 (insE (E 10) P ⟨c, k⟩) 10 = insE (E 10) P ⟨c, k⟩ := if_pos rfl
  unfold ixO
  simp only [e0, eu 0 (by decide), eu 1 (by decide), eu 2 (by decide), eu 3 (by decide), eu 4 (by decide), eu 5 (by decide), eu 6 (by decide), eu 7 (by decide), eu 8 (by decide), eu 9 (by decide), eu 11 (by decide), eu 12 (by decide), eu 13 (by decide), eu 14 (by decide), eu 15 (by decide)]
  rw [hil]
  generalize insE (E 10) P ⟨c, k⟩ = L' at *
  simp -implicitDefEqProofs (maxSteps := 6000000) (disch := (first | omega | decide)) only [go_sem, ↓reduceIte, seval, g1, g2, g3, g4, tl, wrap_i64, List.length_map]
  exact Nat.le_refl _
theorem h_Put_new12 (E : Nat → List En) (m c : Int) (k : List UInt8) (hr : RowsR E) (hl : ∀ i, (E i).length ≤ 1000) (hm : 0 ≤ m ∧ m ≤ 16000) (hc : 1 ≤ c ∧ c ≤ 1099511627776) (hk : 1 ≤ k.length ∧ k.length ≤ 16) (hh : hasE (E 11) c = false) :
    CallH Try.prog 17 [.ref 0 0, .agg [.int .i64 12, .int .i64 c], .str k] (ixO E m) (.bool true) (ixO (upd E 11 (insE (E 11) (posE (E 11) c) ⟨c, k⟩)) (m + 1)) [1, 2, 3, 4, 5, 6, 7, 8, 9, 10, 11, 12, 13, 14, 15, 16] := by
  refine callH_of_body XP_ok mixed Try.func17 rfl (Nat.le_of_ble_eq_true rfl) (fun n h h' => by have h : n < 17 := h; simp at h'; have e : n = 0 := (by omega); subst e; rfl) (by show 17 ≤ 17; simp) (by show 17 ≤ 17; simp) ok_Put ?_
  unfold Try.f17
  have g1 : K14b.f 27 [.agg [.int .i64 12, .int .i64 c]] = some (.bool true) := by
    have := K14b_version_Right (12, c) trivial
    have e : rightV ⟨12, c⟩ = true := by simp [rightV]; omega
    simp only at this
    rw [e] at this; exact this
  have g2 : X22a.f 28 [.str k] = some (.bool true) := by
    have := X22a_key_Right k (by omega)
    rw [decide_eq_true hk] at this; exact this
  have hp := pos_le (E 11) c
  have g3 := x22_find (l := E 11) (n := c) ⟨hr 11, by have := hl 11; omega, by omega⟩
  rw [hh] at g3
  have g4 := xp_insert (l := E 11) (c := c) (k := k) (i := posE (E 11) c) ⟨hp, by have := hl 11; omega⟩
  have tl : ((E 11).map En.enc).take (E 11).length = (E 11).map En.enc := List.take_of_length_le (by simp)
  generalize hP : posE (E 11) c = P at *
  have hil : (insE (E 11) P ⟨c, k⟩).length = (E 11).length + 1 := by unfold insE; rw [List.length_append, List.length_cons, List.length_take, List.length_drop]; omega
  have eu : ∀ j, j ≠ 11 → upd E 11 (insE (E 11) P ⟨c, k⟩) j = E j := fun j hj => if_neg hj
  have e0 : upd E 11 (insE (E 11) P ⟨c, k⟩) 11 = insE (E 11) P ⟨c, k⟩ := if_pos rfl
  unfold ixO
  simp only [e0, eu 0 (by decide), eu 1 (by decide), eu 2 (by decide), eu 3 (by decide), eu 4 (by decide), eu 5 (by decide), eu 6 (by decide), eu 7 (by decide), eu 8 (by decide), eu 9 (by decide), eu 10 (by decide), eu 12 (by decide), eu 13 (by decide), eu 14 (by decide), eu 15 (by decide)]
  rw [hil]
  generalize insE (E 11) P ⟨c, k⟩ = L' at *
  simp -implicitDefEqProofs (maxSteps := 6000000) (disch := (first | omega | decide)) only [go_sem, ↓reduceIte, seval, g1, g2, g3, g4, tl, wrap_i64, List.length_map]
  exact Nat.le_refl _
theorem h_Put_new13 (E : Nat → List En) (m c : Int) (k : List UInt8) (hr : RowsR E) (hl : ∀ i, (E i).length ≤ 1000) (hm : 0 ≤ m ∧ m ≤ 16000) (hc : 1 ≤ c ∧ c ≤ 1099511627776) (hk : 1 ≤ k.length ∧ k.length ≤ 16) (hh : hasE (E 12) c = false) :
    CallH Try.prog 17 [.ref 0 0, .agg [.int .i64 13, .int .i64 c], .str k] (ixO E m) (.bool true) (ixO (upd E 12 (insE (E 12) (posE (E 12) c) ⟨c, k⟩)) (m + 1)) [1, 2, 3, 4, 5, 6, 7, 8, 9, 10, 11, 12, 13, 14, 15, 16] := by
  refine callH_of_body XP_ok mixed Try.func17 rfl (Nat.le_of_ble_eq_true rfl) (fun n h h' => by have h : n < 17 := h; simp at h'; have e : n = 0 := (by omega); subst e; rfl) (by show 17 ≤ 17; simp) (by show 17 ≤ 17; simp) ok_Put ?_
  unfold Try.f17
  have g1 : K14b.f 27 [.agg [.int .i64 13, .int .i64 c]] = some (.bool true) := by
    have := K14b_version_Right (13, c) trivial
    have e : rightV ⟨13, c⟩ = true := by simp [rightV]; omega
    simp only at this
    rw [e] at this; exact this
  have g2 : X22a.f 28 [.str k] = some (.bool true) := by
    have := X22a_key_Right k (by omega)
    rw [decide_eq_true hk] at this; exact this
  have hp := pos_le (E 12) c
  have g3 := x22_find (l := E 12) (n := c) ⟨hr 12, by have := hl 12; omega, by omega⟩
  rw [hh] at g3
  have g4 := xp_insert (l := E 12) (c := c) (k := k) (i := posE (E 12) c) ⟨hp, by have := hl 12; omega⟩
  have tl : ((E 12).map En.enc).take (E 12).length = (E 12).map En.enc := List.take_of_length_le (by simp)
  generalize hP : posE (E 12) c = P at *
  have hil : (insE (E 12) P ⟨c, k⟩).length = (E 12).length + 1 := by unfold insE; rw [List.length_append, List.length_cons, List.length_take, List.length_drop]; omega
  have eu : ∀ j, j ≠ 12 → upd E 12 (insE (E 12) P ⟨c, k⟩) j = E j := fun j hj => if_neg hj
  have e0 : upd E 12 (insE (E 12) P ⟨c, k⟩) 12 = insE (E 12) P ⟨c, k⟩ := if_pos rfl
  unfold ixO
  simp only [e0, eu 0 (by decide), eu 1 (by decide), eu 2 (by decide), eu 3 (by decide), eu 4 (by decide), eu 5 (by decide), eu 6 (by decide), eu 7 (by decide), eu 8 (by decide), eu 9 (by decide), eu 10 (by decide), eu 11 (by decide), eu 13 (by decide), eu 14 (by decide), eu 15 (by decide)]
  rw [hil]
  generalize insE (E 12) P ⟨c, k⟩ = L' at *
  simp -implicitDefEqProofs (maxSteps := 6000000) (disch := (first | omega | decide)) only [go_sem, ↓reduceIte, seval, g1, g2, g3, g4, tl, wrap_i64, List.length_map]
  exact Nat.le_refl _
theorem h_Put_new14 (E : Nat → List En) (m c : Int) (k : List UInt8) (hr : RowsR E) (hl : ∀ i, (E i).length ≤ 1000) (hm : 0 ≤ m ∧ m ≤ 16000) (hc : 1 ≤ c ∧ c ≤ 1099511627776) (hk : 1 ≤ k.length ∧ k.length ≤ 16) (hh : hasE (E 13) c = false) :
    CallH Try.prog 17 [.ref 0 0, .agg [.int .i64 14, .int .i64 c], .str k] (ixO E m) (.bool true) (ixO (upd E 13 (insE (E 13) (posE (E 13) c) ⟨c, k⟩)) (m + 1)) [1, 2, 3, 4, 5, 6, 7, 8, 9, 10, 11, 12, 13, 14, 15, 16] := by
  refine callH_of_body XP_ok mixed Try.func17 rfl (Nat.le_of_ble_eq_true rfl) (fun n h h' => by have h : n < 17 := h; simp at h'; have e : n = 0 := (by omega); subst e; rfl) (by show 17 ≤ 17; simp) (by show 17 ≤ 17; simp) ok_Put ?_
  unfold Try.f17
  have g1 : K14b.f 27 [.agg [.int .i64 14, .int .i64 c]] = some (.bool true) := by
    have := K14b_version_Right (14, c) trivial
    have e : rightV ⟨14, c⟩ = true := by simp [rightV]; omega
    simp only at this
    rw [e] at this; exact this
  have g2 : X22a.f 28 [.str k] = some (.bool true) := by
    have := X22a_key_Right k (by omega)
    rw [decide_eq_true hk] at this; exact this
  have hp := pos_le (E 13) c
  have g3 := x22_find (l := E 13) (n := c) ⟨hr 13, by have := hl 13; omega, by omega⟩
  rw [hh] at g3
  have g4 := xp_insert (l := E 13) (c := c) (k := k) (i := posE (E 13) c) ⟨hp, by have := hl 13; omega⟩
  have tl : ((E 13).map En.enc).take (E 13).length = (E 13).map En.enc := List.take_of_length_le (by simp)
  generalize hP : posE (E 13) c = P at *
  have hil : (insE (E 13) P ⟨c, k⟩).length = (E 13).length + 1 := by unfold insE; rw [List.length_append, List.length_cons, List.length_take, List.length_drop]; omega
  have eu : ∀ j, j ≠ 13 → upd E 13 (insE (E 13) P ⟨c, k⟩) j = E j := fun j hj => if_neg hj
  have e0 : upd E 13 (insE (E 13) P ⟨c, k⟩) 13 = insE (E 13) P ⟨c, k⟩ := if_pos rfl
  unfold ixO
  simp only [e0, eu 0 (by decide), eu 1 (by decide), eu 2 (by decide), eu 3 (by decide), eu 4 (by decide), eu 5 (by decide), eu 6 (by decide), eu 7 (by decide), eu 8 (by decide), eu 9 (by decide), eu 10 (by decide), eu 11 (by decide), eu 12 (by decide), eu 14 (by decide), eu 15 (by decide)]
  rw [hil]
  generalize insE (E 13) P ⟨c, k⟩ = L' at *
  simp -implicitDefEqProofs (maxSteps := 6000000) (disch := (first | omega | decide)) only [go_sem, ↓reduceIte, seval, g1, g2, g3, g4, tl, wrap_i64, List.length_map]
  exact Nat.le_refl _
theorem h_Put_new15 (E : Nat → List En) (m c : Int) (k : List UInt8) (hr : RowsR E) (hl : ∀ i, (E i).length ≤ 1000) (hm : 0 ≤ m ∧ m ≤ 16000) (hc : 1 ≤ c ∧ c ≤ 1099511627776) (hk : 1 ≤ k.length ∧ k.length ≤ 16) (hh : hasE (E 14) c = false) :
    CallH Try.prog 17 [.ref 0 0, .agg [.int .i64 15, .int .i64 c], .str k] (ixO E m) (.bool true) (ixO (upd E 14 (insE (E 14) (posE (E 14) c) ⟨c, k⟩)) (m + 1)) [1, 2, 3, 4, 5, 6, 7, 8, 9, 10, 11, 12, 13, 14, 15, 16] := by
  refine callH_of_body XP_ok mixed Try.func17 rfl (Nat.le_of_ble_eq_true rfl) (fun n h h' => by have h : n < 17 := h; simp at h'; have e : n = 0 := (by omega); subst e; rfl) (by show 17 ≤ 17; simp) (by show 17 ≤ 17; simp) ok_Put ?_
  unfold Try.f17
  have g1 : K14b.f 27 [.agg [.int .i64 15, .int .i64 c]] = some (.bool true) := by
    have := K14b_version_Right (15, c) trivial
    have e : rightV ⟨15, c⟩ = true := by simp [rightV]; omega
    simp only at this
    rw [e] at this; exact this
  have g2 : X22a.f 28 [.str k] = some (.bool true) := by
    have := X22a_key_Right k (by omega)
    rw [decide_eq_true hk] at this; exact this
  have hp := pos_le (E 14) c
  have g3 := x22_find (l := E 14) (n := c) ⟨hr 14, by have := hl 14; omega, by omega⟩
  rw [hh] at g3
  have g4 := xp_insert (l := E 14) (c := c) (k := k) (i := posE (E 14) c) ⟨hp, by have := hl 14; omega⟩
  have tl : ((E 14).map En.enc).take (E 14).length = (E 14).map En.enc := List.take_of_length_le (by simp)
  generalize hP : posE (E 14) c = P at *
  have hil : (insE (E 14) P ⟨c, k⟩).length = (E 14).length + 1 := by unfold insE; rw [List.length_append, List.length_cons, List.length_take, List.length_drop]; omega
  have eu : ∀ j, j ≠ 14 → upd E 14 (insE (E 14) P ⟨c, k⟩) j = E j := fun j hj => if_neg hj
  have e0 : upd E 14 (insE (E 14) P ⟨c, k⟩) 14 = insE (E 14) P ⟨c, k⟩ := if_pos rfl
  unfold ixO
  simp only [e0, eu 0 (by decide), eu 1 (by decide), eu 2 (by decide), eu 3 (by decide), eu 4 (by decide), eu 5 (by decide), eu 6 (by decide), eu 7 (by decide), eu 8 (by decide), eu 9 (by decide), eu 10 (by decide), eu 11 (by decide), eu 12 (by decide), eu 13 (by decide), eu 15 (by decide)]
  rw [hil]
  generalize insE (E 14) P ⟨c, k⟩ = L' at *
  simp -implicitDefEqProofs (maxSteps := 6000000) (disch := (first | omega | decide)) only [go_sem, ↓reduceIte, seval, g1, g2, g3, g4, tl, wrap_i64, List.length_map]
  exact Nat.le_refl _
theorem h_Put_new16 (E : Nat → List En) (m c : Int) (k : List UInt8) (hr : RowsR E) (hl : ∀ i, (E i).length ≤ 1000) (hm : 0 ≤ m ∧ m ≤ 16000) (hc : 1 ≤ c ∧ c ≤ 1099511627776) (hk : 1 ≤ k.length ∧ k.length ≤ 16) (hh : hasE (E 15) c = false) :
    CallH Try.prog 17 [.ref 0 0, .agg [.int .i64 16, .int .i64 c], .str k] (ixO E m) (.bool true) (ixO (upd E 15 (insE (E 15) (posE (E 15) c) ⟨c, k⟩)) (m + 1)) [1, 2, 3, 4, 5, 6, 7, 8, 9, 10, 11, 12, 13, 14, 15, 16] := by
  refine callH_of_body XP_ok mixed Try.func17 rfl (Nat.le_of_ble_eq_true rfl) (fun n h h' => by have h : n < 17 := h; simp at h'; have e : n = 0 := (by omega); subst e; rfl) (by show 17 ≤ 17; simp) (by show 17 ≤ 17; simp) ok_Put ?_
  unfold Try.f17
  have g1 : K14b.f 27 [.agg [.int .i64 16, .int .i64 c]] = some (.bool true) := by
    have := K14b_version_Right (16, c) trivial
    have e : rightV ⟨16, c⟩ = true := by simp [rightV]; omega
    simp only at this
    rw [e] at this; exact this
  have g2 : X22a.f 28 [.str k] = some (.bool true) := by
    have := X22a_key_Right k (by omega)
    rw [decide_eq_true hk] at this; exact this
  have hp := pos_le (E 15) c
  have g3 := x22_find (l := E 15) (n := c) ⟨hr 15, by have := hl 15; omega, by omega⟩
  rw [hh] at g3
  have g4 := xp_insert (l := E 15) (c := c) (k := k) (i := posE (E 15) c) ⟨hp, by have := hl 15; omega⟩
  have tl : ((E 15).map En.enc).take (E 15).length = (E 15).map En.enc := List.take_of_length_le (by simp)
  generalize hP : posE (E 15) c = P at *
  have hil : (insE (E 15) P ⟨c, k⟩).length = (E 15).length + 1 := by unfold insE; rw [List.length_append, List.length_cons, List.length_take, List.length_drop]; omega
  have eu : ∀ j, j ≠ 15 → upd E 15 (insE (E 15) P ⟨c, k⟩) j = E j := fun j hj => if_neg hj
  have e0 : upd E 15 (insE (E 15) P ⟨c, k⟩) 15 = insE (E 15) P ⟨c, k⟩ := if_pos rfl
  unfold ixO
  simp only [e0, eu 0 (by decide), eu 1 (by decide), eu 2 (by decide), eu 3 (by decide), eu 4 (by decide), eu 5 (by decide), eu 6 (by decide), eu 7 (by decide), eu 8 (by decide), eu 9 (by decide), eu 10 (by decide), eu 11 (by decide), eu 12 (by decide), eu 13 (by decide), eu 14 (by decide)]
  rw [hil]
  generalize insE (E 15) P ⟨c, k⟩ = L' at *
  simp -implicitDefEqProofs (maxSteps := 6000000) (disch := (first | omega | decide)) only [go_sem, ↓reduceIte, seval, g1, g2, g3, g4, tl, wrap_i64, List.length_map]
  exact Nat.le_refl _
theorem setK_row {l : List En} {P : Nat} (h : P < l.length) (k : List UInt8) : setNth (l.map En.enc) P (.agg [.int .i64 l[P].c, .str k]) = (setK l P k).map En.enc := by
  unfold setK
  rw [setNth_eq, List.drop_eq_getElem_cons h, List.set_eq_take_append_cons_drop, if_pos (by simpa using h)]
  simp [En.enc, List.map_take, List.map_drop]
theorem setK_len {l : List En} {P : Nat} (h : P < l.length) (k : List UInt8) : (setK l P k).length = l.length := by
  unfold setK
  rw [List.drop_eq_getElem_cons h, List.length_append, List.length_cons, List.length_take, List.length_drop]; omega
def mayP (r c : Int) (k : List UInt8) : Bool := rightV ⟨r, c⟩ && decide (1 ≤ k.length ∧ k.length ≤ 16)
theorem h_Put_no (E : Nat → List En) (m r c : Int) (k : List UInt8) (hk : k.length ≤ 9223372036854775807) (hh : mayP r c k = false) :
    CallH Try.prog 17 [.ref 0 0, .agg [.int .i64 r, .int .i64 c], .str k] (ixO E m) (.bool false) (ixO E m) [1, 2, 3, 4, 5, 6, 7, 8, 9, 10, 11, 12, 13, 14, 15, 16] := by
  refine callH_of_body XP_ok mixed Try.func17 rfl (Nat.le_of_ble_eq_true rfl) (fun n h h' => by have h : n < 17 := h; simp at h'; have e : n = 0 := (by omega); subst e; rfl) (by show 17 ≤ 17; simp) (by show 17 ≤ 17; simp) ok_Put ?_
  unfold Try.f17
  have g1 : K14b.f 27 [.agg [.int .i64 r, .int .i64 c]] = some (.bool (rightV ⟨r, c⟩)) := K14b_version_Right (r, c) trivial
  have g2 : X22a.f 28 [.str k] = some (.bool (decide (1 ≤ k.length ∧ k.length ≤ 16))) := X22a_key_Right k hk
  unfold mayP at hh
  unfold ixO
  cases hr : rightV ⟨r, c⟩ with
  | false =>
    rw [hr] at g1
    simp -implicitDefEqProofs (maxSteps := 6000000) (disch := (first | omega | decide)) only [go_sem, ↓reduceIte, seval, g1, g2, hr, List.length_map]
  | true =>
    rw [hr, Bool.true_and] at hh
    rw [hr] at g1
    rw [hh] at g2
    simp -implicitDefEqProofs (maxSteps := 6000000) (disch := (first | omega | decide)) only [go_sem, ↓reduceIte, seval, g1, g2, List.length_map]
theorem ok_n_index_Index_Put : codeOK Try.prog X22g Try.f17.ntmps (Try.f17.body.getD .skip) = true := by kernel_rfl
theorem h_Put_nil (r c : Int) (k : List UInt8) : CallH Try.prog 17 [.nilp, .agg [.int .i64 r, .int .i64 c], .str k] [] (.bool false) [] [] := by
  refine callH_of_body X22g_ok mixed Try.func17 rfl (Nat.le_of_ble_eq_true rfl) (by exact fun n h h' => absurd (show n < 0 from h) (Nat.not_lt_zero _)) (Nat.zero_le _) (Nat.zero_le _) ok_n_index_Index_Put ?_
  unfold Try.f17
  simp -implicitDefEqProofs (disch := (first | omega | decide)) only [go_sem, ↓reduceIte, seval]
theorem ok_n_index_Index_Drop : codeOK Try.prog X22g Try.f18.ntmps (Try.f18.body.getD .skip) = true := by kernel_rfl
theorem h_Drop_nil (r c : Int) : CallH Try.prog 18 [.nilp, .agg [.int .i64 r, .int .i64 c]] [] (.bool false) [] [] := by
  refine callH_of_body X22g_ok mixed Try.func18 rfl (Nat.le_of_ble_eq_true rfl) (by exact fun n h h' => absurd (show n < 0 from h) (Nat.not_lt_zero _)) (Nat.zero_le _) (Nat.zero_le _) ok_n_index_Index_Drop ?_
  unfold Try.f18
  have g1 : X22g.f 26 [.nilp, .agg [.int .i64 r, .int .i64 c]] = _ := x22_place (x := none) (r := r) (c := c) ⟨fun _ => ⟨List.Pairwise.nil, fun _ h => by cases h⟩, fun _ => Nat.zero_le _⟩
  have e : ixH none r c = false := by
    unfold ixH ixE hasE
    simp
  rw [e] at g1
  generalize (if rightV ⟨r, c⟩ = true then (posE (ixE none (r - 1).toNat) c : Int) else 0) = z at *
  simp -implicitDefEqProofs (disch := (first | omega | decide)) only [go_sem, ↓reduceIte, seval, g1]
theorem h_Put_old1 (E : Nat → List En) (m c : Int) (k : List UInt8) (hr : RowsR E) (hl : ∀ i, (E i).length ≤ 1000) (hm : 0 ≤ m ∧ m ≤ 16000) (hc : 1 ≤ c ∧ c ≤ 1099511627776) (hk : 1 ≤ k.length ∧ k.length ≤ 16) (hh : hasE (E 0) c = true) :
    CallH Try.prog 17 [.ref 0 0, .agg [.int .i64 1, .int .i64 c], .str k] (ixO E m) (.bool true) (ixO (upd E 0 (setK (E 0) (posE (E 0) c) k)) m) [1, 2, 3, 4, 5, 6, 7, 8, 9, 10, 11, 12, 13, 14, 15, 16] := by
  refine callH_of_body XP_ok mixed Try.func17 rfl (Nat.le_of_ble_eq_true rfl) (fun n h h' => by have h : n < 17 := h; simp at h'; have e : n = 0 := (by omega); subst e; rfl) (by show 17 ≤ 17; simp) (by show 17 ≤ 17; simp) ok_Put ?_
  unfold Try.f17
  have g1 : K14b.f 27 [.agg [.int .i64 1, .int .i64 c]] = some (.bool true) := by
    have := K14b_version_Right (1, c) trivial
    have e : rightV ⟨1, c⟩ = true := by simp [rightV]; omega
    simp only at this
    rw [e] at this; exact this
  have g2 : X22a.f 28 [.str k] = some (.bool true) := by
    have := X22a_key_Right k (by omega)
    rw [decide_eq_true hk] at this; exact this
  have g3 := x22_find (l := E 0) (n := c) ⟨hr 0, by have := hl 0; omega, by omega⟩
  rw [hh] at g3
  obtain ⟨hp, _⟩ := (has_at (hr 0)).1 hh
  have e1 := en_get hp
  have e2 := setK_row hp k
  have e3 := setK_len hp k
  generalize hP : posE (E 0) c = P at *
  have q1 : (0 : Int) ≤ (P : Int) := by omega
  have q2 : (P : Int) < ((E 0).length : Int) := by omega
  have q3 : ((P : Nat) : Int).toNat = P := Int.toNat_natCast _
  have eu : ∀ j, j ≠ 0 → upd E 0 (setK (E 0) P k) j = E j := fun j hj => if_neg hj
  have e0 : upd E 0 (setK (E 0) P k) 0 = setK (E 0) P k := if_pos rfl
  unfold ixO
  simp only [e0, eu 1 (by decide), eu 2 (by decide), eu 3 (by decide), eu 4 (by decide), eu 5 (by decide), eu 6 (by decide), eu 7 (by decide), eu 8 (by decide), eu 9 (by decide), eu 10 (by decide), eu 11 (by decide), eu 12 (by decide), eu 13 (by decide), eu 14 (by decide), eu 15 (by decide)]
  rw [e3, ← e2]
  clear e2 e3 e0 eu
  generalize (E 0)[P].c = cc at *
  generalize (E 0)[P].k = kk at *
  simp -implicitDefEqProofs (maxSteps := 6000000) (disch := (first | omega | decide)) only [go_sem, ↓reduceIte, seval, g1, g2, g3, e1, q1, q2, q3, wrap_i64, List.length_map, Nat.zero_add, Nat.le_refl]
theorem h_Put_old2 (E : Nat → List En) (m c : Int) (k : List UInt8) (hr : RowsR E) (hl : ∀ i, (E i).length ≤ 1000) (hm : 0 ≤ m ∧ m ≤ 16000) (hc : 1 ≤ c ∧ c ≤ 1099511627776) (hk : 1 ≤ k.length ∧ k.length ≤ 16) (hh : hasE (E 1) c = true) :
    CallH Try.prog 17 [.ref 0 0, .agg [.int .i64 2, .int .i64 c], .str k] (ixO E m) (.bool true) (ixO (upd E 1 (setK (E 1) (posE (E 1) c) k)) m) [1, 2, 3, 4, 5, 6, 7, 8, 9, 10, 11, 12, 13, 14, 15, 16] := by
  refine callH_of_body XP_ok mixed Try.func17 rfl (Nat.le_of_ble_eq_true rfl) (fun n h h' => by have h : n < 17 := h; simp at h'; have e : n = 0 := (by omega); subst e; rfl) (by show 17 ≤ 17; simp) (by show 17 ≤ 17; simp) ok_Put ?_
  unfold Try.f17
  have g1 : K14b.f 27 [.agg [.int .i64 2, .int .i64 c]] = some (.bool true) := by
    have := K14b_version_Right (2, c) trivial
    have e : rightV ⟨2, c⟩ = true := by simp [rightV]; omega
    simp only at this
    rw [e] at this; exact this
  have g2 : X22a.f 28 [.str k] = some (.bool true) := by
    have := X22a_key_Right k (by omega)
    rw [decide_eq_true hk] at this; exact this
  have g3 := x22_find (l := E 1) (n := c) ⟨hr 1, by have := hl 1; omega, by omega⟩
  rw [hh] at g3
  obtain ⟨hp, _⟩ := (has_at (hr 1)).1 hh
  have e1 := en_get hp
  have e2 := setK_row hp k
  have e3 := setK_len hp k
  generalize hP : posE (E 1) c = P at *
  have q1 : (0 : Int) ≤ (P : Int) := by omega
  have q2 : (P : Int) < ((E 1).length : Int) := by omega
  have q3 : ((P : Nat) : Int).toNat = P := Int.toNat_natCast _
  have eu : ∀ j, j ≠ 1 → upd E 1 (setK (E 1) P k) j = E j := fun j hj => if_neg hj
  have e0 : upd E 1 (setK (E 1) P k) 1 = setK (E 1) P k := if_pos rfl
  unfold ixO
  simp only [e0, eu 0 (by decide), eu 2 (by decide), eu 3 (by decide), eu 4 (by decide), eu 5 (by decide), eu 6 (by decide), eu 7 (by decide), eu 8 (by decide), eu 9 (by decide), eu 10 (by decide), eu 11 (by decide), eu 12 (by decide), eu 13 (by decide), eu 14 (by decide), eu 15 (by decide)]
  rw [e3, ← e2]
  clear e2 e3 e0 eu
  generalize (E 1)[P].c = cc at *
  generalize (E 1)[P].k = kk at *
  simp -implicitDefEqProofs (maxSteps := 6000000) (disch := (first | omega | decide)) only [go_sem, ↓reduceIte, seval, g1, g2, g3, e1, q1, q2, q3, wrap_i64, List.length_map, Nat.zero_add, Nat.le_refl]
theorem h_Put_old3 (E : Nat → List En) (m c : Int) (k : List UInt8) (hr : RowsR E) (hl : ∀ i, (E i).length ≤ 1000) (hm : 0 ≤ m ∧ m ≤ 16000) (hc : 1 ≤ c ∧ c ≤ 1099511627776) (hk : 1 ≤ k.length ∧ k.length ≤ 16) (hh : hasE (E 2) c = true) :
    CallH Try.prog 17 [.ref 0 0, .agg [.int .i64 3, .int .i64 c], .str k] (ixO E m) (.bool true) (ixO (upd E 2 (setK (E 2) (posE (E 2) c) k)) m) [1, 2, 3, 4, 5, 6, 7, 8, 9, 10, 11, 12, 13, 14, 15, 16] := by
  refine callH_of_body XP_ok mixed Try.func17 rfl (Nat.le_of_ble_eq_true rfl) (fun n h h' => by have h : n < 17 := h; simp at h'; have e : n = 0 := (by omega); subst e; rfl) (by show 17 ≤ 17; simp) (by show 17 ≤ 17; simp) ok_Put ?_
  unfold Try.f17
  have g1 : K14b.f 27 [.agg [.int .i64 3, .int .i64 c]] = some (.bool true) := by
    have := K14b_version_Right (3, c) trivial
    have e : rightV ⟨3, c⟩ = true := by simp [rightV]; omega
    simp only at this
    rw [e] at this; exact this
  have g2 : X22a.f 28 [.str k] = some (.bool true) := by
    have := X22a_key_Right k (by omega)
    rw [decide_eq_true hk] at this; exact this
  have g3 := x22_find (l := E 2) (n := c) ⟨hr 2, by have := hl 2; omega, by omega⟩
  rw [hh] at g3
  obtain ⟨hp, _⟩ := (has_at (hr 2)).1 hh
  have e1 := en_get hp
  have e2 := setK_row hp k
  have e3 := setK_len hp k
  generalize hP : posE (E 2) c = P at *
  have q1 : (0 : Int) ≤ (P : Int) := by omega
  have q2 : (P : Int) < ((E 2).length : Int) := by omega
  have q3 : ((P : Nat) : Int).toNat = P := Int.toNat_natCast _
  have eu : ∀ j, j ≠ 2 → upd E 2 (setK (E 2) P k) j = E j := fun j hj => if_neg hj
  have e0 : upd E 2 (setK (E 2) P k) 2 = setK (E 2) P k := if_pos rfl
  unfold ixO
  simp only [e0, eu 0 (by decide), eu 1 (by decide), eu 3 (by decide), eu 4 (by decide), eu 5 (by decide), eu 6 (by decide), eu 7 (by decide), eu 8 (by decide), eu 9 (by decide), eu 10 (by decide), eu 11 (by decide), eu 12 (by decide), eu 13 (by decide), eu 14 (by decide), eu 15 (by decide)]
  rw [e3, ← e2]
  clear e2 e3 e0 eu
  generalize (E 2)[P].c = cc at *
  generalize (E 2)[P].k = kk at *
  simp -implicitDefEqProofs (maxSteps := 6000000) (disch := (first | omega | decide)) only [go_sem, ↓reduceIte, seval, g1, g2, g3, e1, q1, q2, q3, wrap_i64, List.length_map, Nat.zero_add, Nat.le_refl]
theorem h_Put_old4 (E : Nat → List En) (m c : Int) (k : List UInt8) (hr : RowsR E) (hl : ∀ i, (E i).length ≤ 1000) (hm : 0 ≤ m ∧ m ≤ 16000) (hc : 1 ≤ c ∧ c ≤ 1099511627776) (hk : 1 ≤ k.length ∧ k.length ≤ 16) (hh : hasE (E 3) c = true) :
    CallH Try.prog 17 [.ref 0 0, .agg [.int .i64 4, .int .i64 c], .str k] (ixO E m) (.bool true) (ixO (upd E 3 (setK (E 3) (posE (E 3) c) k)) m) [1, 2, 3, 4, 5, 6, 7, 8, 9, 10, 11, 12, 13, 14, 15, 16] := by
  refine callH_of_body XP_ok mixed Try.func17 rfl (Nat.le_of_ble_eq_true rfl) (fun n h h' => by have h : n < 17 := h; simp at h'; have e : n = 0 := (by omega); subst e; rfl) (by show 17 ≤ 17; simp) (by show 17 ≤ 17; simp) ok_Put ?_
  unfold Try.f17
  have g1 : K14b.f 27 [.agg [.int .i64 4, .int .i64 c]] = some (.bool true) := by
    have := K14b_version_Right (4, c) trivial
    have e : rightV ⟨4, c⟩ = true := by simp [rightV]; omega
    simp only at this
    rw [e] at this; exact this
  have g2 : X22a.f 28 [.str k] = some (.bool true) := by
    have := X22a_key_Right k (by omega)
    rw [decide_eq_true hk] at this; exact this
  have g3 := x22_find (l := E 3) (n := c) ⟨hr 3, by have := hl 3; omega, by omega⟩
  rw [hh] at g3
  obtain ⟨hp, _⟩ := (has_at (hr 3)).1 hh
  have e1 := en_get hp
  have e2 := setK_row hp k
  have e3 := setK_len hp k
  generalize hP : posE (E 3) c = P at *
  have q1 : (0 : Int) ≤ (P : Int) := by omega
  have q2 : (P : Int) < ((E 3).length : Int) := by omega
  have q3 : ((P : Nat) : Int).toNat = P := Int.toNat_natCast _
  have eu : ∀ j, j ≠ 3 → upd E 3 (setK (E 3) P k) j = E j := fun j hj => if_neg hj
  have e0 : upd E 3 (setK (E 3) P k) 3 = setK (E 3) P k := if_pos rfl
  unfold ixO
  simp only [e0, eu 0 (by decide), eu 1 (by decide), eu 2 (by decide), eu 4 (by decide), eu 5 (by decide), eu 6 (by decide), eu 7 (by decide), eu 8 (by decide), eu 9 (by decide), eu 10 (by decide), eu 11 (by decide), eu 12 (by decide), eu 13 (by decide), eu 14 (by decide), eu 15 (by decide)]
  rw [e3, ← e2]
  clear e2 e3 e0 eu
  generalize (E 3)[P].c = cc at *
  generalize (E 3)[P].k = kk at *
  simp -implicitDefEqProofs (maxSteps := 6000000) (disch := (first | omega | decide)) only [go_sem, ↓reduceIte, seval, g1, g2, g3, e1, q1, q2, q3, wrap_i64, List.length_map, Nat.zero_add, Nat.le_refl]
theorem h_Put_old5 (E : Nat → List En) (m c : Int) (k : List UInt8) (hr : RowsR E) (hl : ∀ i, (E i).length ≤ 1000) (hm : 0 ≤ m ∧ m ≤ 16000) (hc : 1 ≤ c ∧ c ≤ 1099511627776) (hk : 1 ≤ k.length ∧ k.length ≤ 16) (hh : hasE (E 4) c = true) :
    CallH Try.prog 17 [.ref 0 0, .agg [.int .i64 5, .int .i64 c], .str k] (ixO E m) (.bool true) (ixO (upd E 4 (setK (E 4) (posE (E 4) c) k)) m) [1, 2, 3, 4, 5, 6, 7, 8, 9, 10, 11, 12, 13, 14, 15, 16] := by
  refine callH_of_body XP_ok mixed Try.func17 rfl (Nat.le_of_ble_eq_true rfl) (fun n h h' => by have h : n < 17 := h; simp at h'; have e : n = 0 := (by omega); subst e; rfl) (by show 17 ≤ 17; simp) (by show 17 ≤ 17; simp) ok_Put ?_
  unfold Try.f17
  have g1 : K14b.f 27 [.agg [.int .i64 5, .int .i64 c]] = some (.bool true) := by
    have := K14b_version_Right (5, c) trivial
    have e : rightV ⟨5, c⟩ = true := by simp [rightV]; omega
    simp only at this
    rw [e] at this; exact this
  have g2 : X22a.f 28 [.str k] = some (.bool true) := by
    have := X22a_key_Right k (by omega)
    rw [decide_eq_true hk] at this; exact this
  have g3 := x22_find (l := E 4) (n := c) ⟨hr 4, by have := hl 4; omega, by omega⟩
  rw [hh] at g3
  obtain ⟨hp, _⟩ := (has_at (hr 4)).1 hh
  have e1 := en_get hp
  have e2 := setK_row hp k
  have e3 := setK_len hp k
  generalize hP : posE (E 4) c = P at *
  have q1 : (0 : Int) ≤ (P : Int) := by omega
  have q2 : (P : Int) < ((E 4).length : Int) := by omega
  have q3 : ((P : Nat) : Int).toNat = P := Int.toNat_natCast _
  have eu : ∀ j, j ≠ 4 → upd E 4 (setK (E 4) P k) j = E j := fun j hj => if_neg hj
  have e0 : upd E 4 (setK (E 4) P k) 4 = setK (E 4) P k := if_pos rfl
  unfold ixO
  simp only [e0, eu 0 (by decide), eu 1 (by decide), eu 2 (by decide), eu 3 (by decide), eu 5 (by decide), eu 6 (by decide), eu 7 (by decide), eu 8 (by decide), eu 9 (by decide), eu 10 (by decide), eu 11 (by decide), eu 12 (by decide), eu 13 (by decide), eu 14 (by decide), eu 15 (by decide)]
  rw [e3, ← e2]
  clear e2 e3 e0 eu
  generalize (E 4)[P].c = cc at *
  generalize (E 4)[P].k = kk at *
  simp -implicitDefEqProofs (maxSteps := 6000000) (disch := (first | omega | decide)) only [go_sem, ↓reduceIte, seval, g1, g2, g3, e1, q1, q2, q3, wrap_i64, List.length_map, Nat.zero_add, Nat.le_refl]
theorem h_Put_old6 (E : Nat → List En) (m c : Int) (k : List UInt8) (hr : RowsR E) (hl : ∀ i, (E i).length ≤ 1000) (hm : 0 ≤ m ∧ m ≤ 16000) (hc : 1 ≤ c ∧ c ≤ 1099511627776) (hk : 1 ≤ k.length ∧ k.length ≤ 16) (hh : hasE (E 5) c = true) :
    CallH Try.prog 17 [.ref 0 0, .agg [.int .i64 6, .int .i64 c], .str k] (ixO E m) (.bool true) (ixO (upd E 5 (setK (E 5) (posE (E 5) c) k)) m) [1, 2, 3, 4, 5, 6, 7, 8, 9, 10, 11, 12, 13, 14, 15, 16] := by
  refine callH_of_body XP_ok mixed Try.func17 rfl (Nat.le_of_ble_eq_true rfl) (fun n h h' => by have h : n < 17 := h; simp at h'; have e : n = 0 := (by omega); subst e; rfl) (by show 17 ≤ 17; simp) (by show 17 ≤ 17; simp) ok_Put ?_
  unfold Try.f17
  have g1 : K14b.f 27 [.agg [.int .i64 6, .int .i64 c]] = some (.bool true) := by
    have := K14b_version_Right (6, c) trivial
    have e : rightV ⟨6, c⟩ = true := by simp [rightV]; omega
    simp only at this
    rw [e] at this; exact this
  have g2 : X22a.f 28 [.str k] = some (.bool true) := by
    have := X22a_key_Right k (by omega)
    rw [decide_eq_true hk] at this; exact this
  have g3 := x22_find (l := E 5) (n := c) ⟨hr 5, by have := hl 5; omega, by omega⟩
  rw [hh] at g3
  obtain ⟨hp, _⟩ := (has_at (hr 5)).1 hh
  have e1 := en_get hp
  have e2 := setK_row hp k
  have e3 := setK_len hp k
  generalize hP : posE (E 5) c = P at *
  have q1 : (0 : Int) ≤ (P : Int) := by omega
  have q2 : (P : Int) < ((E 5).length : Int) := by omega
  have q3 : ((P : Nat) : Int).toNat = P := Int.toNat_natCast _
  have eu : ∀ j, j ≠ 5 → upd E 5 (setK (E 5) P k) j = E j := fun j hj => if_neg hj
  have e0 : upd E 5 (setK (E 5) P k) 5 = setK (E 5) P k := if_pos rfl
  unfold ixO
  simp only [e0, eu 0 (by decide), eu 1 (by decide), eu 2 (by decide), eu 3 (by decide), eu 4 (by decide), eu 6 (by decide), eu 7 (by decide), eu 8 (by decide), eu 9 (by decide), eu 10 (by decide), eu 11 (by decide), eu 12 (by decide), eu 13 (by decide), eu 14 (by decide), eu 15 (by decide)]
  rw [e3, ← e2]
  clear e2 e3 e0 eu
  generalize (E 5)[P].c = cc at *
  generalize (E 5)[P].k = kk at *
  simp -implicitDefEqProofs (maxSteps := 6000000) (disch := (first | omega | decide)) only [go_sem, ↓reduceIte, seval, g1, g2, g3, e1, q1, q2, q3, wrap_i64, List.length_map, Nat.zero_add, Nat.le_refl]
theorem h_Put_old7 (E : Nat → List En) (m c : Int) (k : List UInt8) (hr : RowsR E) (hl : ∀ i, (E i).length ≤ 1000) (hm : 0 ≤ m ∧ m ≤ 16000) (hc : 1 ≤ c ∧ c ≤ 1099511627776) (hk : 1 ≤ k.length ∧ k.length ≤ 16) (hh : hasE (E 6) c = true) :
    CallH Try.prog 17 [.ref 0 0, .agg [.int .i64 7, .int .i64 c], .str k] (ixO E m) (.bool true) (ixO (upd E 6 (setK (E 6) (posE (E 6) c) k)) m) [1, 2, 3, 4, 5, 6, 7, 8, 9, 10, 11, 12, 13, 14, 15, 16] := by
  refine callH_of_body XP_ok mixed Try.func17 rfl (Nat.le_of_ble_eq_true rfl) (fun n h h' => by have h : n < 17 := h; simp at h'; have e : n = 0 := (by omega); subst e; rfl) (by show 17 ≤ 17; simp) (by show 17 ≤ 17; simp) ok_Put ?_
  unfold Try.f17
  have g1 : K14b.f 27 [.agg [.int .i64 7, .int .i64 c]] = some (.bool true) := by
    have := K14b_version_Right (7, c) trivial
    have e : rightV ⟨7, c⟩ = true := by simp [rightV]; omega
    simp only at this
    rw [e] at this; exact this
  have g2 : X22a.f 28 [.str k] = some (.bool true) := by
    have := X22a_key_Right k (by omega)
    rw [decide_eq_true hk] at this; exact this
  have g3 := x22_find (l := E 6) (n := c) ⟨hr 6, by have := hl 6; omega, by omega⟩
  rw [hh] at g3
  obtain ⟨hp, _⟩ := (has_at (hr 6)).1 hh
  have e1 := en_get hp
  have e2 := setK_row hp k
  have e3 := setK_len hp k
  generalize hP : posE (E 6) c = P at *
  have q1 : (0 : Int) ≤ (P : Int) := by omega
  have q2 : (P : Int) < ((E 6).length : Int) := by omega
  have q3 : ((P : Nat) : Int).toNat = P := Int.toNat_natCast _
  have eu : ∀ j, j ≠ 6 → upd E 6 (setK (E 6) P k) j = E j := fun j hj => if_neg hj
  have e0 : upd E 6 (setK (E 6) P k) 6 = setK (E 6) P k := if_pos rfl
  unfold ixO
  simp only [e0, eu 0 (by decide), eu 1 (by decide), eu 2 (by decide), eu 3 (by decide), eu 4 (by decide), eu 5 (by decide), eu 7 (by decide), eu 8 (by decide), eu 9 (by decide), eu 10 (by decide), eu 11 (by decide), eu 12 (by decide), eu 13 (by decide), eu 14 (by decide), eu 15 (by decide)]
  rw [e3, ← e2]
  clear e2 e3 e0 eu
  generalize (E 6)[P].c = cc at *
  generalize (E 6)[P].k = kk at *
  simp -implicitDefEqProofs (maxSteps := 6000000) (disch := (first | omega | decide)) only [go_sem, ↓reduceIte, seval, g1, g2, g3, e1, q1, q2, q3, wrap_i64, List.length_map, Nat.zero_add, Nat.le_refl]
theorem h_Put_old8 (E : Nat → List En) (m c : Int) (k : List UInt8) (hr : RowsR E) (hl : ∀ i, (E i).length ≤ 1000) (hm : 0 ≤ m ∧ m ≤ 16000) (hc : 1 ≤ c ∧ c ≤ 1099511627776) (hk : 1 ≤ k.length ∧ k.length ≤ 16) (hh : hasE (E 7) c = true) :
    CallH Try.prog 17 [.ref 0 0, .agg [.int .i64 8, .int .i64 c], .str k] (ixO E m) (.bool true) (ixO (upd E 7 (setK (E 7) (posE (E 7) c) k)) m) [1, 2, 3, 4, 5, 6, 7, 8, 9, 10, 11, 12, 13, 14, 15, 16] := by
  refine callH_of_body XP_ok mixed Try.func17 rfl (Nat.le_of_ble_eq_true rfl) (fun n h h' => by have h : n < 17 := h; simp at h'; have e : n = 0 := (by omega); subst e; rfl) (by show 17 ≤ 17; simp) (by show 17 ≤ 17; simp) ok_Put ?_
  unfold Try.f17
  have g1 : K14b.f 27 [.agg [.int .i64 8, .int .i64 c]] = some (.bool true) := by
    have := K14b_version_Right (8, c) trivial
    have e : rightV ⟨8, c⟩ = true := by simp [rightV]; omega
    simp only at this
    rw [e] at this; exact this
  have g2 : X22a.f 28 [.str k] = some (.bool true) := by
    have := X22a_key_Right k (by omega)
    rw [decide_eq_true hk] at this; exact this
  have g3 := x22_find (l := E 7) (n := c) ⟨hr 7, by have := hl 7; omega, by omega⟩
  rw [hh] at g3
  obtain ⟨hp, _⟩ := (has_at (hr 7)).1 hh
  have e1 := en_get hp
  have e2 := setK_row hp k
  have e3 := setK_len hp k
  generalize hP : posE (E 7) c = P at *
  have q1 : (0 : Int) ≤ (P : Int) := by omega
  have q2 : (P : Int) < ((E 7).length : Int) := by omega
  have q3 : ((P : Nat) : Int).toNat = P := Int.toNat_natCast _
  have eu : ∀ j, j ≠ 7 → upd E 7 (setK (E 7) P k) j = E j := fun j hj => if_neg hj
  have e0 : upd E 7 (setK (E 7) P k) 7 = setK (E 7) P k := if_pos rfl
  unfold ixO
  simp only [e0, eu 0 (by decide), eu 1 (by decide), eu 2 (by decide), eu 3 (by decide), eu 4 (by decide), eu 5 (by decide), eu 6 (by decide), eu 8 (by decide), eu 9 (by decide), eu 10 (by decide), eu 11 (by decide), eu 12 (by decide), eu 13 (by decide), eu 14 (by decide), eu 15 (by decide)]
  rw [e3, ← e2]
  clear e2 e3 e0 eu
  generalize (E 7)[P].c = cc at *
  generalize (E 7)[P].k = kk at *
  simp -implicitDefEqProofs (maxSteps := 6000000) (disch := (first | omega | decide)) only [go_sem, ↓reduceIte, seval, g1, g2, g3, e1, q1, q2, q3, wrap_i64, List.length_map, Nat.zero_add, Nat.le_refl]
theorem h_Put_old9 (E : Nat → List En) (m c : Int) (k : List UInt8) (hr : RowsR E) (hl : ∀ i, (E i).length ≤ 1000) (hm : 0 ≤ m ∧ m ≤ 16000) (hc : 1 ≤ c ∧ c ≤ 1099511627776) (hk : 1 ≤ k.length ∧ k.length ≤ 16) (hh : hasE (E 8) c = true) :
    CallH Try.prog 17 [.ref 0 0, .agg [.int .i64 9, .int .i64 c], .str k] (ixO E m) (.bool true) (ixO (upd E 8 (setK (E 8) (posE (E 8) c) k)) m) [1, 2, 3, 4, 5, 6, 7, 8, 9, 10, 11, 12, 13, 14, 15, 16] := by
  refine callH_of_body XP_ok mixed Try.func17 rfl (Nat.le_of_ble_eq_true rfl) (fun n h h' => by have h : n < 17 := h; simp at h'; have e : n = 0 := (by omega); subst e; rfl) (by show 17 ≤ 17; simp) (by show 17 ≤ 17; simp) ok_Put ?_
  unfold Try.f17
  have g1 : K14b.f 27 [.agg [.int .i64 9, .int .i64 c]] = some (.bool true) := by
    have := K14b_version_Right (9, c) trivial
    have e : rightV ⟨9, c⟩ = true := by simp [rightV]; omega
    simp only at this
    rw [e] at this; exact this
  have g2 : X22a.f 28 [.str k] = some (.bool true) := by
    have := X22a_key_Right k (by omega)
    rw [decide_eq_true hk] at this; exact this
  have g3 := x22_find (l := E 8) (n := c) ⟨hr 8, by have := hl 8; omega, by omega⟩
  rw [hh] at g3
  obtain ⟨hp, _⟩ := (has_at (hr 8)).1 hh
  have e1 := en_get hp
  have e2 := setK_row hp k
  have e3 := setK_len hp k
  generalize hP : posE (E 8) c = P at *
  have q1 : (0 : Int) ≤ (P : Int) := by omega
  have q2 : (P : Int) < ((E 8).length : Int) := by omega
  have q3 : ((P : Nat) : Int).toNat = P := Int.toNat_natCast _
  have eu : ∀ j, j ≠ 8 → upd E 8 (setK (E 8) P k) j = E j := fun j hj => if_neg hj
  have e0 : upd E 8 (setK (E 8) P k) 8 = setK (E 8) P k := if_pos rfl
  unfold ixO
  simp only [e0, eu 0 (by decide), eu 1 (by decide), eu 2 (by decide), eu 3 (by decide), eu 4 (by decide), eu 5 (by decide), eu 6 (by decide), eu 7 (by decide), eu 9 (by decide), eu 10 (by decide), eu 11 (by decide), eu 12 (by decide), eu 13 (by decide), eu 14 (by decide), eu 15 (by decide)]
  rw [e3, ← e2]
  clear e2 e3 e0 eu
  generalize (E 8)[P].c = cc at *
  generalize (E 8)[P].k = kk at *
  simp -implicitDefEqProofs (maxSteps := 6000000) (disch := (first | omega | decide)) only [go_sem, ↓reduceIte, seval, g1, g2, g3, e1, q1, q2, q3, wrap_i64, List.length_map, Nat.zero_add, Nat.le_refl]
theorem h_Put_old10 (E : Nat → List En) (m c : Int) (k : List UInt8) (hr : RowsR E) (hl : ∀ i, (E i).length ≤ 1000) (hm : 0 ≤ m ∧ m ≤ 16000) (hc : 1 ≤ c ∧ c ≤ 1099511627776) (hk : 1 ≤ k.length ∧ k.length ≤ 16) (hh : hasE (E 9) c = true) :
    CallH Try.prog 17 [.ref 0 0, .agg [.int .i64 10, .int .i64 c], .str k] (ixO E m) (.bool true) (ixO (upd E 9 (setK (E 9) (posE (E 9) c) k)) m) [1, 2, 3, 4, 5, 6, 7, 8, 9, 10, 11, 12, 13, 14, 15, 16] := by
  refine callH_of_body XP_ok mixed Try.func17 rfl (Nat.le_of_ble_eq_true rfl) (fun n h h' => by have h : n < 17 := h; simp at h'; have e : n = 0 := (by omega); subst e; rfl) (by show 17 ≤ 17; simp) (by show 17 ≤ 17; simp) ok_Put ?_
  unfold Try.f17
  have g1 : K14b.f 27 [.agg [.int .i64 10, .int .i64 c]] = some (.bool true) := by
    have := K14b_version_Right (10, c) trivial
    have e : rightV ⟨10, c⟩ = true := by simp [rightV]; omega
    simp only at this
    rw [e] at this; exact this
  have g2 : X22a.f 28 [.str k] = some (.bool true) := by
    have := X22a_key_Right k (by omega)
    rw [decide_eq_true hk] at this; exact this
  have g3 := x22_find (l := E 9) (n := c) ⟨hr 9, by have := hl 9; omega, by omega⟩
  rw [hh] at g3
  obtain ⟨hp, _⟩ := (has_at (hr 9)).1 hh
  have e1 := en_get hp
  have e2 := setK_row hp k
  have e3 := setK_len hp k
  generalize hP : posE (E 9) c = P at *
  have q1 : (0 : Int) ≤ (P : Int) := by omega
  have q2 : (P : Int) < ((E 9).length : Int) := by omega
  have q3 : ((P : Nat) : Int).toNat = P := Int.toNat_natCast _
  have eu : ∀ j, j ≠ 9 → upd E 9 (setK (E 9) P k) j = E j := fun j hj => if_neg hj
  have e0 : upd E 9 (setK (E 9) P k) 9 = setK (E 9) P k := if_pos rfl
  unfold ixO
  simp only [e0, eu 0 (by decide), eu 1 (by decide), eu 2 (by decide), eu 3 (by decide), eu 4 (by decide), eu 5 (by decide), eu 6 (by decide), eu 7 (by decide), eu 8 (by decide), eu 10 (by decide), eu 11 (by decide), eu 12 (by decide), eu 13 (by decide), eu 14 (by decide), eu 15 (by decide)]
  rw [e3, ← e2]
  clear e2 e3 e0 eu
  generalize (E 9)[P].c = cc at *
  generalize (E 9)[P].k = kk at *
  simp -implicitDefEqProofs (maxSteps := 6000000) (disch := (first | omega | decide)) only [go_sem, ↓reduceIte, seval, g1, g2, g3, e1, q1, q2, q3, wrap_i64, List.length_map, Nat.zero_add, Nat.le_refl]
theorem h_Put_old11 (E : Nat → List En) (m c : Int) (k : List UInt8) (hr : RowsR E) (hl : ∀ i, (E i).length ≤ 1000) (hm : 0 ≤ m ∧ m ≤ 16000) (hc : 1 ≤ c ∧ c ≤ 1099511627776) (hk : 1 ≤ k.length ∧ k.length ≤ 16) (hh : hasE (E 10) c = true) :
    CallH Try.prog 17 [.ref 0 0, .agg [.int .i64 11, .int .i64 c], .str k] (ixO E m) (.bool true) (ixO (upd E 10 (setK (E 10) (posE (E 10) c) k)) m) [1, 2, 3, 4, 5, 6, 7, 8, 9, 10, 11, 12, 13, 14, 15, 16] := by
  refine callH_of_body XP_ok mixed Try.func17 rfl (Nat.le_of_ble_eq_true rfl) (fun n h h' => by have h : n < 17 := h; simp at h'; have e : n = 0 := (by omega); subst e; rfl) (by show 17 ≤ 17; simp) (by show 17 ≤ 17; simp) ok_Put ?_
  unfold Try.f17
  have g1 : K14b.f 27 [.agg [.int .i64 11, .int .i64 c]] = some (.bool true) := by
    have := K14b_version_Right (11, c) trivial
    have e : rightV ⟨11, c⟩ = true := by simp [rightV]; omega
    simp only at this
    rw [e] at this; exact this
  have g2 : X22a.f 28 [.str k] = some (.bool true) := by
    have := X22a_key_Right k (by omega)
    rw [decide_eq_true hk] at this; exact this
  have g3 := x22_find (l := E 10) (n := c) ⟨hr 10, by have := hl 10; omega, by omega⟩
  rw [hh] at g3
  obtain ⟨hp, _⟩ := (has_at (hr 10)).1 hh
  have e1 := en_get hp
  have e2 := setK_row hp k
  have e3 := setK_len hp k
  generalize hP : posE (E 10) c = P at *
  have q1 : (0 : Int) ≤ (P : Int) := by omega
  have q2 : (P : Int) < ((E 10).length : Int) := by omega
  have q3 : ((P : Nat) : Int).toNat = P := Int.toNat_natCast _
  have eu : ∀ j, j ≠ 10 → upd E 10 (setK (E 10) P k) j = E j := fun j hj => if_neg hj
  have e0 : upd E 10 (setK (E 10) P k) 10 = setK (E 10) P k := if_pos rfl
  unfold ixO
  simp only [e0, eu 0 (by decide), eu 1 (by decide), eu 2 (by decide), eu 3 (by decide), eu 4 (by decide), eu 5 (by decide), eu 6 (by decide), eu 7 (by decide), eu 8 (by decide), eu 9 (by decide), eu 11 (by decide), eu 12 (by decide), eu 13 (by decide), eu 14 (by decide), eu 15 (by decide)]
  rw [e3, ← e2]
  clear e2 e3 e0 eu
  generalize (E 10)[P].c = cc at *
  generalize (E 10)[P].k = kk at *
  simp -implicitDefEqProofs (maxSteps := 6000000) (disch := (first | omega | decide)) only [go_sem, ↓reduceIte, seval, g1, g2, g3, e1, q1, q2, q3, wrap_i64, List.length_map, Nat.zero_add, Nat.le_refl]
theorem h_Put_old12 (E : Nat → List En) (m c : Int) (k : List UInt8) (hr : RowsR E) (hl : ∀ i, (E i).length ≤ 1000) (hm : 0 ≤ m ∧ m ≤ 16000) (hc : 1 ≤ c ∧ c ≤ 1099511627776) (hk : 1 ≤ k.length ∧ k.length ≤ 16) (hh : hasE (E 11) c = true) :
    CallH Try.prog 17 [.ref 0 0, .agg [.int .i64 12, .int .i64 c], .str k] (ixO E m) (.bool true) (ixO (upd E 11 (setK (E 11) (posE (E 11) c) k)) m) [1, 2, 3, 4, 5, 6, 7, 8, 9, 10, 11, 12, 13, 14, 15, 16] := by
  refine callH_of_body XP_ok mixed Try.func17 rfl (Nat.le_of_ble_eq_true rfl) (fun n h h' => by have h : n < 17 := h; simp at h'; have e : n = 0 := (by omega); subst e; rfl) (by show 17 ≤ 17; simp) (by show 17 ≤ 17; simp) ok_Put ?_
  unfold Try.f17
  have g1 : K14b.f 27 [.agg [.int .i64 12, .int .i64 c]] = some (.bool true) := by
    have := K14b_version_Right (12, c) trivial
    have e : rightV ⟨12, c⟩ = true := by simp [rightV]; omega
    simp only at this
    rw [e] at this; exact this
  have g2 : X22a.f 28 [.str k] = some (.bool true) := by
    have := X22a_key_Right k (by omega)
    rw [decide_eq_true hk] at this; exact this
  have g3 := x22_find (l := E 11) (n := c) ⟨hr 11, by have := hl 11; omega, by omega⟩
  rw [hh] at g3
  obtain ⟨hp, _⟩ := (has_at (hr 11)).1 hh
  have e1 := en_get hp
  have e2 := setK_row hp k
  have e3 := setK_len hp k
  generalize hP : posE (E 11) c = P at *
  have q1 : (0 : Int) ≤ (P : Int) := by omega
  have q2 : (P : Int) < ((E 11).length : Int) := by omega
  have q3 : ((P : Nat) : Int).toNat = P := Int.toNat_natCast _
  have eu : ∀ j, j ≠ 11 → upd E 11 (setK (E 11) P k) j = E j := fun j hj => if_neg hj
  have e0 : upd E 11 (setK (E 11) P k) 11 = setK (E 11) P k := if_pos rfl
  unfold ixO
  simp only [e0, eu 0 (by decide), eu 1 (by decide), eu 2 (by decide), eu 3 (by decide), eu 4 (by decide), eu 5 (by decide), eu 6 (by decide), eu 7 (by decide), eu 8 (by decide), eu 9 (by decide), eu 10 (by decide), eu 12 (by decide), eu 13 (by decide), eu 14 (by decide), eu 15 (by decide)]
  rw [e3, ← e2]
  clear e2 e3 e0 eu
  generalize (E 11)[P].c = cc at *
  generalize (E 11)[P].k = kk at *
  simp -implicitDefEqProofs (maxSteps := 6000000) (disch := (first | omega | decide)) only [go_sem, ↓reduceIte, seval, g1, g2, g3, e1, q1, q2, q3, wrap_i64, List.length_map, Nat.zero_add, Nat.le_refl]
theorem h_Put_old13 (E : Nat → List En) (m c : Int) (k : List UInt8) (hr : RowsR E) (hl : ∀ i, (E i).length ≤ 1000) (hm : 0 ≤ m ∧ m ≤ 16000) (hc : 1 ≤ c ∧ c ≤ 1099511627776) (hk : 1 ≤ k.length ∧ k.length ≤ 16) (hh : hasE (E 12) c = true) :
    CallH Try.prog 17 [.ref 0 0, .agg [.int .i64 13, .int .i64 c], .str k] (ixO E m) (.bool true) (ixO (upd E 12 (setK (E 12) (posE (E 12) c) k)) m) [1, 2, 3, 4, 5, 6, 7, 8, 9, 10, 11, 12, 13, 14, 15, 16] := by
  refine callH_of_body XP_ok mixed Try.func17 rfl (Nat.le_of_ble_eq_true rfl) (fun n h h' => by have h : n < 17 := h; simp at h'; have e : n = 0 := (by omega); subst e; rfl) (by show 17 ≤ 17; simp) (by show 17 ≤ 17; simp) ok_Put ?_
  unfold Try.f17
  have g1 : K14b.f 27 [.agg [.int .i64 13, .int .i64 c]] = some (.bool true) := by
    have := K14b_version_Right (13, c) trivial
    have e : rightV ⟨13, c⟩ = true := by simp [rightV]; omega
    simp only at this
    rw [e] at this; exact this
  have g2 : X22a.f 28 [.str k] = some (.bool true) := by
    have := X22a_key_Right k (by omega)
    rw [decide_eq_true hk] at this; exact this
  have g3 := x22_find (l := E 12) (n := c) ⟨hr 12, by have := hl 12; omega, by omega⟩
  rw [hh] at g3
  obtain ⟨hp, _⟩ := (has_at (hr 12)).1 hh
  have e1 := en_get hp
  have e2 := setK_row hp k
  have e3 := setK_len hp k
  generalize hP : posE (E 12) c = P at *
  have q1 : (0 : Int) ≤ (P : Int) := by omega
  have q2 : (P : Int) < ((E 12).length : Int) := by omega
  have q3 : ((P : Nat) : Int).toNat = P := Int.toNat_natCast _
  have eu : ∀ j, j ≠ 12 → upd E 12 (setK (E 12) P k) j = E j := fun j hj => if_neg hj
  have e0 : upd E 12 (setK (E 12) P k) 12 = setK (E 12) P k := if_pos rfl
  unfold ixO
  simp only [e0, eu 0 (by decide), eu 1 (by decide), eu 2 (by decide), eu 3 (by decide), eu 4 (by decide), eu 5 (by decide), eu 6 (by decide), eu 7 (by decide), eu 8 (by decide), eu 9 (by decide), eu 10 (by decide), eu 11 (by decide), eu 13 (by decide), eu 14 (by decide), eu 15 (by decide)]
  rw [e3, ← e2]
  clear e2 e3 e0 eu
  generalize (E 12)[P].c = cc at *
  generalize (E 12)[P].k = kk at *
  simp -implicitDefEqProofs (maxSteps := 6000000) (disch := (first | omega | decide)) only [go_sem, ↓reduceIte, seval, g1, g2, g3, e1, q1, q2, q3, wrap_i64, List.length_map, Nat.zero_add, Nat.le_refl]
theorem h_Put_old14 (E : Nat → List En) (m c : Int) (k : List UInt8) (hr : RowsR E) (hl : ∀ i, (E i).length ≤ 1000) (hm : 0 ≤ m ∧ m ≤ 16000) (hc : 1 ≤ c ∧ c ≤ 1099511627776) (hk : 1 ≤ k.length ∧ k.length ≤ 16) (hh : hasE (E 13) c = true) :
    CallH Try.prog 17 [.ref 0 0, .agg [.int .i64 14, .int .i64 c], .str k] (ixO E m) (.bool true) (ixO (upd E 13 (setK (E 13) (posE (E 13) c) k)) m) [1, 2, 3, 4, 5, 6, 7, 8, 9, 10, 11, 12, 13, 14, 15, 16] := by
  refine callH_of_body XP_ok mixed Try.func17 rfl (Nat.le_of_ble_eq_true rfl) (fun n h h' => by have h : n < 17 := h; simp at h'; have e : n = 0 := (by omega); subst e; rfl) (by show 17 ≤ 17; simp) (by show 17 ≤ 17; simp) ok_Put ?_
  unfold Try.f17
  have g1 : K14b.f 27 [.agg [.int .i64 14, .int .i64 c]] = some (.bool true) := by
    have := K14b_version_Right (14, c) trivial
    have e : rightV ⟨14, c⟩ = true := by simp [rightV]; omega
    simp only at this
    rw [e] at this; exact this
  have g2 : X22a.f 28 [.str k] = some (.bool true) := by
    have := X22a_key_Right k (by omega)
    rw [decide_eq_true hk] at this; exact this
  have g3 := x22_find (l := E 13) (n := c) ⟨hr 13, by have := hl 13; omega, by omega⟩
  rw [hh] at g3
  obtain ⟨hp, _⟩ := (has_at (hr 13)).1 hh
  have e1 := en_get hp
  have e2 := setK_row hp k
  have e3 := setK_len hp k
  generalize hP : posE (E 13) c = P at *
  have q1 : (0 : Int) ≤ (P : Int) := by omega
  have q2 : (P : Int) < ((E 13).length : Int) := by omega
  have q3 : ((P : Nat) : Int).toNat = P := Int.toNat_natCast _
  have eu : ∀ j, j ≠ 13 → upd E 13 (setK (E 13) P k) j = E j := fun j hj => if_neg hj
  have e0 : upd E 13 (setK (E 13) P k) 13 = setK (E 13) P k := if_pos rfl
  unfold ixO
  simp only [e0, eu 0 (by decide), eu 1 (by decide), eu 2 (by decide), eu 3 (by decide), eu 4 (by decide), eu 5 (by decide), eu 6 (by decide), eu 7 (by decide), eu 8 (by decide), eu 9 (by decide), eu 10 (by decide), eu 11 (by decide), eu 12 (by decide), eu 14 (by decide), eu 15 (by decide)]
  rw [e3, ← e2]
  clear e2 e3 e0 eu
  generalize (E 13)[P].c = cc at *
  generalize (E 13)[P].k = kk at *
  simp -implicitDefEqProofs (maxSteps := 6000000) (disch := (first | omega | decide)) only [go_sem, ↓reduceIte, seval, g1, g2, g3, e1, q1, q2, q3, wrap_i64, List.length_map, Nat.zero_add, Nat.le_refl]
theorem h_Put_old15 (E : Nat → List En) (m c : Int) (k : List UInt8) (hr : RowsR E) (hl : ∀ i, (E i).length ≤ 1000) (hm : 0 ≤ m ∧ m ≤ 16000) (hc : 1 ≤ c ∧ c ≤ 1099511627776) (hk : 1 ≤ k.length ∧ k.length ≤ 16) (hh : hasE (E 14) c = true) :
    CallH Try.prog 17 [.ref 0 0, .agg [.int .i64 15, .int .i64 c], .str k] (ixO E m) (.bool true) (ixO (upd E 14 (setK (E 14) (posE (E 14) c) k)) m) [1, 2, 3, 4, 5, 6, 7, 8, 9, 10, 11, 12, 13, 14, 15, 16] := by
  refine callH_of_body XP_ok mixed Try.func17 rfl (Nat.le_of_ble_eq_true rfl) (fun n h h' => by have h : n < 17 := h; simp at h'; have e : n = 0 := (by omega); subst e; rfl) (by show 17 ≤ 17; simp) (by show 17 ≤ 17; simp) ok_Put ?_
  unfold Try.f17
  have g1 : K14b.f 27 [.agg [.int .i64 15, .int .i64 c]] = some (.bool true) := by
    have := K14b_version_Right (15, c) trivial
    have e : rightV ⟨15, c⟩ = true := by simp [rightV]; omega
    simp only at this
    rw [e] at this; exact this
  have g2 : X22a.f 28 [.str k] = some (.bool true) := by
    have := X22a_key_Right k (by omega)
    rw [decide_eq_true hk] at this; exact this
  have g3 := x22_find (l := E 14) (n := c) ⟨hr 14, by have := hl 14; omega, by omega⟩
  rw [hh] at g3
  obtain ⟨hp, _⟩ := (has_at (hr 14)).1 hh
  have e1 := en_get hp
  have e2 := setK_row hp k
  have e3 := setK_len hp k
  generalize hP : posE (E 14) c = P at *
  have q1 : (0 : Int) ≤ (P : Int) := by omega
  have q2 : (P : Int) < ((E 14).length : Int) := by omega
  have q3 : ((P : Nat) : Int).toNat = P := Int.toNat_natCast _
  have eu : ∀ j, j ≠ 14 → upd E 14 (setK (E 14) P k) j = E j := fun j hj => if_neg hj
  have e0 : upd E 14 (setK (E 14) P k) 14 = setK (E 14) P k := if_pos rfl
  unfold ixO
  simp only [e0, eu 0 (by decide), eu 1 (by decide), eu 2 (by decide), eu 3 (by decide), eu 4 (by decide), eu 5 (by decide), eu 6 (by decide), eu 7 (by decide), eu 8 (by decide), eu 9 (by decide), eu 10 (by decide), eu 11 (by decide), eu 12 (by decide), eu 13 (by decide), eu 15 (by decide)]
  rw [e3, ← e2]
  clear e2 e3 e0 eu
  generalize (E 14)[P].c = cc at *
  generalize (E 14)[P].k = kk at *
  simp -implicitDefEqProofs (maxSteps := 6000000) (disch := (first | omega | decide)) only [go_sem, ↓reduceIte, seval, g1, g2, g3, e1, q1, q2, q3, wrap_i64, List.length_map, Nat.zero_add, Nat.le_refl]
theorem h_Put_old16 (E : Nat → List En) (m c : Int) (k : List UInt8) (hr : RowsR E) (hl : ∀ i, (E i).length ≤ 1000) (hm : 0 ≤ m ∧ m ≤ 16000) (hc : 1 ≤ c ∧ c ≤ 1099511627776) (hk : 1 ≤ k.length ∧ k.length ≤ 16) (hh : hasE (E 15) c = true) :
    CallH Try.prog 17 [.ref 0 0, .agg [.int .i64 16, .int .i64 c], .str k] (ixO E m) (.bool true) (ixO (upd E 15 (setK (E 15) (posE (E 15) c) k)) m) [1, 2, 3, 4, 5, 6, 7, 8, 9, 10, 11, 12, 13, 14, 15, 16] := by
  refine callH_of_body XP_ok mixed Try.func17 rfl (Nat.le_of_ble_eq_true rfl) (fun n h h' => by have h : n < 17 := h; simp at h'; have e : n = 0 := (by omega); subst e; rfl) (by show 17 ≤ 17; simp) (by show 17 ≤ 17; simp) ok_Put ?_
  unfold Try.f17
  have g1 : K14b.f 27 [.agg [.int .i64 16, .int .i64 c]] = some (.bool true) := by
    have := K14b_version_Right (16, c) trivial
    have e : rightV ⟨16, c⟩ = true := by simp [rightV]; omega
    simp only at this
    rw [e] at this; exact this
  have g2 : X22a.f 28 [.str k] = some (.bool true) := by
    have := X22a_key_Right k (by omega)
    rw [decide_eq_true hk] at this; exact this
  have g3 := x22_find (l := E 15) (n := c) ⟨hr 15, by have := hl 15; omega, by omega⟩
  rw [hh] at g3
  obtain ⟨hp, _⟩ := (has_at (hr 15)).1 hh
  have e1 := en_get hp
  have e2 := setK_row hp k
  have e3 := setK_len hp k
  generalize hP : posE (E 15) c = P at *
  have q1 : (0 : Int) ≤ (P : Int) := by omega
  have q2 : (P : Int) < ((E 15).length : Int) := by omega
  have q3 : ((P : Nat) : Int).toNat = P := Int.toNat_natCast _
  have eu : ∀ j, j ≠ 15 → upd E 15 (setK (E 15) P k) j = E j := fun j hj => if_neg hj
  have e0 : upd E 15 (setK (E 15) P k) 15 = setK (E 15) P k := if_pos rfl
  unfold ixO
  simp only [e0, eu 0 (by decide), eu 1 (by decide), eu 2 (by decide), eu 3 (by decide), eu 4 (by decide), eu 5 (by decide), eu 6 (by decide), eu 7 (by decide), eu 8 (by decide), eu 9 (by decide), eu 10 (by decide), eu 11 (by decide), eu 12 (by decide), eu 13 (by decide), eu 14 (by decide)]
  rw [e3, ← e2]
  clear e2 e3 e0 eu
  generalize (E 15)[P].c = cc at *
  generalize (E 15)[P].k = kk at *
  simp -implicitDefEqProofs (maxSteps := 6000000) (disch := (first | omega | decide)) only [go_sem, ↓reduceIte, seval, g1, g2, g3, e1, q1, q2, q3, wrap_i64, List.length_map, Nat.zero_add, Nat.le_refl]
theorem h_Drop_has1 (E : Nat → List En) (m c : Int) (hr : RowsR E) (hl : ∀ i, (E i).length ≤ 1000) (hm : 0 ≤ m ∧ m ≤ 16000) (hc : 1 ≤ c ∧ c ≤ 1099511627776) (hh : hasE (E 0) c = true) :
    CallH Try.prog 18 [.ref 0 0, .agg [.int .i64 1, .int .i64 c]] (ixO E m) (.bool true) (ixO (upd E 0 (delI (E 0) (posE (E 0) c))) (m - 1)) [1, 2, 3, 4, 5, 6, 7, 8, 9, 10, 11, 12, 13, 14, 15, 16] := by
  refine callH_of_body XD_ok mixed Try.func18 rfl (Nat.le_of_ble_eq_true rfl) (fun n h h' => by have h : n < 17 := h; simp at h'; have e : n = 0 := (by omega); subst e; rfl) (by show 17 ≤ 17; simp) (by show 17 ≤ 17; simp) ok_Drop ?_
  unfold Try.f18
  have hrv : rightV ⟨1, c⟩ = true := by simp [rightV]; omega
  have g1 : X22g.f 26 [.dptr (ixC E m), .agg [.int .i64 1, .int .i64 c]] = some (.tup [.int .i64 (posE (E 0) c), .bool true]) := by
    have := x22_place (x := some (E, m)) (r := 1) (c := c) ⟨hr, hl⟩
    unfold ixH at this
    rw [hrv] at this
    simp only [if_pos, Bool.true_and] at this
    have e : hasE (ixE (some (E, m)) ((1 : Int) - 1).toNat) c = true := hh
    rw [e] at this
    exact this
  rw [ixC_16] at g1
  obtain ⟨hp, _⟩ := (has_at (hr 0)).1 hh
  have g4 := xd_delete (l := E 0) (i := posE (E 0) c) ⟨hp, by have := hl 0; omega⟩
  have hil : (delI (E 0) (posE (E 0) c)).length = (E 0).length - 1 := by unfold delI; rw [List.length_append, List.length_take, List.length_drop]; omega
  have hps := hl 0
  generalize hP : posE (E 0) c = P at *
  have q4 : IntKind.i64.wrap ((P : Int) + 1) = (P : Int) + 1 := by rw [wrap_i64 (by omega)]
  have q5 : IntKind.i64.wrap (m - 1) = m - 1 := by rw [wrap_i64 (by omega)]
  have eu : ∀ j, j ≠ 0 → upd E 0 (delI (E 0) P) j = E j := fun j hj => if_neg hj
  have e0 : upd E 0 (delI (E 0) P) 0 = delI (E 0) P := if_pos rfl
  unfold ixO
  simp only [e0, eu 1 (by decide), eu 2 (by decide), eu 3 (by decide), eu 4 (by decide), eu 5 (by decide), eu 6 (by decide), eu 7 (by decide), eu 8 (by decide), eu 9 (by decide), eu 10 (by decide), eu 11 (by decide), eu 12 (by decide), eu 13 (by decide), eu 14 (by decide), eu 15 (by decide)]
  rw [hil]
  generalize delI (E 0) P = L' at *
  simp -implicitDefEqProofs (maxSteps := 6000000) (disch := (first | omega | decide)) only [go_sem, ↓reduceIte, seval, g1, g4, q4, q5, wrap_i64, List.length_map, Nat.zero_add, Nat.le_refl]
theorem h_Drop_has2 (E : Nat → List En) (m c : Int) (hr : RowsR E) (hl : ∀ i, (E i).length ≤ 1000) (hm : 0 ≤ m ∧ m ≤ 16000) (hc : 1 ≤ c ∧ c ≤ 1099511627776) (hh : hasE (E 1) c = true) :
    CallH Try.prog 18 [.ref 0 0, .agg [.int .i64 2, .int .i64 c]] (ixO E m) (.bool true) (ixO (upd E 1 (delI (E 1) (posE (E 1) c))) (m - 1)) [1, 2, 3, 4, 5, 6, 7, 8, 9, 10, 11, 12, 13, 14, 15, 16] := by
  refine callH_of_body XD_ok mixed Try.func18 rfl (Nat.le_of_ble_eq_true rfl) (fun n h h' => by have h : n < 17 := h; simp at h'; have e : n = 0 := (by omega); subst e; rfl) (by show 17 ≤ 17; simp) (by show 17 ≤ 17; simp) ok_Drop ?_
  unfold Try.f18
  have hrv : rightV ⟨2, c⟩ = true := by simp [rightV]; omega
  have g1 : X22g.f 26 [.dptr (ixC E m), .agg [.int .i64 2, .int .i64 c]] = some (.tup [.int .i64 (posE (E 1) c), .bool true]) := by
    have := x22_place (x := some (E, m)) (r := 2) (c := c) ⟨hr, hl⟩
    unfold ixH at this
    rw [hrv] at this
    simp only [if_pos, Bool.true_and] at this
    have e : hasE (ixE (some (E, m)) ((2 : Int) - 1).toNat) c = true := hh
    rw [e] at this
    exact this
  rw [ixC_16] at g1
  obtain ⟨hp, _⟩ := (has_at (hr 1)).1 hh
  have g4 := xd_delete (l := E 1) (i := posE (E 1) c) ⟨hp, by have := hl 1; omega⟩
  have hil : (delI (E 1) (posE (E 1) c)).length = (E 1).length - 1 := by unfold delI; rw [List.length_append, List.length_take, List.length_drop]; omega
  have hps := hl 1
  generalize hP : posE (E 1) c = P at *
  have q4 : IntKind.i64.wrap ((P : Int) + 1) = (P : Int) + 1 := by rw [wrap_i64 (by omega)]
  have q5 : IntKind.i64.wrap (m - 1) = m - 1 := by rw [wrap_i64 (by omega)]
  have eu : ∀ j, j ≠ 1 → upd E 1 (delI (E 1) P) j = E j := fun j hj => if_neg hj
  have e0 : upd E 1 (delI (E 1) P) 1 = delI (E 1) P := if_pos rfl
  unfold ixO
  simp only [e0, eu 0 (by decide), eu 2 (by decide), eu 3 (by decide), eu 4 (by decide), eu 5 (by decide), eu 6 (by decide), eu 7 (by decide), eu 8 (by decide), eu 9 (by decide), eu 10 (by decide), eu 11 (by decide), eu 12 (by decide), eu 13 (by decide), eu 14 (by decide), eu 15 (by decide)]
  rw [hil]
  generalize delI (E 1) P = L' at *
  simp -implicitDefEqProofs (maxSteps := 6000000) (disch := (first | omega | decide)) only [go_sem, ↓reduceIte, seval, g1, g4, q4, q5, wrap_i64, List.length_map, Nat.zero_add, Nat.le_refl]
theorem h_Drop_has3 (E : Nat → List En) (m c : Int) (hr : RowsR E) (hl : ∀ i, (E i).length ≤ 1000) (hm : 0 ≤ m ∧ m ≤ 16000) (hc : 1 ≤ c ∧ c ≤ 1099511627776) (hh : hasE (E 2) c = true) :
    CallH Try.prog 18 [.ref 0 0, .agg [.int .i64 3, .int .i64 c]] (ixO E m) (.bool true) (ixO (upd E 2 (delI (E 2) (posE (E 2) c))) (m - 1)) [1, 2, 3, 4, 5, 6, 7, 8, 9, 10, 11, 12, 13, 14, 15, 16] := by
  refine callH_of_body XD_ok mixed Try.func18 rfl (Nat.le_of_ble_eq_true rfl) (fun n h h' => by have h : n < 17 := h; simp at h'; have e : n = 0 := (by omega); subst e; rfl) (by show 17 ≤ 17; simp) (by show 17 ≤ 17; simp) ok_Drop ?_
  unfold Try.f18
  have hrv : rightV ⟨3, c⟩ = true := by simp [rightV]; omega
  have g1 : X22g.f 26 [.dptr (ixC E m), .agg [.int .i64 3, .int .i64 c]] = some (.tup [.int .i64 (posE (E 2) c), .bool true]) := by
    have := x22_place (x := some (E, m)) (r := 3) (c := c) ⟨hr, hl⟩
    unfold ixH at this
    rw [hrv] at this
    simp only [if_pos, Bool.true_and] at this
    have e : hasE (ixE (some (E, m)) ((3 : Int) - 1).toNat) c = true := hh
    rw [e] at this
    exact this
  rw [ixC_16] at g1
  obtain ⟨hp, _⟩ := (has_at (hr 2)).1 hh
  have g4 := xd_delete (l := E 2) (i := posE (E 2) c) ⟨hp, by have := hl 2; omega⟩
  have hil : (delI (E 2) (posE (E 2) c)).length = (E 2).length - 1 := by unfold delI; rw [List.length_append, List.length_take, List.length_drop]; omega
  have hps := hl 2
  generalize hP : posE (E 2) c = P at *
  have q4 : IntKind.i64.wrap ((P : Int) + 1) = (P : Int) + 1 := by rw [wrap_i64 (by omega)]
  have q5 : IntKind.i64.wrap (m - 1) = m - 1 := by rw [wrap_i64 (by omega)]
  have eu : ∀ j, j ≠ 2 → upd E 2 (delI (E 2) P) j = E j := fun j hj => if_neg hj
  have e0 : upd E 2 (delI (E 2) P) 2 = delI (E 2) P := if_pos rfl
  unfold ixO
  simp only [e0, eu 0 (by decide), eu 1 (by decide), eu 3 (by decide), eu 4 (by decide), eu 5 (by decide), eu 6 (by decide), eu 7 (by decide), eu 8 (by decide), eu 9 (by decide), eu 10 (by decide), eu 11 (by decide), eu 12 (by decide), eu 13 (by decide), eu 14 (by decide), eu 15 (by decide)]
  rw [hil]
  generalize delI (E 2) P = L' at *
  simp -implicitDefEqProofs (maxSteps := 6000000) (disch := (first | omega | decide)) only [go_sem, ↓reduceIte, seval, g1, g4, q4, q5, wrap_i64, List.length_map, Nat.zero_add, Nat.le_refl]
theorem h_Drop_has4 (E : Nat → List En) (m c : Int) (hr : RowsR E) (hl : ∀ i, (E i).length ≤ 1000) (hm : 0 ≤ m ∧ m ≤ 16000) (hc : 1 ≤ c ∧ c ≤ 1099511627776) (hh : hasE (E 3) c = true) :
    CallH Try.prog 18 [.ref 0 0, .agg [.int .i64 4, .int .i64 c]] (ixO E m) (.bool true) (ixO (upd E 3 (delI (E 3) (posE (E 3) c))) (m - 1)) [1, 2, 3, 4, 5, 6, 7, 8, 9, 10, 11, 12, 13, 14, 15, 16] := by
  refine callH_of_body XD_ok mixed Try.func18 rfl (Nat.le_of_ble_eq_true rfl) (fun n h h' => by have h : n < 17 := h; simp at h'; have e : n = 0 := (by omega); subst e; rfl) (by show 17 ≤ 17; simp) (by show 17 ≤ 17; simp) ok_Drop ?_
  unfold Try.f18
  have hrv : rightV ⟨4, c⟩ = true := by simp [rightV]; omega
  have g1 : X22g.f 26 [.dptr (ixC E m), .agg [.int .i64 4, .int .i64 c]] = some (.tup [.int .i64 (posE (E 3) c), .bool true]) := by
    have := x22_place (x := some (E, m)) (r := 4) (c := c) ⟨hr, hl⟩
    unfold ixH at this
    rw [hrv] at this
    simp only [if_pos, Bool.true_and] at this
    have e : hasE (ixE (some (E, m)) ((4 : Int) - 1).toNat) c = true := hh
    rw [e] at this
    exact this
  rw [ixC_16] at g1
  obtain ⟨hp, _⟩ := (has_at (hr 3)).1 hh
  have g4 := xd_delete (l := E 3) (i := posE (E 3) c) ⟨hp, by have := hl 3; omega⟩
  have hil : (delI (E 3) (posE (E 3) c)).length = (E 3).length - 1 := by unfold delI; rw [List.length_append, List.length_take, List.length_drop]; omega
  have hps := hl 3
  generalize hP : posE (E 3) c = P at *
  have q4 : IntKind.i64.wrap ((P : Int) + 1) = (P : Int) + 1 := by rw [wrap_i64 (by omega)]
  have q5 : IntKind.i64.wrap (m - 1) = m - 1 := by rw [wrap_i64 (by omega)]
  have eu : ∀ j, j ≠ 3 → upd E 3 (delI (E 3) P) j = E j := fun j hj => if_neg hj
  have e0 : upd E 3 (delI (E 3) P) 3 = delI (E 3) P := if_pos rfl
  unfold ixO
  simp only [e0, eu 0 (by decide), eu 1 (by decide), eu 2 (by decide), eu 4 (by decide), eu 5 (by decide), eu 6 (by decide), eu 7 (by decide), eu 8 (by decide), eu 9 (by decide), eu 10 (by decide), eu 11 (by decide), eu 12 (by decide), eu 13 (by decide), eu 14 (by decide), eu 15 (by decide)]
  rw [hil]
  generalize delI (E 3) P = L' at *
  simp -implicitDefEqProofs (maxSteps := 6000000) (disch := (first | omega | decide)) only [go_sem, ↓reduceIte, seval, g1, g4, q4, q5, wrap_i64, List.length_map, Nat.zero_add, Nat.le_refl]
theorem h_Drop_has5 (E : Nat → List En) (m c : Int) (hr : RowsR E) (hl : ∀ i, (E i).length ≤ 1000) (hm : 0 ≤ m ∧ m ≤ 16000) (hc : 1 ≤ c ∧ c ≤ 1099511627776) (hh : hasE (E 4) c = true) :
    CallH Try.prog 18 [.ref 0 0, .agg [.int .i64 5, .int .i64 c]] (ixO E m) (.bool true) (ixO (upd E 4 (delI (E 4) (posE (E 4) c))) (m - 1)) [1, 2, 3, 4, 5, 6, 7, 8, 9, 10, 11, 12, 13, 14, 15, 16] := by
  refine callH_of_body XD_ok mixed Try.func18 rfl (Nat.le_of_ble_eq_true rfl) (fun n h h' => by have h : n < 17 := h; simp at h'; have e : n = 0 := (by omega); subst e; rfl) (by show 17 ≤ 17; simp) (by show 17 ≤ 17; simp) ok_Drop ?_
  unfold Try.f18
  have hrv : rightV ⟨5, c⟩ = true := by simp [rightV]; omega
  have g1 : X22g.f 26 [.dptr (ixC E m), .agg [.int .i64 5, .int .i64 c]] = some (.tup [.int .i64 (posE (E 4) c), .bool true]) := by
    have := x22_place (x := some (E, m)) (r := 5) (c := c) ⟨hr, hl⟩
    unfold ixH at this
    rw [hrv] at this
    simp only [if_pos, Bool.true_and] at this
    have e : hasE (ixE (some (E, m)) ((5 : Int) - 1).toNat) c = true := hh
    rw [e] at this
    exact this
  rw [ixC_16] at g1
  obtain ⟨hp, _⟩ := (has_at (hr 4)).1 hh
  have g4 := xd_delete (l := E 4) (i := posE (E 4) c) ⟨hp, by have := hl 4; omega⟩
  have hil : (delI (E 4) (posE (E 4) c)).length = (E 4).length - 1 := by unfold delI; rw [List.length_append, List.length_take, List.length_drop]; omega
  have hps := hl 4
  generalize hP : posE (E 4) c = P at *
  have q4 : IntKind.i64.wrap ((P : Int) + 1) = (P : Int) + 1 := by rw [wrap_i64 (by omega)]
  have q5 : IntKind.i64.wrap (m - 1) = m - 1 := by rw [wrap_i64 (by omega)]
  have eu : ∀ j, j ≠ 4 → upd E 4 (delI (E 4) P) j = E j := fun j hj => if_neg hj
  have e0 : upd E 4 (delI (E 4) P) 4 = delI (E 4) P := if_pos rfl
  unfold ixO
  simp only [e0, eu 0 (by decide), eu 1 (by decide), eu 2 (by decide), eu 3 (by decide), eu 5 (by decide), eu 6 (by decide), eu 7 (by decide), eu 8 (by decide), eu 9 (by decide), eu 10 (by decide), eu 11 (by decide), eu 12 (by decide), eu 13 (by decide), eu 14 (by decide), eu 15 (by decide)]
  rw [hil]
  generalize delI (E 4) P = L' at *
  simp -implicitDefEqProofs (maxSteps := 6000000) (disch := (first | omega | decide)) only [go_sem, ↓reduceIte, seval, g1, g4, q4, q5, wrap_i64, List.length_map, Nat.zero_add, Nat.le_refl]
theorem h_Drop_has6 (E : Nat → List En) (m c : Int) (hr : RowsR E) (hl : ∀ i, (E i).length ≤ 1000) (hm : 0 ≤ m ∧ m ≤ 16000) (hc : 1 ≤ c ∧ c ≤ 1099511627776) (hh : hasE (E 5) c = true) :
    CallH Try.prog 18 [.ref 0 0, .agg [.int .i64 6, .int .i64 c]] (ixO E m) (.bool true) (ixO (upd E 5 (delI (E 5) (posE (E 5) c))) (m - 1)) [1, 2, 3, 4, 5, 6, 7, 8, 9, 10, 11, 12, 13, 14, 15, 16] := by
  refine callH_of_body XD_ok mixed Try.func18 rfl (Nat.le_of_ble_eq_true rfl) (fun n h h' => by have h : n < 17 := h; simp at h'; have e : n = 0 := (by omega); subst e; rfl) (by show 17 ≤ 17; simp) (by show 17 ≤ 17; simp) ok_Drop ?_
  unfold Try.f18
  have hrv : rightV ⟨6, c⟩ = true := by simp [rightV]; omega
  have g1 : X22g.f 26 [.dptr (ixC E m), .agg [.int .i64 6, .int .i64 c]] = some (.tup [.int .i64 (posE (E 5) c), .bool true]) := by
    have := x22_place (x := some (E, m)) (r := 6) (c := c) ⟨hr, hl⟩
    unfold ixH at this
    rw [hrv] at this
    simp only [if_pos, Bool.true_and] at this
    have e : hasE (ixE (some (E, m)) ((6 : Int) - 1).toNat) c = true := hh
    rw [e] at this
    exact this
  rw [ixC_16] at g1
  obtain ⟨hp, _⟩ := (has_at (hr 5)).1 hh
  have g4 := xd_delete (l := E 5) (i := posE (E 5) c) ⟨hp, by have := hl 5; omega⟩
  have hil : (delI (E 5) (posE (E 5) c)).length = (E 5).length - 1 := by unfold delI; rw [List.length_append, List.length_take, List.length_drop]; omega
  have hps := hl 5
  generalize hP : posE (E 5) c = P at *
  have q4 : IntKind.i64.wrap ((P : Int) + 1) = (P : Int) + 1 := by rw [wrap_i64 (by omega)]
  have q5 : IntKind.i64.wrap (m - 1) = m - 1 := by rw [wrap_i64 (by omega)]
  have eu : ∀ j, j ≠ 5 → upd E 5 (delI (E 5) P) j = E j := fun j hj => if_neg hj
  have e0 : upd E 5 (delI (E 5) P) 5 = delI (E 5) P := if_pos rfl
  unfold ixO
  simp only [e0, eu 0 (by decide), eu 1 (by decide), eu 2 (by decide), eu 3 (by decide), eu 4 (by decide), eu 6 (by decide), eu 7 (by decide), eu 8 (by decide), eu 9 (by decide), eu 10 (by decide), eu 11 (by decide), eu 12 (by decide), eu 13 (by decide), eu 14 (by decide), eu 15 (by decide)]
  rw [hil]
  generalize delI (E 5) P = L' at *
  simp -implicitDefEqProofs (maxSteps := 6000000) (disch := (first | omega | decide)) only [go_sem, ↓reduceIte, seval, g1, g4, q4, q5, wrap_i64, List.length_map, Nat.zero_add, Nat.le_refl]
theorem h_Drop_has7 (E : Nat → List En) (m c : Int) (hr : RowsR E) (hl : ∀ i, (E i).length ≤ 1000) (hm : 0 ≤ m ∧ m ≤ 16000) (hc : 1 ≤ c ∧ c ≤ 1099511627776) (hh : hasE (E 6) c = true) :
    CallH Try.prog 18 [.ref 0 0, .agg [.int .i64 7, .int .i64 c]] (ixO E m) (.bool true) (ixO (upd E 6 (delI (E 6) (posE (E 6) c))) (m - 1)) [1, 2, 3, 4, 5, 6, 7, 8, 9, 10, 11, 12, 13, 14, 15, 16] := by
  refine callH_of_body XD_ok mixed Try.func18 rfl (Nat.le_of_ble_eq_true rfl) (fun n h h' => by have h : n < 17 := h; simp at h'; have e : n = 0 := (by omega); subst e; rfl) (by show 17 ≤ 17; simp) (by show 17 ≤ 17; simp) ok_Drop ?_
  unfold Try.f18
  have hrv : rightV ⟨7, c⟩ = true := by simp [rightV]; omega
  have g1 : X22g.f 26 [.dptr (ixC E m), .agg [.int .i64 7, .int .i64 c]] = some (.tup [.int .i64 (posE (E 6) c), .bool true]) := by
    have := x22_place (x := some (E, m)) (r := 7) (c := c) ⟨hr, hl⟩
    unfold ixH at this
    rw [hrv] at this
    simp only [if_pos, Bool.true_and] at this
    have e : hasE (ixE (some (E, m)) ((7 : Int) - 1).toNat) c = true := hh
    rw [e] at this
    exact this
  rw [ixC_16] at g1
  obtain ⟨hp, _⟩ := (has_at (hr 6)).1 hh
  have g4 := xd_delete (l := E 6) (i := posE (E 6) c) ⟨hp, by have := hl 6; omega⟩
  have hil : (delI (E 6) (posE (E 6) c)).length = (E 6).length - 1 := by unfold delI; rw [List.length_append, List.length_take, List.length_drop]; omega
  have hps := hl 6
  generalize hP : posE (E 6) c = P at *
  have q4 : IntKind.i64.wrap ((P : Int) + 1) = (P : Int) + 1 := by rw [wrap_i64 (by omega)]
  have q5 : IntKind.i64.wrap (m - 1) = m - 1 := by rw [wrap_i64 (by omega)]
  have eu : ∀ j, j ≠ 6 → upd E 6 (delI (E 6) P) j = E j := fun j hj => if_neg hj
  have e0 : upd E 6 (delI (E 6) P) 6 = delI (E 6) P := if_pos rfl
  unfold ixO
  simp only [e0, eu 0 (by decide), eu 1 (by decide), eu 2 (by decide), eu 3 (by decide), eu 4 (by decide), eu 5 (by decide), eu 7 (by decide), eu 8 (by decide), eu 9 (by decide), eu 10 (by decide), eu 11 (by decide), eu 12 (by decide), eu 13 (by decide), eu 14 (by decide), eu 15 (by decide)]
  rw [hil]
  generalize delI (E 6) P = L' at *
  simp -implicitDefEqProofs (maxSteps := 6000000) (disch := (first | omega | decide)) only [go_sem, ↓reduceIte, seval, g1, g4, q4, q5, wrap_i64, List.length_map, Nat.zero_add, Nat.le_refl]
theorem h_Drop_has8 (E : Nat → List En) (m c : Int) (hr : RowsR E) (hl : ∀ i, (E i).length ≤ 1000) (hm : 0 ≤ m ∧ m ≤ 16000) (hc : 1 ≤ c ∧ c ≤ 1099511627776) (hh : hasE (E 7) c = true) :
    CallH Try.prog 18 [.ref 0 0, .agg [.int .i64 8, .int .i64 c]] (ixO E m) (.bool true) (ixO (upd E 7 (delI (E 7) (posE (E 7) c))) (m - 1)) [1, 2, 3, 4, 5, 6, 7, 8, 9, 10, 11, 12, 13, 14, 15, 16] := by
  refine callH_of_body XD_ok mixed Try.func18 rfl (Nat.le_of_ble_eq_true rfl) (fun n h h' => by have h : n < 17 := h; simp at h'; have e : n = 0 := (by omega); subst e; rfl) (by show 17 ≤ 17; simp) (by show 17 ≤ 17; simp) ok_Drop ?_
  unfold Try.f18
  have hrv : rightV ⟨8, c⟩ = true := by simp [rightV]; omega
  have g1 : X22g.f 26 [.dptr (ixC E m), .agg [.int .i64 8, .int .i64 c]] = some (.tup [.int .i64 (posE (E 7) c), .bool true]) := by
    have := x22_place (x := some (E, m)) (r := 8) (c := c) ⟨hr, hl⟩
    unfold ixH at this
    rw [hrv] at this
    simp only [if_pos, Bool.true_and] at this
    have e : hasE (ixE (some (E, m)) ((8 : Int) - 1).toNat) c = true := hh
    rw [e] at this
    exact this
  rw [ixC_16] at g1
  obtain ⟨hp, _⟩ := (has_at (hr 7)).1 hh
  have g4 := xd_delete (l := E 7) (i := posE (E 7) c) ⟨hp, by have := hl 7; omega⟩
  have hil : (delI (E 7) (posE (E 7) c)).length = (E 7).length - 1 := by unfold delI; rw [List.length_append, List.length_take, List.length_drop]; omega
  have hps := hl 7
  generalize hP : posE (E 7) c = P at *
  have q4 : IntKind.i64.wrap ((P : Int) + 1) = (P : Int) + 1 := by rw [wrap_i64 (by omega)]
  have q5 : IntKind.i64.wrap (m - 1) = m - 1 := by rw [wrap_i64 (by omega)]
  have eu : ∀ j, j ≠ 7 → upd E 7 (delI (E 7) P) j = E j := fun j hj => if_neg hj
  have e0 : upd E 7 (delI (E 7) P) 7 = delI (E 7) P := if_pos rfl
  unfold ixO
  simp only [e0, eu 0 (by decide), eu 1 (by decide), eu 2 (by decide), eu 3 (by decide), eu 4 (by decide), eu 5 (by decide), eu 6 (by decide), eu 8 (by decide), eu 9 (by decide), eu 10 (by decide), eu 11 (by decide), eu 12 (by decide), eu 13 (by decide), eu 14 (by decide), eu 15 (by decide)]
  rw [hil]
  generalize delI (E 7) P = L' at *
  simp -implicitDefEqProofs (maxSteps := 6000000) (disch := (first | omega | decide)) only [go_sem, ↓reduceIte, seval, g1, g4, q4, q5, wrap_i64, List.length_map, Nat.zero_add, Nat.le_refl]
theorem h_Drop_has9 (E : Nat → List En) (m c : Int) (hr : RowsR E) (hl : ∀ i, (E i).length ≤ 1000) (hm : 0 ≤ m ∧ m ≤ 16000) (hc : 1 ≤ c ∧ c ≤ 1099511627776) (hh : hasE (E 8) c = true) :
    CallH Try.prog 18 [.ref 0 0, .agg [.int .i64 9, .int .i64 c]] (ixO E m) (.bool true) (ixO (upd E 8 (delI (E 8) (posE (E 8) c))) (m - 1)) [1, 2, 3, 4, 5, 6, 7, 8, 9, 10, 11, 12, 13, 14, 15, 16] := by
  refine callH_of_body XD_ok mixed Try.func18 rfl (Nat.le_of_ble_eq_true rfl) (fun n h h' => by have h : n < 17 := h; simp at h'; have e : n = 0 := (by omega); subst e; rfl) (by show 17 ≤ 17; simp) (by show 17 ≤ 17; simp) ok_Drop ?_
  unfold Try.f18
  have hrv : rightV ⟨9, c⟩ = true := by simp [rightV]; omega
  have g1 : X22g.f 26 [.dptr (ixC E m), .agg [.int .i64 9, .int .i64 c]] = some (.tup [.int .i64 (posE (E 8) c), .bool true]) := by
    have := x22_place (x := some (E, m)) (r := 9) (c := c) ⟨hr, hl⟩
    unfold ixH at this
    rw [hrv] at this
    simp only [if_pos, Bool.true_and] at this
    have e : hasE (ixE (some (E, m)) ((9 : Int) - 1).toNat) c = true := hh
    rw [e] at this
    exact this
  rw [ixC_16] at g1
  obtain ⟨hp, _⟩ := (has_at (hr 8)).1 hh
  have g4 := xd_delete (l := E 8) (i := posE (E 8) c) ⟨hp, by have := hl 8; omega⟩
  have hil : (delI (E 8) (posE (E 8) c)).length = (E 8).length - 1 := by unfold delI; rw [List.length_append, List.length_take, List.length_drop]; omega
  have hps := hl 8
  generalize hP : posE (E 8) c = P at *
  have q4 : IntKind.i64.wrap ((P : Int) + 1) = (P : Int) + 1 := by rw [wrap_i64 (by omega)]
  have q5 : IntKind.i64.wrap (m - 1) = m - 1 := by rw [wrap_i64 (by omega)]
  have eu : ∀ j, j ≠ 8 → upd E 8 (delI (E 8) P) j = E j := fun j hj => if_neg hj
  have e0 : upd E 8 (delI (E 8) P) 8 = delI (E 8) P := if_pos rfl
  unfold ixO
  simp only [e0, eu 0 (by decide), eu 1 (by decide), eu 2 (by decide), eu 3 (by decide), eu 4 (by decide), eu 5 (by decide), eu 6 (by decide), eu 7 (by decide), eu 9 (by decide), eu 10 (by decide), eu 11 (by decide), eu 12 (by decide), eu 13 (by decide), eu 14 (by decide), eu 15 (by decide)]
  rw [hil]
  generalize delI (E 8) P = L' at *
  simp -implicitDefEqProofs (maxSteps := 6000000) (disch := (first | omega | decide)) only [go_sem, ↓reduceIte, seval, g1, g4, q4, q5, wrap_i64, List.length_map, Nat.zero_add, Nat.le_refl]
theorem h_Drop_has10 (E : Nat → List En) (m c : Int) (hr : RowsR E) (hl : ∀ i, (E i).length ≤ 1000) (hm : 0 ≤ m ∧ m ≤ 16000) (hc : 1 ≤ c ∧ c ≤ 1099511627776) (hh : hasE (E 9) c = true) :
    CallH Try.prog 18 [.ref 0 0, .agg [.int .i64 10, .int .i64 c]] (ixO E m) (.bool true) (ixO (upd E 9 (delI (E 9) (posE (E 9) c))) (m - 1)) [1, 2, 3, 4, 5, 6, 7, 8, 9, 10, 11, 12, 13, 14, 15, 16] := by
  refine callH_of_body XD_ok mixed Try.func18 rfl (Nat.le_of_ble_eq_true rfl) (fun n h h' => by have h : n < 17 := h; simp at h'; have e : n = 0 := (by omega); subst e; rfl) (by show 17 ≤ 17; simp) (by show 17 ≤ 17; simp) ok_Drop ?_
  unfold Try.f18
  have hrv : rightV ⟨10, c⟩ = true := by simp [rightV]; omega
  have g1 : X22g.f 26 [.dptr (ixC E m), .agg [.int .i64 10, .int .i64 c]] = some (.tup [.int .i64 (posE (E 9) c), .bool true]) := by
    have := x22_place (x := some (E, m)) (r := 10) (c := c) ⟨hr, hl⟩
    unfold ixH at this
    rw [hrv] at this
    simp only [if_pos, Bool.true_and] at this
    have e : hasE (ixE (some (E, m)) ((10 : Int) - 1).toNat) c = true := hh
    rw [e] at this
    exact this
  rw [ixC_16] at g1
  obtain ⟨hp, _⟩ := (has_at (hr 9)).1 hh
  have g4 := xd_delete (l := E 9) (i := posE (E 9) c) ⟨hp, by have := hl 9; omega⟩
  have hil : (delI (E 9) (posE (E 9) c)).length = (E 9).length - 1 := by unfold delI; rw [List.length_append, List.length_take, List.length_drop]; omega
  have hps := hl 9
  generalize hP : posE (E 9) c = P at *
  have q4 : IntKind.i64.wrap ((P : Int) + 1) = (P : Int) + 1 := by rw [wrap_i64 (by omega)]
  have q5 : IntKind.i64.wrap (m - 1) = m - 1 := by rw [wrap_i64 (by omega)]
  have eu : ∀ j, j ≠ 9 → upd E 9 (delI (E 9) P) j = E j := fun j hj => if_neg hj
  have e0 : upd E 9 (delI (E 9) P) 9 = delI (E 9) P := if_pos rfl
  unfold ixO
  simp only [e0, eu 0 (by decide), eu 1 (by decide), eu 2 (by decide), eu 3 (by decide), eu 4 (by decide), eu 5 (by decide), eu 6 (by decide), eu 7 (by decide), eu 8 (by decide), eu 10 (by decide), eu 11 (by decide), eu 12 (by decide), eu 13 (by decide), eu 14 (by decide), eu 15 (by decide)]
  rw [hil]
  generalize delI (E 9) P = L' at *
  simp -implicitDefEqProofs (maxSteps := 6000000) (disch := (first | omega | decide)) only [go_sem, ↓reduceIte, seval, g1, g4, q4, q5, wrap_i64, List.length_map, Nat.zero_add, Nat.le_refl]
theorem h_Drop_has11 (E : Nat → List En) (m c : Int) (hr : RowsR E) (hl : ∀ i, (E i).length ≤ 1000) (hm : 0 ≤ m ∧ m ≤ 16000) (hc : 1 ≤ c ∧ c ≤ 1099511627776) (hh : hasE (E 10) c = true) :
    CallH Try.prog 18 [.ref 0 0, .agg [.int .i64 11, .int .i64 c]] (ixO E m) (.bool true) (ixO (upd E 10 (delI (E 10) (posE (E 10) c))) (m - 1)) [1, 2, 3, 4, 5, 6, 7, 8, 9, 10, 11, 12, 13, 14, 15, 16] := by
  refine callH_of_body XD_ok mixed Try.func18 rfl (Nat.le_of_ble_eq_true rfl) (fun n h h' => by have h : n < 17 := h; simp at h'; have e : n = 0 := (by omega); subst e; rfl) (by show 17 ≤ 17; simp) (by show 17 ≤ 17; simp) ok_Drop ?_
  unfold Try.f18
  have hrv : rightV ⟨11, c⟩ = true := by simp [rightV]; omega
  have g1 : X22g.f 26 [.dptr (ixC E m), .agg [.int .i64 11, .int .i64 c]] = some (.tup [.int .i64 (posE (E 10) c), .bool true]) := by
    have := x22_place (x := some (E, m)) (r := 11) (c := c) ⟨hr, hl⟩
    unfold ixH at this
    rw [hrv] at this
    simp only [if_pos, Bool.true_and] at this
    have e : hasE (ixE (some (E, m)) ((11 : Int) - 1).toNat) c = true := hh
    rw [e] at this
    exact this
  rw [ixC_16] at g1
  obtain ⟨hp, _⟩ := (has_at (hr 10)).1 hh
  have g4 := xd_delete (l := E 10) (i := posE (E 10) c) ⟨hp, by have := hl 10; omega⟩
  have hil : (delI (E 10) (posE (E 10) c)).length = (E 10).length - 1 := by unfold delI; rw [List.length_append, List.length_take, List.length_drop]; omega
  have hps := hl 10
  generalize hP : posE (E 10) c = P at *
  have q4 : IntKind.i64.wrap ((P : Int) + 1) = (P : Int) + 1 := by rw [wrap_i64 (by omega)]
  have q5 : IntKind.i64.wrap (m - 1) = m - 1 := by rw [wrap_i64 (by omega)]
  have eu : ∀ j, j ≠ 10 → upd E 10 (delI (E 10) P) j = E j := fun j hj => if_neg hj
  have e0 : upd E 10 (delI (E 10) P) 10 = delI (E 10) P := if_pos rfl
  unfold ixO
  simp only [e0, eu 0 (by decide), eu 1 (by decide), eu 2 (by decide), eu 3 (by decide), eu 4 (by decide), eu 5 (by decide), eu 6 (by decide), eu 7 (by decide), eu 8 (by decide), eu 9 (by decide), eu 11 (by decide), eu 12 (by decide), eu 13 (by decide), eu 14 (by decide), eu 15 (by decide)]
  rw [hil]
  generalize delI (E 10) P = L' at *
  simp -implicitDefEqProofs (maxSteps := 6000000) (disch := (first | omega | decide)) only [go_sem, ↓reduceIte, seval, g1, g4, q4, q5, wrap_i64, List.length_map, Nat.zero_add, Nat.le_refl]
theorem h_Drop_has12 (E : Nat → List En) (m c : Int) (hr : RowsR E) (hl : ∀ i, (E i).length ≤ 1000) (hm : 0 ≤ m ∧ m ≤ 16000) (hc : 1 ≤ c ∧ c ≤ 1099511627776) (hh : hasE (E 11) c = true) :
    CallH Try.prog 18 [.ref 0 0, .agg [.int .i64 12, .int .i64 c]] (ixO E m) (.bool true) (ixO (upd E 11 (delI (E 11) (posE (E 11) c))) (m - 1)) [1, 2, 3, 4, 5, 6, 7, 8, 9, 10, 11, 12, 13, 14, 15, 16] := by
  refine callH_of_body XD_ok mixed Try.func18 rfl (Nat.le_of_ble_eq_true rfl) (fun n h h' => by have h : n < 17 := h; simp at h'; have e : n = 0 := (by omega); subst e; rfl) (by show 17 ≤ 17; simp) (by show 17 ≤ 17; simp) ok_Drop ?_
  unfold Try.f18
  have hrv : rightV ⟨12, c⟩ = true := by simp [rightV]; omega
  have g1 : X22g.f 26 [.dptr (ixC E m), .agg [.int .i64 12, .int .i64 c]] = some (.tup [.int .i64 (posE (E 11) c), .bool true]) := by
    have := x22_place (x := some (E, m)) (r := 12) (c := c) ⟨hr, hl⟩
    unfold ixH at this
    rw [hrv] at this
    simp only [if_pos, Bool.true_and] at this
    have e : hasE (ixE (some (E, m)) ((12 : Int) - 1).toNat) c = true := hh
    rw [e] at this
    exact this
  rw [ixC_16] at g1
  obtain ⟨hp, _⟩ := (has_at (hr 11)).1 hh
  have g4 := xd_delete (l := E 11) (i := posE (E 11) c) ⟨hp, by have := hl 11; omega⟩
  have hil : (delI (E 11) (posE (E 11) c)).length = (E 11).length - 1 := by unfold delI; rw [List.length_append, List.length_take, List.length_drop]; omega
  have hps := hl 11
  generalize hP : posE (E 11) c = P at *
  have q4 : IntKind.i64.wrap ((P : Int) + 1) = (P : Int) + 1 := by rw [wrap_i64 (by omega)]
  have q5 : IntKind.i64.wrap (m - 1) = m - 1 := by rw [wrap_i64 (by omega)]
  have eu : ∀ j, j ≠ 11 → upd E 11 (delI (E 11) P) j = E j := fun j hj => if_neg hj
  have e0 : upd E 11 (delI (E 11) P) 11 = delI (E 11) P := if_pos rfl
  unfold ixO
  simp only [e0, eu 0 (by decide), eu 1 (by decide), eu 2 (by decide), eu 3 (by decide), eu 4 (by decide), eu 5 (by decide), eu 6 (by decide), eu 7 (by decide), eu 8 (by decide), eu 9 (by decide), eu 10 (by decide), eu 12 (by decide), eu 13 (by decide), eu 14 (by decide), eu 15 (by decide)]
  rw [hil]
  generalize delI (E 11) P = L' at *
  simp -implicitDefEqProofs (maxSteps := 6000000) (disch := (first | omega | decide)) only [go_sem, ↓reduceIte, seval, g1, g4, q4, q5, wrap_i64, List.length_map, Nat.zero_add, Nat.le_refl]
theorem h_Drop_has13 (E : Nat → List En) (m c : Int) (hr : RowsR E) (hl : ∀ i, (E i).length ≤ 1000) (hm : 0 ≤ m ∧ m ≤ 16000) (hc : 1 ≤ c ∧ c ≤ 1099511627776) (hh : hasE (E 12) c = true) :
    CallH Try.prog 18 [.ref 0 0, .agg [.int .i64 13, .int .i64 c]] (ixO E m) (.bool true) (ixO (upd E 12 (delI (E 12) (posE (E 12) c))) (m - 1)) [1, 2, 3, 4, 5, 6, 7, 8, 9, 10, 11, 12, 13, 14, 15, 16] := by
  refine callH_of_body XD_ok mixed Try.func18 rfl (Nat.le_of_ble_eq_true rfl) (fun n h h' => by have h : n < 17 := h; simp at h'; have e : n = 0 := (by omega); subst e; rfl) (by show 17 ≤ 17; simp) (by show 17 ≤ 17; simp) ok_Drop ?_
  unfold Try.f18
  have hrv : rightV ⟨13, c⟩ = true := by simp [rightV]; omega
  have g1 : X22g.f 26 [.dptr (ixC E m), .agg [.int .i64 13, .int .i64 c]] = some (.tup [.int .i64 (posE (E 12) c), .bool true]) := by
    have := x22_place (x := some (E, m)) (r := 13) (c := c) ⟨hr, hl⟩
    unfold ixH at this
    rw [hrv] at this
    simp only [if_pos, Bool.true_and] at this
    have e : hasE (ixE (some (E, m)) ((13 : Int) - 1).toNat) c = true := hh
    rw [e] at this
    exact this
  rw [ixC_16] at g1
  obtain ⟨hp, _⟩ := (has_at (hr 12)).1 hh
  have g4 := xd_delete (l := E 12) (i := posE (E 12) c) ⟨hp, by have := hl 12; omega⟩
  have hil : (delI (E 12) (posE (E 12) c)).length = (E 12).length - 1 := by unfold delI; rw [List.length_append, List.length_take, List.length_drop]; omega
  have hps := hl 12
  generalize hP : posE (E 12) c = P at *
  have q4 : IntKind.i64.wrap ((P : Int) + 1) = (P : Int) + 1 := by rw [wrap_i64 (by omega)]
  have q5 : IntKind.i64.wrap (m - 1) = m - 1 := by rw [wrap_i64 (by omega)]
  have eu : ∀ j, j ≠ 12 → upd E 12 (delI (E 12) P) j = E j := fun j hj => if_neg hj
  have e0 : upd E 12 (delI (E 12) P) 12 = delI (E 12) P := if_pos rfl
  unfold ixO
  simp only [e0, eu 0 (by decide), eu 1 (by decide), eu 2 (by decide), eu 3 (by decide), eu 4 (by decide), eu 5 (by decide), eu 6 (by decide), eu 7 (by decide), eu 8 (by decide), eu 9 (by decide), eu 10 (by decide), eu 11 (by decide), eu 13 (by decide), eu 14 (by decide), eu 15 (by decide)]
  rw [hil]
  generalize delI (E 12) P = L' at *
  simp -implicitDefEqProofs (maxSteps := 6000000) (disch := (first | omega | decide)) only [go_sem, ↓reduceIte, seval, g1, g4, q4, q5, wrap_i64, List.length_map, Nat.zero_add, Nat.le_refl]
theorem h_Drop_has14 (E : Nat → List En) (m c : Int) (hr : RowsR E) (hl : ∀ i, (E i).length ≤ 1000) (hm : 0 ≤ m ∧ m ≤ 16000) (hc : 1 ≤ c ∧ c ≤ 1099511627776) (hh : hasE (E 13) c = true) :
    CallH Try.prog 18 [.ref 0 0, .agg [.int .i64 14, .int .i64 c]] (ixO E m) (.bool true) (ixO (upd E 13 (delI (E 13) (posE (E 13) c))) (m - 1)) [1, 2, 3, 4, 5, 6, 7, 8, 9, 10, 11, 12, 13, 14, 15, 16] := by
  refine callH_of_body XD_ok mixed Try.func18 rfl (Nat.le_of_ble_eq_true rfl) (fun n h h' => by have h : n < 17 := h; simp at h'; have e : n = 0 := (by omega); subst e; rfl) (by show 17 ≤ 17; simp) (by show 17 ≤ 17; simp) ok_Drop ?_
  unfold Try.f18
  have hrv : rightV ⟨14, c⟩ = true := by simp [rightV]; omega
  have g1 : X22g.f 26 [.dptr (ixC E m), .agg [.int .i64 14, .int .i64 c]] = some (.tup [.int .i64 (posE (E 13) c), .bool true]) := by
    have := x22_place (x := some (E, m)) (r := 14) (c := c) ⟨hr, hl⟩
    unfold ixH at this
    rw [hrv] at this
    simp only [if_pos, Bool.true_and] at this
    have e : hasE (ixE (some (E, m)) ((14 : Int) - 1).toNat) c = true := hh
    rw [e] at this
    exact this
  rw [ixC_16] at g1
  obtain ⟨hp, _⟩ := (has_at (hr 13)).1 hh
  have g4 := xd_delete (l := E 13) (i := posE (E 13) c) ⟨hp, by have := hl 13; omega⟩
  have hil : (delI (E 13) (posE (E 13) c)).length = (E 13).length - 1 := by unfold delI; rw [List.length_append, List.length_take, List.length_drop]; omega
  have hps := hl 13
  generalize hP : posE (E 13) c = P at *
  have q4 : IntKind.i64.wrap ((P : Int) + 1) = (P : Int) + 1 := by rw [wrap_i64 (by omega)]
  have q5 : IntKind.i64.wrap (m - 1) = m - 1 := by rw [wrap_i64 (by omega)]
  have eu : ∀ j, j ≠ 13 → upd E 13 (delI (E 13) P) j = E j := fun j hj => if_neg hj
  have e0 : upd E 13 (delI (E 13) P) 13 = delI (E 13) P := if_pos rfl
  unfold ixO
  simp only [e0, eu 0 (by decide), eu 1 (by decide), eu 2 (by decide), eu 3 (by decide), eu 4 (by decide), eu 5 (by decide), eu 6 (by decide), eu 7 (by decide), eu 8 (by decide), eu 9 (by decide), eu 10 (by decide), eu 11 (by decide), eu 12 (by decide), eu 14 (by decide), eu 15 (by decide)]
  rw [hil]
  generalize delI (E 13) P = L' at *
  simp -implicitDefEqProofs (maxSteps := 6000000) (disch := (first | omega | decide)) only [go_sem, ↓reduceIte, seval, g1, g4, q4, q5, wrap_i64, List.length_map, Nat.zero_add, Nat.le_refl]
theorem h_Drop_has15 (E : Nat → List En) (m c : Int) (hr : RowsR E) (hl : ∀ i, (E i).length ≤ 1000) (hm : 0 ≤ m ∧ m ≤ 16000) (hc : 1 ≤ c ∧ c ≤ 1099511627776) (hh : hasE (E 14) c = true) :
    CallH Try.prog 18 [.ref 0 0, .agg [.int .i64 15, .int .i64 c]] (ixO E m) (.bool true) (ixO (upd E 14 (delI (E 14) (posE (E 14) c))) (m - 1)) [1, 2, 3, 4, 5, 6, 7, 8, 9, 10, 11, 12, 13, 14, 15, 16] := by
  refine callH_of_body XD_ok mixed Try.func18 rfl (Nat.le_of_ble_eq_true rfl) (fun n h h' => by have h : n < 17 := h; simp at h'; have e : n = 0 := (by omega); subst e; rfl) (by show 17 ≤ 17; simp) (by show 17 ≤ 17; simp) ok_Drop ?_
  unfold Try.f18
  have hrv : rightV ⟨15, c⟩ = true := by simp [rightV]; omega
  have g1 : X22g.f 26 [.dptr (ixC E m), .agg [.int .i64 15, .int .i64 c]] = some (.tup [.int .i64 (posE (E 14) c), .bool true]) := by
    have := x22_place (x := some (E, m)) (r := 15) (c := c) ⟨hr, hl⟩
    unfold ixH at this
    rw [hrv] at this
    simp only [if_pos, Bool.true_and] at this
    have e : hasE (ixE (some (E, m)) ((15 : Int) - 1).toNat) c = true := hh
    rw [e] at this
    exact this
  rw [ixC_16] at g1
  obtain ⟨hp, _⟩ := (has_at (hr 14)).1 hh
  have g4 := xd_delete (l := E 14) (i := posE (E 14) c) ⟨hp, by have := hl 14; omega⟩
  have hil : (delI (E 14) (posE (E 14) c)).length = (E 14).length - 1 := by unfold delI; rw [List.length_append, List.length_take, List.length_drop]; omega
  have hps := hl 14
  generalize hP : posE (E 14) c = P at *
  have q4 : IntKind.i64.wrap ((P : Int) + 1) = (P : Int) + 1 := by rw [wrap_i64 (by omega)]
  have q5 : IntKind.i64.wrap (m - 1) = m - 1 := by rw [wrap_i64 (by omega)]
  have eu : ∀ j, j ≠ 14 → upd E 14 (delI (E 14) P) j = E j := fun j hj => if_neg hj
  have e0 : upd E 14 (delI (E 14) P) 14 = delI (E 14) P := if_pos rfl
  unfold ixO
  simp only [e0, eu 0 (by decide), eu 1 (by decide), eu 2 (by decide), eu 3 (by decide), eu 4 (by decide), eu 5 (by decide), eu 6 (by decide), eu 7 (by decide), eu 8 (by decide), eu 9 (by decide), eu 10 (by decide), eu 11 (by decide), eu 12 (by decide), eu 13 (by decide), eu 15 (by decide)]
  rw [hil]
  generalize delI (E 14) P = L' at *
  simp -implicitDefEqProofs (maxSteps := 6000000) (disch := (first | omega | decide)) only [go_sem, ↓reduceIte, seval, g1, g4, q4, q5, wrap_i64, List.length_map, Nat.zero_add, Nat.le_refl]
theorem h_Drop_has16 (E : Nat → List En) (m c : Int) (hr : RowsR E) (hl : ∀ i, (E i).length ≤ 1000) (hm : 0 ≤ m ∧ m ≤ 16000) (hc : 1 ≤ c ∧ c ≤ 1099511627776) (hh : hasE (E 15) c = true) :
    CallH Try.prog 18 [.ref 0 0, .agg [.int .i64 16, .int .i64 c]] (ixO E m) (.bool true) (ixO (upd E 15 (delI (E 15) (posE (E 15) c))) (m - 1)) [1, 2, 3, 4, 5, 6, 7, 8, 9, 10, 11, 12, 13, 14, 15, 16] := by
  refine callH_of_body XD_ok mixed Try.func18 rfl (Nat.le_of_ble_eq_true rfl) (fun n h h' => by have h : n < 17 := h; simp at h'; have e : n = 0 := (by omega); subst e; rfl) (by show 17 ≤ 17; simp) (by show 17 ≤ 17; simp) ok_Drop ?_
  unfold Try.f18
  have hrv : rightV ⟨16, c⟩ = true := by simp [rightV]; omega
  have g1 : X22g.f 26 [.dptr (ixC E m), .agg [.int .i64 16, .int .i64 c]] = some (.tup [.int .i64 (posE (E 15) c), .bool true]) := by
    have := x22_place (x := some (E, m)) (r := 16) (c := c) ⟨hr, hl⟩
    unfold ixH at this
    rw [hrv] at this
    simp only [if_pos, Bool.true_and] at this
    have e : hasE (ixE (some (E, m)) ((16 : Int) - 1).toNat) c = true := hh
    rw [e] at this
    exact this
  rw [ixC_16] at g1
  obtain ⟨hp, _⟩ := (has_at (hr 15)).1 hh
  have g4 := xd_delete (l := E 15) (i := posE (E 15) c) ⟨hp, by have := hl 15; omega⟩
  have hil : (delI (E 15) (posE (E 15) c)).length = (E 15).length - 1 := by unfold delI; rw [List.length_append, List.length_take, List.length_drop]; omega
  have hps := hl 15
  generalize hP : posE (E 15) c = P at *
  have q4 : IntKind.i64.wrap ((P : Int) + 1) = (P : Int) + 1 := by rw [wrap_i64 (by omega)]
  have q5 : IntKind.i64.wrap (m - 1) = m - 1 := by rw [wrap_i64 (by omega)]
  have eu : ∀ j, j ≠ 15 → upd E 15 (delI (E 15) P) j = E j := fun j hj => if_neg hj
  have e0 : upd E 15 (delI (E 15) P) 15 = delI (E 15) P := if_pos rfl
  unfold ixO
  simp only [e0, eu 0 (by decide), eu 1 (by decide), eu 2 (by decide), eu 3 (by decide), eu 4 (by decide), eu 5 (by decide), eu 6 (by decide), eu 7 (by decide), eu 8 (by decide), eu 9 (by decide), eu 10 (by decide), eu 11 (by decide), eu 12 (by decide), eu 13 (by decide), eu 14 (by decide)]
  rw [hil]
  generalize delI (E 15) P = L' at *
  simp -implicitDefEqProofs (maxSteps := 6000000) (disch := (first | omega | decide)) only [go_sem, ↓reduceIte, seval, g1, g4, q4, q5, wrap_i64, List.length_map, Nat.zero_add, Nat.le_refl]
set_option maxHeartbeats 16000000
def S16 : List Nat := [1, 2, 3, 4, 5, 6, 7, 8, 9, 10, 11, 12, 13, 14, 15, 16]
theorem sum_upd (E : Nat → List En) (i : Nat) (es : List En) : ∀ n, ((List.range n).map fun j => (upd E i es j).length).sum + (if i < n then (E i).length else 0) = ((List.range n).map fun j => (E j).length).sum + (if i < n then es.length else 0)
  | 0 => by simp
  | n + 1 => by
    have ih := sum_upd E i es n
    rw [List.range_succ, List.map_append, List.map_append, List.sum_append, List.sum_append]
    simp only [List.map_cons, List.map_nil, List.sum_cons, List.sum_nil, Nat.add_zero]
    by_cases h : i = n
    · subst h
      rw [if_neg (by omega)] at ih
      rw [if_neg (by omega)] at ih
      have e : upd E i es i = es := if_pos rfl
      rw [if_pos (by omega), if_pos (by omega), e]; omega
    · have e : upd E i es n = E n := if_neg (fun h' => h h'.symm)
      rw [e]
      by_cases h2 : i < n
      · rw [if_pos h2, if_pos h2] at ih
        rw [if_pos (by omega), if_pos (by omega)]; omega
      · rw [if_neg h2, if_neg h2] at ih
        rw [if_neg (by omega), if_neg (by omega)]; omega
theorem flat_upd (E : Nat → List En) {i : Nat} (es : List En) (hi : i < 16) : (flatE (upd E i es)).length + (E i).length = (flatE E).length + es.length := by
  have := sum_upd E i es 16
  rw [if_pos hi, if_pos hi, ← flat_len, ← flat_len] at this
  exact this
def mL (E : Nat → List En) : Int := ((flatE E).length : Int)
theorem flatE_congr {E E' : Nat → List En} (h : ∀ i, i < 16 → E i = E' i) : flatE E = flatE E' := by
  unfold flatE
  rw [List.flatMap_def, List.flatMap_def]
  congr 1
  apply List.map_congr_left
  intro i hi
  rw [h i (List.mem_range.1 hi)]
theorem ixO_congr {E E' : Nat → List En} (h : ∀ i, i < 16 → E i = E' i) (m : Int) : ixO E m = ixO E' m := by
  unfold ixO
  rw [h 0 (by decide), h 1 (by decide), h 2 (by decide), h 3 (by decide), h 4 (by decide), h 5 (by decide), h 6 (by decide), h 7 (by decide), h 8 (by decide), h 9 (by decide), h 10 (by decide), h 11 (by decide), h 12 (by decide), h 13 (by decide), h 14 (by decide), h 15 (by decide)]
theorem ixO_inj {E E' : Nat → List En} {m m' : Int} (h : ixO E m = ixO E' m') : (∀ i, i < 16 → E i = E' i) ∧ m = m' := by
  have hn : ∀ i, i < 16 → nthO (ixO E m) (i + 1) = some (.row 2 ((E i).map En.enc)) := fun i hi => by
    have : i = 0 ∨ i = 1 ∨ i = 2 ∨ i = 3 ∨ i = 4 ∨ i = 5 ∨ i = 6 ∨ i = 7 ∨ i = 8 ∨ i = 9 ∨ i = 10 ∨ i = 11 ∨ i = 12 ∨ i = 13 ∨ i = 14 ∨ i = 15 := by omega
    rcases this with rfl | rfl | rfl | rfl | rfl | rfl | rfl | rfl | rfl | rfl | rfl | rfl | rfl | rfl | rfl | rfl <;> rfl
  have hn' : ∀ i, i < 16 → nthO (ixO E' m') (i + 1) = some (.row 2 ((E' i).map En.enc)) := fun i hi => by
    have : i = 0 ∨ i = 1 ∨ i = 2 ∨ i = 3 ∨ i = 4 ∨ i = 5 ∨ i = 6 ∨ i = 7 ∨ i = 8 ∨ i = 9 ∨ i = 10 ∨ i = 11 ∨ i = 12 ∨ i = 13 ∨ i = 14 ∨ i = 15 := by omega
    rcases this with rfl | rfl | rfl | rfl | rfl | rfl | rfl | rfl | rfl | rfl | rfl | rfl | rfl | rfl | rfl | rfl <;> rfl
  refine ⟨fun i hi => ?_, ?_⟩
  · have h1 := hn i hi
    rw [h, hn' i hi] at h1
    simpa using h1.symm
  · have h0 := congrArg (fun H => nthO H 0) h
    simp only [ixO, nthO, Option.some.injEq, Go.Abs.Obj.box.injEq, List.cons.injEq] at h0
    have := h0.2.2.2.2.2.2.2.2.2.2.2.2.2.2.2.2.1
    simpa using this
theorem upd_len {E : Nat → List En} {i : Nat} {es : List En} {n : Nat} (h : ∀ i, (E i).length ≤ n) (he : es.length ≤ n) : ∀ j, (upd E i es j).length ≤ n := fun j => by
  unfold upd
  split
  · exact he
  · exact h j
def putX (E : Nat → List En) (r c : Int) (k : List UInt8) : Nat → List En := if mayT r c k = true then upd E (r - 1).toNat (putE (E (r - 1).toNat) c k) else E
def dropX (E : Nat → List En) (r c : Int) : Nat → List En := if rightV ⟨r, c⟩ = true then upd E (r - 1).toNat (delE (E (r - 1).toNat) c) else E
theorem rep16 {r : Int} (h : 1 ≤ r ∧ r ≤ 16) : r = 1 ∨ r = 2 ∨ r = 3 ∨ r = 4 ∨ r = 5 ∨ r = 6 ∨ r = 7 ∨ r = 8 ∨ r = 9 ∨ r = 10 ∨ r = 11 ∨ r = 12 ∨ r = 13 ∨ r = 14 ∨ r = 15 ∨ r = 16 := by omega
theorem h_Put_new (E : Nat → List En) (m r c : Int) (k : List UInt8) (hr : RowsR E) (hl : ∀ i, (E i).length ≤ 1000) (hm : 0 ≤ m ∧ m ≤ 16000) (h1 : 1 ≤ r ∧ r ≤ 16) (hc : 1 ≤ c ∧ c ≤ 1099511627776) (hk : 1 ≤ k.length ∧ k.length ≤ 16) (hh : hasE (E (r - 1).toNat) c = false) :
    CallH Try.prog 17 [.ref 0 0, .agg [.int .i64 r, .int .i64 c], .str k] (ixO E m) (.bool true) (ixO (upd E (r - 1).toNat (insE (E (r - 1).toNat) (posE (E (r - 1).toNat) c) ⟨c, k⟩)) (m + 1)) S16 := by
  rcases rep16 h1 with rfl | rfl | rfl | rfl | rfl | rfl | rfl | rfl | rfl | rfl | rfl | rfl | rfl | rfl | rfl | rfl
  · exact h_Put_new1 E m c k hr hl hm hc hk hh
  · exact h_Put_new2 E m c k hr hl hm hc hk hh
  · exact h_Put_new3 E m c k hr hl hm hc hk hh
  · exact h_Put_new4 E m c k hr hl hm hc hk hh
  · exact h_Put_new5 E m c k hr hl hm hc hk hh
  · exact h_Put_new6 E m c k hr hl hm hc hk hh
  · exact h_Put_new7 E m c k hr hl hm hc hk hh
  · exact h_Put_new8 E m c k hr hl hm hc hk hh
  · exact h_Put_new9 E m c k hr hl hm hc hk hh
  · exact h_Put_new10 E m c k hr hl hm hc hk hh
  · exact h_Put_new11 E m c k hr hl hm hc hk hh
  · exact h_Put_new12 E m c k hr hl hm hc hk hh
  · exact h_Put_new13 E m c k hr hl hm hc hk hh
  · exact h_Put_new14 E m c k hr hl hm hc hk hh
  · exact h_Put_new15 E m c k hr hl hm hc hk hh
  · exact h_Put_new16 E m c k hr hl hm hc hk hh
theorem h_Put_old (E : Nat → List En) (m r c : Int) (k : List UInt8) (hr : RowsR E) (hl : ∀ i, (E i).length ≤ 1000) (hm : 0 ≤ m ∧ m ≤ 16000) (h1 : 1 ≤ r ∧ r ≤ 16) (hc : 1 ≤ c ∧ c ≤ 1099511627776) (hk : 1 ≤ k.length ∧ k.length ≤ 16) (hh : hasE (E (r - 1).toNat) c = true) :
    CallH Try.prog 17 [.ref 0 0, .agg [.int .i64 r, .int .i64 c], .str k] (ixO E m) (.bool true) (ixO (upd E (r - 1).toNat (setK (E (r - 1).toNat) (posE (E (r - 1).toNat) c) k)) m) S16 := by
  rcases rep16 h1 with rfl | rfl | rfl | rfl | rfl | rfl | rfl | rfl | rfl | rfl | rfl | rfl | rfl | rfl | rfl | rfl
  · exact h_Put_old1 E m c k hr hl hm hc hk hh
  · exact h_Put_old2 E m c k hr hl hm hc hk hh
  · exact h_Put_old3 E m c k hr hl hm hc hk hh
  · exact h_Put_old4 E m c k hr hl hm hc hk hh
  · exact h_Put_old5 E m c k hr hl hm hc hk hh
  · exact h_Put_old6 E m c k hr hl hm hc hk hh
  · exact h_Put_old7 E m c k hr hl hm hc hk hh
  · exact h_Put_old8 E m c k hr hl hm hc hk hh
  · exact h_Put_old9 E m c k hr hl hm hc hk hh
  · exact h_Put_old10 E m c k hr hl hm hc hk hh
  · exact h_Put_old11 E m c k hr hl hm hc hk hh
  · exact h_Put_old12 E m c k hr hl hm hc hk hh
  · exact h_Put_old13 E m c k hr hl hm hc hk hh
  · exact h_Put_old14 E m c k hr hl hm hc hk hh
  · exact h_Put_old15 E m c k hr hl hm hc hk hh
  · exact h_Put_old16 E m c k hr hl hm hc hk hh
theorem h_Drop_has (E : Nat → List En) (m r c : Int) (hr : RowsR E) (hl : ∀ i, (E i).length ≤ 1000) (hm : 0 ≤ m ∧ m ≤ 16000) (h1 : 1 ≤ r ∧ r ≤ 16) (hc : 1 ≤ c ∧ c ≤ 1099511627776) (hh : hasE (E (r - 1).toNat) c = true) :
    CallH Try.prog 18 [.ref 0 0, .agg [.int .i64 r, .int .i64 c]] (ixO E m) (.bool true) (ixO (upd E (r - 1).toNat (delI (E (r - 1).toNat) (posE (E (r - 1).toNat) c))) (m - 1)) S16 := by
  rcases rep16 h1 with rfl | rfl | rfl | rfl | rfl | rfl | rfl | rfl | rfl | rfl | rfl | rfl | rfl | rfl | rfl | rfl
  · exact h_Drop_has1 E m c hr hl hm hc hh
  · exact h_Drop_has2 E m c hr hl hm hc hh
  · exact h_Drop_has3 E m c hr hl hm hc hh
  · exact h_Drop_has4 E m c hr hl hm hc hh
  · exact h_Drop_has5 E m c hr hl hm hc hh
  · exact h_Drop_has6 E m c hr hl hm hc hh
  · exact h_Drop_has7 E m c hr hl hm hc hh
  · exact h_Drop_has8 E m c hr hl hm hc hh
  · exact h_Drop_has9 E m c hr hl hm hc hh
  · exact h_Drop_has10 E m c hr hl hm hc hh
  · exact h_Drop_has11 E m c hr hl hm hc hh
  · exact h_Drop_has12 E m c hr hl hm hc hh
  · exact h_Drop_has13 E m c hr hl hm hc hh
  · exact h_Drop_has14 E m c hr hl hm hc hh
  · exact h_Drop_has15 E m c hr hl hm hc hh
  · exact h_Drop_has16 E m c hr hl hm hc hh
theorem putE_len {es : List En} {n : Int} {k : List UInt8} (h : RowR es) : (putE es n k).length = es.length + (if hasE es n = true then 0 else 1) := by
  unfold putE
  cases hh : hasE es n with
  | true =>
    rw [if_pos rfl, if_pos rfl]
    obtain ⟨hp, _⟩ := (has_at h).1 hh
    rw [setK_len hp]; rfl
  | false =>
    simp only [Bool.false_eq_true, if_false]
    have := pos_le es n
    unfold insE
    rw [List.length_append, List.length_cons, List.length_take, List.length_drop]; omega
theorem mL_put {E : Nat → List En} (hr : RowsR E) {i : Nat} (hi : i < 16) (c : Int) (k : List UInt8) : mL (upd E i (putE (E i) c k)) = mL E + (if hasE (E i) c = true then 0 else 1) := by
  have h1 := flat_upd E (putE (E i) c k) hi
  have h2 := putE_len (n := c) (k := k) (hr i)
  unfold mL
  split <;> rename_i hh
  · rw [if_pos hh] at h2; omega
  · rw [if_neg hh] at h2; omega
theorem delI_del {es : List En} {n : Int} (h : RowR es) (hh : hasE es n = true) : delI es (posE es n) = delE es n := (del_at h hh).symm
theorem mL_del {E : Nat → List En} (hr : RowsR E) {i : Nat} (hi : i < 16) {c : Int} (hh : hasE (E i) c = true) : mL (upd E i (delE (E i) c)) = mL E - 1 := by
  have h1 := flat_upd E (delE (E i) c) hi
  obtain ⟨hp, _⟩ := (has_at (hr i)).1 hh
  have h2 : (delE (E i) c).length + 1 = (E i).length := by
    rw [← delI_del (hr i) hh]
    unfold delI
    rw [List.length_append, List.length_take, List.length_drop]; omega
  unfold mL; omega
theorem upd_self (E : Nat → List En) (i : Nat) : upd E i (E i) = E := by
  funext j
  unfold upd
  split
  · rename_i h; rw [h]
  · rfl
theorem h_PutX (E : Nat → List En) (r c : Int) (k : List UInt8) (hr : RowsR E) (hl : ∀ i, (E i).length ≤ 1000) (hk : k.length ≤ 9223372036854775807) :
    CallH Try.prog 17 [.ref 0 0, .agg [.int .i64 r, .int .i64 c], .str k] (ixO E (mL E)) (.bool (mayT r c k)) (ixO (putX E r c k) (mL (putX E r c k))) S16 := by
  have hm : 0 ≤ mL E ∧ mL E ≤ 16000 := by
    unfold mL
    rw [flat_len]
    refine ⟨by omega, ?_⟩
    have : ∀ n, ((List.range n).map fun i => (E i).length).sum ≤ n * 1000 := fun n => by
      induction n with
      | zero => simp
      | succ n ih =>
        rw [List.range_succ, List.map_append, List.sum_append]
        have := hl n
        simp; omega
    have := this 16
    omega
  unfold putX
  cases hy : mayT r c k with
  | false => exact h_Put_no E (mL E) r c k hk hy
  | true =>
    rw [if_pos rfl]
    have hy2 := hy
    unfold mayT at hy2
    rw [Bool.and_eq_true, decide_eq_true_iff] at hy2
    obtain ⟨hv, hk2⟩ := hy2
    obtain ⟨h1, h2⟩ := rightV_iff.1 hv
    have hi : (r - 1).toNat < 16 := by omega
    rw [mL_put hr hi]
    cases hh : hasE (E (r - 1).toNat) c with
    | true =>
      have e : putE (E (r - 1).toNat) c k = setK (E (r - 1).toNat) (posE (E (r - 1).toNat) c) k := if_pos hh
      rw [e, if_pos rfl, Int.add_zero]
      exact h_Put_old E (mL E) r c k hr hl hm h1 h2 hk2 hh
    | false =>
      have e : putE (E (r - 1).toNat) c k = insE (E (r - 1).toNat) (posE (E (r - 1).toNat) c) ⟨c, k⟩ := if_neg (by rw [hh]; simp)
      rw [e, if_neg (by simp)]
      exact h_Put_new E (mL E) r c k hr hl hm h1 h2 hk2 hh
end Go.Proofs.Yteconeampdidaaa
