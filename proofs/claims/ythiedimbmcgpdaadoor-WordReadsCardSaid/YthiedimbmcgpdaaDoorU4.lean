/- What the laws of this claim rest on: the abstract executor, its soundness, and what the functions compute on pure data. No condition. -/
import Derived.Test.YthiedimbmcgpdaaDoorU3
set_option linter.unusedVariables false
set_option linter.unusedSimpArgs false
namespace Go.Proofs.YthiedimbmcgpdaaDoor
open Go.Abs
set_option linter.unusedSimpArgs false
set_option linter.unusedVariables false
set_option maxRecDepth 20000
set_option maxHeartbeats 8000000
def digI (c : UInt8) : Int := if digB c < 16 then (digB c : Int) else -1
theorem t5_index (c : UInt8) : T5a.f 40 [.str digitsL, .int .u8 (c.toNat : Int)] = some (.int .i64 (digI c)) := by
  have h := T5a_strings_IndexByte (digitsL, (c.toNat : Int)) trivial
  have e : ((c.toNat : Int)).toNat.toUInt8 = c := by simp
  simp only [e, digits_index] at h
  exact h
theorem ok_word_digit : codeOK Tryd.prog T5d Tryd.f24.ntmps (Tryd.f24.body.getD .skip) = true := by kernel_rfl
theorem c_word_digit (c : UInt8) : CallA Tryd.prog 24 [.int .u8 c.toNat] (· = .int .i64 (digI c)) := by
  refine callA_of_body T5d_ok mixed Tryd.func24 rfl (Nat.le_of_ble_eq_true rfl) ok_word_digit ?_
  unfold Tryd.f24
  have g := t5_index c
  unfold digitsL at g
  simp -implicitDefEqProofs (disch := (first | omega | decide)) only [go_sem, ↓reduceIte, seval, g]
noncomputable def T5e : Tab := T5d.add 24 (entry (fun (c : UInt8) => [.int .u8 (c.toNat : Int)]) (fun c => True) (fun c => .int .i64 (digI c)))
theorem T5e_ok : TabOK Tryd.prog T5e := T5d_ok.ent Tryd.func24 (by kernel_rfl) (by kernel_rfl) fun c h => c_word_digit c
@[go_sem] theorem T5e_old {g : FuncId} {xs : List A} (h : g ≠ 24) : T5e.f g xs = T5d.f g xs := Tab.add_ne h
@[go_sem] theorem T5e_s : T5e.pl T5d := ⟨fun _ => rfl, fun _ => rfl, rfl, fun _ => rfl, rfl, fun _ => rfl, rfl⟩
theorem T5e_word_digit (c : UInt8) (h : True) : T5e.f 24 [.int .u8 (c.toNat : Int)] = some (.int .i64 (digI c)) := Tab.ent_eq (Γ := T5d) (fun i j h => by exact UInt8.toNat_inj.1 (by simp at h; omega)) c h
theorem t5_plain (c : UInt8) : T5b.f 25 [.int .u8 (c.toNat : Int)] = some (.bool (plB c)) := T5b_word_plain c trivial
theorem t5_rplain (c : UInt8) : T5c.f 26 [.int .u8 (c.toNat : Int)] = some (.bool (plB c)) := T5c_ref05_plain c trivial
theorem t5_hex {n : Nat} (h : n < 16) : T5d.f 27 [.int .i64 (n : Int)] = some (.int .u8 ((hexB n).toNat : Int)) := T5d_ref05_hex n h
theorem wC_len (c : UInt8) : (wC c).length ≤ 3 := by unfold wC; split <;> simp
theorem flat_take {s : List UInt8} {k : Nat} (h : k < s.length) : (s.take (k + 1)).flatMap wC = (s.take k).flatMap wC ++ wC s[k] := by
  rw [← List.take_append_getElem h, List.flatMap_append]; simp
theorem flat_len : ∀ s : List UInt8, (s.flatMap wC).length ≤ 3 * s.length
  | [] => by simp
  | c :: s => by
    have := flat_len s
    have := wC_len c
    simp only [List.flatMap_cons, List.length_append, List.length_cons]; omega
theorem div16 (c : UInt8) : (c.toNat : Int).tdiv 16 = ((c.toNat / 16 : Nat) : Int) ∧ (c.toNat : Int).tmod 16 = ((c.toNat % 16 : Nat) : Int) ∧ c.toNat / 16 < 16 ∧ c.toNat % 16 < 16 := by
  have := c.toNat_lt
  exact ⟨by rw [Int.tdiv_eq_ediv_of_nonneg (by omega)]; omega, by rw [Int.tmod_eq_emod_of_nonneg (by omega)]; omega, by omega, by omega⟩
theorem bytes_take (s : List UInt8) {n : Nat} (h : n = s.length) : (bytesA s).take n = bytesA s := List.take_of_length_le (by rw [bytesA_len]; omega)
theorem ok_word_Of : codeOK Tryd.prog T5d Tryd.f9.ntmps (Tryd.f9.body.getD .skip) = true := by kernel_rfl
theorem c_word_Of (s : List UInt8) (hs : s.length ≤ 1000000000) : CallA Tryd.prog 9 [.str s] (· = .str (ofW s)) := by
  refine callA_of_body T5d_ok mixed Tryd.func9 rfl (Nat.le_of_ble_eq_true rfl) ok_word_Of ?_
  unfold Tryd.f9
  by_cases h0 : s = []
  · subst h0
    simp -implicitDefEqProofs (disch := (first | omega | decide)) only [go_sem, ↓reduceIte, seval]
    rfl
  · have hne : (s == []) = false := by simpa using h0
    have hw : ofW s = s.flatMap wC := by unfold ofW; rw [if_neg h0]
    simp -implicitDefEqProofs (disch := (first | omega | decide)) only [go_sem, ↓reduceIte, seval, hne]
    refine wpA_loop_nil 3 1 rfl ?_
    refine wpA_loop [0, 9] (ι := {k : Nat // k ≤ s.length}) (fun k => [(10, .int .i64 k.1), (3, .row 0 0 1 ((s.take k.1).flatMap wC).length false)]) (fun k => [(0, .row 1 (bytesA ((s.take k.1).flatMap wC)))]) (fun k => s.length - k.1) ⟨0, by omega⟩ (Nat.zero_le _) ?_ ?_
    · simp -implicitDefEqProofs (disch := (first | omega | decide)) only [go_sem, ↓reduceIte, seval]
      try exact ⟨rfl, rfl⟩
    · rintro ⟨k, hk⟩
      simp only
      by_cases hlt : k < s.length
      · have hlt' : (k : Int) < (s.length : Int) := by omega
        have e1 : s[k]? = some s[k] := List.getElem?_eq_getElem hlt
        have hn := flat_take hlt
        have hfl := flat_len (s.take k)
        rw [List.length_take] at hfl
        generalize s[k] = c at *
        generalize (s.take k).flatMap wC = out at *
        have gp := t5_plain c
        have b0 := bytesA_len out
        have b1 : (bytesA out).take out.length = bytesA out := bytes_take out rfl
        cases hp : plB c with
        | true =>
          rw [hp] at gp
          have hw1 : wC c = [c] := by unfold wC; rw [if_pos hp]
          rw [hw1] at hn
          have b2 : bytesA out ++ [A.int .u8 (c.toNat : Int)] = bytesA (out ++ [c]) := by simp [bytesA, encU8]
          simp -implicitDefEqProofs (disch := (first | omega | decide)) only [go_sem, ↓reduceIte, seval, hlt', e1, gp, b0, b1, b2, wrap_i64, encU8]
          exact ⟨⟨by omega, by omega⟩, ⟨k + 1, hlt⟩, ⟨⟨by simp, by rw [hn]; simp⟩, by rw [hn]⟩, by show s.length - (k + 1) < s.length - k; omega⟩
        | false =>
          rw [hp] at gp
          have hw1 : wC c = [45, hexB (c.toNat / 16), hexB (c.toNat % 16)] := by unfold wC; rw [hp]; rfl
          rw [hw1] at hn
          obtain ⟨d1, d2, d3, d4⟩ := div16 c
          have x1 := digitsL_at d3
          have x2 := digitsL_at d4
          unfold digitsL at x1 x2
          have w1 : IntKind.u8.wrap (((c.toNat / 16 : Nat) : Int)) = ((c.toNat / 16 : Nat) : Int) := wrap_u8 (by omega)
          have z16 : ¬ ((16 : Int) = 0) := by omega
          have b2 : bytesA out ++ [A.int .u8 45, A.int .u8 ((hexB (c.toNat / 16)).toNat : Int), A.int .u8 ((hexB (c.toNat % 16)).toNat : Int)] = bytesA (out ++ [45, hexB (c.toNat / 16), hexB (c.toNat % 16)]) := by simp [bytesA, encU8]
          simp -implicitDefEqProofs (disch := (first | omega | decide)) only [go_sem, ↓reduceIte, seval, hlt', e1, gp, d1, d2, x1, x2, w1, z16, b0, b1, b2, wrap_i64, encU8]
          exact ⟨⟨by omega, by omega⟩, ⟨k + 1, hlt⟩, ⟨⟨by simp, by rw [hn]; simp⟩, by rw [hn]⟩, by show s.length - (k + 1) < s.length - k; omega⟩
      · have hlt' : ¬ (k : Int) < (s.length : Int) := by omega
        rw [List.take_of_length_le (by omega), hw]
        generalize s.flatMap wC = out at *
        have b0 := bytesA_len out
        have b1 : (bytesA out).take out.length = bytesA out := bytes_take out rfl
        simp -implicitDefEqProofs (disch := (first | omega | decide)) only [go_sem, ↓reduceIte, seval, hlt', b0, b1, convB, bytesOfA_bytesA, Nat.le_refl, Option.map_some]
theorem ok_ref05_Of : codeOK Tryd.prog T5e Tryd.f10.ntmps (Tryd.f10.body.getD .skip) = true := by kernel_rfl
theorem c_ref05_Of (s : List UInt8) (hs : s.length ≤ 1000000000) : CallA Tryd.prog 10 [.str s] (· = .str (ofW s)) := by
  refine callA_of_body T5e_ok mixed Tryd.func10 rfl (Nat.le_of_ble_eq_true rfl) ok_ref05_Of ?_
  unfold Tryd.f10
  by_cases h0 : s = []
  · subst h0
    simp -implicitDefEqProofs (disch := (first | omega | decide)) only [go_sem, ↓reduceIte, seval]
    rfl
  · have hne : (s == []) = false := by simpa using h0
    have hw : ofW s = s.flatMap wC := by unfold ofW; rw [if_neg h0]
    simp -implicitDefEqProofs (disch := (first | omega | decide)) only [go_sem, ↓reduceIte, seval, hne]
    refine wpA_loop_nil 3 1 rfl ?_
    refine wpA_loop [0] (ι := {k : Nat // k ≤ s.length}) (fun k => [(4, .int .i64 k.1), (3, .row 0 0 1 ((s.take k.1).flatMap wC).length false)]) (fun k => [(0, .row 1 (bytesA ((s.take k.1).flatMap wC)))]) (fun k => s.length - k.1) ⟨0, by omega⟩ (Nat.zero_le _) ?_ ?_
    · simp -implicitDefEqProofs (disch := (first | omega | decide)) only [go_sem, ↓reduceIte, seval]
      try exact ⟨rfl, rfl⟩
    · rintro ⟨k, hk⟩
      simp only
      by_cases hlt : k < s.length
      · have hlt' : (k : Int) < (s.length : Int) := by omega
        have e1 : s[k]? = some s[k] := List.getElem?_eq_getElem hlt
        have hn := flat_take hlt
        have hfl := flat_len (s.take k)
        rw [List.length_take] at hfl
        generalize s[k] = c at *
        generalize (s.take k).flatMap wC = out at *
        have gp := t5_rplain c
        have b0 := bytesA_len out
        have b1 : (bytesA out).take out.length = bytesA out := bytes_take out rfl
        cases hp : plB c with
        | true =>
          rw [hp] at gp
          have hw1 : wC c = [c] := by unfold wC; rw [if_pos hp]
          rw [hw1] at hn
          have b2 : bytesA out ++ [A.int .u8 (c.toNat : Int)] = bytesA (out ++ [c]) := by simp [bytesA, encU8]
          simp -implicitDefEqProofs (disch := (first | omega | decide)) only [go_sem, ↓reduceIte, seval, hlt', e1, gp, b0, b1, b2, wrap_i64, encU8]
          exact ⟨⟨by omega, by omega⟩, ⟨k + 1, hlt⟩, ⟨⟨by simp, by rw [hn]; simp⟩, by rw [hn]⟩, by show s.length - (k + 1) < s.length - k; omega⟩
        | false =>
          rw [hp] at gp
          have hw1 : wC c = [45, hexB (c.toNat / 16), hexB (c.toNat % 16)] := by unfold wC; rw [hp]; rfl
          rw [hw1] at hn
          obtain ⟨d1, d2, d3, d4⟩ := div16 c
          have x1 := t5_hex d3
          have x2 := t5_hex d4
          have w1 : IntKind.i64.wrap (((c.toNat / 16 : Nat) : Int)) = ((c.toNat / 16 : Nat) : Int) := wrap_i64 (by omega)
          have w2 : IntKind.i64.wrap (c.toNat : Int) = (c.toNat : Int) := wrap_i64 (by have := c.toNat_lt; omega)
          have z16 : ¬ ((16 : Int) = 0) := by omega
          have b2 : bytesA out ++ [A.int .u8 45] = bytesA (out ++ [45]) := by simp [bytesA, encU8]
          have b3 : bytesA (out ++ [45]) ++ [A.int .u8 ((hexB (c.toNat / 16)).toNat : Int)] = bytesA (out ++ [45, hexB (c.toNat / 16)]) := by simp [bytesA, encU8]
          have b4 : bytesA (out ++ [45, hexB (c.toNat / 16)]) ++ [A.int .u8 ((hexB (c.toNat % 16)).toNat : Int)] = bytesA (out ++ [45, hexB (c.toNat / 16), hexB (c.toNat % 16)]) := by simp [bytesA, encU8]
          have l1 : (bytesA (out ++ [45])).length = out.length + 1 := by rw [bytesA_len]; simp
          have l2 : (bytesA (out ++ [45, hexB (c.toNat / 16)])).length = out.length + 2 := by rw [bytesA_len]; simp
          have t1 : (bytesA (out ++ [45])).take (out.length + 1) = bytesA (out ++ [45]) := List.take_of_length_le (by omega)
          have t2 : (bytesA (out ++ [45, hexB (c.toNat / 16)])).take (out.length + 1 + 1) = bytesA (out ++ [45, hexB (c.toNat / 16)]) := List.take_of_length_le (by omega)
          simp -implicitDefEqProofs (disch := (first | omega | decide)) only [go_sem, ↓reduceIte, seval, hlt', e1, gp, d1, d2, x1, x2, w1, w2, z16, b0, b1, b2, b3, b4, l1, l2, t1, t2, wrap_i64, encU8]
          exact ⟨⟨by omega, by omega⟩, ⟨by omega, by omega⟩, ⟨by omega, by omega⟩, ⟨k + 1, hlt⟩, ⟨⟨by simp, by rw [hn]; simp⟩, by rw [hn]⟩, by show s.length - (k + 1) < s.length - k; omega⟩
      · have hlt' : ¬ (k : Int) < (s.length : Int) := by omega
        rw [List.take_of_length_le (by omega), hw]
        generalize s.flatMap wC = out at *
        have b0 := bytesA_len out
        have b1 : (bytesA out).take out.length = bytesA out := bytes_take out rfl
        simp -implicitDefEqProofs (disch := (first | omega | decide)) only [go_sem, ↓reduceIte, seval, hlt', b0, b1, convB, bytesOfA_bytesA, Nat.le_refl, Option.map_some]
noncomputable def T5f : Tab := T5e.add 9 (entry (fun (s : List UInt8) => [.str s]) (fun s => s.length ≤ 1000000000) (fun s => .str (ofW s)))
theorem T5f_ok : TabOK Tryd.prog T5f := T5e_ok.ent Tryd.func9 (by kernel_rfl) (by kernel_rfl) fun s h => c_word_Of s h
@[go_sem] theorem T5f_old {g : FuncId} {xs : List A} (h : g ≠ 9) : T5f.f g xs = T5e.f g xs := Tab.add_ne h
theorem T5f_word_Of (s : List UInt8) (h : s.length ≤ 1000000000) : T5f.f 9 [.str s] = some (.str (ofW s)) := Tab.ent_eq (Γ := T5e) (fun i j h => by simpa [Prod.ext_iff, and_assoc] using h) s h
noncomputable def T5g : Tab := T5f.add 10 (entry (fun (s : List UInt8) => [.str s]) (fun s => s.length ≤ 1000000000) (fun s => .str (ofW s)))
theorem T5g_ok : TabOK Tryd.prog T5g := T5f_ok.ent Tryd.func10 (by kernel_rfl) (by kernel_rfl) fun s h => c_ref05_Of s h
@[go_sem] theorem T5g_old {g : FuncId} {xs : List A} (h : g ≠ 10) : T5g.f g xs = T5f.f g xs := Tab.add_ne h
@[go_sem] theorem T5g_s : T5g.pl T5f := ⟨fun _ => rfl, fun _ => rfl, rfl, fun _ => rfl, rfl, fun _ => rfl, rfl⟩
theorem T5g_ref05_Of (s : List UInt8) (h : s.length ≤ 1000000000) : T5g.f 10 [.str s] = some (.str (ofW s)) := Tab.ent_eq (Γ := T5f) (fun i j h => by simpa [Prod.ext_iff, and_assoc] using h) s h
theorem t5_Of {s : List UInt8} (h : s.length ≤ 1000000000) : T5f.f 9 [.str s] = some (.str (ofW s)) := T5f_word_Of s h
theorem t5_rOf {s : List UInt8} (h : s.length ≤ 1000000000) : T5g.f 10 [.str s] = some (.str (ofW s)) := T5g_ref05_Of s h
def rdA : Option (List UInt8) → A
  | none => .tup [.str [], .bool false]
  | some t => .tup [.str t, .bool true]
theorem rdW_notesc {c : UInt8} {r : List UInt8} (h : ¬ (c = 45 ∧ 2 ≤ r.length)) : rdW (c :: r) = if plB c = true then (rdW r).map (c :: ·) else none := by
  by_cases hp : plB c = true
  · rw [rdW_plain hp, if_pos hp]
  · rw [if_neg hp]
    match r, h with
    | [], h => simp [rdW, hp]
    | [d], h => simp [rdW, hp]
    | d :: e :: r, h =>
      have h45 : c ≠ 45 := fun e => h ⟨e, by simp⟩
      rw [rdW, if_neg h45, if_neg hp]
theorem digI_of {c : UInt8} (h : digB c < 16) : digI c = (digB c : Int) := by unfold digI; rw [if_pos h]
theorem digI_no {c : UInt8} (h : ¬ digB c < 16) : digI c = -1 := by unfold digI; rw [if_neg h]
theorem t5_digit (c : UInt8) : T5e.f 24 [.int .u8 (c.toNat : Int)] = some (.int .i64 (digI c)) := T5e_word_digit c trivial
theorem readW_go {w : List UInt8} (h : w ≠ [95]) {r : List UInt8} (he : rdW w = some r) : readW w = if r = [] then none else some r := by
  unfold readW; rw [if_neg h, he]; rfl
theorem readW_no {w : List UInt8} (h : w ≠ [95]) (he : rdW w = none) : readW w = none := by
  unfold readW; rw [if_neg h, he]; rfl
theorem ok_word_Read : codeOK Tryd.prog T5g Tryd.f8.ntmps (Tryd.f8.body.getD .skip) = true := by kernel_rfl
theorem c_word_Read (w : List UInt8) (hs : w.length ≤ 1000000000) : CallA Tryd.prog 8 [.str w] (· = rdA (readW w)) := by
  refine callA_of_body T5g_ok mixed Tryd.func8 rfl (Nat.le_of_ble_eq_true rfl) ok_word_Read ?_
  unfold Tryd.f8
  by_cases h0 : w = [95]
  · subst h0
    simp -implicitDefEqProofs (disch := (first | omega | decide)) only [go_sem, ↓reduceIte, seval]
    rfl
  · have hne : (w == [95]) = false := by simpa using h0
    simp -implicitDefEqProofs (disch := (first | omega | decide)) only [go_sem, ↓reduceIte, seval, hne]
    refine wpA_loop_nil 4 1 rfl ?_
    refine wpA_loop [0] (ι := {p : Nat × List UInt8 // p.1 ≤ w.length ∧ rdW w = (rdW (w.drop p.1)).map (p.2 ++ ·) ∧ p.2.length ≤ p.1}) (fun p => [(5, .int .i64 p.1.1), (4, .row 0 0 1 p.1.2.length false)]) (fun p => [(0, .row 1 (bytesA p.1.2))]) (fun p => w.length - p.1.1) ⟨(0, []), by omega, by simp, by simp⟩ (Nat.zero_le _) ?_ ?_
    · simp -implicitDefEqProofs (disch := (first | omega | decide)) only [go_sem, ↓reduceIte, seval]
      rfl
    · rintro ⟨⟨k, out⟩, hk, hd, hol⟩
      simp only at hk hd hol ⊢
      have b0 := bytesA_len out
      have b1 : (bytesA out).take out.length = bytesA out := bytes_take out rfl
      by_cases hlt : k < w.length
      · have hlt' : (k : Int) < (w.length : Int) := by omega
        have e1 : w[k]? = some w[k] := List.getElem?_eq_getElem hlt
        rw [List.drop_eq_getElem_cons hlt] at hd
        by_cases hesc : w[k] = 45 ∧ k + 2 < w.length
        · obtain ⟨h45, hk2⟩ := hesc
          have hk2' : (k : Int) + 2 < (w.length : Int) := by omega
          have e2 : w[k + 1]? = some w[k + 1] := List.getElem?_eq_getElem (by omega)
          have e3 : w[k + 2]? = some w[k + 2] := List.getElem?_eq_getElem (by omega)
          rw [List.drop_eq_getElem_cons (show k + 1 < w.length by omega), List.drop_eq_getElem_cons (show k + 1 + 1 < w.length by omega), h45, rdW, if_pos rfl] at hd
          rw [h45] at e1
          generalize w[k + 1] = x at *
          generalize w[k + 1 + 1] = y at *
          have c1 : ((k : Int) + 1).toNat = k + 1 := by omega
          have c2 : ((k : Int) + 2).toNat = k + 2 := by omega
          have p1 : (0 : Int) ≤ (k : Int) + 1 := by omega
          have p2 : (0 : Int) ≤ (k : Int) + 2 := by omega
          have gx := t5_digit x
          have gy := t5_digit y
          by_cases hx : digB x < 16
          · rw [digI_of hx] at gx
            by_cases hy : digB y < 16
            · rw [digI_of hy] at gy
              have hz : (UInt8.ofNat (16 * digB x + digB y)).toNat = 16 * digB x + digB y := ofNat_toNat' (by omega)
              have w1 : IntKind.u8.wrap (16 * (digB x : Int) + (digB y : Int)) = ((UInt8.ofNat (16 * digB x + digB y)).toNat : Int) := by rw [wrap_u8 (by omega), hz]; omega
              have n1 : ¬ (digB x : Int) < 0 := by omega
              have n2 : ¬ (digB y : Int) < 0 := by omega
              have gp := t5_plain (UInt8.ofNat (16 * digB x + digB y))
              cases hp : plB (UInt8.ofNat (16 * digB x + digB y)) with
              | true =>
                rw [hp] at gp
                have he : escB x y = none := by unfold escB; rw [if_neg (fun h => by rw [h.2.2] at hp; cases hp)]
                rw [he] at hd
                rw [readW_no h0 (by rw [hd]; rfl)]
                simp -implicitDefEqProofs (disch := (first | omega | decide)) only [go_sem, ↓reduceIte, seval, hlt', e1, hk2', e2, e3, c1, c2, p1, p2, gx, gy, n1, n2, w1, gp, wrap_i64, encU8]
                rfl
              | false =>
                rw [hp] at gp
                have he : escB x y = some (UInt8.ofNat (16 * digB x + digB y)) := by unfold escB; rw [if_pos ⟨hx, hy, hp⟩]
                rw [he] at hd
                generalize UInt8.ofNat (16 * digB x + digB y) = z at *
                have b2 : bytesA out ++ [A.int .u8 (z.toNat : Int)] = bytesA (out ++ [z]) := by simp [bytesA, encU8]
                simp -implicitDefEqProofs (maxSteps := 600000) (disch := (first | omega | decide)) only [go_sem, ↓reduceIte, seval, hlt', e1, hk2', e2, e3, c1, c2, p1, p2, gx, gy, n1, n2, w1, gp, b0, b1, b2, wrap_i64, encU8]
                refine ⟨⟨by omega, by omega⟩, ⟨(k + 3, out ++ [z]), by simp only; omega, ?_, by simp; omega⟩, ⟨⟨by simp; omega, by simp⟩, rfl⟩, by show w.length - (k + 3) < w.length - k; omega⟩
                simp only [Option.bind_some, Option.map_map] at hd
                rw [hd]
                show _ = Option.map _ (rdW (w.drop (k + 3)))
                congr 1
                funext u; simp
            · rw [digI_no hy] at gy
              have n1 : ¬ (digB x : Int) < 0 := by omega
              have he : escB x y = none := by unfold escB; rw [if_neg (by simp [hy])]
              rw [he] at hd
              rw [readW_no h0 (by rw [hd]; rfl)]
              simp -implicitDefEqProofs (disch := (first | omega | decide)) only [go_sem, ↓reduceIte, seval, hlt', e1, hk2', e2, e3, c1, c2, p1, p2, gx, gy, n1, wrap_i64, encU8]
              rfl
          · rw [digI_no hx] at gx
            have he : escB x y = none := by unfold escB; rw [if_neg (by simp [hx])]
            rw [he] at hd
            rw [readW_no h0 (by rw [hd]; rfl)]
            simp -implicitDefEqProofs (disch := (first | omega | decide)) only [go_sem, ↓reduceIte, seval, hlt', e1, hk2', e2, e3, c1, c2, p1, p2, gx, gy, wrap_i64, encU8]
            rfl
        · rw [rdW_notesc (fun ⟨a, b⟩ => hesc ⟨a, by rw [List.length_drop] at b; omega⟩)] at hd
          generalize w[k] = c at *
          have gp := t5_plain c
          have hesc' : c = 45 → ¬ (k : Int) + 2 < (w.length : Int) := fun e h => hesc ⟨e, by omega⟩
          cases hp : plB c with
          | false =>
            rw [hp] at gp hd
            rw [readW_no h0 (by rw [hd]; rfl)]
            by_cases hc : c = 45
            · have hk2' := hesc' hc
              subst hc
              have gp' : T5b.f 25 [.int .u8 45] = some (.bool false) := gp
              simp -implicitDefEqProofs (disch := (first | omega | decide)) only [go_sem, ↓reduceIte, seval, hlt', e1, hk2', gp', wrap_i64, encU8]
              rfl
            · have hc' : ((c.toNat : Int) == 45) = false := by
                simp only [beq_eq_false_iff_ne, ne_eq]
                intro h
                apply hc
                apply UInt8.toNat_inj.1
                have : c.toNat = 45 := by omega
                rw [this]; rfl
              simp -implicitDefEqProofs (disch := (first | omega | decide)) only [go_sem, ↓reduceIte, seval, hlt', e1, hc', gp, wrap_i64, encU8]
              rfl
          | true =>
            rw [hp] at gp hd
            have hc' : ((c.toNat : Int) == 45) = false := by
              simp only [beq_eq_false_iff_ne, ne_eq]
              intro h
              have : c = 45 := UInt8.toNat_inj.1 (by have : c.toNat = 45 := by omega
                                                     rw [this]; rfl)
              rw [this, plB_45] at hp; cases hp
            have b2 : bytesA out ++ [A.int .u8 (c.toNat : Int)] = bytesA (out ++ [c]) := by simp [bytesA, encU8]
            simp -implicitDefEqProofs (disch := (first | omega | decide)) only [go_sem, ↓reduceIte, seval, hlt', e1, hc', gp, b0, b1, b2, wrap_i64, encU8]
            refine ⟨⟨by omega, by omega⟩, ⟨(k + 1, out ++ [c]), by simp only; omega, ?_, by simp; omega⟩, ⟨⟨by simp, by simp⟩, rfl⟩, by show w.length - (k + 1) < w.length - k; omega⟩
            rw [hd, if_pos rfl, Option.map_map]
            show _ = Option.map _ (rdW (w.drop (k + 1)))
            congr 1
            funext u; simp
      · have hlt' : ¬ (k : Int) < (w.length : Int) := by omega
        rw [List.drop_of_length_le (by omega)] at hd
        simp only [rdW, Option.map_some, List.append_nil] at hd
        rw [readW_go h0 hd]
        by_cases ho : out = []
        · subst ho
          simp -implicitDefEqProofs (disch := (first | omega | decide)) only [go_sem, ↓reduceIte, seval, hlt', b0, b1, convB, bytesOfA_bytesA, Nat.le_refl, Option.map_some]
          exact ⟨[], rfl, rfl⟩
        · rw [if_neg ho]
          have hl : (0 : Int) < (out.length : Int) := by have := List.length_pos_iff.2 ho; omega
          simp -implicitDefEqProofs (disch := (first | omega | decide)) only [go_sem, ↓reduceIte, seval, hlt', hl, b0, b1, convB, bytesOfA_bytesA, Nat.le_refl, Option.map_some]
          rfl
noncomputable def T5h : Tab := T5g.add 8 (entry (fun (s : List UInt8) => [.str s]) (fun s => s.length ≤ 1000000000) (fun s => rdA (readW s)))
theorem T5h_ok : TabOK Tryd.prog T5h := T5g_ok.ent Tryd.func8 (by kernel_rfl) (by kernel_rfl) fun s h => c_word_Read s h
@[go_sem] theorem T5h_old {g : FuncId} {xs : List A} (h : g ≠ 8) : T5h.f g xs = T5g.f g xs := Tab.add_ne h
theorem T5h_word_Read (s : List UInt8) (h : s.length ≤ 1000000000) : T5h.f 8 [.str s] = some (rdA (readW s)) := Tab.ent_eq (Γ := T5g) (fun i j h => by simpa [Prod.ext_iff, and_assoc] using h) s h
theorem t5_Read {s : List UInt8} (h : s.length ≤ 1000000000) : T5h.f 8 [.str s] = some (rdA (readW s)) := T5h_word_Read s h
theorem extraB : Builder.Extra Tryd.prog YthiedimbmcgpdaaDoor.joinL_ren where
  sizeBuilder := by kernel_rfl
  liesBuilder := by kernel_rfl
  t5 := Tryd.underlying5
  a5 := Tryd.isAgg5
  z5 := Tryd.sizeOf5
  v5 := Tryd.zeroValue5
  infoByte := by kernel_rfl
  cellsByte := by kernel_rfl
  sizeByte := by kernel_rfl
  neB5 := by decide
theorem indexByte_has : ∀ (s : List UInt8) (c : UInt8), decide (0 ≤ Lib.indexByte s c) = s.contains c := by
  intro s c
  induction s with
  | nil => rfl
  | cons b l ih =>
    have hg := Lib.indexByte_ge l c
    unfold Lib.indexByte
    rw [List.contains_cons, ← ih]
    by_cases h : b = c
    · subst h; simp
    · have h1 : (b == c) = false := by simpa using h
      have h2 : (c == b) = false := by simpa using fun e => h e.symm
      rw [h1, h2]
      simp only [Bool.false_eq_true, if_false, Bool.false_or]
      apply decide_eq_decide.2
      split
      · rename_i e; have := beq_iff_eq.1 e; omega
      · rename_i e
        have e' : ¬ Lib.indexByte l c = -1 := by simpa using e
        omega
noncomputable def T5i : Tab := T5h.add 28 (entry (fun (p : List UInt8 × UInt8) => [.str p.1, .str [p.2]]) (fun p => True) (fun p => .bool (decide (0 ≤ Lib.indexByte p.1 p.2))))
theorem T5i_ok : TabOK Tryd.prog T5i := T5h_ok.ent Tryd.func28 (by kernel_rfl) (by kernel_rfl) fun p h => callA_contains1 YthiedimbmcgpdaaDoor.containsL p.1 p.2
@[go_sem] theorem T5i_old {g : FuncId} {xs : List A} (h : g ≠ 28) : T5i.f g xs = T5h.f g xs := Tab.add_ne h
theorem T5i_strings_Contains (p : List UInt8 × UInt8) (h : True) : T5i.f 28 [.str p.1, .str [p.2]] = some (.bool (decide (0 ≤ Lib.indexByte p.1 p.2))) := Tab.ent_eq (Γ := T5h) (fun i j h => by simpa [Prod.ext_iff, and_assoc] using h) p h
noncomputable def T5j : Tab := T5i.add 29 (entry (fun (p : List (List UInt8) × List UInt8) => [.slc (p.1.map .str), .str p.2]) (fun p => p.1.length ≤ 140737488355328 ∧ (Lib.join p.1 p.2).length ≤ 140737488355328) (fun p => .str (Lib.join p.1 p.2)))
theorem T5j_ok : TabOK Tryd.prog T5j := T5i_ok.ent Tryd.func29 (by kernel_rfl) (by kernel_rfl) fun p h => callA_join dr_not YthiedimbmcgpdaaDoor.joinL extraB p.1 p.2 h.1 h.2
@[go_sem] theorem T5j_old {g : FuncId} {xs : List A} (h : g ≠ 29) : T5j.f g xs = T5i.f g xs := Tab.add_ne h
theorem T5j_strings_Join (p : List (List UInt8) × List UInt8) (h : p.1.length ≤ 140737488355328 ∧ (Lib.join p.1 p.2).length ≤ 140737488355328) : T5j.f 29 [.slc (p.1.map .str), .str p.2] = some (.str (Lib.join p.1 p.2)) := Tab.ent_eq (Γ := T5i) (fun i j h => by simpa [Prod.ext_iff, and_assoc] using h) p h
noncomputable def T5k : Tab := T5j.add 30 (entry (fun (p : List UInt8 × UInt8) => [.str p.1, .str [p.2]]) (fun p => p.1.length < 4294967281) (fun p => .slc ((Lib.split p.1 [p.2]).map .str)))
theorem T5k_ok : TabOK Tryd.prog T5k := T5j_ok.ent Tryd.func30 (by kernel_rfl) (by kernel_rfl) fun p h => callA_split YthiedimbmcgpdaaDoor.splitL (by kernel_rfl) p.1 p.2 h
@[go_sem] theorem T5k_old {g : FuncId} {xs : List A} (h : g ≠ 30) : T5k.f g xs = T5j.f g xs := Tab.add_ne h
@[go_sem] theorem T5k_s : T5k.pl T5j := ⟨fun _ => rfl, fun _ => rfl, rfl, fun _ => rfl, rfl, fun _ => rfl, rfl⟩
theorem T5k_strings_Split (p : List UInt8 × UInt8) (h : p.1.length < 4294967281) : T5k.f 30 [.str p.1, .str [p.2]] = some (.slc ((Lib.split p.1 [p.2]).map .str)) := Tab.ent_eq (Γ := T5j) (fun i j h => by simpa [Prod.ext_iff, and_assoc] using h) p h
theorem t5_has (s : List UInt8) (c : UInt8) : T5i.f 28 [.str s, .str [c]] = some (.bool (s.contains c)) := by
  have := T5i_strings_Contains (s, c) trivial
  rw [← indexByte_has]; exact this
theorem t5_join {l : List (List UInt8)} (h1 : l.length ≤ 1000000) (h2 : (lineW l).length ≤ 140737488355328) : T5j.f 29 [.slc (l.map .str), .str [32]] = some (.str (lineW l)) := by
  have := T5j_strings_Join (l, [32]) ⟨by simp only; omega, by rw [join_eq_line]; exact h2⟩
  rw [← join_eq_line]; exact this
theorem t5_split {s : List UInt8} (h : s.length ≤ 1000000000) : T5k.f 30 [.str s, .str [32]] = some (.slc ((splitW s).map .str)) := by
  have := T5k_strings_Split (s, 32) (by simp only; omega)
  have e : Lib.split s [32] = splitW s := by
    show Lib.splitK [32] 0 (Lib.count s [32]) s = _
    rw [Lib.count_one]
    exact splitK_split _ s rfl
  rw [← e]; exact this
theorem strs_get {l : List (List UInt8)} {k : Nat} (h : k < l.length) : (l.map A.str)[k]? = some (.str l[k]) := by
  rw [List.getElem?_map, List.getElem?_eq_getElem h]; rfl
theorem contains_all (w : List UInt8) (c : UInt8) : w.contains c = !(w.all fun d => d != c) := by
  induction w with
  | nil => rfl
  | cons d w ih =>
    rw [List.contains_cons, List.all_cons, ih]
    by_cases h : d = c
    · subst h; simp
    · have h1 : (c == d) = false := by simpa using fun e => h e.symm
      have h2 : (d != c) = true := by simpa using h
      rw [h1, h2]; simp
theorem mayB_eq (w : List UInt8) : mayB w = !(w == [] || w.contains 32 || w.contains 10) := by
  rw [contains_all, contains_all]
  unfold mayB
  have e : (w.all fun c => c != 32 && c != 10) = ((w.all fun d => d != 32) && (w.all fun d => d != 10)) := by
    induction w with
    | nil => rfl
    | cons d w ih =>
      simp only [List.all_cons, ih]
      cases (d != 32) <;> cases (d != 10) <;> simp
  rw [e]
  cases w with
  | nil => rfl
  | cons d w => simp
theorem ok_ref05_May : codeOK Tryd.prog T5k Tryd.f11.ntmps (Tryd.f11.body.getD .skip) = true := by kernel_rfl
theorem c_ref05_May (w : List UInt8) (hs : w.length ≤ 1000000000) : CallA Tryd.prog 11 [.str w] (· = .bool (mayB w)) := by
  refine callA_of_body T5k_ok mixed Tryd.func11 rfl (Nat.le_of_ble_eq_true rfl) ok_ref05_May ?_
  unfold Tryd.f11
  simp -implicitDefEqProofs (disch := (first | omega | decide)) only [go_sem, ↓reduceIte, seval]
  refine wpA_loop [0] (ι := {k : Nat // k ≤ w.length ∧ mayB w = (!w.isEmpty && (w.drop k).all fun c => c != 32 && c != 10)}) (fun k => [(3, .int .i64 k.1)]) (fun _ => []) (fun k => w.length - k.1) ⟨0, by omega, rfl⟩ (Nat.zero_le _) ?_ ?_
  · simp -implicitDefEqProofs (disch := (first | omega | decide)) only [go_sem, ↓reduceIte, seval]
  · rintro ⟨k, hk, hd⟩
    simp only
    by_cases hlt : k < w.length
    · have hlt' : (k : Int) < (w.length : Int) := by omega
      have e1 : w[k]? = some w[k] := List.getElem?_eq_getElem hlt
      have hne : w.isEmpty = false := by
        cases w with
        | nil => simp at hlt
        | cons _ _ => rfl
      rw [List.drop_eq_getElem_cons hlt, List.all_cons, hne, Bool.not_false, Bool.true_and] at hd
      generalize w[k] = c at *
      by_cases h32 : c = 32
      · subst h32
        have hm : mayB w = false := by rw [hd]; rfl
        rw [hm]
        have i1 : (((32 : UInt8).toNat : Int) == 32) = true := rfl
        simp -implicitDefEqProofs (disch := (first | omega | decide)) only [go_sem, ↓reduceIte, seval, hlt', e1, i1, wrap_i64, encU8]
      · have i1 : ((c.toNat : Int) == 32) = false := by
          simp only [beq_eq_false_iff_ne, ne_eq]
          intro h
          exact h32 (UInt8.toNat_inj.1 (by have : c.toNat = 32 := by omega
                                           rw [this]; rfl))
        by_cases h10 : c = 10
        · subst h10
          have hm : mayB w = false := by rw [hd]; rfl
          rw [hm]
          have i2 : (((10 : UInt8).toNat : Int) == 10) = true := rfl
          simp -implicitDefEqProofs (disch := (first | omega | decide)) only [go_sem, ↓reduceIte, seval, hlt', e1, i1, i2, wrap_i64, encU8]
        · have i2 : ((c.toNat : Int) == 10) = false := by
            simp only [beq_eq_false_iff_ne, ne_eq]
            intro h
            exact h10 (UInt8.toNat_inj.1 (by have : c.toNat = 10 := by omega
                                             rw [this]; rfl))
          have hb : (c != 32 && c != 10) = true := by simp [h32, h10]
          rw [hb, Bool.true_and] at hd
          simp -implicitDefEqProofs (disch := (first | omega | decide)) only [go_sem, ↓reduceIte, seval, hlt', e1, i1, i2, wrap_i64, encU8]
          exact ⟨⟨k + 1, hlt, by rw [hd, hne]; rfl⟩, by simp, by show w.length - (k + 1) < w.length - k; omega⟩
    · have hlt' : ¬ (k : Int) < (w.length : Int) := by omega
      rw [List.drop_of_length_le (by omega)] at hd
      rw [hd]
      simp -implicitDefEqProofs (disch := (first | omega | decide)) only [go_sem, ↓reduceIte, seval, hlt']
      cases w <;> simp
noncomputable def T5l : Tab := T5k.add 11 (entry (fun (s : List UInt8) => [.str s]) (fun s => s.length ≤ 1000000000) (fun s => .bool (mayB s)))
theorem T5l_ok : TabOK Tryd.prog T5l := T5k_ok.ent Tryd.func11 (by kernel_rfl) (by kernel_rfl) fun s h => c_ref05_May s h
@[go_sem] theorem T5l_old {g : FuncId} {xs : List A} (h : g ≠ 11) : T5l.f g xs = T5k.f g xs := Tab.add_ne h
@[go_sem] theorem T5l_s : T5l.pl T5k := ⟨fun _ => rfl, fun _ => rfl, rfl, fun _ => rfl, rfl, fun _ => rfl, rfl⟩
theorem T5l_ref05_May (s : List UInt8) (h : s.length ≤ 1000000000) : T5l.f 11 [.str s] = some (.bool (mayB s)) := Tab.ent_eq (Γ := T5k) (fun i j h => by simpa [Prod.ext_iff, and_assoc] using h) s h
theorem t5_May {s : List UInt8} (h : s.length ≤ 1000000000) : T5l.f 11 [.str s] = some (.bool (mayB s)) := T5l_ref05_May s h
theorem line_take {l : List (List UInt8)} {k : Nat} (h : k < l.length) : lineW (l.take (k + 1)) = if k = 0 then l[k] else lineW (l.take k) ++ [32] ++ l[k] := by
  rw [← List.take_append_getElem h, line_snoc]
  by_cases h0 : k = 0
  · subst h0; simp
  · rw [if_neg (by cases l <;> simp at h ⊢; omega), if_neg h0]
theorem line_take_len (l : List (List UInt8)) (k : Nat) : (lineW (l.take k)).length ≤ (lineW l).length := by
  cases l with
  | nil => simp
  | cons x r =>
    cases k with
    | zero => simp [lineW]
    | succ k =>
      simp only [List.take_succ_cons, lineW, List.length_append]
      have : (List.flatMap (32 :: ·) (r.take k)).length ≤ (List.flatMap (32 :: ·) r).length := by
        conv => rhs; rw [← List.take_append_drop k r, List.flatMap_append, List.length_append]
        omega
      omega
theorem ok_ref05_Line : codeOK Tryd.prog T5l Tryd.f13.ntmps (Tryd.f13.body.getD .skip) = true := by kernel_rfl
theorem c_ref05_Line (l : List (List UInt8)) (hl : l.length ≤ 1000000) (hs : (lineW l).length ≤ 1000000000) : CallA Tryd.prog 13 [.slc (l.map .str)] (· = .str (lineW l)) := by
  refine callA_of_body T5l_ok mixed Tryd.func13 rfl (Nat.le_of_ble_eq_true rfl) ok_ref05_Line ?_
  unfold Tryd.f13
  simp -implicitDefEqProofs (disch := (first | omega | decide)) only [go_sem, ↓reduceIte, seval, List.length_map]
  refine wpA_loop [0] (ι := {k : Nat // k ≤ l.length}) (fun k => [(4, .int .i64 k.1), (3, .str (lineW (l.take k.1)))]) (fun _ => []) (fun k => l.length - k.1) ⟨0, by omega⟩ (Nat.zero_le _) ?_ ?_
  · simp -implicitDefEqProofs (disch := (first | omega | decide)) only [go_sem, ↓reduceIte, seval]
    try rfl
  · rintro ⟨k, hk⟩
    simp only
    by_cases hlt : k < l.length
    · have hlt' : (k : Int) < (l.length : Int) := by omega
      have e1 := strs_get hlt
      have hn := line_take hlt
      have h1 := line_take_len l (k + 1)
      generalize l[k] = x at *
      by_cases h0 : k = 0
      · subst h0
        rw [if_pos rfl] at hn
        have z0 : lineW (l.take 0) = [] := rfl
        have hx : ([] : List UInt8).length + x.length ≤ 9223372036854775807 := by rw [hn] at h1; simp; omega
        have hlt'' : (0 : Int) < (l.length : Int) := hlt'
        simp -implicitDefEqProofs (disch := (first | omega | decide)) only [go_sem, ↓reduceIte, seval, hlt'', e1, z0, hx, wrap_i64, List.length_map]
        exact ⟨hx, ⟨1, hlt⟩, ⟨rfl, by rw [hn]; rfl⟩, by show l.length - 1 < l.length - 0; omega⟩
      · rw [if_neg h0] at hn
        have hp : (0 : Int) < (k : Int) := by omega
        rw [hn] at h1
        generalize lineW (l.take k) = out at *
        have hx1 : out.length + [(32 : UInt8)].length ≤ 9223372036854775807 := by simp at h1 ⊢; omega
        have hx2 : (out ++ [(32 : UInt8)]).length + x.length ≤ 9223372036854775807 := by simp at h1 ⊢; omega
        simp -implicitDefEqProofs (disch := (first | omega | decide)) only [go_sem, ↓reduceIte, seval, hlt', e1, hp, hx1, hx2, wrap_i64, List.length_map]
        exact ⟨by simp at hx1; omega, ⟨k + 1, hlt⟩, ⟨by simp, by rw [hn]⟩, by show l.length - (k + 1) < l.length - k; omega⟩
    · have hlt' : ¬ (k : Int) < (l.length : Int) := by omega
      rw [List.take_of_length_le (by omega)]
      simp -implicitDefEqProofs (disch := (first | omega | decide)) only [go_sem, ↓reduceIte, seval, hlt', List.length_map]
noncomputable def T5m : Tab := T5l.add 13 (entry (fun (l : List (List UInt8)) => [.slc (l.map .str)]) (fun l => l.length ≤ 1000000 ∧ (lineW l).length ≤ 1000000000) (fun l => .str (lineW l)))
theorem T5m_ok : TabOK Tryd.prog T5m := T5l_ok.ent Tryd.func13 (by kernel_rfl) (by kernel_rfl) fun l h => c_ref05_Line l h.1 h.2
@[go_sem] theorem T5m_old {g : FuncId} {xs : List A} (h : g ≠ 13) : T5m.f g xs = T5l.f g xs := Tab.add_ne h
@[go_sem] theorem T5m_s : T5m.pl T5l := ⟨fun _ => rfl, fun _ => rfl, rfl, fun _ => rfl, rfl, fun _ => rfl, rfl⟩
theorem T5m_ref05_Line (l : List (List UInt8)) (h : l.length ≤ 1000000 ∧ (lineW l).length ≤ 1000000000) : T5m.f 13 [.slc (l.map .str)] = some (.str (lineW l)) := Tab.ent_eq (Γ := T5l) (fun i j h => by simpa [Prod.ext_iff, and_assoc] using h) l h
theorem t5_Line {l : List (List UInt8)} (h1 : l.length ≤ 1000000) (h2 : (lineW l).length ≤ 1000000000) : T5m.f 13 [.slc (l.map .str)] = some (.str (lineW l)) := T5m_ref05_Line l ⟨h1, h2⟩
theorem ok_word_Join : codeOK Tryd.prog T5m Tryd.f12.ntmps (Tryd.f12.body.getD .skip) = true := by kernel_rfl
theorem c_word_Join (l : List (List UInt8)) (hl : l.length ≤ 1000000) (hs : (lineW l).length ≤ 1000000000) : CallA Tryd.prog 12 [.slc (l.map .str)] (· = rdA (joinW l)) := by
  refine callA_of_body T5m_ok mixed Tryd.func12 rfl (Nat.le_of_ble_eq_true rfl) ok_word_Join ?_
  unfold Tryd.f12
  simp -implicitDefEqProofs (disch := (first | omega | decide)) only [go_sem, ↓reduceIte, seval, List.length_map]
  refine wpA_loop [0, 6, 7] (ι := {k : Nat // k ≤ l.length ∧ l.all mayB = (l.drop k).all mayB}) (fun k => [(8, .int .i64 k.1)]) (fun _ => []) (fun k => l.length - k.1) ⟨0, by omega, rfl⟩ (Nat.zero_le _) ?_ ?_
  · simp -implicitDefEqProofs (disch := (first | omega | decide)) only [go_sem, ↓reduceIte, seval]
  · rintro ⟨k, hk, hd⟩
    simp only
    by_cases hlt : k < l.length
    · have hlt' : (k : Int) < (l.length : Int) := by omega
      have e1 := strs_get hlt
      rw [List.drop_eq_getElem_cons hlt, List.all_cons] at hd
      generalize l[k] = x at *
      have g1 := t5_has x 32
      have g2 := t5_has x 10
      have hm := mayB_eq x
      cases hx : mayB x with
      | true =>
        rw [hx] at hm hd
        have hm' : (x == []) = false ∧ x.contains 32 = false ∧ x.contains 10 = false := by
          revert hm
          cases (x == []) <;> cases x.contains 32 <;> cases x.contains 10 <;> simp
        rw [hm'.2.1] at g1
        rw [hm'.2.2] at g2
        have hm1 := hm'.1
        simp -implicitDefEqProofs (disch := (first | omega | decide)) only [go_sem, ↓reduceIte, seval, hlt', e1, hm1, g1, g2, wrap_i64, List.length_map]
        exact ⟨⟨k + 1, hlt, by rw [hd, Bool.true_and]⟩, by simp, by show l.length - (k + 1) < l.length - k; omega⟩
      | false =>
        rw [hx] at hm hd
        have hj : joinW l = none := by unfold joinW; rw [hd, Bool.false_and]; rfl
        rw [hj]
        cases h1 : (x == []) with
        | true =>
          simp -implicitDefEqProofs (disch := (first | omega | decide)) only [go_sem, ↓reduceIte, seval, hlt', e1, h1, wrap_i64, List.length_map]
          rfl
        | false =>
          cases h2 : x.contains 32 with
          | true =>
            rw [h2] at g1
            simp -implicitDefEqProofs (disch := (first | omega | decide)) only [go_sem, ↓reduceIte, seval, hlt', e1, h1, g1, wrap_i64, List.length_map]
            rfl
          | false =>
            rw [h2] at g1
            have h3 : x.contains 10 = true := by
              revert hm; rw [h1, h2]; cases x.contains 10 <;> simp
            rw [h3] at g2
            simp -implicitDefEqProofs (disch := (first | omega | decide)) only [go_sem, ↓reduceIte, seval, hlt', e1, h1, g1, g2, wrap_i64, List.length_map]
            rfl
    · have hlt' : ¬ (k : Int) < (l.length : Int) := by omega
      rw [List.drop_of_length_le (by omega)] at hd
      have hj : joinW l = some (lineW l) := by unfold joinW; rw [hd]; rfl
      rw [hj]
      have g := t5_join hl (by omega)
      simp -implicitDefEqProofs (disch := (first | omega | decide)) only [go_sem, ↓reduceIte, seval, hlt', g, List.length_map]
      rfl
noncomputable def T5n : Tab := T5m.add 12 (entry (fun (l : List (List UInt8)) => [.slc (l.map .str)]) (fun l => l.length ≤ 1000000 ∧ (lineW l).length ≤ 1000000000) (fun l => rdA (joinW l)))
theorem T5n_ok : TabOK Tryd.prog T5n := T5m_ok.ent Tryd.func12 (by kernel_rfl) (by kernel_rfl) fun l h => c_word_Join l h.1 h.2
@[go_sem] theorem T5n_old {g : FuncId} {xs : List A} (h : g ≠ 12) : T5n.f g xs = T5m.f g xs := Tab.add_ne h
@[go_sem] theorem T5n_s : T5n.pl T5m := ⟨fun _ => rfl, fun _ => rfl, rfl, fun _ => rfl, rfl, fun _ => rfl, rfl⟩
theorem T5n_word_Join (l : List (List UInt8)) (h : l.length ≤ 1000000 ∧ (lineW l).length ≤ 1000000000) : T5n.f 12 [.slc (l.map .str)] = some (rdA (joinW l)) := Tab.ent_eq (Γ := T5m) (fun i j h => by simpa [Prod.ext_iff, and_assoc] using h) l h
theorem t5_Join {l : List (List UInt8)} (h1 : l.length ≤ 1000000) (h2 : (lineW l).length ≤ 1000000000) : T5n.f 12 [.slc (l.map .str)] = some (rdA (joinW l)) := T5n_word_Join l ⟨h1, h2⟩
def wordsA : Option (List (List UInt8)) → A
  | none => .tup [.slc [], .bool false]
  | some l => .tup [.slc (l.map .str), .bool true]
theorem splitW_len : ∀ s : List UInt8, (splitW s).length ≤ s.length + 1
  | [] => by simp [splitW]
  | c :: r => by
    have := splitW_len r
    have hn := splitW_ne r
    unfold splitW
    split
    · simp; omega
    · have : (splitW r).length = (splitW r).tail.length + 1 := by rw [splitW_eta r]; simp
      simp; omega
theorem ok_word_Split : codeOK Tryd.prog T5n Tryd.f14.ntmps (Tryd.f14.body.getD .skip) = true := by kernel_rfl
theorem c_word_Split (s : List UInt8) (hs : s.length ≤ 900000) : CallA Tryd.prog 14 [.str s] (· = wordsA (wordsW s)) := by
  refine callA_of_body T5n_ok mixed Tryd.func14 rfl (Nat.le_of_ble_eq_true rfl) ok_word_Split ?_
  unfold Tryd.f14
  by_cases h0 : s = []
  · subst h0
    simp -implicitDefEqProofs (disch := (first | omega | decide)) only [go_sem, ↓reduceIte, seval]
    rfl
  · have hne : (s == []) = false := by simpa using h0
    have hlen := splitW_len s
    have g1 := t5_split (s := s) (by omega)
    have g2 := t5_Join (l := splitW s) (by omega) (by rw [line_split]; omega)
    by_cases hm : (splitW s).all mayB = true
    · have e1 : wordsW s = some (splitW s) := by unfold wordsW; rw [if_neg h0, if_pos hm]
      have e2 : joinW (splitW s) = some s := by unfold joinW; rw [if_pos hm, line_split]
      rw [e1]
      rw [e2] at g2
      simp only [rdA] at g2
      simp -implicitDefEqProofs (disch := (first | omega | decide)) only [go_sem, ↓reduceIte, seval, hne, g1, g2]
      rfl
    · have e1 : wordsW s = none := by unfold wordsW; rw [if_neg h0, if_neg hm]
      have e2 : joinW (splitW s) = none := by unfold joinW; rw [if_neg hm]
      rw [e1]
      rw [e2] at g2
      simp only [rdA] at g2
      simp -implicitDefEqProofs (disch := (first | omega | decide)) only [go_sem, ↓reduceIte, seval, hne, g1, g2]
      rfl
noncomputable def T5o : Tab := T5n.add 14 (entry (fun (s : List UInt8) => [.str s]) (fun s => s.length ≤ 900000) (fun s => wordsA (wordsW s)))
theorem T5o_ok : TabOK Tryd.prog T5o := T5n_ok.ent Tryd.func14 (by kernel_rfl) (by kernel_rfl) fun s h => c_word_Split s h
@[go_sem] theorem T5o_old {g : FuncId} {xs : List A} (h : g ≠ 14) : T5o.f g xs = T5n.f g xs := Tab.add_ne h
@[go_sem] theorem T5o_s : T5o.pl T5n := ⟨fun _ => rfl, fun _ => rfl, rfl, fun _ => rfl, rfl, fun _ => rfl, rfl⟩
theorem T5o_word_Split (s : List UInt8) (h : s.length ≤ 900000) : T5o.f 14 [.str s] = some (wordsA (wordsW s)) := Tab.ent_eq (Γ := T5n) (fun i j h => by simpa [Prod.ext_iff, and_assoc] using h) s h
theorem t5_Split {s : List UInt8} (h : s.length ≤ 900000) : T5o.f 14 [.str s] = some (wordsA (wordsW s)) := T5o_word_Split s h
theorem ok_law05_awake : codeOK Tryd.prog T5o Tryd.f7.ntmps (Tryd.f7.body.getD .skip) = true := by kernel_rfl
theorem c_law05_awake : CallA Tryd.prog 7 [] (· = .bool true) := by
  refine callA_of_body T5o_ok mixed Tryd.func7 rfl (Nat.le_of_ble_eq_true rfl) ok_law05_awake ?_
  unfold Tryd.f7
  have g1 : T5h.f 8 [.str [97, 45, 50, 48, 45, 52, 50]] = some (.tup [.str [97, 32, 66], .bool true]) := t5_Read (by decide)
  have g2 : T5o.f 14 [.str [97, 32, 32, 98]] = some (.tup [.slc [], .bool false]) := t5_Split (by decide)
  have g3 : T5f.f 9 [.str [97, 32, 66]] = some (.str [97, 45, 50, 48, 45, 52, 50]) := t5_Of (by decide)
  have g4 : T5f.f 9 [.str []] = some (.str [95]) := t5_Of (by decide)
  simp -implicitDefEqProofs (disch := (first | omega | decide)) only [go_sem, ↓reduceIte, seval, g1, g2, g3, g4]
noncomputable def T5p : Tab := T5o.add 7 (entry (fun (u : Unit) => []) (fun u => True) (fun u => .bool true))
theorem T5p_ok : TabOK Tryd.prog T5p := T5o_ok.ent Tryd.func7 (by kernel_rfl) (by kernel_rfl) fun u h => c_law05_awake
@[go_sem] theorem T5p_old {g : FuncId} {xs : List A} (h : g ≠ 7) : T5p.f g xs = T5o.f g xs := Tab.add_ne h
@[go_sem] theorem T5p_s : T5p.pl T5o := ⟨fun _ => rfl, fun _ => rfl, rfl, fun _ => rfl, rfl, fun _ => rfl, rfl⟩
theorem T5p_law05_awake (u : Unit) (h : True) : T5p.f 7 [] = some (.bool true) := Tab.ent_eq (Γ := T5o) (fun i j h => by first | (cases i; cases j; rfl; done) | simpa [Prod.ext_iff, and_assoc] using h | (simp at h; omega) | (simp at h; exact Prod.ext h.1 (Prod.ext h.2.1 (by omega)))) u h
theorem t5_awake : T5p.f 7 [] = some (.bool true) := T5p_law05_awake () trivial
theorem flat_ge : ∀ s : List UInt8, s.length ≤ (s.flatMap wC).length
  | [] => by simp
  | c :: s => by
    have := flat_ge s
    have : 1 ≤ (wC c).length := by unfold wC; split <;> simp
    simp only [List.flatMap_cons, List.length_append, List.length_cons]; omega
theorem ofW_len (s : List UInt8) : s.length ≤ (ofW s).length ∧ (ofW s).length ≤ 3 * s.length + 1 := by
  have h1 := flat_ge s
  have h2 := flat_len s
  unfold ofW
  split
  · rename_i h; subst h; simp
  · omega
theorem readW_len {w t : List UInt8} (h : readW w = some t) : t.length ≤ w.length := by
  have := (ofW_len t).1
  rw [ofW_readW h] at this; exact this
theorem ok_law05_WordReads : codeOK Tryd.prog T5p Tryd.f3.ntmps (Tryd.f3.body.getD .skip) = true := by kernel_rfl
theorem c_law05_WordReads (s w : List UInt8) (hs : s.length ≤ 9223372036854775807) (hw : w.length ≤ 9223372036854775807) : CallA Tryd.prog 3 [.str s, .str w] (· = .bool true) := by
  refine callA_of_body T5p_ok mixed Tryd.func3 rfl (Nat.le_of_ble_eq_true rfl) ok_law05_WordReads ?_
  unfold Tryd.f3
  have ga := t5_awake
  by_cases h1 : (300 : Int) < (s.length : Int)
  · simp -implicitDefEqProofs (disch := (first | omega | decide)) only [go_sem, ↓reduceIte, seval, ga, h1]
  · by_cases h2 : (300 : Int) < (w.length : Int)
    · simp -implicitDefEqProofs (disch := (first | omega | decide)) only [go_sem, ↓reduceIte, seval, ga, h1, h2]
    · have hl := ofW_len s
      have g1 := t5_Of (s := s) (by omega)
      have g2 := t5_Read (s := ofW s) (by omega)
      rw [readW_ofW] at g2
      simp only [rdA] at g2
      have g3 := t5_rOf (s := s) (by omega)
      have g4 := t5_Read (s := w) (by omega)
      cases hr : readW w with
      | none =>
        rw [hr] at g4
        simp only [rdA] at g4
        simp -implicitDefEqProofs (disch := (first | omega | decide)) only [go_sem, ↓reduceIte, seval, ga, h1, h2, g1, g2, g3, g4]
      | some t =>
        rw [hr] at g4
        simp only [rdA] at g4
        have hlt := readW_len hr
        have g5 := t5_rOf (s := t) (by omega)
        rw [ofW_readW hr] at g5
        simp -implicitDefEqProofs (disch := (first | omega | decide)) only [go_sem, ↓reduceIte, seval, ga, h1, h2, g1, g2, g3, g4, g5]
theorem mem_line {x : List UInt8} : ∀ {l : List (List UInt8)}, x ∈ l → x.length ≤ (lineW l).length
  | [], h => by cases h
  | [y], h => by simp only [List.mem_cons, List.not_mem_nil, or_false] at h; subst h; simp [lineW]
  | y :: z :: r, h => by
    have ih := @mem_line x (z :: r)
    simp only [lineW, List.flatMap_cons, List.length_append, List.cons_append, List.length_cons] at ih ⊢
    rcases List.mem_cons.1 h with rfl | h
    · omega
    · have := ih h; omega
theorem all_take_succ {α : Type} {l : List α} {k : Nat} (h : k < l.length) (p : α → Bool) : (l.take (k + 1)).all p = ((l.take k).all p && p l[k]) := by
  rw [← List.take_append_getElem h, List.all_append]; simp
theorem line_cnt : ∀ l : List (List UInt8), l.length ≤ (lineW l).length + 1
  | [] => by simp
  | [x] => by simp
  | x :: y :: r => by
    have ih := line_cnt (y :: r)
    simp only [lineW, List.flatMap_cons, List.length_append, List.cons_append, List.length_cons] at ih ⊢
    omega
theorem ok_law05_WordLines : codeOK Tryd.prog T5p Tryd.f4.ntmps (Tryd.f4.body.getD .skip) = true := by kernel_rfl
theorem c_law05_WordLines (l : List (List UInt8)) (line : List UInt8) (hl : l.length ≤ 9223372036854775807) (hll : ∀ x ∈ l, x.length ≤ 9223372036854775807) (hs : line.length ≤ 9223372036854775807) : CallA Tryd.prog 4 [.slc (l.map .str), .str line] (· = .bool true) := by
  refine callA_of_body T5p_ok mixed Tryd.func4 rfl (Nat.le_of_ble_eq_true rfl) ok_law05_WordLines ?_
  unfold Tryd.f4
  have ga := t5_awake
  by_cases h1 : (40 : Int) < (l.length : Int)
  · simp -implicitDefEqProofs (disch := (first | omega | decide)) only [go_sem, ↓reduceIte, seval, ga, h1, List.length_map]
  by_cases h2 : (400 : Int) < (line.length : Int)
  · simp -implicitDefEqProofs (disch := (first | omega | decide)) only [go_sem, ↓reduceIte, seval, ga, h1, h2, List.length_map]
  simp -implicitDefEqProofs (disch := (first | omega | decide)) only [go_sem, ↓reduceIte, seval, ga, h1, h2, List.length_map]
  refine wpA_loop [0, 1, 27, 28] (ι := {k : Nat // k ≤ l.length ∧ ∀ x ∈ l.take k, x.length ≤ 100}) (fun k => [(29, .int .i64 k.1), (5, .bool ((l.take k.1).all mayB))]) (fun _ => []) (fun k => l.length - k.1) ⟨0, by omega, by simp⟩ (Nat.zero_le _) ?_ ?_
  · simp -implicitDefEqProofs (disch := (first | omega | decide)) only [go_sem, ↓reduceIte, seval]
    try rfl
  rintro ⟨k, hk, hd⟩
  simp only
  by_cases hlt : k < l.length
  · have hlt' : (k : Int) < (l.length : Int) := by omega
    have e1 := strs_get hlt
    have hn := all_take_succ hlt mayB
    have hmem : ∀ x ∈ l.take (k + 1), x ∈ l.take k ∨ x = l[k] := by
      intro x hx
      rw [← List.take_append_getElem hlt] at hx
      rcases List.mem_append.1 hx with h | h
      · exact .inl h
      · exact .inr (by simpa only [List.mem_cons, List.not_mem_nil, or_false] using h)
    have hxl := hll _ (List.getElem_mem hlt)
    generalize l[k] = x at *
    by_cases h3 : (100 : Int) < (x.length : Int)
    · simp -implicitDefEqProofs (disch := (first | omega | decide)) only [go_sem, ↓reduceIte, seval, hlt', e1, h3, wrap_i64, List.length_map]
    · have g := t5_May (s := x) (by omega)
      have hnext : ∀ y ∈ l.take (k + 1), y.length ≤ 100 := fun y hy => by
        rcases hmem y hy with h | rfl
        · exact hd y h
        · omega
      cases hm : (l.take k).all mayB with
      | false =>
        rw [hm, Bool.false_and] at hn
        simp -implicitDefEqProofs (disch := (first | omega | decide)) only [go_sem, ↓reduceIte, seval, hlt', e1, h3, wrap_i64, List.length_map]
        exact ⟨⟨k + 1, hlt, hnext⟩, ⟨by simp, by rw [hn]⟩, by show l.length - (k + 1) < l.length - k; omega⟩
      | true =>
        rw [hm, Bool.true_and] at hn
        simp -implicitDefEqProofs (disch := (first | omega | decide)) only [go_sem, ↓reduceIte, seval, hlt', e1, h3, g, wrap_i64, List.length_map]
        exact ⟨⟨k + 1, hlt, hnext⟩, ⟨by simp, by rw [hn]⟩, by show l.length - (k + 1) < l.length - k; omega⟩
  have hlt' : ¬ (k : Int) < (l.length : Int) := by omega
  rw [List.take_of_length_le (by omega)] at hd
  rw [List.take_of_length_le (by omega)]
  have hL : (lineW l).length ≤ 10000 := by
    have h := line_len l 100 hd
    have : l.length * (100 + 1) ≤ 40 * 101 := Nat.mul_le_mul_right 101 (by omega)
    omega
  have g1 := t5_Join (l := l) (by omega) (by omega)
  have g2 := t5_Line (l := l) (by omega) (by omega)
  have g3 := t5_Split (s := lineW l) (by omega)
  have g4 := t5_Split (s := line) (by omega)
  obtain ⟨ws, okw, g4', hws, hwl0⟩ : ∃ (ws : List (List UInt8)) (okw : Bool), T5o.f 14 [.str line] = some (.tup [.slc (ws.map .str), .bool okw]) ∧ (ws.all mayB = true ∧ (if okw = true then lineW ws = line else ws = [])) := by
    cases hw : wordsW line with
    | none => rw [hw] at g4; exact ⟨[], false, g4, rfl, by rw [if_neg (by decide)]⟩
    | some ws => rw [hw] at g4; obtain ⟨a, b⟩ := words_some hw; exact ⟨ws, true, g4, a, by rw [if_pos rfl]; exact b⟩
  clear g4
  have hcnt := line_cnt ws
  have g6 : okw = true → T5m.f 13 [.slc (ws.map .str)] = some (.str line) := fun h => by
    rw [if_pos h] at hwl0
    have := t5_Line (l := ws) (by rw [hwl0] at hcnt; omega) (by rw [hwl0]; omega)
    rw [hwl0] at this; exact this
  have hno : okw = false → ws = [] := fun h => by rw [h] at hwl0; rw [if_neg (by decide)] at hwl0; exact hwl0
  have hwl : ∀ x ∈ ws, x.length ≤ 400 := fun x hx => by
    cases hk : okw with
    | false => rw [hno hk] at hx; cases hx
    | true =>
      rw [if_pos hk] at hwl0
      have := mem_line hx
      rw [hwl0] at this; omega
  have hwc : ws.length ≤ 401 := by
    cases hk : okw with
    | false => rw [hno hk]; simp
    | true =>
      rw [if_pos hk] at hwl0
      rw [hwl0] at hcnt; omega
  cases hm : l.all mayB with
  | true =>
    rw [words_line hm] at g3
    have e1 : joinW l = some (lineW l) := by unfold joinW; rw [if_pos hm]
    rw [e1] at g1
    simp only [rdA] at g1
    simp only [wordsA] at g3
    simp -implicitDefEqProofs (disch := (first | omega | decide)) only [go_sem, ↓reduceIte, seval, hlt', g1, g2, g3, List.length_map]
    refine wpA_loop [0, 1, 5, 10, 86] (ι := {k : Nat // k ≤ l.length}) (fun k => [(87, .int .i64 k.1)]) (fun _ => []) (fun k => l.length - k.1) ⟨0, by omega⟩ (Nat.zero_le _) ?_ ?_
    · simp -implicitDefEqProofs (disch := (first | omega | decide)) only [go_sem, ↓reduceIte, seval]
    rintro ⟨k, hk⟩
    simp only
    by_cases hlt : k < l.length
    · have hlt' : (k : Int) < (l.length : Int) := by omega
      have e1 := strs_get hlt
      generalize l[k] = x at *
      simp -implicitDefEqProofs (disch := (first | omega | decide)) only [go_sem, ↓reduceIte, seval, hlt', e1, wrap_i64, List.length_map]
      exact ⟨⟨k + 1, hlt⟩, by simp, by show l.length - (k + 1) < l.length - k; omega⟩
    · have hltX : ¬ (k : Int) < (l.length : Int) := by omega
      simp -implicitDefEqProofs (disch := (first | omega | decide)) only [go_sem, ↓reduceIte, seval, hltX, g4', List.length_map]
      refine wpA_loop [1, 13, 14, 108, 109] (ι := {k : Nat // k ≤ ws.length}) (fun k => [(110, .int .i64 k.1)]) (fun _ => []) (fun k => ws.length - k.1) ⟨0, by omega⟩ (Nat.zero_le _) ?_ ?_
      · simp -implicitDefEqProofs (disch := (first | omega | decide)) only [go_sem, ↓reduceIte, seval]
      rintro ⟨j, hj⟩
      simp only
      by_cases hjl : j < ws.length
      · have hjl' : (j : Int) < (ws.length : Int) := by omega
        have e2 := strs_get hjl
        have gm := t5_May (s := ws[j]) (Nat.le_trans (hwl _ (List.getElem_mem hjl)) (by omega))
        have hmy : mayB ws[j] = true := by simpa using List.all_eq_true.1 hws _ (List.getElem_mem hjl)
        rw [hmy] at gm
        generalize ws[j] = y at *
        simp -implicitDefEqProofs (disch := (first | omega | decide)) only [go_sem, ↓reduceIte, seval, hjl', e2, gm, wrap_i64, List.length_map]
        exact ⟨⟨j + 1, hjl⟩, by simp, by show ws.length - (j + 1) < ws.length - j; omega⟩
      · have hjl' : ¬ (j : Int) < (ws.length : Int) := by omega
        cases okw with
        | true =>
          simp -implicitDefEqProofs (disch := (first | omega | decide)) only [go_sem, ↓reduceIte, seval, hjl', g6, List.length_map]
        | false =>
          have hz : ((ws.length : Int) == 0) = true := by rw [hno rfl]; rfl
          simp -implicitDefEqProofs (disch := (first | omega | decide)) only [go_sem, ↓reduceIte, seval, hjl', hz, List.length_map]
  | false =>
    have e1 : joinW l = none := by unfold joinW; rw [hm]; rfl
    rw [e1] at g1
    simp only [rdA] at g1
    obtain ⟨bk, okb, g3'⟩ : ∃ (bk : List (List UInt8)) (okb : Bool), T5o.f 14 [.str (lineW l)] = some (.tup [.slc (bk.map .str), .bool okb]) := by
      cases hw : wordsW (lineW l) with
      | none => rw [hw] at g3; exact ⟨[], false, g3⟩
      | some bk => rw [hw] at g3; exact ⟨bk, true, g3⟩
    simp -implicitDefEqProofs (disch := (first | omega | decide)) only [go_sem, ↓reduceIte, seval, hlt', g1, g2, g3', List.length_map]
    refine wpA_loop [0, 1, 5, 10, 86] (ι := {k : Nat // k ≤ l.length}) (fun k => [(87, .int .i64 k.1)]) (fun _ => []) (fun k => l.length - k.1) ⟨0, by omega⟩ (Nat.zero_le _) ?_ ?_
    · simp -implicitDefEqProofs (disch := (first | omega | decide)) only [go_sem, ↓reduceIte, seval]
    rintro ⟨k, hk⟩
    simp only
    by_cases hlt : k < l.length
    · have hlt' : (k : Int) < (l.length : Int) := by omega
      have e1 := strs_get hlt
      generalize l[k] = x at *
      simp -implicitDefEqProofs (disch := (first | omega | decide)) only [go_sem, ↓reduceIte, seval, hlt', e1, wrap_i64, List.length_map]
      exact ⟨⟨k + 1, hlt⟩, by simp, by show l.length - (k + 1) < l.length - k; omega⟩
    · have hltX : ¬ (k : Int) < (l.length : Int) := by omega
      simp -implicitDefEqProofs (disch := (first | omega | decide)) only [go_sem, ↓reduceIte, seval, hltX, g4', List.length_map]
      refine wpA_loop [1, 13, 14, 108, 109] (ι := {k : Nat // k ≤ ws.length}) (fun k => [(110, .int .i64 k.1)]) (fun _ => []) (fun k => ws.length - k.1) ⟨0, by omega⟩ (Nat.zero_le _) ?_ ?_
      · simp -implicitDefEqProofs (disch := (first | omega | decide)) only [go_sem, ↓reduceIte, seval]
      rintro ⟨j, hj⟩
      simp only
      by_cases hjl : j < ws.length
      · have hjl' : (j : Int) < (ws.length : Int) := by omega
        have e2 := strs_get hjl
        have gm := t5_May (s := ws[j]) (Nat.le_trans (hwl _ (List.getElem_mem hjl)) (by omega))
        have hmy : mayB ws[j] = true := by simpa using List.all_eq_true.1 hws _ (List.getElem_mem hjl)
        rw [hmy] at gm
        generalize ws[j] = y at *
        simp -implicitDefEqProofs (disch := (first | omega | decide)) only [go_sem, ↓reduceIte, seval, hjl', e2, gm, wrap_i64, List.length_map]
        exact ⟨⟨j + 1, hjl⟩, by simp, by show ws.length - (j + 1) < ws.length - j; omega⟩
      · have hjl' : ¬ (j : Int) < (ws.length : Int) := by omega
        cases okw with
        | true =>
          simp -implicitDefEqProofs (disch := (first | omega | decide)) only [go_sem, ↓reduceIte, seval, hjl', g6, List.length_map]
        | false =>
          have hz : ((ws.length : Int) == 0) = true := by rw [hno rfl]; rfl
          simp -implicitDefEqProofs (disch := (first | omega | decide)) only [go_sem, ↓reduceIte, seval, hjl', hz, List.length_map]
end Go.Proofs.YthiedimbmcgpdaaDoor
