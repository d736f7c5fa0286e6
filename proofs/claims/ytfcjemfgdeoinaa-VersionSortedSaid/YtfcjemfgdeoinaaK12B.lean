/- Chapter 12: texts of versions. -/
import Derived.Test.YtfcjemfgdeoinaaK12
namespace Go.Proofs.Ytfcjemfgdeoinaa
open Go.Abs
set_option linter.unusedSimpArgs false
set_option linter.unusedVariables false
set_option maxRecDepth 20000
set_option maxHeartbeats 4000000

/-- The number of a text's digits. -/
def numGo : List UInt8 → Bool → Nat → Nat
  | [], _, n => n
  | c :: s, fst, n => if c.toNat < 48 ∨ 57 < c.toNat ∨ (fst = true ∧ c.toNat = 48) ∨ 1099511627776 < n then 0 else numGo s false (10 * n + (c.toNat - 48))
def numB (s : List UInt8) : Nat := numGo s true 0
theorem numGo_bound : ∀ (s : List UInt8) (f : Bool) (n : Nat), n ≤ 10995116277769 → numGo s f n ≤ 10995116277769
  | [], _, n, h => h
  | c :: s, f, n, h => by
    simp only [numGo]
    split
    · omega
    · exact numGo_bound s false _ (by omega)
theorem digD_nat {n : Nat} : (digD n).toNat = 48 + n % 10 := by
  have := @digD_val n; omega
theorem num_digits (m : Nat) : ∀ t, 1 ≤ m → m ≤ 1099511627776 → numGo (digN m ++ t) true 0 = numGo t false m := by
  induction m using Nat.strongRecOn with
  | _ m ih =>
    intro t h1 h2
    by_cases h : m < 10
    · rw [digN_small h]
      simp only [List.cons_append, List.nil_append, numGo, digD_nat]
      rw [if_neg (by omega)]
      congr 1; omega
    · rw [digN_step h, List.append_assoc, ih (m / 10) (by omega) _ (by omega) (by omega)]
      simp only [List.cons_append, List.nil_append, numGo, digD_nat]
      rw [if_neg (by simp; omega)]
      congr 1; omega
theorem num_of_digits {m : Nat} (h1 : 1 ≤ m) (h2 : m ≤ 1099511627776) : numB (digN m) = m := by
  have := num_digits m [] h1 h2
  rw [List.append_nil] at this
  exact this
theorem digD_of {c : UInt8} (h1 : 48 ≤ c.toNat) (h2 : c.toNat ≤ 57) {n : Nat} : digD (10 * n + (c.toNat - 48)) = c := by
  apply UInt8.toNat_inj.1
  rw [digD_nat]; omega
theorem digits_num : ∀ (s : List UInt8) (n : Nat), 1 ≤ n → 1 ≤ numGo s false n → digN (numGo s false n) = digN n ++ s
  | [], n, _, _ => by simp [numGo]
  | c :: s, n, h1, h2 => by
    simp only [numGo] at h2 ⊢
    split at h2
    · omega
    · rename_i hc
      rw [if_neg hc]
      rw [digits_num s _ (by omega) h2, digN_step (show ¬ 10 * n + (c.toNat - 48) < 10 by omega), digD_of (by omega) (by omega)]
      rw [show (10 * n + (c.toNat - 48)) / 10 = n by omega]
      simp
theorem digits_of_num {s : List UInt8} (h : 1 ≤ numB s) : digN (numB s) = s := by
  unfold numB at h ⊢
  cases s with
  | nil => simp [numGo] at h
  | cons c s =>
    simp only [numGo] at h ⊢
    split at h
    · omega
    · rename_i hc
      rw [if_neg hc]
      simp only [true_and, Nat.mul_zero, Nat.zero_add] at hc ⊢
      rw [Nat.mul_zero, Nat.zero_add] at h
      rw [digits_num s _ (by omega) h, digN_small (by omega)]
      have : digD (c.toNat - 48) = c := by
        have := @digD_of c (by omega) (by omega) 0
        simpa using this
      rw [this]; rfl

theorem ok_version_number : codeOK Try.prog T0 Try.f43.ntmps (Try.f43.body.getD .skip) = true := by kernel_rfl
theorem c_version_number (s : List UInt8) (hs : s.length ≤ 4611686018427387904) : CallA Try.prog 43 [.str s] (· = .int .i64 (numB s)) := by
  refine callA_of_body T0_ok mixed Try.func43 rfl (Nat.le_of_ble_eq_true rfl) ok_version_number ?_
  unfold Try.f43
  simp -implicitDefEqProofs (maxSteps := 600000) (disch := (first | omega | decide)) only [go_sem, ↓reduceIte, Nat.reduceEqDiff, reduceCtorEq, Nat.reduceAdd, Nat.reduceSub, Nat.reduceMul, Nat.reduceLeDiff, Nat.reduceLT, Nat.reduceBEq, Nat.reduceBNe, Int.reduceLE, Int.reduceLT, Int.reduceBEq, Int.reduceBNe, Int.reduceEq, Int.reduceNe, Int.reduceAdd, Int.reduceSub, Int.reduceMul, Int.reduceNeg, Int.reduceToNat]
  refine wpA_loop [0, 7] (ι := {p : Nat × Nat // p.1 ≤ s.length ∧ p.2 ≤ 10995116277769 ∧ numB s = numGo (s.drop p.1) (p.1 == 0) p.2}) (fun p => [(8, .int .i64 p.1.1), (3, .int .i64 p.1.2)]) (fun _ => []) (fun p => s.length - p.1.1) ⟨(0, 0), by simp [numB]⟩ (Nat.zero_le _) ?_ ?_
  · simp -implicitDefEqProofs (maxSteps := 600000) (disch := (first | omega | decide)) only [go_sem, ↓reduceIte, Nat.reduceEqDiff, reduceCtorEq, Nat.reduceAdd, Nat.reduceSub, Nat.reduceMul, Nat.reduceLeDiff, Nat.reduceLT, Nat.reduceBEq, Nat.reduceBNe, Int.reduceLE, Int.reduceLT, Int.reduceBEq, Int.reduceBNe, Int.reduceEq, Int.reduceNe, Int.reduceAdd, Int.reduceSub, Int.reduceMul, Int.reduceNeg, Int.reduceToNat]
  · rintro ⟨⟨k, n⟩, hk, hn, hd⟩
    simp only at hk hn hd
    by_cases hlt : k < s.length
    · have hlt' : (k : Int) < (s.length : Int) := by omega
      have e1 : s[k]? = some s[k] := List.getElem?_eq_getElem hlt
      rw [List.drop_eq_getElem_cons hlt] at hd
      simp only [numGo] at hd
      generalize hc : s[k] = c at e1 hd
      have hc255 := c.toNat_lt
      by_cases h1 : (c.toNat : Int) < 48
      · rw [if_pos (.inl (by omega))] at hd
        simp -implicitDefEqProofs (maxSteps := 600000) (disch := (first | omega | decide)) only [go_sem, ↓reduceIte, Nat.reduceEqDiff, reduceCtorEq, Nat.reduceAdd, Nat.reduceSub, Nat.reduceMul, Nat.reduceLeDiff, Nat.reduceLT, Nat.reduceBEq, Nat.reduceBNe, Int.reduceLE, Int.reduceLT, Int.reduceBEq, Int.reduceBNe, Int.reduceEq, Int.reduceNe, Int.reduceAdd, Int.reduceSub, Int.reduceMul, Int.reduceNeg, Int.reduceToNat, hlt', e1, h1, encU8]
        rw [hd]; rfl
      · by_cases h2 : (57 : Int) < (c.toNat : Int)
        · rw [if_pos (.inr (.inl (by omega)))] at hd
          simp -implicitDefEqProofs (maxSteps := 600000) (disch := (first | omega | decide)) only [go_sem, ↓reduceIte, Nat.reduceEqDiff, reduceCtorEq, Nat.reduceAdd, Nat.reduceSub, Nat.reduceMul, Nat.reduceLeDiff, Nat.reduceLT, Nat.reduceBEq, Nat.reduceBNe, Int.reduceLE, Int.reduceLT, Int.reduceBEq, Int.reduceBNe, Int.reduceEq, Int.reduceNe, Int.reduceAdd, Int.reduceSub, Int.reduceMul, Int.reduceNeg, Int.reduceToNat, hlt', e1, h1, h2, encU8]
          rw [hd]; rfl
        · have hw : IntKind.u8.wrap ((c.toNat : Int) - 48) = (c.toNat : Int) - 48 := wrap_u8 (by omega)
          have go : ∀ (h48 : ¬ (k = 0 ∧ c.toNat = 48)) (hn' : ¬ 1099511627776 < n), numB s = numGo (s.drop (k + 1)) (k + 1 == 0) (10 * n + (c.toNat - 48)) := fun h48 hn' => by
            rw [hd, if_neg (by simp only [beq_iff_eq]; omega)]; rfl
          cases h3 : ((k : Int) == 0) with
          | true =>
            have hk0 : k = 0 := by simpa using h3
            cases h4 : ((c.toNat : Int) == 48) with
            | true =>
              have hc48 : (c.toNat : Int) = 48 := by simpa using h4
              rw [if_pos (.inr (.inr (.inl ⟨by simp [hk0], by omega⟩)))] at hd
              simp -implicitDefEqProofs (maxSteps := 600000) (disch := (first | omega | decide)) only [go_sem, ↓reduceIte, Nat.reduceEqDiff, reduceCtorEq, Nat.reduceAdd, Nat.reduceSub, Nat.reduceMul, Nat.reduceLeDiff, Nat.reduceLT, Nat.reduceBEq, Nat.reduceBNe, Int.reduceLE, Int.reduceLT, Int.reduceBEq, Int.reduceBNe, Int.reduceEq, Int.reduceNe, Int.reduceAdd, Int.reduceSub, Int.reduceMul, Int.reduceNeg, Int.reduceToNat, hlt', e1, h1, h2, h3, h4, encU8]
              rw [hd]; rfl
            | false =>
              have hc48 : (c.toNat : Int) ≠ 48 := by simpa using h4
              by_cases h5 : (1099511627776 : Int) < (n : Int)
              · rw [if_pos (.inr (.inr (.inr (by omega))))] at hd
                simp -implicitDefEqProofs (maxSteps := 600000) (disch := (first | omega | decide)) only [go_sem, ↓reduceIte, Nat.reduceEqDiff, reduceCtorEq, Nat.reduceAdd, Nat.reduceSub, Nat.reduceMul, Nat.reduceLeDiff, Nat.reduceLT, Nat.reduceBEq, Nat.reduceBNe, Int.reduceLE, Int.reduceLT, Int.reduceBEq, Int.reduceBNe, Int.reduceEq, Int.reduceNe, Int.reduceAdd, Int.reduceSub, Int.reduceMul, Int.reduceNeg, Int.reduceToNat, hlt', e1, h1, h2, h3, h4, h5, encU8]
                rw [hd]; rfl
              · simp -implicitDefEqProofs (maxSteps := 600000) (disch := (first | omega | decide)) only [go_sem, ↓reduceIte, Nat.reduceEqDiff, reduceCtorEq, Nat.reduceAdd, Nat.reduceSub, Nat.reduceMul, Nat.reduceLeDiff, Nat.reduceLT, Nat.reduceBEq, Nat.reduceBNe, Int.reduceLE, Int.reduceLT, Int.reduceBEq, Int.reduceBNe, Int.reduceEq, Int.reduceNe, Int.reduceAdd, Int.reduceSub, Int.reduceMul, Int.reduceNeg, Int.reduceToNat, hlt', e1, h1, h2, h3, h4, h5, hw, encU8, wrap_i64]
                exact ⟨⟨(k + 1, 10 * n + (c.toNat - 48)), hlt, by show 10 * n + (c.toNat - 48) ≤ _; omega, go (by omega) (by omega)⟩, ⟨by simp, by simp; omega⟩, by show s.length - (k + 1) < s.length - k; omega⟩
          | false =>
            have hk0 : k ≠ 0 := by simpa using h3
            by_cases h5 : (1099511627776 : Int) < (n : Int)
            · rw [if_pos (.inr (.inr (.inr (by omega))))] at hd
              simp -implicitDefEqProofs (maxSteps := 600000) (disch := (first | omega | decide)) only [go_sem, ↓reduceIte, Nat.reduceEqDiff, reduceCtorEq, Nat.reduceAdd, Nat.reduceSub, Nat.reduceMul, Nat.reduceLeDiff, Nat.reduceLT, Nat.reduceBEq, Nat.reduceBNe, Int.reduceLE, Int.reduceLT, Int.reduceBEq, Int.reduceBNe, Int.reduceEq, Int.reduceNe, Int.reduceAdd, Int.reduceSub, Int.reduceMul, Int.reduceNeg, Int.reduceToNat, hlt', e1, h1, h2, h3, h5, encU8]
              rw [hd]; rfl
            · simp -implicitDefEqProofs (maxSteps := 600000) (disch := (first | omega | decide)) only [go_sem, ↓reduceIte, Nat.reduceEqDiff, reduceCtorEq, Nat.reduceAdd, Nat.reduceSub, Nat.reduceMul, Nat.reduceLeDiff, Nat.reduceLT, Nat.reduceBEq, Nat.reduceBNe, Int.reduceLE, Int.reduceLT, Int.reduceBEq, Int.reduceBNe, Int.reduceEq, Int.reduceNe, Int.reduceAdd, Int.reduceSub, Int.reduceMul, Int.reduceNeg, Int.reduceToNat, hlt', e1, h1, h2, h3, h5, hw, encU8, wrap_i64]
              exact ⟨⟨(k + 1, 10 * n + (c.toNat - 48)), hlt, by show 10 * n + (c.toNat - 48) ≤ _; omega, go (by omega) (by omega)⟩, ⟨by simp, by simp; omega⟩, by show s.length - (k + 1) < s.length - k; omega⟩
    · have hlt' : ¬ (k : Int) < (s.length : Int) := by omega
      simp -implicitDefEqProofs (maxSteps := 600000) (disch := (first | omega | decide)) only [go_sem, ↓reduceIte, Nat.reduceEqDiff, reduceCtorEq, Nat.reduceAdd, Nat.reduceSub, Nat.reduceMul, Nat.reduceLeDiff, Nat.reduceLT, Nat.reduceBEq, Nat.reduceBNe, Int.reduceLE, Int.reduceLT, Int.reduceBEq, Int.reduceBNe, Int.reduceEq, Int.reduceNe, Int.reduceAdd, Int.reduceSub, Int.reduceMul, Int.reduceNeg, Int.reduceToNat, hlt']
      rw [hd, List.drop_of_length_le (by omega)]; rfl
noncomputable def T12f : Tab := T12e.add 43 (entry (fun (s : List UInt8) => [.str s]) (fun s => s.length ≤ 4611686018427387904) (fun s => .int .i64 (numB s)))
theorem T12f_ok : TabOK Try.prog T12f := T12e_ok.add (callable_of Try.func43 (by kernel_rfl) (by kernel_rfl)) (entry_ok fun s h => c_version_number s h)
@[go_sem] theorem T12f_old {g : FuncId} {xs : List A} (h : g ≠ 43) : T12f.f g xs = T12e.f g xs := Tab.add_ne h
@[go_sem] theorem T12f_eff {g : FuncId} : T12f.eff g = T12e.eff g := rfl
@[go_sem] theorem T12f_frz {g : FuncId} : T12f.frz g = T12e.frz g := rfl
@[go_sem] theorem T12f_effT : T12f.effT = T12e.effT := rfl
@[go_sem] theorem T12f_fix : T12f.fix = T12e.fix := rfl
@[go_sem] theorem T12f_nf : T12f.nf = T12e.nf := rfl
@[go_sem] theorem T12f_hp : T12f.hp = T12e.hp := rfl
theorem T12f_version_number (s : List UInt8) (h : s.length ≤ 4611686018427387904) : T12f.f 43 [.str s] = some (.int .i64 (numB s)) :=
  (Tab.add_eq : T12f.f 43 [.str s] = (entry (fun (s : List UInt8) => [.str s]) (fun s => s.length ≤ 4611686018427387904) (fun s => .int .i64 (numB s))) [.str s]).trans (entry_eq (fun i j h => by first | (cases i; cases j; rfl; done) | simpa [Prod.ext_iff, and_assoc] using h | (simp at h; omega)) s h)
@[go_sem] theorem t_version_number {s : List UInt8} (h : s.length ≤ 4611686018427387904) : T12f.f 43 [.str s] = some (.int .i64 (numB s)) := T12f_version_number s h

/-- A version's text; what a text tells. -/
def textV (v : Ver) : List UInt8 := digN v.r.toNat ++ [46] ++ digN v.c.toNat
def textA (v : Ver) : A := if rightV v = true then .tup [.str (textV v), .int .i64 0] else .tup [.str [], .int .i64 2]
theorem right_parts {v : Ver} (h : rightV v = true) : 1 ≤ v.r ∧ v.r ≤ 16 ∧ 1 ≤ v.c ∧ v.c ≤ 1099511627776 := by
  simpa [rightV, and_assoc] using h
theorem ok_version_Text : codeOK Try.prog T12f Try.f28.ntmps (Try.f28.body.getD .skip) = true := by kernel_rfl
theorem c_version_Text (v : Ver) : CallA Try.prog 28 [.agg [.int .i64 v.r, .int .i64 v.c]] (· = textA v) := by
  refine callA_of_body T12f_ok mixed Try.func28 rfl (Nat.le_of_ble_eq_true rfl) ok_version_Text ?_
  unfold Try.f28
  obtain ⟨r, c⟩ := v
  cases hr : rightV ⟨r, c⟩ with
  | false =>
    have e : textA ⟨r, c⟩ = .tup [.str [], .int .i64 2] := by unfold textA; rw [if_neg (by rw [hr]; simp)]
    simp -implicitDefEqProofs (maxSteps := 600000) (disch := (first | omega | decide)) only [go_sem, ↓reduceIte, Nat.reduceEqDiff, reduceCtorEq, Nat.reduceAdd, Nat.reduceSub, Nat.reduceMul, Nat.reduceLeDiff, Nat.reduceLT, Nat.reduceBEq, Nat.reduceBNe, Int.reduceLE, Int.reduceLT, Int.reduceBEq, Int.reduceBNe, Int.reduceEq, Int.reduceNe, Int.reduceAdd, Int.reduceSub, Int.reduceMul, Int.reduceNeg, Int.reduceToNat, hr, e]
  | true =>
    obtain ⟨h1, h2, h3, h4⟩ := right_parts hr
    simp only at h1 h2 h3 h4
    have e : textA ⟨r, c⟩ = .tup [.str (textV ⟨r, c⟩), .int .i64 0] := by unfold textA; rw [if_pos hr]
    have er : r = ((r.toNat : Nat) : Int) := by omega
    have ec : c = ((c.toNat : Nat) : Int) := by omega
    have l1 := digN_len r.toNat
    have l2 := digN_len c.toNat
    have l3 : (digN r.toNat ++ [46]).length = (digN r.toNat).length + 1 := by simp
    have hT : textV ⟨r, c⟩ = digN r.toNat ++ [46] ++ digN c.toNat := rfl
    generalize hR : r.toNat = R at *
    generalize hC : c.toNat = C at *
    subst er; subst ec
    simp -implicitDefEqProofs (maxSteps := 600000) (disch := (first | omega | decide)) only [go_sem, ↓reduceIte, Nat.reduceEqDiff, reduceCtorEq, Nat.reduceAdd, Nat.reduceSub, Nat.reduceMul, Nat.reduceLeDiff, Nat.reduceLT, Nat.reduceBEq, Nat.reduceBNe, Int.reduceLE, Int.reduceLT, Int.reduceBEq, Int.reduceBNe, Int.reduceEq, Int.reduceNe, Int.reduceAdd, Int.reduceSub, Int.reduceMul, Int.reduceNeg, Int.reduceToNat, hr, e, l3, hT]
    omega
theorem ok_ref01_Digits : codeOK Try.prog T0 Try.f44.ntmps (Try.f44.body.getD .skip) = true := by kernel_rfl
theorem c_ref01_Digits (n : Nat) (hn : n ≤ 4611686018427387904) : CallA Try.prog 44 [.int .i64 n] (· = .str (digN n)) := by
  refine callA_of_body T0_ok mixed Try.func44 rfl (Nat.le_of_ble_eq_true rfl) ok_ref01_Digits ?_
  unfold Try.f44
  simp -implicitDefEqProofs (maxSteps := 600000) (disch := (first | omega | decide)) only [go_sem, ↓reduceIte, Nat.reduceEqDiff, reduceCtorEq, Nat.reduceAdd, Nat.reduceSub, Nat.reduceMul, Nat.reduceLeDiff, Nat.reduceLT, Nat.reduceBEq, Nat.reduceBNe, Int.reduceLE, Int.reduceLT, Int.reduceBEq, Int.reduceBNe, Int.reduceEq, Int.reduceNe, Int.reduceAdd, Int.reduceSub, Int.reduceMul, Int.reduceNeg, Int.reduceToNat]
  refine wpA_loop [] (ι := {p : Nat × List UInt8 // p.1 ≤ n ∧ p.1 + p.2.length ≤ n + 1 ∧ ((p.2 = [] ∧ p.1 = n) ∨ (p.2 ≠ [] ∧ digN n = if p.1 = 0 then p.2 else digN p.1 ++ p.2))}) (fun p => [(0, .int .i64 p.1.1), (3, .str p.1.2)]) (fun _ => []) (fun p => p.1.1 + (if p.1.2 = [] then 1 else 0)) ⟨(n, []), by simp⟩ (Nat.zero_le _) ?_ ?_
  · simp -implicitDefEqProofs (maxSteps := 600000) (disch := (first | omega | decide)) only [go_sem, ↓reduceIte, Nat.reduceEqDiff, reduceCtorEq, Nat.reduceAdd, Nat.reduceSub, Nat.reduceMul, Nat.reduceLeDiff, Nat.reduceLT, Nat.reduceBEq, Nat.reduceBNe, Int.reduceLE, Int.reduceLT, Int.reduceBEq, Int.reduceBNe, Int.reduceEq, Int.reduceNe, Int.reduceAdd, Int.reduceSub, Int.reduceMul, Int.reduceNeg, Int.reduceToNat]
  · rintro ⟨⟨m, s⟩, hm, hl, hd⟩
    simp only at hm hl hd
    have hone := bytesOfA_bytesA [digD m]
    simp only [bytesA, List.map_cons, List.map_nil, encU8, digD_val] at hone
    have hdv : ((m : Int).tdiv 10) = ((m / 10 : Nat) : Int) := by rw [Int.tdiv_eq_ediv_of_nonneg (by omega)]; omega
    have hmd : ((m : Int).tmod 10) = ((m % 10 : Nat) : Int) := by rw [Int.tmod_eq_emod_of_nonneg (by omega)]; omega
    have hw : IntKind.u8.wrap (48 + ((m % 10 : Nat) : Int)) = 48 + ((m % 10 : Nat) : Int) := wrap_u8 (by omega)
    have hge : ¬ ((m % 10 : Nat) : Int) < 0 := by omega
    have z10 : ¬ ((10 : Int) = 0) := by omega
    have hlen : [digD m].length = 1 := rfl
    cases hs : (s == ([] : List UInt8)) with
    | true =>
      have hs0 : s = [] := by simpa using hs
      subst hs0
      rcases hd with ⟨_, rfl⟩ | ⟨h, _⟩
      · simp -implicitDefEqProofs (maxSteps := 600000) (disch := (first | omega | decide)) only [go_sem, ↓reduceIte, Nat.reduceEqDiff, reduceCtorEq, Nat.reduceAdd, Nat.reduceSub, Nat.reduceMul, Nat.reduceLeDiff, Nat.reduceLT, Nat.reduceBEq, Nat.reduceBNe, Int.reduceLE, Int.reduceLT, Int.reduceBEq, Int.reduceBNe, Int.reduceEq, Int.reduceNe, Int.reduceAdd, Int.reduceSub, Int.reduceMul, Int.reduceNeg, Int.reduceToNat, hs, hdv, hmd, hw, hge, z10, hone, convB, wrap_i64]
        refine ⟨⟨(m / 10, [digD m]), Nat.div_le_self _ _, by simp; omega, .inr ⟨by simp, ?_⟩⟩, ⟨by simp, by simp⟩, ?_⟩
        · simp only
          split
          · rw [digN_small (by omega)]
          · rw [digN_step (by omega)]
        · simp; omega
      · exact absurd rfl h
    | false =>
      have hs0 : s ≠ [] := by simpa using hs
      rcases hd with ⟨h, _⟩ | ⟨_, hd⟩
      · exact absurd h hs0
      · by_cases h0 : (0 : Int) < (m : Int)
        · have hsl : 0 < s.length := List.length_pos_iff.2 hs0
          have hlen2 : ([digD m] ++ s).length = s.length + 1 := by simp
          simp -implicitDefEqProofs (maxSteps := 600000) (disch := (first | omega | decide)) only [go_sem, ↓reduceIte, Nat.reduceEqDiff, reduceCtorEq, Nat.reduceAdd, Nat.reduceSub, Nat.reduceMul, Nat.reduceLeDiff, Nat.reduceLT, Nat.reduceBEq, Nat.reduceBNe, Int.reduceLE, Int.reduceLT, Int.reduceBEq, Int.reduceBNe, Int.reduceEq, Int.reduceNe, Int.reduceAdd, Int.reduceSub, Int.reduceMul, Int.reduceNeg, Int.reduceToNat, hs, h0, hdv, hmd, hw, hge, z10, hone, convB, wrap_i64]
          refine ⟨by omega, ⟨(m / 10, digD m :: s), by show m / 10 ≤ n; omega, by simp; omega, .inr ⟨by simp, ?_⟩⟩, ⟨by simp, by simp⟩, ?_⟩
          · simp only
            rw [hd, if_neg (by omega)]
            split
            · rw [digN_small (by omega)]; rfl
            · rw [digN_step (show ¬ m < 10 by omega)]; simp
          · simp [hs0]; omega
        · have hm0 : m = 0 := by omega
          subst hm0
          rw [if_pos rfl] at hd
          simp -implicitDefEqProofs (maxSteps := 600000) (disch := (first | omega | decide)) only [go_sem, ↓reduceIte, Nat.reduceEqDiff, reduceCtorEq, Nat.reduceAdd, Nat.reduceSub, Nat.reduceMul, Nat.reduceLeDiff, Nat.reduceLT, Nat.reduceBEq, Nat.reduceBNe, Int.reduceLE, Int.reduceLT, Int.reduceBEq, Int.reduceBNe, Int.reduceEq, Int.reduceNe, Int.reduceAdd, Int.reduceSub, Int.reduceMul, Int.reduceNeg, Int.reduceToNat, hs, h0]
          rw [hd]
noncomputable def T12g : Tab := T12f.add 28 (entry (fun (v : Int × Int) => [.agg [.int .i64 v.1, .int .i64 v.2]]) (fun v => True) (fun v => textA ⟨v.1, v.2⟩))
theorem T12g_ok : TabOK Try.prog T12g := T12f_ok.add (callable_of Try.func28 (by kernel_rfl) (by kernel_rfl)) (entry_ok fun v h => c_version_Text ⟨v.1, v.2⟩)
@[go_sem] theorem T12g_old {g : FuncId} {xs : List A} (h : g ≠ 28) : T12g.f g xs = T12f.f g xs := Tab.add_ne h
@[go_sem] theorem T12g_eff {g : FuncId} : T12g.eff g = T12f.eff g := rfl
@[go_sem] theorem T12g_frz {g : FuncId} : T12g.frz g = T12f.frz g := rfl
@[go_sem] theorem T12g_effT : T12g.effT = T12f.effT := rfl
@[go_sem] theorem T12g_fix : T12g.fix = T12f.fix := rfl
@[go_sem] theorem T12g_nf : T12g.nf = T12f.nf := rfl
@[go_sem] theorem T12g_hp : T12g.hp = T12f.hp := rfl
theorem T12g_version_Text (v : Int × Int) (h : True) : T12g.f 28 [.agg [.int .i64 v.1, .int .i64 v.2]] = some (textA ⟨v.1, v.2⟩) :=
  (Tab.add_eq : T12g.f 28 [.agg [.int .i64 v.1, .int .i64 v.2]] = (entry (fun (v : Int × Int) => [.agg [.int .i64 v.1, .int .i64 v.2]]) (fun v => True) (fun v => textA ⟨v.1, v.2⟩)) [.agg [.int .i64 v.1, .int .i64 v.2]]).trans (entry_eq (fun i j h => by first | (cases i; cases j; rfl; done) | simpa [Prod.ext_iff, and_assoc] using h | (simp at h; omega)) v h)
noncomputable def T12h : Tab := T12g.add 44 (entry (fun (m : Nat) => [.int .i64 (m : Int)]) (fun m => m ≤ 4611686018427387904) (fun m => .str (digN m)))
theorem T12h_ok : TabOK Try.prog T12h := T12g_ok.add (callable_of Try.func44 (by kernel_rfl) (by kernel_rfl)) (entry_ok fun m h => c_ref01_Digits m h)
@[go_sem] theorem T12h_old {g : FuncId} {xs : List A} (h : g ≠ 44) : T12h.f g xs = T12g.f g xs := Tab.add_ne h
@[go_sem] theorem T12h_eff {g : FuncId} : T12h.eff g = T12g.eff g := rfl
@[go_sem] theorem T12h_frz {g : FuncId} : T12h.frz g = T12g.frz g := rfl
@[go_sem] theorem T12h_effT : T12h.effT = T12g.effT := rfl
@[go_sem] theorem T12h_fix : T12h.fix = T12g.fix := rfl
@[go_sem] theorem T12h_nf : T12h.nf = T12g.nf := rfl
@[go_sem] theorem T12h_hp : T12h.hp = T12g.hp := rfl
theorem T12h_ref01_Digits (m : Nat) (h : m ≤ 4611686018427387904) : T12h.f 44 [.int .i64 (m : Int)] = some (.str (digN m)) :=
  (Tab.add_eq : T12h.f 44 [.int .i64 (m : Int)] = (entry (fun (m : Nat) => [.int .i64 (m : Int)]) (fun m => m ≤ 4611686018427387904) (fun m => .str (digN m))) [.int .i64 (m : Int)]).trans (entry_eq (fun i j h => by first | (cases i; cases j; rfl; done) | simpa [Prod.ext_iff, and_assoc] using h | (simp at h; omega)) m h)
@[go_sem] theorem t_version_Text {r c : Int} : T12g.f 28 [.agg [.int .i64 r, .int .i64 c]] = some (textA ⟨r, c⟩) := T12g_version_Text (r, c) trivial
@[go_sem] theorem t_ref01_Digits {n : Nat} (h : n ≤ 4611686018427387904) : T12h.f 44 [.int .i64 (n : Int)] = some (.str (digN n)) := T12h_ref01_Digits n h
end Go.Proofs.Ytfcjemfgdeoinaa
