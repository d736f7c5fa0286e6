/- Chapter 12: the laws. -/
import Derived.Test.YtfcjemfgdeoinaaK12E
namespace Go.Proofs.Ytfcjemfgdeoinaa
open Go.Abs
set_option linter.unusedSimpArgs false
set_option linter.unusedVariables false
set_option maxRecDepth 20000
set_option maxHeartbeats 4000000

theorem fits_ver {x : List A} (h : fitsL [.int .i64, .int .i64] x) : ∃ r c : Int, x = [.int .i64 r, .int .i64 c] := by
  simp only [fitsL, fits] at h
  obtain ⟨y, zs, rfl, ⟨n, rfl, _⟩, y2, zs2, rfl, ⟨m, rfl, _⟩, rfl⟩ := h
  exact ⟨n, m, rfl⟩
theorem fits_vers {x : A} (h : fits (.rows [.int .i64, .int .i64]) x) : ∃ l : List Ver, x = .slc (l.map Ver.enc) ∧ l.length ≤ maxLen := by
  simp only [fits] at h
  obtain ⟨es, rfl, hl, he⟩ := h
  obtain ⟨l, rfl, _⟩ := list_of (f := Ver.enc) (P := fun _ => True) (es := es) (fun e hx => by
    obtain ⟨ys, rfl, hy⟩ := he e hx
    obtain ⟨r, c, rfl⟩ := fits_ver (by simpa only [fitsL, fits] using hy)
    exact ⟨⟨r, c⟩, rfl, trivial⟩)
  exact ⟨l, rfl, by simpa using hl⟩
@[go_sem] theorem t_law12_awake : T12m.f 23 [] = some (.bool true) := T12m_law12_awake () trivial

theorem tri (a b : Ver) : (ltV a b = true ∧ ltV b a = false ∧ cmpV a b = -1 ∧ cmpV b a = 1 ∧ a ≠ b) ∨ (a = b ∧ ltV a b = false ∧ ltV b a = false ∧ cmpV a b = 0 ∧ cmpV b a = 0) ∨ (ltV b a = true ∧ ltV a b = false ∧ cmpV a b = 1 ∧ cmpV b a = -1 ∧ a ≠ b) := by
  have i1 := @ltV_iff a b
  have i2 := @ltV_iff b a
  rcases Int.lt_trichotomy a.r b.r with h | h | h
  · have h1 : ltV a b = true := i1.2 (by omega)
    have h2 : ltV b a = false := by rw [← Bool.not_eq_true, i2]; omega
    have hne : a ≠ b := fun e => by subst e; omega
    exact .inl ⟨h1, h2, by simp [cmpV, hne, h1], by simp [cmpV, Ne.symm hne, h2], hne⟩
  · rcases Int.lt_trichotomy a.c b.c with h' | h' | h'
    · have h1 : ltV a b = true := i1.2 (by omega)
      have h2 : ltV b a = false := by rw [← Bool.not_eq_true, i2]; omega
      have hne : a ≠ b := fun e => by subst e; omega
      exact .inl ⟨h1, h2, by simp [cmpV, hne, h1], by simp [cmpV, Ne.symm hne, h2], hne⟩
    · have e := ver_ext h h'
      subst e
      have h1 : ltV a a = false := by rw [← Bool.not_eq_true, i1]; omega
      exact .inr (.inl ⟨rfl, h1, h1, by simp [cmpV], by simp [cmpV]⟩)
    · have h1 : ltV b a = true := i2.2 (by omega)
      have h2 : ltV a b = false := by rw [← Bool.not_eq_true, i1]; omega
      have hne : a ≠ b := fun e => by subst e; omega
      exact .inr (.inr ⟨h1, h2, by simp [cmpV, hne, h2], by simp [cmpV, Ne.symm hne, h1], hne⟩)
  · have h1 : ltV b a = true := i2.2 (by omega)
    have h2 : ltV a b = false := by rw [← Bool.not_eq_true, i1]; omega
    have hne : a ≠ b := fun e => by subst e; omega
    exact .inr (.inr ⟨h1, h2, by simp [cmpV, hne, h2], by simp [cmpV, Ne.symm hne, h1], hne⟩)

theorem ok_law12_VersionOrder : codeOK Try.prog T12m Try.f5.ntmps (Try.f5.body.getD .skip) = true := by kernel_rfl
theorem c_law12_VersionOrder (r c r' c' : Int) : CallA Try.prog 5 [.agg [.int .i64 r, .int .i64 c], .agg [.int .i64 r', .int .i64 c']] (· = .bool true) := by
  refine callA_of_body T12m_ok mixed Try.func5 rfl (Nat.le_of_ble_eq_true rfl) ok_law12_VersionOrder ?_
  unfold Try.f5
  have hb : (rightV ⟨r, c⟩ == rightV ⟨r, c⟩) = true := by simp
  rcases tri ⟨r, c⟩ ⟨r', c'⟩ with ⟨h1, h2, h3, h4, _⟩ | ⟨he, h1, h2, h3, h4⟩ | ⟨h1, h2, h3, h4, _⟩
  · simp -implicitDefEqProofs (maxSteps := 600000) (disch := (first | omega | decide)) only [go_sem, ↓reduceIte, Nat.reduceEqDiff, reduceCtorEq, Nat.reduceAdd, Nat.reduceSub, Nat.reduceMul, Nat.reduceLeDiff, Nat.reduceLT, Nat.reduceBEq, Nat.reduceBNe, Int.reduceLE, Int.reduceLT, Int.reduceBEq, Int.reduceBNe, Int.reduceEq, Int.reduceNe, Int.reduceAdd, Int.reduceSub, Int.reduceMul, Int.reduceNeg, Int.reduceToNat, hb, h1, h2, h3, h4, wrap_i64]
  · simp -implicitDefEqProofs (maxSteps := 600000) (disch := (first | omega | decide)) only [go_sem, ↓reduceIte, Nat.reduceEqDiff, reduceCtorEq, Nat.reduceAdd, Nat.reduceSub, Nat.reduceMul, Nat.reduceLeDiff, Nat.reduceLT, Nat.reduceBEq, Nat.reduceBNe, Int.reduceLE, Int.reduceLT, Int.reduceBEq, Int.reduceBNe, Int.reduceEq, Int.reduceNe, Int.reduceAdd, Int.reduceSub, Int.reduceMul, Int.reduceNeg, Int.reduceToNat, hb, h1, h2, h3, h4, wrap_i64]
  · simp -implicitDefEqProofs (maxSteps := 600000) (disch := (first | omega | decide)) only [go_sem, ↓reduceIte, Nat.reduceEqDiff, reduceCtorEq, Nat.reduceAdd, Nat.reduceSub, Nat.reduceMul, Nat.reduceLeDiff, Nat.reduceLT, Nat.reduceBEq, Nat.reduceBNe, Int.reduceLE, Int.reduceLT, Int.reduceBEq, Int.reduceBNe, Int.reduceEq, Int.reduceNe, Int.reduceAdd, Int.reduceSub, Int.reduceMul, Int.reduceNeg, Int.reduceToNat, hb, h1, h2, h3, h4, wrap_i64]
theorem ok_law12_VersionTotal : codeOK Try.prog T12m Try.f8.ntmps (Try.f8.body.getD .skip) = true := by kernel_rfl
theorem c_law12_VersionTotal (r c r' c' r'' c'' : Int) : CallA Try.prog 8 [.agg [.int .i64 r, .int .i64 c], .agg [.int .i64 r', .int .i64 c'], .agg [.int .i64 r'', .int .i64 c'']] (· = .bool true) := by
  refine callA_of_body T12m_ok mixed Try.func8 rfl (Nat.le_of_ble_eq_true rfl) ok_law12_VersionTotal ?_
  unfold Try.f8
  have i1 := @ltV_iff ⟨r, c⟩ ⟨r', c'⟩
  have i2 := @ltV_iff ⟨r', c'⟩ ⟨r, c⟩
  have i3 := @ltV_iff ⟨r', c'⟩ ⟨r'', c''⟩
  have i4 := @ltV_iff ⟨r'', c''⟩ ⟨r', c'⟩
  have i5 := @ltV_iff ⟨r, c⟩ ⟨r'', c''⟩
  have i6 := @ltV_iff ⟨r'', c''⟩ ⟨r, c⟩
  have split : ∀ {p q : Int} {p' q' : Int}, (⟨p, q⟩ : Ver) ≠ ⟨p', q'⟩ → (p == p') = false ∨ (p == p') = true ∧ (q == q') = false := fun {p q p' q'} h => by
    by_cases hp : p = p'
    · refine .inr ⟨by simpa using hp, ?_⟩
      have : q ≠ q' := fun e => h (by rw [hp, e])
      simpa using this
    · exact .inl (by simpa using hp)
  have bi : ∀ p : Int, (p == p) = true := fun p => by simp
  rcases tri ⟨r, c⟩ ⟨r', c'⟩ with ⟨a1, a2, a3, a4, an⟩ | ⟨ae, a1, a2, a3, a4⟩ | ⟨a1, a2, a3, a4, an⟩ <;>
  rcases tri ⟨r', c'⟩ ⟨r'', c''⟩ with ⟨b1, b2, b3, b4, bn⟩ | ⟨be, b1, b2, b3, b4⟩ | ⟨b1, b2, b3, b4, bn⟩ <;>
  rcases tri ⟨r, c⟩ ⟨r'', c''⟩ with ⟨c1, c2, c3, c4, cn⟩ | ⟨ce, c1, c2, c3, c4⟩ | ⟨c1, c2, c3, c4, cn⟩ <;>
  simp only [a1, a2, b1, b2, c1, c2, true_iff, false_iff, reduceCtorEq, Bool.false_eq_true, true_iff, not_or, not_and] at i1 i2 i3 i4 i5 i6 <;>
  first
  | omega
  | (simp only [Ver.mk.injEq] at ae
     obtain ⟨rfl, rfl⟩ := ae
     have e1 := bi r
     have e2 := bi c
     clear i1 i2 i3 i4 i5 i6 bi
     simp -implicitDefEqProofs (maxSteps := 600000) (disch := (first | omega | decide)) only [go_sem, ↓reduceIte, Nat.reduceEqDiff, reduceCtorEq, Nat.reduceAdd, Nat.reduceSub, Nat.reduceMul, Nat.reduceLeDiff, Nat.reduceLT, Nat.reduceBEq, Nat.reduceBNe, Int.reduceLE, Int.reduceLT, Int.reduceBEq, Int.reduceBNe, Int.reduceEq, Int.reduceNe, Int.reduceAdd, Int.reduceSub, Int.reduceMul, Int.reduceNeg, Int.reduceToNat, a3, a4, b3, c3, e1, e2, wrap_i64]
     done)
  | (rcases split an with e1 | ⟨e1, e2⟩
     · clear i1 i2 i3 i4 i5 i6 bi
       simp -implicitDefEqProofs (maxSteps := 600000) (disch := (first | omega | decide)) only [go_sem, ↓reduceIte, Nat.reduceEqDiff, reduceCtorEq, Nat.reduceAdd, Nat.reduceSub, Nat.reduceMul, Nat.reduceLeDiff, Nat.reduceLT, Nat.reduceBEq, Nat.reduceBNe, Int.reduceLE, Int.reduceLT, Int.reduceBEq, Int.reduceBNe, Int.reduceEq, Int.reduceNe, Int.reduceAdd, Int.reduceSub, Int.reduceMul, Int.reduceNeg, Int.reduceToNat, a3, a4, b3, c3, e1, wrap_i64]
       done
     · clear i1 i2 i3 i4 i5 i6 bi
       simp -implicitDefEqProofs (maxSteps := 600000) (disch := (first | omega | decide)) only [go_sem, ↓reduceIte, Nat.reduceEqDiff, reduceCtorEq, Nat.reduceAdd, Nat.reduceSub, Nat.reduceMul, Nat.reduceLeDiff, Nat.reduceLT, Nat.reduceBEq, Nat.reduceBNe, Int.reduceLE, Int.reduceLT, Int.reduceBEq, Int.reduceBNe, Int.reduceEq, Int.reduceNe, Int.reduceAdd, Int.reduceSub, Int.reduceMul, Int.reduceNeg, Int.reduceToNat, a3, a4, b3, c3, e1, e2, wrap_i64]
       done)
end Go.Proofs.Ytfcjemfgdeoinaa
