/- Soundness, sixteenth part: one operation of a region, with its guard. -/
import Derived.Test.YtbnmicpgbcfooaaAbsQH
namespace Go.Abs
open Go.RowKit

section
variable {P : Program} {Γ : Tab} {N0 : Nat → Prop} {w0 : Base} {nt : Nat} {σ : St} {φ : List Own} {a : Act} {w : World}

theorem execOp_sound (hΓ : TabOK P Γ) (h : Conc N0 w0 nt σ φ a w) {o : Oper} (hd : ∀ t, o.dst = some t → t < nt) {n : Nat} (hfx : w0.fix = Γ.fix) (hfree : allocs P o.op = true → φ[n]? = some .free) {σ' : St}
    (hr : execOp P Γ n o.dst o.op σ = some σ') : GoodC P o a w N0 w0 nt φ n σ' := by
  obtain ⟨d, op, t, p, af, g⟩ := o
  simp only at hd hfree hr
  unfold execOp at hr
  split at hr
  · exact .inl (goodW_alloc h hd (hfree rfl) hr)
  · exact .inl (goodW_boxOp h hd (hfree rfl) hr)
  · exact .inl (goodW_store h hd hr)
  · exact .inl (goodW_conv h hd (fun hb => hfree (by simpa [allocs] using hb)) hr)
  · exact .inl (goodW_append h hd (hfree rfl) hfx hr)
  · exact .inl (goodW_clear h hd hr)
  · split at hr
    · exact goodC_callH hΓ h hfx hd hr
    · exact goodC_call hΓ h hd hr
  · cases he : evalR P σ op with
    | none => simp [he] at hr
    | some r =>
      simp [he] at hr
      subst hr
      exact .inl (goodW_of_good h hd (o := ⟨d, op, t, p, af, g⟩) (evalR_sound h he))

theorem nthD_eq : ∀ (os : List Oper) (j : Nat), nthD (dstsOf os) j = (os[j]?).bind (·.dst)
  | [], j => by simp [dstsOf, nthD]
  | o :: os, 0 => by simp [dstsOf, nthD]
  | o :: os, j + 1 => by simp [dstsOf, nthD, nthD_eq os j]

theorem wanted_sound (h : Conc N0 w0 nt σ φ a w) {ops : Array Oper} {o : Oper} {b : Bool} (hw : wantA (dstsOf ops.toList) σ o.guard = some b) : Region.wanted o (yielded ops a.tmps) = b := by
  unfold wantA at hw
  unfold Region.wanted
  split at hw
  · rename_i hg
    simp only [hg]
    simpa using hw
  · rename_i j want hg
    simp only [hg]
    rw [nthD_eq] at hw
    unfold yielded
    have hops : ops.toList[j]? = ops[j]? := by simp
    rw [hops] at hw
    cases hj : (ops[j]?).bind (·.dst) with
    | none => simp [hj] at hw ⊢; exact hw
    | some t =>
      rw [hj] at hw
      simp only [Option.bind_some] at hw ⊢
      have hs := h.slots t
      have hget : a.tmps.getD t undef = (a.tmps[t]?).getD undef := by simp
      rw [hget] at hs
      cases ht : look σ.s t <;> rw [ht] at hw hs <;> simp only at hw <;> try (simp at hw; done)
      case bool c =>
        simp only [Rep] at hs
        cases hq : a.tmps[t]? with
        | none => simp [hq, undef] at hs
        | some v =>
          simp [hq] at hs
          subst hs
          simp at hw ⊢
          exact hw
      all_goals
        have hb := Option.some.inj hw
        subst hb
        cases hq : a.tmps[t]? with
        | none => rfl
        | some v =>
          simp only [hq, Option.getD_some] at hs
          cases v <;> first
            | rfl
            | (exfalso
               simp only [Rep] at hs
               first
                 | (simp at hs; done)
                 | (rcases hs with ⟨_, _, _, _, _, _, hs⟩ | ⟨_, _, _, _, _, _, hs, _⟩ <;> simp at hs; done)
                 | (obtain ⟨_, hs, _⟩ := hs; simp at hs; done)
                 | (obtain ⟨_, _, hs, _⟩ := hs; simp at hs; done)
                 | (obtain ⟨_, _, _, hs, _⟩ := hs; simp at hs; done)
                 | (obtain ⟨_, _, _, hs⟩ := hs; simp at hs; done))

/-- One operation of a region. -/
theorem exec1_sound (hΓ : TabOK P Γ) (h : Conc N0 w0 nt σ φ a w) {ops : Array Oper} {i : Nat} {o : Oper} (ho : ops[i]? = some o) (hd : ∀ t, o.dst = some t → t < nt) {n : Nat} (hfx : w0.fix = Γ.fix) (hfree : allocs P o.op = true → φ[n]? = some .free) {σ' : St}
    (hr : exec1 P Γ (dstsOf ops.toList) n o σ = some σ') {Q : Exit → Act → World → Prop} {K : Act → World → Prop}
    (hK : ∀ φ' a' w', Conc N0 w0 nt σ' φ' a' w' → (∀ m, m ≠ n → φ[m]? = some .free → φ'[m]? = some .free) → K a' w') : wpOp P ops Q i K a w := by
  unfold exec1 at hr
  unfold wpOp
  simp only [ho]
  cases hw : wantA (dstsOf ops.toList) σ o.guard with
  | none => simp [hw] at hr
  | some b =>
    rw [wanted_sound h hw]
    simp only [hw] at hr
    cases b with
    | false =>
      simp at hr
      subst hr
      simp only [Bool.false_eq_true, if_false]
      exact hK φ _ _ (h.put hd (rep_undef _)) (fun _ _ h => h)
    | true =>
      simp only [if_true] at hr ⊢
      left
      unfold Oper.wp
      rcases execOp_sound hΓ h hd hfx hfree hr with ⟨v, w', φ', hrun, hc, hf⟩ | ⟨f, args, hrun, hcalls⟩
      · rcases hrun with hrun | ⟨hrun, rfl⟩
        · rw [hrun]; exact hK φ' _ _ hc hf
        · rw [hrun]; exact hK φ' _ _ hc hf
      · rw [hrun]
        simp only [Oper.upon]
        refine Calls.mono hcalls ?_
        rintro e w' ⟨v, φ', rfl, hc, hf⟩
        exact hK φ' _ _ hc hf
end

end Go.Abs
