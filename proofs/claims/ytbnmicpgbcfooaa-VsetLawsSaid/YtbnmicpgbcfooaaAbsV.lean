/- One argument of a law, opened. -/
import Derived.Test.YtbnmicpgbcfooaaAbsU
namespace Go.Abs
open Go.RowKit

section
variable {H : Type} {enc : TypeId × Value → H} {P : Program} {w : World} {sp : Nat → Bool} {held : Bool}

theorem okWide_one {r : Reach} {b0 : Nat} {t : TypeId} {v : Value} (ht : tyAgg P t = some false) (hval : Value.okWide P w r b0 t v) : v.cells.toList = [v] := by
  unfold Value.okWide at hval
  unfold tyAgg at ht
  split at hval
  · rename_i fs hu; simp only [hu] at ht; simp at ht
  · rename_i n e hu; simp only [hu] at ht; simp at ht
  · cases v <;> first
      | rfl
      | (exfalso
         unfold Cell.okWide at hval
         split at hval
         all_goals first
           | (rename_i h1 h2; cases h2; done)
           | skip
         unfold Cell.ok at hval
         split at hval <;> simp_all)

theorem open_cell {r : Reach} {b0 d : Nat} {t : TypeId} {v : Value} {x : DataW H} {ps : List MemPlace} {c : CT} (ht : tyAgg P t = some false) (hf : flatTy P d t = some [c]) (hval : Value.okWide P w r b0 t v)
    (h : DataW.Trod enc P w 0 sp held t v x ps) : ∃ y, Rep ⟨fun _ => False, [], w⟩ y v ∧ fits c y ∧ y.pure = true := by
  obtain ⟨fuel, h⟩ := h
  rw [okWide_one ht hval] at h
  obtain ⟨xs, h1, h2, h3, _⟩ := reads_of_trod d hf h
  simp only [fitsL] at h2
  obtain ⟨y, zs, rfl, hy, rfl⟩ := h2
  simp only [RepL] at h1
  obtain ⟨v', vs', hv, hr, rfl⟩ := h1
  simp at hv
  subst hv
  exact ⟨y, hr, hy, by simpa [A.pure.pureL] using h3⟩

theorem open_row {r : Reach} {b0 d : Nat} {t : TypeId} {v : Value} {x : DataW H} {ps : List MemPlace} {cts : List CT} (ht : tyAgg P t = some true) (hf : flatTy P d t = some cts) (hval : Value.okWide P w r b0 t v)
    (h : DataW.Trod enc P w 0 sp held t v x ps) : ∃ ys, Rep ⟨fun _ => False, [], w⟩ (.agg ys) v ∧ fitsL cts ys ∧ (A.agg ys).pure = true := by
  obtain ⟨fuel, h⟩ := h
  have : ∃ cs, v = .agg cs := by
    unfold Value.okWide at hval
    unfold tyAgg at ht
    split at hval
    · obtain ⟨cs, hv, _⟩ := hval; exact ⟨cs, hv⟩
    · obtain ⟨cs, hv, _⟩ := hval; exact ⟨cs, hv⟩
    · exfalso
      split at ht <;> simp_all
  obtain ⟨cs, rfl⟩ := this
  obtain ⟨xs, h1, h2, h3, h4⟩ := reads_of_trod d hf h
  refine ⟨xs, ?_, h2, by simpa only [A.pure] using h3⟩
  simp only [Rep]
  exact ⟨cs.toList, by simp, h1, h4⟩
end

/-- What is asked of a law: true, whatever comes in. -/
theorem law_calls {P : Program} {f : FuncId} {args : List A} (h : CallA P f args (· = .bool true)) {W : World} {vs : List Value} (hr : RepL ⟨fun _ => False, [], W⟩ args vs) :
    Calls P f vs.toArray W fun e w' => e = .returned (.bool true) ∧ Below W.heap.size W w' := by
  refine Calls.mono (h (fun _ => False) W vs (fun b h => h.elim) hr) ?_
  rintro e w' ⟨v, r, rfl, rfl, hrep, hb⟩
  simp only [Rep] at hrep
  subst hrep
  exact ⟨rfl, hb.toBelow⟩

end Go.Abs
