/- The law 'RangesLaws': whatever comes in, the Go function returns true, and what came in reads as it did. No condition. -/
import Derived.Test.YtnmkojglcgaobaaRows
import Derived.Test.YtnmkojglcgaobaaK08R
import Derived.WalkKit
import Derived.ProofKit
import Derived.OpenShut
import Derived.ShutString
import Derived.ChangeOld
import Derived.Below
namespace Go.Proofs.Ytnmkojglcgaobaa.rangesLaws
open Go.ChangeShapes Go.WideShapes Go.ChangeAt Go.RowKit
set_option linter.unusedVariables false

theorem own : ownKnob Try.prog.godebug = none := by kernel_rfl
theorem laidOut : laidOutB Try.prog = true := by kernel_rfl

theorem ag0 : Go.Abs.tyAgg Try.prog 44 = some false := by kernel_rfl
theorem ft0 : Go.Abs.flatTy Try.prog 12 44 = some [.rows [.str, .str, .bool]] := by kernel_rfl
theorem ag1 : Go.Abs.tyAgg Try.prog 44 = some false := by kernel_rfl
theorem ft1 : Go.Abs.flatTy Try.prog 12 44 = some [.rows [.str, .str, .bool]] := by kernel_rfl
theorem ag2 : Go.Abs.tyAgg Try.prog 44 = some false := by kernel_rfl
theorem ft2 : Go.Abs.flatTy Try.prog 12 44 = some [.rows [.str, .str, .bool]] := by kernel_rfl
theorem walk (x0 : Go.Abs.A) (x1 : Go.Abs.A) (x2 : Go.Abs.A) (f0 : Go.Abs.fits (.rows [.str, .str, .bool]) x0) (f1 : Go.Abs.fits (.rows [.str, .str, .bool]) x1) (f2 : Go.Abs.fits (.rows [.str, .str, .bool]) x2) : Go.Abs.CallA Try.prog 6 [x0, x1, x2] (· = .bool true) := by
  have ml := Go.Abs.maxLen_le
  obtain ⟨a, rfl, ha, oa⟩ := fits_rngs f0
  obtain ⟨b, rfl, hb, ob⟩ := fits_rngs f1
  obtain ⟨c, rfl, hc, oc⟩ := fits_rngs f2
  exact c_law08_RangesLaws a b c ha hb hc oa ob oc

set_option maxRecDepth 100000 in
theorem lifted (os : Os) (started : os.Started) (H : Type) (enc : TypeId × Value → H) :
    ReturnsInHanded {} Try.checked os 6 .any (Rows.rangesLawsSpec.pre6 enc Try.prog Try.f6 Rows.rangesLawsRow.domain false) (Rows.rangesLawsSpec.post enc Try.prog Try.f6 false true false false) := by
  refine returnsInHanded_of_change (C := Try.checked) own started (by kernel_rfl) Try.func6
    (ChangeSpec.witness6 (enc := enc) (C := Try.checked) false ⟨#[], #[.slice none 0 0, .slice none 0 0, .slice none 0 0], []⟩ 8 (by kernel_rfl) (by kernel_rfl) (by kernel_rfl) (by kernel_rfl)) ?_
  intro W base args ds gs before hval0 hW hcnd _
  have hval : ∀ (j : Nat) t v, Try.f6.params[j]? = some t → args[j]? = some v → Value.okWide Try.prog W .any base t v := hval0
  have hW' := hW
  obtain ⟨p, q, hA0, hV, rfl, hfz, hnd⟩ := hW
  have hA : DataW.TrodAll enc Try.prog W 0 (fun _ => true) true Try.f6.params.toList args.toList ds p := hA0
  rw [Try.params6] at hA hval
  obtain ⟨v0, vs0, d0, ds0, p0, q0, hargs, rfl, rfl, h0, r0⟩ := trodAll_cons hA
  obtain ⟨v1, vs1, d1, ds1, p1, q1, rfl, rfl, rfl, h1, r1⟩ := trodAll_cons r0
  obtain ⟨v2, vs2, d2, ds2, p2, q2, rfl, rfl, rfl, h2, r2⟩ := trodAll_cons r1
  obtain ⟨rfl, rfl, rfl⟩ := trodAll_nil r2
  obtain rfl : args = #[v0, v1, v2] := by cases args; simp_all
  obtain ⟨rfl, rfl⟩ := trodVars_none hV
  have lt0 : ∀ x ∈ p0, x.block < W.heap.size := by obtain ⟨m, hm⟩ := h0; exact DataW.trod_lt m _ _ _ hm
  obtain ⟨a0, rep0, fit0, _⟩ := Go.Abs.open_cell ag0 ft0 (hval 0 44 v0 rfl rfl) h0
  have lt1 : ∀ x ∈ p1, x.block < W.heap.size := by obtain ⟨m, hm⟩ := h1; exact DataW.trod_lt m _ _ _ hm
  obtain ⟨a1, rep1, fit1, _⟩ := Go.Abs.open_cell ag1 ft1 (hval 1 44 v1 rfl rfl) h1
  have lt2 : ∀ x ∈ p2, x.block < W.heap.size := by obtain ⟨m, hm⟩ := h2; exact DataW.trod_lt m _ _ _ hm
  obtain ⟨a2, rep2, fit2, _⟩ := Go.Abs.open_cell ag2 ft2 (hval 2 44 v2 rfl rfl) h2
  clear hA0 hval0
  have hc := Go.Abs.law_calls (walk a0 a1 a2 fit0 fit1 fit2) (W := W) (vs := [v0, v1, v2]) (by simp only [Go.Abs.RepL]; exact ⟨_, _, rfl, rep0, _, _, rfl, rep1, _, _, rfl, rep2, rfl⟩)
  refine hc.mono fun e W' ⟨he, bel⟩ => ?_
  subst he
  exact ⟨_, rfl, _, _, _, [], _, [], hW', trodAll_mk1 (shut_bool Try.underlying4 _), (trodAll_cons_mk (Below.trod laidOut (by kernel_rfl) (of_decide_eq_true (by kernel_rfl)) h0 bel lt0) (trodAll_cons_mk (Below.trod laidOut (by kernel_rfl) (of_decide_eq_true (by kernel_rfl)) h1 bel lt1) (trodAll_cons_mk (Below.trod laidOut (by kernel_rfl) (of_decide_eq_true (by kernel_rfl)) h2 bel lt2) trodAll_mk0))), rfl, bel.frame _, fun h => by cases h⟩

theorem over : Rows.rangesLawsRow.holds Try.pinned (OpenSpec.ofChange Rows.rangesLawsSpec) :=
  OpenClaim.holds_of_wide 6 Try.f6 rfl rfl rfl rfl rfl rfl rfl ⟨rfl, rfl, rfl, rfl, rfl⟩ rfl rfl rfl rfl rfl (by kernel_rfl) Try.func6 (by kernel_rfl)
    (of_decide_eq_true (by kernel_rfl)) (by unfold Func.isWrapper; first | (rw [if_pos (by decide +kernel)]; kernel_rfl) | (rw [if_neg (by decide +kernel)]; exact ⟨rfl, rfl⟩))
    (fun os started H enc _ => lifted os started H enc)

/-- The statement. -/
theorem proved : Rows.RangesLawsSaid := over
#print axioms proved
end Go.Proofs.Ytnmkojglcgaobaa.rangesLaws
