/- The law 'FtextParses': whatever comes in, the Go function returns true, and what came in reads as it did. No condition. -/
import Derived.Test.YthiedimbmcgpdaaRows
import Derived.Test.YthiedimbmcgpdaaU5
import Derived.WalkKit
import Derived.ProofKit
import Derived.OpenShut
import Derived.ShutString
import Derived.ChangeOld
import Derived.Below
namespace Go.Proofs.Ythiedimbmcgpdaa.ftextParses
open Go.ChangeShapes Go.WideShapes Go.ChangeAt Go.RowKit
set_option linter.unusedVariables false

theorem own : ownKnob Try.prog.godebug = none := by kernel_rfl
theorem laidOut : laidOutB Try.prog = true := by kernel_rfl

theorem ag0 : Go.Abs.tyAgg Try.prog 9 = some false := by kernel_rfl
theorem ft0 : Go.Abs.flatTy Try.prog 12 9 = some [.str] := by kernel_rfl
theorem walk (x0 : Go.Abs.A) (f0 : Go.Abs.fits (.str) x0) : Go.Abs.CallA Try.prog 4 [x0] (· = .bool true) := by
  have ml := Go.Abs.maxLen_le
  obtain ⟨s, rfl, hs⟩ := Go.Abs.fits_str f0
  exact c_law11_FtextParses s (by omega)

set_option maxRecDepth 100000 in
theorem lifted (os : Os) (started : os.Started) (H : Type) (enc : TypeId × Value → H) :
    ReturnsInHanded {} Try.checked os 4 .any (Rows.ftextParsesSpec.pre6 enc Try.prog Try.f4 Rows.ftextParsesRow.domain false) (Rows.ftextParsesSpec.post enc Try.prog Try.f4 false true false false) := by
  refine returnsInHanded_of_change (C := Try.checked) own started (by kernel_rfl) Try.func4
    (ChangeSpec.witness6 (enc := enc) (C := Try.checked) false ⟨#[], #[.string ByteArray.empty], []⟩ 8 (by kernel_rfl) (by kernel_rfl) (by kernel_rfl) (by kernel_rfl)) ?_
  intro W base args ds gs before hval0 hW hcnd _
  have hval : ∀ (j : Nat) t v, Try.f4.params[j]? = some t → args[j]? = some v → Value.okWide Try.prog W .any base t v := hval0
  have hW' := hW
  obtain ⟨p, q, hA0, hV, rfl, hfz, hnd⟩ := hW
  have hA : DataW.TrodAll enc Try.prog W 0 (fun _ => true) true Try.f4.params.toList args.toList ds p := hA0
  rw [Try.params4] at hA hval
  obtain ⟨v0, vs0, d0, ds0, p0, q0, hargs, rfl, rfl, h0, r0⟩ := trodAll_cons hA
  obtain ⟨rfl, rfl, rfl⟩ := trodAll_nil r0
  obtain rfl : args = #[v0] := by cases args; simp_all
  obtain ⟨rfl, rfl⟩ := trodVars_none hV
  have lt0 : ∀ x ∈ p0, x.block < W.heap.size := by obtain ⟨m, hm⟩ := h0; exact DataW.trod_lt m _ _ _ hm
  obtain ⟨a0, rep0, fit0, _⟩ := Go.Abs.open_cell ag0 ft0 (hval 0 9 v0 rfl rfl) h0
  clear hA0 hval0
  have hc := Go.Abs.law_calls (walk a0 fit0) (W := W) (vs := [v0]) (by simp only [Go.Abs.RepL]; exact ⟨_, _, rfl, rep0, rfl⟩)
  refine hc.mono fun e W' ⟨he, bel⟩ => ?_
  subst he
  exact ⟨_, rfl, _, _, _, [], _, [], hW', trodAll_mk1 (shut_bool Try.underlying4 _), (trodAll_cons_mk (Below.trod laidOut (by kernel_rfl) (of_decide_eq_true (by kernel_rfl)) h0 bel lt0) trodAll_mk0), rfl, bel.frame _, fun h => by cases h⟩


set_option maxHeartbeats 8000000 in
theorem over : Rows.ftextParsesRow.holds Try.pinned (OpenSpec.ofChange Rows.ftextParsesSpec) :=
  OpenClaim.holds_of_wide 4 Try.f4 rfl rfl rfl rfl rfl rfl rfl ⟨rfl, rfl, rfl, rfl, rfl⟩ rfl rfl rfl rfl rfl (by as_aux_lemma => kernel_rfl) Try.func4 (by as_aux_lemma => kernel_rfl)
    (of_decide_eq_true (by as_aux_lemma => kernel_rfl)) (by as_aux_lemma => unfold Func.isWrapper; first | (rw [if_pos (by decide +kernel)]; kernel_rfl) | (rw [if_neg (by decide +kernel)]; exact ⟨rfl, rfl⟩))
    (fun os started H enc _ => lifted os started H enc)

/-- The statement. -/
theorem proved : Rows.FtextParsesSaid := over
#print axioms proved
end Go.Proofs.Ythiedimbmcgpdaa.ftextParses
