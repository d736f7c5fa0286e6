/- The law 'DescentAsks': whatever comes in, the Go function returns true, and what came in reads as it did. No condition. -/
import Derived.Test.YtjnpfbohnpjckaaRows
import Derived.Test.YtjnpfbohnpjckaaU11
import Derived.WalkKit
import Derived.ProofKit
import Derived.OpenShut
import Derived.ShutString
import Derived.ChangeOld
import Derived.Below
namespace Go.Proofs.Ytjnpfbohnpjckaa.descentAsks
open Go.ChangeShapes Go.WideShapes Go.ChangeAt Go.RowKit
set_option linter.unusedVariables false

theorem own : ownKnob Try.prog.godebug = none := by kernel_rfl
theorem laidOut : laidOutB Try.prog = true := by kernel_rfl

theorem ag0 : Go.Abs.tyAgg Try.prog 22 = some false := by kernel_rfl
theorem ft0 : Go.Abs.flatTy Try.prog 12 22 = some [.rows [.str, .int .i64, .int .i64, .int .i64, .int .i64, .bool, .str]] := by kernel_rfl
theorem ag1 : Go.Abs.tyAgg Try.prog 24 = some true := by kernel_rfl
theorem ft1 : Go.Abs.flatTy Try.prog 12 24 = some [.int .u64, .int .u64] := by kernel_rfl
theorem ag2 : Go.Abs.tyAgg Try.prog 25 = some false := by kernel_rfl
theorem ft2 : Go.Abs.flatTy Try.prog 12 25 = some [.list .bool] := by kernel_rfl
theorem walk (x0 : Go.Abs.A) (x1 : List Go.Abs.A) (x2 : Go.Abs.A) (f0 : Go.Abs.fits (.rows [.str, .int .i64, .int .i64, .int .i64, .int .i64, .bool, .str]) x0) (f1 : Go.Abs.fitsL [.int .u64, .int .u64] x1) (f2 : Go.Abs.fits (.list .bool) x2) : Go.Abs.CallA Try.prog 3 [x0, .agg x1, x2] (· = .bool true) := by
  have ml := Go.Abs.maxLen_le
  obtain ⟨l, rfl, hl, ol⟩ := fits_its32 f0
  obtain ⟨ka, kb, rfl, hk, gk⟩ := fits_seed f1
  obtain ⟨u, rfl, hu⟩ := fits_bools f2
  exact c_Asks l ka kb u (by omega) ol (by omega) hk gk

set_option maxRecDepth 100000 in
theorem lifted (os : Os) (started : os.Started) (H : Type) (enc : TypeId × Value → H) :
    ReturnsInHanded {} Try.checked os 3 .any (Rows.descentAsksSpec.pre6 enc Try.prog Try.f3 Rows.descentAsksRow.domain false) (Rows.descentAsksSpec.post enc Try.prog Try.f3 false true false false) := by
  refine returnsInHanded_of_change (C := Try.checked) own started (by kernel_rfl) Try.func3
    (ChangeSpec.witness6 (enc := enc) (C := Try.checked) false ⟨#[], #[.slice none 0 0, .agg #[.int .u64 0, .int .u64 0], .slice none 0 0], []⟩ 8 (by kernel_rfl) (by kernel_rfl) (by kernel_rfl) (by kernel_rfl)) ?_
  intro W base args ds gs before hval0 hW hcnd _
  have hval : ∀ (j : Nat) t v, Try.f3.params[j]? = some t → args[j]? = some v → Value.okWide Try.prog W .any base t v := hval0
  have hW' := hW
  obtain ⟨p, q, hA0, hV, rfl, hfz, hnd⟩ := hW
  have hA : DataW.TrodAll enc Try.prog W 0 (fun _ => true) true Try.f3.params.toList args.toList ds p := hA0
  rw [Try.params3] at hA hval
  obtain ⟨v0, vs0, d0, ds0, p0, q0, hargs, rfl, rfl, h0, r0⟩ := trodAll_cons hA
  obtain ⟨v1, vs1, d1, ds1, p1, q1, rfl, rfl, rfl, h1, r1⟩ := trodAll_cons r0
  obtain ⟨v2, vs2, d2, ds2, p2, q2, rfl, rfl, rfl, h2, r2⟩ := trodAll_cons r1
  obtain ⟨rfl, rfl, rfl⟩ := trodAll_nil r2
  obtain rfl : args = #[v0, v1, v2] := by cases args; simp_all
  obtain ⟨rfl, rfl⟩ := trodVars_none hV
  have lt0 : ∀ x ∈ p0, x.block < W.heap.size := by obtain ⟨m, hm⟩ := h0; exact DataW.trod_lt m _ _ _ hm
  obtain ⟨a0, rep0, fit0, _⟩ := Go.Abs.open_cell ag0 ft0 (hval 0 22 v0 rfl rfl) h0
  have lt1 : ∀ x ∈ p1, x.block < W.heap.size := by obtain ⟨m, hm⟩ := h1; exact DataW.trod_lt m _ _ _ hm
  obtain ⟨a1, rep1, fit1, _⟩ := Go.Abs.open_row ag1 ft1 (hval 1 24 v1 rfl rfl) h1
  have lt2 : ∀ x ∈ p2, x.block < W.heap.size := by obtain ⟨m, hm⟩ := h2; exact DataW.trod_lt m _ _ _ hm
  obtain ⟨a2, rep2, fit2, _⟩ := Go.Abs.open_cell ag2 ft2 (hval 2 25 v2 rfl rfl) h2
  clear hA0 hval0
  have hc := Go.Abs.law_calls (walk a0 a1 a2 fit0 fit1 fit2) (W := W) (vs := [v0, v1, v2]) (by simp only [Go.Abs.RepL]; exact ⟨_, _, rfl, rep0, _, _, rfl, rep1, _, _, rfl, rep2, rfl⟩)
  refine hc.mono fun e W' ⟨he, bel⟩ => ?_
  subst he
  exact ⟨_, rfl, _, _, _, [], _, [], hW', trodAll_mk1 (shut_bool Try.underlying4 _), (trodAll_cons_mk (Below.trod laidOut (by kernel_rfl) (of_decide_eq_true (by kernel_rfl)) h0 bel lt0) (trodAll_cons_mk (Below.trod laidOut (by kernel_rfl) (of_decide_eq_true (by kernel_rfl)) h1 bel lt1) (trodAll_cons_mk (Below.trod laidOut (by kernel_rfl) (of_decide_eq_true (by kernel_rfl)) h2 bel lt2) trodAll_mk0))), rfl, bel.frame _, fun h => by cases h⟩


set_option maxHeartbeats 8000000 in
theorem over : Rows.descentAsksRow.holds Try.pinned (OpenSpec.ofChange Rows.descentAsksSpec) :=
  OpenClaim.holds_of_wide 3 Try.f3 rfl rfl rfl rfl rfl rfl rfl ⟨rfl, rfl, rfl, rfl, rfl⟩ rfl rfl rfl rfl rfl (by as_aux_lemma => kernel_rfl) Try.func3 (by as_aux_lemma => kernel_rfl)
    (of_decide_eq_true (by as_aux_lemma => kernel_rfl)) (by as_aux_lemma => unfold Func.isWrapper; first | (rw [if_pos (by decide +kernel)]; kernel_rfl) | (rw [if_neg (by decide +kernel)]; exact ⟨rfl, rfl⟩))
    (fun os started H enc _ => lifted os started H enc)

/-- The statement. -/
theorem proved : Rows.DescentAsksSaid := over
#print axioms proved
end Go.Proofs.Ytjnpfbohnpjckaa.descentAsks
