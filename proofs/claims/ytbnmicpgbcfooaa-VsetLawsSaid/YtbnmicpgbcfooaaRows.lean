/-
  No cell of these rows narrows 'for every input' (looked for: loops, veiled, ifaces, maps, wideKeys, modest, calm, conditions, laid).
  DERIVED. THE GIVEN ROWS OF THIS SEAT. 5 by the template 'for every input the law returns true; each argument reads behind the call as it read before'; 0 by the template 'total and deterministic' (their statements: YtbnmicpgbcfooaaTotals.lean).
  GIVEN WITH THE SEED: the statements are not yours to turn. If you find one false, say at which input.
  Laid BY PROGRAM, IN A SANDBOX (cutbox-rows.mjs): the forced cells as the released guide's own fill.sh prints them over the translation bc1a6a6a451ef353… (all of the seat's roots in one cut). By AI agents, Wed Nov 11 2026. No macro, syntax, notation, axiom, sorry.
-/
import Derived.Test.YtbnmicpgbcfooaaChecked
import GoSem.Claim
import GoSem.ClaimJoined
import GoSem.ClaimMapViews
import Derived.JoinedTies
import Derived.KernelRfl
namespace Go.Proofs.Ytbnmicpgbcfooaa
/- THE CELL 'sum', in the pinned program and in every row, IS THE sha256 OF THE DUMP (.gsa) THAT YtbnmicpgbcfooaaProg.lean LOADS. Nothing in Lean hashes anything: it is a label: what it is worth is what the hold of that sum in a sandbox is worth. -/
noncomputable def Try.pinned : Pinned := { name := "ytbnmicpgbcfooaa", sum := "bc1a6a6a451ef3539ab3a94f6e16c3249ee34b827e198948ed1eab84bbeff3d3", checked := Try.checked }
namespace Rows
def none {H : Type} : Left H := { results := [], args := [] }

/-- 'winnowerlaw14.VsetVector': WHATEVER THE INPUT: true; the input reads as it did. -/
def vsetVectorSpec : ChangeSpec := { name := "vsetVector", fn := fun _ => fun
  | [d1, d2] => { results := [.lit (.bool true)], args := [d1, d2] }
  | _ => none }
def vsetVectorRow : OpenClaim := { program := "ytbnmicpgbcfooaa", sum := "bc1a6a6a451ef3539ab3a94f6e16c3249ee34b827e198948ed1eab84bbeff3d3", func := "winnower/winnowerlaw14.VsetVector", spec := "vsetVector", unfollowed := true, recurses := true, apart := false }
def VsetVectorSaid : Prop := vsetVectorRow.holds Try.pinned (OpenSpec.ofChange vsetVectorSpec)

/-- ITS FALSE NEIGHBOUR: 'it returns false'. Refute it at one input. -/
def vsetVectorWrong : ChangeSpec := { name := "vsetVector", fn := fun _ => fun
  | [d1, d2] => { results := [.lit (.bool false)], args := [d1, d2] }
  | _ => none }
def VsetVectorWrongFalsely : Prop := vsetVectorRow.holds Try.pinned (OpenSpec.ofChange vsetVectorWrong)

/-- 'winnowerlaw14.VsetOf': WHATEVER THE INPUT: true; the input reads as it did. -/
def vsetOfSpec : ChangeSpec := { name := "vsetOf", fn := fun _ => fun
  | [d1, d2, d3] => { results := [.lit (.bool true)], args := [d1, d2, d3] }
  | _ => none }
def vsetOfRow : OpenClaim := { program := "ytbnmicpgbcfooaa", sum := "bc1a6a6a451ef3539ab3a94f6e16c3249ee34b827e198948ed1eab84bbeff3d3", func := "winnower/winnowerlaw14.VsetOf", spec := "vsetOf", unfollowed := true, recurses := true, apart := false }
def VsetOfSaid : Prop := vsetOfRow.holds Try.pinned (OpenSpec.ofChange vsetOfSpec)

/-- ITS FALSE NEIGHBOUR: 'it returns false'. Refute it at one input. -/
def vsetOfWrong : ChangeSpec := { name := "vsetOf", fn := fun _ => fun
  | [d1, d2, d3] => { results := [.lit (.bool false)], args := [d1, d2, d3] }
  | _ => none }
def VsetOfWrongFalsely : Prop := vsetOfRow.holds Try.pinned (OpenSpec.ofChange vsetOfWrong)

/-- 'winnowerlaw14.VsetSets': WHATEVER THE INPUT: true; the input reads as it did. -/
def vsetSetsSpec : ChangeSpec := { name := "vsetSets", fn := fun _ => fun
  | [d1, d2, d3] => { results := [.lit (.bool true)], args := [d1, d2, d3] }
  | _ => none }
def vsetSetsRow : OpenClaim := { program := "ytbnmicpgbcfooaa", sum := "bc1a6a6a451ef3539ab3a94f6e16c3249ee34b827e198948ed1eab84bbeff3d3", func := "winnower/winnowerlaw14.VsetSets", spec := "vsetSets", unfollowed := true, recurses := true, apart := false }
def VsetSetsSaid : Prop := vsetSetsRow.holds Try.pinned (OpenSpec.ofChange vsetSetsSpec)

/-- ITS FALSE NEIGHBOUR: 'it returns false'. Refute it at one input. -/
def vsetSetsWrong : ChangeSpec := { name := "vsetSets", fn := fun _ => fun
  | [d1, d2, d3] => { results := [.lit (.bool false)], args := [d1, d2, d3] }
  | _ => none }
def VsetSetsWrongFalsely : Prop := vsetSetsRow.holds Try.pinned (OpenSpec.ofChange vsetSetsWrong)

/-- 'winnowerlaw14.VsetLaws': WHATEVER THE INPUT: true; the input reads as it did. -/
def vsetLawsSpec : ChangeSpec := { name := "vsetLaws", fn := fun _ => fun
  | [d1, d2] => { results := [.lit (.bool true)], args := [d1, d2] }
  | _ => none }
def vsetLawsRow : OpenClaim := { program := "ytbnmicpgbcfooaa", sum := "bc1a6a6a451ef3539ab3a94f6e16c3249ee34b827e198948ed1eab84bbeff3d3", func := "winnower/winnowerlaw14.VsetLaws", spec := "vsetLaws", unfollowed := true, recurses := true, apart := false }
def VsetLawsSaid : Prop := vsetLawsRow.holds Try.pinned (OpenSpec.ofChange vsetLawsSpec)

/-- ITS FALSE NEIGHBOUR: 'it returns false'. Refute it at one input. -/
def vsetLawsWrong : ChangeSpec := { name := "vsetLaws", fn := fun _ => fun
  | [d1, d2] => { results := [.lit (.bool false)], args := [d1, d2] }
  | _ => none }
def VsetLawsWrongFalsely : Prop := vsetLawsRow.holds Try.pinned (OpenSpec.ofChange vsetLawsWrong)

/-- 'winnowerlaw14.VsetSame': WHATEVER THE INPUT: true; the input reads as it did. -/
def vsetSameSpec : ChangeSpec := { name := "vsetSame", fn := fun _ => fun
  | [d1, d2] => { results := [.lit (.bool true)], args := [d1, d2] }
  | _ => none }
def vsetSameRow : OpenClaim := { program := "ytbnmicpgbcfooaa", sum := "bc1a6a6a451ef3539ab3a94f6e16c3249ee34b827e198948ed1eab84bbeff3d3", func := "winnower/winnowerlaw14.VsetSame", spec := "vsetSame", unfollowed := true, recurses := true, apart := false }
def VsetSameSaid : Prop := vsetSameRow.holds Try.pinned (OpenSpec.ofChange vsetSameSpec)

/-- ITS FALSE NEIGHBOUR: 'it returns false'. Refute it at one input. -/
def vsetSameWrong : ChangeSpec := { name := "vsetSame", fn := fun _ => fun
  | [d1, d2] => { results := [.lit (.bool false)], args := [d1, d2] }
  | _ => none }
def VsetSameWrongFalsely : Prop := vsetSameRow.holds Try.pinned (OpenSpec.ofChange vsetSameWrong)

/- THE SECOND FORM. 'bulk': how many values and letters a reading holds, each counted each time it is reached (what is shared counts as often as it is met; a slice's spare places count too). A statement '..UptoSaid' is the law's where the arguments, and the package variables that the reading takes, are together of bulk at most 1048576: NARROWER than '..Said'. Prove '..Said' where nothing that the law and all that it calls make is longer than what came in: it says more and counts as full. Else prove '..UptoSaid'. A law counts once. -/
mutual
def uptoBulk {H : Type} : DataW H → Nat
  | .lit (.string bytes) => bytes.length + 1
  | .lit _ => 1
  | .nil => 1
  | .ptr d => uptoBulk d + 1
  | .slice elems spare => uptoBulkAll elems + uptoBulkAll spare + 1
  | .agg parts => uptoBulkAll parts + 1
  | .iface _ d => uptoBulk d + 1
  | .map entries => uptoBulkEntries entries + 1
  | .held _ => 1
def uptoBulkAll {H : Type} : List (DataW H) → Nat
  | [] => 0
  | d :: r => uptoBulk d + uptoBulkAll r
def uptoBulkEntries {H : Type} : List (Lit × DataW H) → Nat
  | [] => 0
  | x :: r => uptoBulkEntry x + uptoBulkEntries r
def uptoBulkEntry {H : Type} : Lit × DataW H → Nat
  | (.string bytes, d) => bytes.length + uptoBulk d + 1
  | (_, d) => uptoBulk d + 1
 end
def uptoSmall : (H : Type) → List (DataW H) → Bool := fun _ ds => decide (uptoBulkAll ds ≤ 1048576)
def OpenSpec.upto (s : _root_.Go.ChangeSpec) : _root_.Go.OpenSpec := { _root_.Go.OpenSpec.ofChange s with cond := some uptoSmall }

/-- 'winnowerlaw14.VsetVector', WHERE WHAT IT READS IS OF BULK AT MOST 1048576: true; the input reads as it did. -/
def vsetVectorUptoRow : OpenClaim := { program := "ytbnmicpgbcfooaa", sum := "bc1a6a6a451ef3539ab3a94f6e16c3249ee34b827e198948ed1eab84bbeff3d3", func := "winnower/winnowerlaw14.VsetVector", spec := "vsetVector", unfollowed := true, recurses := true, apart := false, narrowed := true }
def VsetVectorUptoSaid : Prop := vsetVectorUptoRow.holds Try.pinned (OpenSpec.upto vsetVectorSpec)

/-- 'winnowerlaw14.VsetOf', WHERE WHAT IT READS IS OF BULK AT MOST 1048576: true; the input reads as it did. -/
def vsetOfUptoRow : OpenClaim := { program := "ytbnmicpgbcfooaa", sum := "bc1a6a6a451ef3539ab3a94f6e16c3249ee34b827e198948ed1eab84bbeff3d3", func := "winnower/winnowerlaw14.VsetOf", spec := "vsetOf", unfollowed := true, recurses := true, apart := false, narrowed := true }
def VsetOfUptoSaid : Prop := vsetOfUptoRow.holds Try.pinned (OpenSpec.upto vsetOfSpec)

/-- 'winnowerlaw14.VsetSets', WHERE WHAT IT READS IS OF BULK AT MOST 1048576: true; the input reads as it did. -/
def vsetSetsUptoRow : OpenClaim := { program := "ytbnmicpgbcfooaa", sum := "bc1a6a6a451ef3539ab3a94f6e16c3249ee34b827e198948ed1eab84bbeff3d3", func := "winnower/winnowerlaw14.VsetSets", spec := "vsetSets", unfollowed := true, recurses := true, apart := false, narrowed := true }
def VsetSetsUptoSaid : Prop := vsetSetsUptoRow.holds Try.pinned (OpenSpec.upto vsetSetsSpec)

/-- 'winnowerlaw14.VsetLaws', WHERE WHAT IT READS IS OF BULK AT MOST 1048576: true; the input reads as it did. -/
def vsetLawsUptoRow : OpenClaim := { program := "ytbnmicpgbcfooaa", sum := "bc1a6a6a451ef3539ab3a94f6e16c3249ee34b827e198948ed1eab84bbeff3d3", func := "winnower/winnowerlaw14.VsetLaws", spec := "vsetLaws", unfollowed := true, recurses := true, apart := false, narrowed := true }
def VsetLawsUptoSaid : Prop := vsetLawsUptoRow.holds Try.pinned (OpenSpec.upto vsetLawsSpec)

/-- 'winnowerlaw14.VsetSame', WHERE WHAT IT READS IS OF BULK AT MOST 1048576: true; the input reads as it did. -/
def vsetSameUptoRow : OpenClaim := { program := "ytbnmicpgbcfooaa", sum := "bc1a6a6a451ef3539ab3a94f6e16c3249ee34b827e198948ed1eab84bbeff3d3", func := "winnower/winnowerlaw14.VsetSame", spec := "vsetSame", unfollowed := true, recurses := true, apart := false, narrowed := true }
def VsetSameUptoSaid : Prop := vsetSameUptoRow.holds Try.pinned (OpenSpec.upto vsetSameSpec)

end Rows
end Go.Proofs.Ytbnmicpgbcfooaa
