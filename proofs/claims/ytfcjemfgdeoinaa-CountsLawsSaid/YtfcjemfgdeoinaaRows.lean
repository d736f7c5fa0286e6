/-
  No cell of these rows narrows 'for every input' (looked for: loops, veiled, ifaces, maps, wideKeys, modest, calm, conditions, laid).
  DERIVED. THE GIVEN ROWS OF THIS SEAT. 8 by the template 'for every input the law returns true; each argument reads behind the call as it read before'; 0 by the template 'total and deterministic' (their statements: YtfcjemfgdeoinaaTotals.lean).
  GIVEN WITH THE SEED: the statements are not yours to turn. If you find one false, say at which input.
  Laid BY PROGRAM, IN A SANDBOX (cutbox-rows.mjs): the forced cells as the released guide's own fill.sh prints them over the translation de39dfbf6c70aee6… (all of the seat's roots in one cut). By AI agents, Wed Nov 11 2026. No macro, syntax, notation, axiom, sorry.
-/
import Derived.Test.YtfcjemfgdeoinaaChecked
import GoSem.Claim
import GoSem.ClaimJoined
import GoSem.ClaimMapViews
import Derived.JoinedTies
import Derived.KernelRfl
namespace Go.Proofs.Ytfcjemfgdeoinaa
/- THE CELL 'sum', in the pinned program and in every row, IS THE sha256 OF THE DUMP (.gsa) THAT YtfcjemfgdeoinaaProg.lean LOADS. Nothing in Lean hashes anything: it is a label: what it is worth is what the hold of that sum in a sandbox is worth. -/
noncomputable def Try.pinned : Pinned := { name := "ytfcjemfgdeoinaa", sum := "de39dfbf6c70aee6a22abe7c90f52d3f5af7197d1f368530e2edceb386faffd9", checked := Try.checked }
namespace Rows
def none {H : Type} : Left H := { results := [], args := [] }

/-- 'winnowerlaw13.CountsTell': WHATEVER THE INPUT: true; the input reads as it did. -/
def countsTellSpec : ChangeSpec := { name := "countsTell", fn := fun _ => fun
  | [d1, d2] => { results := [.lit (.bool true)], args := [d1, d2] }
  | _ => none }
def countsTellRow : OpenClaim := { program := "ytfcjemfgdeoinaa", sum := "de39dfbf6c70aee6a22abe7c90f52d3f5af7197d1f368530e2edceb386faffd9", func := "winnower/winnowerlaw13.CountsTell", spec := "countsTell", unfollowed := true, recurses := true, apart := false }
def CountsTellSaid : Prop := countsTellRow.holds Try.pinned (OpenSpec.ofChange countsTellSpec)

/-- ITS FALSE NEIGHBOUR: 'it returns false'. Refute it at one input. -/
def countsTellWrong : ChangeSpec := { name := "countsTell", fn := fun _ => fun
  | [d1, d2] => { results := [.lit (.bool false)], args := [d1, d2] }
  | _ => none }
def CountsTellWrongFalsely : Prop := countsTellRow.holds Try.pinned (OpenSpec.ofChange countsTellWrong)

/-- 'winnowerlaw13.CountsOf': WHATEVER THE INPUT: true; the input reads as it did. -/
def countsOfSpec : ChangeSpec := { name := "countsOf", fn := fun _ => fun
  | [d1, d2, d3] => { results := [.lit (.bool true)], args := [d1, d2, d3] }
  | _ => none }
def countsOfRow : OpenClaim := { program := "ytfcjemfgdeoinaa", sum := "de39dfbf6c70aee6a22abe7c90f52d3f5af7197d1f368530e2edceb386faffd9", func := "winnower/winnowerlaw13.CountsOf", spec := "countsOf", unfollowed := true, recurses := true, apart := false }
def CountsOfSaid : Prop := countsOfRow.holds Try.pinned (OpenSpec.ofChange countsOfSpec)

/-- ITS FALSE NEIGHBOUR: 'it returns false'. Refute it at one input. -/
def countsOfWrong : ChangeSpec := { name := "countsOf", fn := fun _ => fun
  | [d1, d2, d3] => { results := [.lit (.bool false)], args := [d1, d2, d3] }
  | _ => none }
def CountsOfWrongFalsely : Prop := countsOfRow.holds Try.pinned (OpenSpec.ofChange countsOfWrong)

/-- 'winnowerlaw12.VersionOrder': WHATEVER THE INPUT: true; the input reads as it did. -/
def versionOrderSpec : ChangeSpec := { name := "versionOrder", fn := fun _ => fun
  | [d1, d2] => { results := [.lit (.bool true)], args := [d1, d2] }
  | _ => none }
def versionOrderRow : OpenClaim := { program := "ytfcjemfgdeoinaa", sum := "de39dfbf6c70aee6a22abe7c90f52d3f5af7197d1f368530e2edceb386faffd9", func := "winnower/winnowerlaw12.VersionOrder", spec := "versionOrder", unfollowed := true, recurses := true, apart := false }
def VersionOrderSaid : Prop := versionOrderRow.holds Try.pinned (OpenSpec.ofChange versionOrderSpec)

/-- ITS FALSE NEIGHBOUR: 'it returns false'. Refute it at one input. -/
def versionOrderWrong : ChangeSpec := { name := "versionOrder", fn := fun _ => fun
  | [d1, d2] => { results := [.lit (.bool false)], args := [d1, d2] }
  | _ => none }
def VersionOrderWrongFalsely : Prop := versionOrderRow.holds Try.pinned (OpenSpec.ofChange versionOrderWrong)

/-- 'winnowerlaw12.VersionTexts': WHATEVER THE INPUT: true; the input reads as it did. -/
def versionTextsSpec : ChangeSpec := { name := "versionTexts", fn := fun _ => fun
  | [d1, d2] => { results := [.lit (.bool true)], args := [d1, d2] }
  | _ => none }
def versionTextsRow : OpenClaim := { program := "ytfcjemfgdeoinaa", sum := "de39dfbf6c70aee6a22abe7c90f52d3f5af7197d1f368530e2edceb386faffd9", func := "winnower/winnowerlaw12.VersionTexts", spec := "versionTexts", unfollowed := true, recurses := true, apart := false }
def VersionTextsSaid : Prop := versionTextsRow.holds Try.pinned (OpenSpec.ofChange versionTextsSpec)

/-- ITS FALSE NEIGHBOUR: 'it returns false'. Refute it at one input. -/
def versionTextsWrong : ChangeSpec := { name := "versionTexts", fn := fun _ => fun
  | [d1, d2] => { results := [.lit (.bool false)], args := [d1, d2] }
  | _ => none }
def VersionTextsWrongFalsely : Prop := versionTextsRow.holds Try.pinned (OpenSpec.ofChange versionTextsWrong)

/-- 'winnowerlaw12.VersionSorted': WHATEVER THE INPUT: true; the input reads as it did. -/
def versionSortedSpec : ChangeSpec := { name := "versionSorted", fn := fun _ => fun
  | [d] => { results := [.lit (.bool true)], args := [d] }
  | _ => none }
def versionSortedRow : OpenClaim := { program := "ytfcjemfgdeoinaa", sum := "de39dfbf6c70aee6a22abe7c90f52d3f5af7197d1f368530e2edceb386faffd9", func := "winnower/winnowerlaw12.VersionSorted", spec := "versionSorted", unfollowed := true, recurses := true, apart := false }
def VersionSortedSaid : Prop := versionSortedRow.holds Try.pinned (OpenSpec.ofChange versionSortedSpec)

/-- ITS FALSE NEIGHBOUR: 'it returns false'. Refute it at one input. -/
def versionSortedWrong : ChangeSpec := { name := "versionSorted", fn := fun _ => fun
  | [d] => { results := [.lit (.bool false)], args := [d] }
  | _ => none }
def VersionSortedWrongFalsely : Prop := versionSortedRow.holds Try.pinned (OpenSpec.ofChange versionSortedWrong)

/-- 'winnowerlaw12.VersionTotal': WHATEVER THE INPUT: true; the input reads as it did. -/
def versionTotalSpec : ChangeSpec := { name := "versionTotal", fn := fun _ => fun
  | [d1, d2, d3] => { results := [.lit (.bool true)], args := [d1, d2, d3] }
  | _ => none }
def versionTotalRow : OpenClaim := { program := "ytfcjemfgdeoinaa", sum := "de39dfbf6c70aee6a22abe7c90f52d3f5af7197d1f368530e2edceb386faffd9", func := "winnower/winnowerlaw12.VersionTotal", spec := "versionTotal", unfollowed := true, recurses := true, apart := false }
def VersionTotalSaid : Prop := versionTotalRow.holds Try.pinned (OpenSpec.ofChange versionTotalSpec)

/-- ITS FALSE NEIGHBOUR: 'it returns false'. Refute it at one input. -/
def versionTotalWrong : ChangeSpec := { name := "versionTotal", fn := fun _ => fun
  | [d1, d2, d3] => { results := [.lit (.bool false)], args := [d1, d2, d3] }
  | _ => none }
def VersionTotalWrongFalsely : Prop := versionTotalRow.holds Try.pinned (OpenSpec.ofChange versionTotalWrong)

/-- 'winnowerlaw13.CountsSets': WHATEVER THE INPUT: true; the input reads as it did. -/
def countsSetsSpec : ChangeSpec := { name := "countsSets", fn := fun _ => fun
  | [d1, d2, d3] => { results := [.lit (.bool true)], args := [d1, d2, d3] }
  | _ => none }
def countsSetsRow : OpenClaim := { program := "ytfcjemfgdeoinaa", sum := "de39dfbf6c70aee6a22abe7c90f52d3f5af7197d1f368530e2edceb386faffd9", func := "winnower/winnowerlaw13.CountsSets", spec := "countsSets", unfollowed := true, recurses := true, apart := false }
def CountsSetsSaid : Prop := countsSetsRow.holds Try.pinned (OpenSpec.ofChange countsSetsSpec)

/-- ITS FALSE NEIGHBOUR: 'it returns false'. Refute it at one input. -/
def countsSetsWrong : ChangeSpec := { name := "countsSets", fn := fun _ => fun
  | [d1, d2, d3] => { results := [.lit (.bool false)], args := [d1, d2, d3] }
  | _ => none }
def CountsSetsWrongFalsely : Prop := countsSetsRow.holds Try.pinned (OpenSpec.ofChange countsSetsWrong)

/-- 'winnowerlaw13.CountsLaws': WHATEVER THE INPUT: true; the input reads as it did. -/
def countsLawsSpec : ChangeSpec := { name := "countsLaws", fn := fun _ => fun
  | [d1, d2] => { results := [.lit (.bool true)], args := [d1, d2] }
  | _ => none }
def countsLawsRow : OpenClaim := { program := "ytfcjemfgdeoinaa", sum := "de39dfbf6c70aee6a22abe7c90f52d3f5af7197d1f368530e2edceb386faffd9", func := "winnower/winnowerlaw13.CountsLaws", spec := "countsLaws", unfollowed := true, recurses := true, apart := false }
def CountsLawsSaid : Prop := countsLawsRow.holds Try.pinned (OpenSpec.ofChange countsLawsSpec)

/-- ITS FALSE NEIGHBOUR: 'it returns false'. Refute it at one input. -/
def countsLawsWrong : ChangeSpec := { name := "countsLaws", fn := fun _ => fun
  | [d1, d2] => { results := [.lit (.bool false)], args := [d1, d2] }
  | _ => none }
def CountsLawsWrongFalsely : Prop := countsLawsRow.holds Try.pinned (OpenSpec.ofChange countsLawsWrong)

/- THE SECOND FORM. 'bulk': how many values and letters a reading holds, each counted each time it is reached (what is shared counts as often as it is met; a slice's spare places count too). A statement '..UptoSaid' is the law's where the arguments, and the package variables that the reading takes, are together of bulk at most 1048576: NARROWER than '..Said'. Prove '..Said' where nothing that the law and all that it calls make is longer than what came in: it says more and counts as full. Else prove '..UptoSaid'. A law counts once. -/
mutual
def uptoBulk {H : Type} : DataW H → Nat
  | .lit (.string bytes) => bytes.length + 1
  | .lit _ => 1
  | .nil => 1
  | .ptr d => uptoBulk d + 1
  | .slice elems spare => uptoBulkAll elems + uptoBulkAll spare + 1
  | .agg parts => uptoBulkAll parts + 1
  | .iface _ d => uptoBulk d + 1
  | .map entries => uptoBulkEntries entries + 1
  | .held _ => 1
def uptoBulkAll {H : Type} : List (DataW H) → Nat
  | [] => 0
  | d :: r => uptoBulk d + uptoBulkAll r
def uptoBulkEntries {H : Type} : List (Lit × DataW H) → Nat
  | [] => 0
  | x :: r => uptoBulkEntry x + uptoBulkEntries r
def uptoBulkEntry {H : Type} : Lit × DataW H → Nat
  | (.string bytes, d) => bytes.length + uptoBulk d + 1
  | (_, d) => uptoBulk d + 1
 end
def uptoSmall : (H : Type) → List (DataW H) → Bool := fun _ ds => decide (uptoBulkAll ds ≤ 1048576)
def OpenSpec.upto (s : _root_.Go.ChangeSpec) : _root_.Go.OpenSpec := { _root_.Go.OpenSpec.ofChange s with cond := some uptoSmall }

/-- 'winnowerlaw13.CountsTell', WHERE WHAT IT READS IS OF BULK AT MOST 1048576: true; the input reads as it did. -/
def countsTellUptoRow : OpenClaim := { program := "ytfcjemfgdeoinaa", sum := "de39dfbf6c70aee6a22abe7c90f52d3f5af7197d1f368530e2edceb386faffd9", func := "winnower/winnowerlaw13.CountsTell", spec := "countsTell", unfollowed := true, recurses := true, apart := false, narrowed := true }
def CountsTellUptoSaid : Prop := countsTellUptoRow.holds Try.pinned (OpenSpec.upto countsTellSpec)

/-- 'winnowerlaw13.CountsOf', WHERE WHAT IT READS IS OF BULK AT MOST 1048576: true; the input reads as it did. -/
def countsOfUptoRow : OpenClaim := { program := "ytfcjemfgdeoinaa", sum := "de39dfbf6c70aee6a22abe7c90f52d3f5af7197d1f368530e2edceb386faffd9", func := "winnower/winnowerlaw13.CountsOf", spec := "countsOf", unfollowed := true, recurses := true, apart := false, narrowed := true }
def CountsOfUptoSaid : Prop := countsOfUptoRow.holds Try.pinned (OpenSpec.upto countsOfSpec)

/-- 'winnowerlaw12.VersionOrder', WHERE WHAT IT READS IS OF BULK AT MOST 1048576: true; the input reads as it did. -/
def versionOrderUptoRow : OpenClaim := { program := "ytfcjemfgdeoinaa", sum := "de39dfbf6c70aee6a22abe7c90f52d3f5af7197d1f368530e2edceb386faffd9", func := "winnower/winnowerlaw12.VersionOrder", spec := "versionOrder", unfollowed := true, recurses := true, apart := false, narrowed := true }
def VersionOrderUptoSaid : Prop := versionOrderUptoRow.holds Try.pinned (OpenSpec.upto versionOrderSpec)

/-- 'winnowerlaw12.VersionTexts', WHERE WHAT IT READS IS OF BULK AT MOST 1048576: true; the input reads as it did. -/
def versionTextsUptoRow : OpenClaim := { program := "ytfcjemfgdeoinaa", sum := "de39dfbf6c70aee6a22abe7c90f52d3f5af7197d1f368530e2edceb386faffd9", func := "winnower/winnowerlaw12.VersionTexts", spec := "versionTexts", unfollowed := true, recurses := true, apart := false, narrowed := true }
def VersionTextsUptoSaid : Prop := versionTextsUptoRow.holds Try.pinned (OpenSpec.upto versionTextsSpec)

/-- 'winnowerlaw12.VersionSorted', WHERE WHAT IT READS IS OF BULK AT MOST 1048576: true; the input reads as it did. -/
def versionSortedUptoRow : OpenClaim := { program := "ytfcjemfgdeoinaa", sum := "de39dfbf6c70aee6a22abe7c90f52d3f5af7197d1f368530e2edceb386faffd9", func := "winnower/winnowerlaw12.VersionSorted", spec := "versionSorted", unfollowed := true, recurses := true, apart := false, narrowed := true }
def VersionSortedUptoSaid : Prop := versionSortedUptoRow.holds Try.pinned (OpenSpec.upto versionSortedSpec)

/-- 'winnowerlaw12.VersionTotal', WHERE WHAT IT READS IS OF BULK AT MOST 1048576: true; the input reads as it did. -/
def versionTotalUptoRow : OpenClaim := { program := "ytfcjemfgdeoinaa", sum := "de39dfbf6c70aee6a22abe7c90f52d3f5af7197d1f368530e2edceb386faffd9", func := "winnower/winnowerlaw12.VersionTotal", spec := "versionTotal", unfollowed := true, recurses := true, apart := false, narrowed := true }
def VersionTotalUptoSaid : Prop := versionTotalUptoRow.holds Try.pinned (OpenSpec.upto versionTotalSpec)

/-- 'winnowerlaw13.CountsSets', WHERE WHAT IT READS IS OF BULK AT MOST 1048576: true; the input reads as it did. -/
def countsSetsUptoRow : OpenClaim := { program := "ytfcjemfgdeoinaa", sum := "de39dfbf6c70aee6a22abe7c90f52d3f5af7197d1f368530e2edceb386faffd9", func := "winnower/winnowerlaw13.CountsSets", spec := "countsSets", unfollowed := true, recurses := true, apart := false, narrowed := true }
def CountsSetsUptoSaid : Prop := countsSetsUptoRow.holds Try.pinned (OpenSpec.upto countsSetsSpec)

/-- 'winnowerlaw13.CountsLaws', WHERE WHAT IT READS IS OF BULK AT MOST 1048576: true; the input reads as it did. -/
def countsLawsUptoRow : OpenClaim := { program := "ytfcjemfgdeoinaa", sum := "de39dfbf6c70aee6a22abe7c90f52d3f5af7197d1f368530e2edceb386faffd9", func := "winnower/winnowerlaw13.CountsLaws", spec := "countsLaws", unfollowed := true, recurses := true, apart := false, narrowed := true }
def CountsLawsUptoSaid : Prop := countsLawsUptoRow.holds Try.pinned (OpenSpec.upto countsLawsSpec)

end Rows
end Go.Proofs.Ytfcjemfgdeoinaa
