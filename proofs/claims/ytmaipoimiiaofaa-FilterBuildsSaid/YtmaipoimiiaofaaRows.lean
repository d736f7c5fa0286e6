/-
  No cell of these rows narrows 'for every input' (looked for: loops, veiled, ifaces, maps, wideKeys, modest, calm, conditions, laid).
  DERIVED. THE GIVEN ROWS OF THIS SEAT. 4 by the template 'for every input the law returns true; each argument reads behind the call as it read before'; 0 by the template 'total and deterministic' (their statements: YtmaipoimiiaofaaTotals.lean).
  GIVEN WITH THE SEED: the statements are not yours to turn. If you find one false, say at which input.
  Laid BY PROGRAM, IN A SANDBOX (cutbox-rows.mjs): the forced cells as the released guide's own fill.sh prints them over the translation 83713242760aec5e… (all of the seat's roots in one cut). By AI agents, Wed Nov 11 2026. No macro, syntax, notation, axiom, sorry.
-/
import Derived.Test.YtmaipoimiiaofaaChecked
import GoSem.Claim
import GoSem.ClaimJoined
import GoSem.ClaimMapViews
import Derived.JoinedTies
import Derived.KernelRfl
namespace Go.Proofs.Ytmaipoimiiaofaa
/- THE CELL 'sum', in the pinned program and in every row, IS THE sha256 OF THE DUMP (.gsa) THAT YtmaipoimiiaofaaProg.lean LOADS. Nothing in Lean hashes anything: it is a label: what it is worth is what the hold of that sum in a sandbox is worth. -/
noncomputable def Try.pinned : Pinned := { name := "ytmaipoimiiaofaa", sum := "83713242760aec5e937a110df936cf308a203f1c5a748a8b5e51c892a3b457fc", checked := Try.checked }
namespace Rows
def none {H : Type} : Left H := { results := [], args := [] }

/-- 'winnowerlaw09.FilterMatches': WHATEVER THE INPUT: true; the input reads as it did. -/
def filterMatchesSpec : ChangeSpec := { name := "filterMatches", fn := fun _ => fun
  | [d1, d2] => { results := [.lit (.bool true)], args := [d1, d2] }
  | _ => none }
def filterMatchesRow : OpenClaim := { program := "ytmaipoimiiaofaa", sum := "83713242760aec5e937a110df936cf308a203f1c5a748a8b5e51c892a3b457fc", func := "winnower/winnowerlaw09.FilterMatches", spec := "filterMatches", unfollowed := true, recurses := true, apart := false }
def FilterMatchesSaid : Prop := filterMatchesRow.holds Try.pinned (OpenSpec.ofChange filterMatchesSpec)

/-- ITS FALSE NEIGHBOUR: 'it returns false'. Refute it at one input. -/
def filterMatchesWrong : ChangeSpec := { name := "filterMatches", fn := fun _ => fun
  | [d1, d2] => { results := [.lit (.bool false)], args := [d1, d2] }
  | _ => none }
def FilterMatchesWrongFalsely : Prop := filterMatchesRow.holds Try.pinned (OpenSpec.ofChange filterMatchesWrong)

/-- 'winnowerlaw09.FilterTurns': WHATEVER THE INPUT: true; the input reads as it did. -/
def filterTurnsSpec : ChangeSpec := { name := "filterTurns", fn := fun _ => fun
  | [d1, d2, d3] => { results := [.lit (.bool true)], args := [d1, d2, d3] }
  | _ => none }
def filterTurnsRow : OpenClaim := { program := "ytmaipoimiiaofaa", sum := "83713242760aec5e937a110df936cf308a203f1c5a748a8b5e51c892a3b457fc", func := "winnower/winnowerlaw09.FilterTurns", spec := "filterTurns", unfollowed := true, recurses := true, apart := false }
def FilterTurnsSaid : Prop := filterTurnsRow.holds Try.pinned (OpenSpec.ofChange filterTurnsSpec)

/-- ITS FALSE NEIGHBOUR: 'it returns false'. Refute it at one input. -/
def filterTurnsWrong : ChangeSpec := { name := "filterTurns", fn := fun _ => fun
  | [d1, d2, d3] => { results := [.lit (.bool false)], args := [d1, d2, d3] }
  | _ => none }
def FilterTurnsWrongFalsely : Prop := filterTurnsRow.holds Try.pinned (OpenSpec.ofChange filterTurnsWrong)

/-- 'winnowerlaw09.FilterRanges': WHATEVER THE INPUT: true; the input reads as it did. -/
def filterRangesSpec : ChangeSpec := { name := "filterRanges", fn := fun _ => fun
  | [d1, d2] => { results := [.lit (.bool true)], args := [d1, d2] }
  | _ => none }
def filterRangesRow : OpenClaim := { program := "ytmaipoimiiaofaa", sum := "83713242760aec5e937a110df936cf308a203f1c5a748a8b5e51c892a3b457fc", func := "winnower/winnowerlaw09.FilterRanges", spec := "filterRanges", unfollowed := true, recurses := true, apart := false }
def FilterRangesSaid : Prop := filterRangesRow.holds Try.pinned (OpenSpec.ofChange filterRangesSpec)

/-- ITS FALSE NEIGHBOUR: 'it returns false'. Refute it at one input. -/
def filterRangesWrong : ChangeSpec := { name := "filterRanges", fn := fun _ => fun
  | [d1, d2] => { results := [.lit (.bool false)], args := [d1, d2] }
  | _ => none }
def FilterRangesWrongFalsely : Prop := filterRangesRow.holds Try.pinned (OpenSpec.ofChange filterRangesWrong)

/-- 'winnowerlaw09.FilterBuilds': WHATEVER THE INPUT: true; the input reads as it did. -/
def filterBuildsSpec : ChangeSpec := { name := "filterBuilds", fn := fun _ => fun
  | [d1, d2, d3] => { results := [.lit (.bool true)], args := [d1, d2, d3] }
  | _ => none }
def filterBuildsRow : OpenClaim := { program := "ytmaipoimiiaofaa", sum := "83713242760aec5e937a110df936cf308a203f1c5a748a8b5e51c892a3b457fc", func := "winnower/winnowerlaw09.FilterBuilds", spec := "filterBuilds", unfollowed := true, recurses := true, apart := false }
def FilterBuildsSaid : Prop := filterBuildsRow.holds Try.pinned (OpenSpec.ofChange filterBuildsSpec)

/-- ITS FALSE NEIGHBOUR: 'it returns false'. Refute it at one input. -/
def filterBuildsWrong : ChangeSpec := { name := "filterBuilds", fn := fun _ => fun
  | [d1, d2, d3] => { results := [.lit (.bool false)], args := [d1, d2, d3] }
  | _ => none }
def FilterBuildsWrongFalsely : Prop := filterBuildsRow.holds Try.pinned (OpenSpec.ofChange filterBuildsWrong)

/- THE SECOND FORM. 'bulk': how many values and letters a reading holds, each counted each time it is reached (what is shared counts as often as it is met; a slice's spare places count too). A statement '..UptoSaid' is the law's where the arguments, and the package variables that the reading takes, are together of bulk at most 1048576: NARROWER than '..Said'. Prove '..Said' where nothing that the law and all that it calls make is longer than what came in: it says more and counts as full. Else prove '..UptoSaid'. A law counts once. -/
mutual
def uptoBulk {H : Type} : DataW H → Nat
  | .lit (.string bytes) => bytes.length + 1
  | .lit _ => 1
  | .nil => 1
  | .ptr d => uptoBulk d + 1
  | .slice elems spare => uptoBulkAll elems + uptoBulkAll spare + 1
  | .agg parts => uptoBulkAll parts + 1
  | .iface _ d => uptoBulk d + 1
  | .map entries => uptoBulkEntries entries + 1
  | .held _ => 1
def uptoBulkAll {H : Type} : List (DataW H) → Nat
  | [] => 0
  | d :: r => uptoBulk d + uptoBulkAll r
def uptoBulkEntries {H : Type} : List (Lit × DataW H) → Nat
  | [] => 0
  | x :: r => uptoBulkEntry x + uptoBulkEntries r
def uptoBulkEntry {H : Type} : Lit × DataW H → Nat
  | (.string bytes, d) => bytes.length + uptoBulk d + 1
  | (_, d) => uptoBulk d + 1
 end
def uptoSmall : (H : Type) → List (DataW H) → Bool := fun _ ds => decide (uptoBulkAll ds ≤ 1048576)
def OpenSpec.upto (s : _root_.Go.ChangeSpec) : _root_.Go.OpenSpec := { _root_.Go.OpenSpec.ofChange s with cond := some uptoSmall }

/-- 'winnowerlaw09.FilterMatches', WHERE WHAT IT READS IS OF BULK AT MOST 1048576: true; the input reads as it did. -/
def filterMatchesUptoRow : OpenClaim := { program := "ytmaipoimiiaofaa", sum := "83713242760aec5e937a110df936cf308a203f1c5a748a8b5e51c892a3b457fc", func := "winnower/winnowerlaw09.FilterMatches", spec := "filterMatches", unfollowed := true, recurses := true, apart := false, narrowed := true }
def FilterMatchesUptoSaid : Prop := filterMatchesUptoRow.holds Try.pinned (OpenSpec.upto filterMatchesSpec)

/-- 'winnowerlaw09.FilterTurns', WHERE WHAT IT READS IS OF BULK AT MOST 1048576: true; the input reads as it did. -/
def filterTurnsUptoRow : OpenClaim := { program := "ytmaipoimiiaofaa", sum := "83713242760aec5e937a110df936cf308a203f1c5a748a8b5e51c892a3b457fc", func := "winnower/winnowerlaw09.FilterTurns", spec := "filterTurns", unfollowed := true, recurses := true, apart := false, narrowed := true }
def FilterTurnsUptoSaid : Prop := filterTurnsUptoRow.holds Try.pinned (OpenSpec.upto filterTurnsSpec)

/-- 'winnowerlaw09.FilterRanges', WHERE WHAT IT READS IS OF BULK AT MOST 1048576: true; the input reads as it did. -/
def filterRangesUptoRow : OpenClaim := { program := "ytmaipoimiiaofaa", sum := "83713242760aec5e937a110df936cf308a203f1c5a748a8b5e51c892a3b457fc", func := "winnower/winnowerlaw09.FilterRanges", spec := "filterRanges", unfollowed := true, recurses := true, apart := false, narrowed := true }
def FilterRangesUptoSaid : Prop := filterRangesUptoRow.holds Try.pinned (OpenSpec.upto filterRangesSpec)

/-- 'winnowerlaw09.FilterBuilds', WHERE WHAT IT READS IS OF BULK AT MOST 1048576: true; the input reads as it did. -/
def filterBuildsUptoRow : OpenClaim := { program := "ytmaipoimiiaofaa", sum := "83713242760aec5e937a110df936cf308a203f1c5a748a8b5e51c892a3b457fc", func := "winnower/winnowerlaw09.FilterBuilds", spec := "filterBuilds", unfollowed := true, recurses := true, apart := false, narrowed := true }
def FilterBuildsUptoSaid : Prop := filterBuildsUptoRow.holds Try.pinned (OpenSpec.upto filterBuildsSpec)

end Rows
end Go.Proofs.Ytmaipoimiiaofaa
