/-
  No cell of these rows narrows 'for every input' (looked for: loops, veiled, ifaces, maps, wideKeys, modest, calm, conditions, laid).
  DERIVED. THE GIVEN ROWS OF THIS SEAT. 5 by the template 'for every input the law returns true; each argument reads behind the call as it read before'; 0 by the template 'total and deterministic' (their statements: YtbnmicpgbcfooaaGreatTotals.lean).
  GIVEN WITH THE SEED: the statements are not yours to turn. If you find one false, say at which input.
  Laid BY PROGRAM, IN A SANDBOX (cutbox-rows.mjs): the forced cells as the released guide's own fill.sh prints them over the translation 17f52b842c1c3a4b… (all of the seat's roots in one cut). By AI agents, Wed Nov 11 2026. No macro, syntax, notation, axiom, sorry.
-/
import Derived.Test.YtbnmicpgbcfooaaGreatChecked
import GoSem.Claim
import GoSem.ClaimJoined
import GoSem.ClaimMapViews
import Derived.JoinedTies
import Derived.KernelRfl
namespace Go.Proofs.YtbnmicpgbcfooaaGreat
/- THE CELL 'sum', in the pinned program and in every row, IS THE sha256 OF THE DUMP (.gsa) THAT YtbnmicpgbcfooaaGreatProg.lean LOADS. Nothing in Lean hashes anything: it is a label: what it is worth is what the hold of that sum in a sandbox is worth. -/
noncomputable def Tryz.pinned : Pinned := { name := "ytbnmicpgbcfooaagreat", sum := "17f52b842c1c3a4bdece18172adc21c9eb590b5a81c7fe1d5b6dab6e043266f0", checked := Tryz.checked }
namespace Rows
def none {H : Type} : Left H := { results := [], args := [] }

/-- 'winnowerlaw15.KnowOf': WHATEVER THE INPUT: true; the input reads as it did. -/
def knowOfSpec : ChangeSpec := { name := "knowOf", fn := fun _ => fun
  | [d1, d2, d3] => { results := [.lit (.bool true)], args := [d1, d2, d3] }
  | _ => none }
def knowOfRow : OpenClaim := { program := "ytbnmicpgbcfooaagreat", sum := "17f52b842c1c3a4bdece18172adc21c9eb590b5a81c7fe1d5b6dab6e043266f0", func := "winnower/winnowerlaw15.KnowOf", spec := "knowOf", unfollowed := true, recurses := true, apart := false }
def KnowOfSaid : Prop := knowOfRow.holds Tryz.pinned (OpenSpec.ofChange knowOfSpec)

/-- ITS FALSE NEIGHBOUR: 'it returns false'. Refute it at one input. -/
def knowOfWrong : ChangeSpec := { name := "knowOf", fn := fun _ => fun
  | [d1, d2, d3] => { results := [.lit (.bool false)], args := [d1, d2, d3] }
  | _ => none }
def KnowOfWrongFalsely : Prop := knowOfRow.holds Tryz.pinned (OpenSpec.ofChange knowOfWrong)

/-- 'winnowerlaw15.KnowAdds': WHATEVER THE INPUT: true; the input reads as it did. -/
def knowAddsSpec : ChangeSpec := { name := "knowAdds", fn := fun _ => fun
  | [d1, d2] => { results := [.lit (.bool true)], args := [d1, d2] }
  | _ => none }
def knowAddsRow : OpenClaim := { program := "ytbnmicpgbcfooaagreat", sum := "17f52b842c1c3a4bdece18172adc21c9eb590b5a81c7fe1d5b6dab6e043266f0", func := "winnower/winnowerlaw15.KnowAdds", spec := "knowAdds", unfollowed := true, recurses := true, apart := false }
def KnowAddsSaid : Prop := knowAddsRow.holds Tryz.pinned (OpenSpec.ofChange knowAddsSpec)

/-- ITS FALSE NEIGHBOUR: 'it returns false'. Refute it at one input. -/
def knowAddsWrong : ChangeSpec := { name := "knowAdds", fn := fun _ => fun
  | [d1, d2] => { results := [.lit (.bool false)], args := [d1, d2] }
  | _ => none }
def KnowAddsWrongFalsely : Prop := knowAddsRow.holds Tryz.pinned (OpenSpec.ofChange knowAddsWrong)

/-- 'winnowerlaw15.KnowSame': WHATEVER THE INPUT: true; the input reads as it did. -/
def knowSameSpec : ChangeSpec := { name := "knowSame", fn := fun _ => fun
  | [d1, d2] => { results := [.lit (.bool true)], args := [d1, d2] }
  | _ => none }
def knowSameRow : OpenClaim := { program := "ytbnmicpgbcfooaagreat", sum := "17f52b842c1c3a4bdece18172adc21c9eb590b5a81c7fe1d5b6dab6e043266f0", func := "winnower/winnowerlaw15.KnowSame", spec := "knowSame", unfollowed := true, recurses := true, apart := false }
def KnowSameSaid : Prop := knowSameRow.holds Tryz.pinned (OpenSpec.ofChange knowSameSpec)

/-- ITS FALSE NEIGHBOUR: 'it returns false'. Refute it at one input. -/
def knowSameWrong : ChangeSpec := { name := "knowSame", fn := fun _ => fun
  | [d1, d2] => { results := [.lit (.bool false)], args := [d1, d2] }
  | _ => none }
def KnowSameWrongFalsely : Prop := knowSameRow.holds Tryz.pinned (OpenSpec.ofChange knowSameWrong)

/-- 'winnowerlaw15.KnowSets': WHATEVER THE INPUT: true; the input reads as it did. -/
def knowSetsSpec : ChangeSpec := { name := "knowSets", fn := fun _ => fun
  | [d1, d2, d3] => { results := [.lit (.bool true)], args := [d1, d2, d3] }
  | _ => none }
def knowSetsRow : OpenClaim := { program := "ytbnmicpgbcfooaagreat", sum := "17f52b842c1c3a4bdece18172adc21c9eb590b5a81c7fe1d5b6dab6e043266f0", func := "winnower/winnowerlaw15.KnowSets", spec := "knowSets", unfollowed := true, recurses := true, apart := false }
def KnowSetsSaid : Prop := knowSetsRow.holds Tryz.pinned (OpenSpec.ofChange knowSetsSpec)

/-- ITS FALSE NEIGHBOUR: 'it returns false'. Refute it at one input. -/
def knowSetsWrong : ChangeSpec := { name := "knowSets", fn := fun _ => fun
  | [d1, d2, d3] => { results := [.lit (.bool false)], args := [d1, d2, d3] }
  | _ => none }
def KnowSetsWrongFalsely : Prop := knowSetsRow.holds Tryz.pinned (OpenSpec.ofChange knowSetsWrong)

/-- 'winnowerlaw15.KnowLaws': WHATEVER THE INPUT: true; the input reads as it did. -/
def knowLawsSpec : ChangeSpec := { name := "knowLaws", fn := fun _ => fun
  | [d1, d2, d3] => { results := [.lit (.bool true)], args := [d1, d2, d3] }
  | _ => none }
def knowLawsRow : OpenClaim := { program := "ytbnmicpgbcfooaagreat", sum := "17f52b842c1c3a4bdece18172adc21c9eb590b5a81c7fe1d5b6dab6e043266f0", func := "winnower/winnowerlaw15.KnowLaws", spec := "knowLaws", unfollowed := true, recurses := true, apart := false }
def KnowLawsSaid : Prop := knowLawsRow.holds Tryz.pinned (OpenSpec.ofChange knowLawsSpec)

/-- ITS FALSE NEIGHBOUR: 'it returns false'. Refute it at one input. -/
def knowLawsWrong : ChangeSpec := { name := "knowLaws", fn := fun _ => fun
  | [d1, d2, d3] => { results := [.lit (.bool false)], args := [d1, d2, d3] }
  | _ => none }
def KnowLawsWrongFalsely : Prop := knowLawsRow.holds Tryz.pinned (OpenSpec.ofChange knowLawsWrong)

/- THE SECOND FORM. 'bulk': how many values and letters a reading holds, each counted each time it is reached (what is shared counts as often as it is met; a slice's spare places count too). A statement '..UptoSaid' is the law's where the arguments, and the package variables that the reading takes, are together of bulk at most 1048576: NARROWER than '..Said'. Prove '..Said' where nothing that the law and all that it calls make is longer than what came in: it says more and counts as full. Else prove '..UptoSaid'. A law counts once. -/
mutual
def uptoBulk {H : Type} : DataW H → Nat
  | .lit (.string bytes) => bytes.length + 1
  | .lit _ => 1
  | .nil => 1
  | .ptr d => uptoBulk d + 1
  | .slice elems spare => uptoBulkAll elems + uptoBulkAll spare + 1
  | .agg parts => uptoBulkAll parts + 1
  | .iface _ d => uptoBulk d + 1
  | .map entries => uptoBulkEntries entries + 1
  | .held _ => 1
def uptoBulkAll {H : Type} : List (DataW H) → Nat
  | [] => 0
  | d :: r => uptoBulk d + uptoBulkAll r
def uptoBulkEntries {H : Type} : List (Lit × DataW H) → Nat
  | [] => 0
  | x :: r => uptoBulkEntry x + uptoBulkEntries r
def uptoBulkEntry {H : Type} : Lit × DataW H → Nat
  | (.string bytes, d) => bytes.length + uptoBulk d + 1
  | (_, d) => uptoBulk d + 1
 end
def uptoSmall : (H : Type) → List (DataW H) → Bool := fun _ ds => decide (uptoBulkAll ds ≤ 1048576)
def OpenSpec.upto (s : _root_.Go.ChangeSpec) : _root_.Go.OpenSpec := { _root_.Go.OpenSpec.ofChange s with cond := some uptoSmall }

/-- 'winnowerlaw15.KnowOf', WHERE WHAT IT READS IS OF BULK AT MOST 1048576: true; the input reads as it did. -/
def knowOfUptoRow : OpenClaim := { program := "ytbnmicpgbcfooaagreat", sum := "17f52b842c1c3a4bdece18172adc21c9eb590b5a81c7fe1d5b6dab6e043266f0", func := "winnower/winnowerlaw15.KnowOf", spec := "knowOf", unfollowed := true, recurses := true, apart := false, narrowed := true }
def KnowOfUptoSaid : Prop := knowOfUptoRow.holds Tryz.pinned (OpenSpec.upto knowOfSpec)

/-- 'winnowerlaw15.KnowAdds', WHERE WHAT IT READS IS OF BULK AT MOST 1048576: true; the input reads as it did. -/
def knowAddsUptoRow : OpenClaim := { program := "ytbnmicpgbcfooaagreat", sum := "17f52b842c1c3a4bdece18172adc21c9eb590b5a81c7fe1d5b6dab6e043266f0", func := "winnower/winnowerlaw15.KnowAdds", spec := "knowAdds", unfollowed := true, recurses := true, apart := false, narrowed := true }
def KnowAddsUptoSaid : Prop := knowAddsUptoRow.holds Tryz.pinned (OpenSpec.upto knowAddsSpec)

/-- 'winnowerlaw15.KnowSame', WHERE WHAT IT READS IS OF BULK AT MOST 1048576: true; the input reads as it did. -/
def knowSameUptoRow : OpenClaim := { program := "ytbnmicpgbcfooaagreat", sum := "17f52b842c1c3a4bdece18172adc21c9eb590b5a81c7fe1d5b6dab6e043266f0", func := "winnower/winnowerlaw15.KnowSame", spec := "knowSame", unfollowed := true, recurses := true, apart := false, narrowed := true }
def KnowSameUptoSaid : Prop := knowSameUptoRow.holds Tryz.pinned (OpenSpec.upto knowSameSpec)

/-- 'winnowerlaw15.KnowSets', WHERE WHAT IT READS IS OF BULK AT MOST 1048576: true; the input reads as it did. -/
def knowSetsUptoRow : OpenClaim := { program := "ytbnmicpgbcfooaagreat", sum := "17f52b842c1c3a4bdece18172adc21c9eb590b5a81c7fe1d5b6dab6e043266f0", func := "winnower/winnowerlaw15.KnowSets", spec := "knowSets", unfollowed := true, recurses := true, apart := false, narrowed := true }
def KnowSetsUptoSaid : Prop := knowSetsUptoRow.holds Tryz.pinned (OpenSpec.upto knowSetsSpec)

/-- 'winnowerlaw15.KnowLaws', WHERE WHAT IT READS IS OF BULK AT MOST 1048576: true; the input reads as it did. -/
def knowLawsUptoRow : OpenClaim := { program := "ytbnmicpgbcfooaagreat", sum := "17f52b842c1c3a4bdece18172adc21c9eb590b5a81c7fe1d5b6dab6e043266f0", func := "winnower/winnowerlaw15.KnowLaws", spec := "knowLaws", unfollowed := true, recurses := true, apart := false, narrowed := true }
def KnowLawsUptoSaid : Prop := knowLawsUptoRow.holds Tryz.pinned (OpenSpec.upto knowLawsSpec)

end Rows
end Go.Proofs.YtbnmicpgbcfooaaGreat
