/-
  No cell of these rows narrows 'for every input' (looked for: loops, veiled, ifaces, maps, wideKeys, modest, calm, conditions, laid).
  DERIVED. THE GIVEN ROWS OF THIS SEAT. 10 by the template 'for every input the law returns true; each argument reads behind the call as it read before'; 0 by the template 'total and deterministic' (their statements: YtfnohjheonlnmaaGreatTotals.lean).
  GIVEN WITH THE SEED: the statements are not yours to turn. If you find one false, say at which input.
  Laid BY PROGRAM, IN A SANDBOX (cutbox-rows.mjs): the forced cells as the released guide's own fill.sh prints them over the translation a956e10efe74320d… (all of the seat's roots in one cut). By AI agents, Wed Nov 11 2026. No macro, syntax, notation, axiom, sorry.
-/
import Derived.Test.YtfnohjheonlnmaaGreatChecked
import GoSem.Claim
import GoSem.ClaimJoined
import GoSem.ClaimMapViews
import Derived.JoinedTies
import Derived.KernelRfl
namespace Go.Proofs.YtfnohjheonlnmaaGreat
/- THE CELL 'sum', in the pinned program and in every row, IS THE sha256 OF THE DUMP (.gsa) THAT YtfnohjheonlnmaaGreatProg.lean LOADS. Nothing in Lean hashes anything: it is a label: what it is worth is what the hold of that sum in a sandbox is worth. -/
noncomputable def Tryz.pinned : Pinned := { name := "ytfnohjheonlnmaagreat", sum := "a956e10efe74320d4f49500000b991ac68f1ba61f8f3515b87eaf2abb072ecf8", checked := Tryz.checked }
namespace Rows
def none {H : Type} : Left H := { results := [], args := [] }

/-- 'winnowerlaw26.FleetRounds': WHATEVER THE INPUT: true; the input reads as it did. -/
def fleetRoundsSpec : ChangeSpec := { name := "fleetRounds", fn := fun _ => fun
  | [d1, d2, d3] => { results := [.lit (.bool true)], args := [d1, d2, d3] }
  | _ => none }
def fleetRoundsRow : OpenClaim := { program := "ytfnohjheonlnmaagreat", sum := "a956e10efe74320d4f49500000b991ac68f1ba61f8f3515b87eaf2abb072ecf8", func := "winnower/winnowerlaw26.FleetRounds", spec := "fleetRounds", unfollowed := true, recurses := true, apart := false }
def FleetRoundsSaid : Prop := fleetRoundsRow.holds Tryz.pinned (OpenSpec.ofChange fleetRoundsSpec)

/-- ITS FALSE NEIGHBOUR: 'it returns false'. Refute it at one input. -/
def fleetRoundsWrong : ChangeSpec := { name := "fleetRounds", fn := fun _ => fun
  | [d1, d2, d3] => { results := [.lit (.bool false)], args := [d1, d2, d3] }
  | _ => none }
def FleetRoundsWrongFalsely : Prop := fleetRoundsRow.holds Tryz.pinned (OpenSpec.ofChange fleetRoundsWrong)

/-- 'winnowerlaw26.FleetAgrees': WHATEVER THE INPUT: true; the input reads as it did. -/
def fleetAgreesSpec : ChangeSpec := { name := "fleetAgrees", fn := fun _ => fun
  | [d1, d2, d3] => { results := [.lit (.bool true)], args := [d1, d2, d3] }
  | _ => none }
def fleetAgreesRow : OpenClaim := { program := "ytfnohjheonlnmaagreat", sum := "a956e10efe74320d4f49500000b991ac68f1ba61f8f3515b87eaf2abb072ecf8", func := "winnower/winnowerlaw26.FleetAgrees", spec := "fleetAgrees", unfollowed := true, recurses := true, apart := false }
def FleetAgreesSaid : Prop := fleetAgreesRow.holds Tryz.pinned (OpenSpec.ofChange fleetAgreesSpec)

/-- ITS FALSE NEIGHBOUR: 'it returns false'. Refute it at one input. -/
def fleetAgreesWrong : ChangeSpec := { name := "fleetAgrees", fn := fun _ => fun
  | [d1, d2, d3] => { results := [.lit (.bool false)], args := [d1, d2, d3] }
  | _ => none }
def FleetAgreesWrongFalsely : Prop := fleetAgreesRow.holds Tryz.pinned (OpenSpec.ofChange fleetAgreesWrong)

/-- 'winnowerlaw42.ModelTells': WHATEVER THE INPUT: true; the input reads as it did. -/
def modelTellsSpec : ChangeSpec := { name := "modelTells", fn := fun _ => fun
  | [d1, d2, d3] => { results := [.lit (.bool true)], args := [d1, d2, d3] }
  | _ => none }
def modelTellsRow : OpenClaim := { program := "ytfnohjheonlnmaagreat", sum := "a956e10efe74320d4f49500000b991ac68f1ba61f8f3515b87eaf2abb072ecf8", func := "winnower/winnowerlaw42.ModelTells", spec := "modelTells", unfollowed := true, recurses := true, apart := false }
def ModelTellsSaid : Prop := modelTellsRow.holds Tryz.pinned (OpenSpec.ofChange modelTellsSpec)

/-- ITS FALSE NEIGHBOUR: 'it returns false'. Refute it at one input. -/
def modelTellsWrong : ChangeSpec := { name := "modelTells", fn := fun _ => fun
  | [d1, d2, d3] => { results := [.lit (.bool false)], args := [d1, d2, d3] }
  | _ => none }
def ModelTellsWrongFalsely : Prop := modelTellsRow.holds Tryz.pinned (OpenSpec.ofChange modelTellsWrong)

/-- 'winnowerlaw42.ModelLess': WHATEVER THE INPUT: true; the input reads as it did. -/
def modelLessSpec : ChangeSpec := { name := "modelLess", fn := fun _ => fun
  | [d1, d2, d3] => { results := [.lit (.bool true)], args := [d1, d2, d3] }
  | _ => none }
def modelLessRow : OpenClaim := { program := "ytfnohjheonlnmaagreat", sum := "a956e10efe74320d4f49500000b991ac68f1ba61f8f3515b87eaf2abb072ecf8", func := "winnower/winnowerlaw42.ModelLess", spec := "modelLess", unfollowed := true, recurses := true, apart := false }
def ModelLessSaid : Prop := modelLessRow.holds Tryz.pinned (OpenSpec.ofChange modelLessSpec)

/-- ITS FALSE NEIGHBOUR: 'it returns false'. Refute it at one input. -/
def modelLessWrong : ChangeSpec := { name := "modelLess", fn := fun _ => fun
  | [d1, d2, d3] => { results := [.lit (.bool false)], args := [d1, d2, d3] }
  | _ => none }
def ModelLessWrongFalsely : Prop := modelLessRow.holds Tryz.pinned (OpenSpec.ofChange modelLessWrong)

/-- 'winnowerlaw42.ModelParts': WHATEVER THE INPUT: true; the input reads as it did. -/
def modelPartsSpec : ChangeSpec := { name := "modelParts", fn := fun _ => fun
  | [d1, d2, d3] => { results := [.lit (.bool true)], args := [d1, d2, d3] }
  | _ => none }
def modelPartsRow : OpenClaim := { program := "ytfnohjheonlnmaagreat", sum := "a956e10efe74320d4f49500000b991ac68f1ba61f8f3515b87eaf2abb072ecf8", func := "winnower/winnowerlaw42.ModelParts", spec := "modelParts", unfollowed := true, recurses := true, apart := false }
def ModelPartsSaid : Prop := modelPartsRow.holds Tryz.pinned (OpenSpec.ofChange modelPartsSpec)

/-- ITS FALSE NEIGHBOUR: 'it returns false'. Refute it at one input. -/
def modelPartsWrong : ChangeSpec := { name := "modelParts", fn := fun _ => fun
  | [d1, d2, d3] => { results := [.lit (.bool false)], args := [d1, d2, d3] }
  | _ => none }
def ModelPartsWrongFalsely : Prop := modelPartsRow.holds Tryz.pinned (OpenSpec.ofChange modelPartsWrong)

/-- 'winnowerlaw23.StateNew': WHATEVER THE INPUT: true; the input reads as it did. -/
def stateNewSpec : ChangeSpec := { name := "stateNew", fn := fun _ => fun
  | [d1, d2, d3] => { results := [.lit (.bool true)], args := [d1, d2, d3] }
  | _ => none }
def stateNewRow : OpenClaim := { program := "ytfnohjheonlnmaagreat", sum := "a956e10efe74320d4f49500000b991ac68f1ba61f8f3515b87eaf2abb072ecf8", func := "winnower/winnowerlaw23.StateNew", spec := "stateNew", unfollowed := true, recurses := true, apart := false }
def StateNewSaid : Prop := stateNewRow.holds Tryz.pinned (OpenSpec.ofChange stateNewSpec)

/-- ITS FALSE NEIGHBOUR: 'it returns false'. Refute it at one input. -/
def stateNewWrong : ChangeSpec := { name := "stateNew", fn := fun _ => fun
  | [d1, d2, d3] => { results := [.lit (.bool false)], args := [d1, d2, d3] }
  | _ => none }
def StateNewWrongFalsely : Prop := stateNewRow.holds Tryz.pinned (OpenSpec.ofChange stateNewWrong)

/-- 'winnowerlaw23.StateWrites': WHATEVER THE INPUT: true; the input reads as it did. -/
def stateWritesSpec : ChangeSpec := { name := "stateWrites", fn := fun _ => fun
  | [d1, d2] => { results := [.lit (.bool true)], args := [d1, d2] }
  | _ => none }
def stateWritesRow : OpenClaim := { program := "ytfnohjheonlnmaagreat", sum := "a956e10efe74320d4f49500000b991ac68f1ba61f8f3515b87eaf2abb072ecf8", func := "winnower/winnowerlaw23.StateWrites", spec := "stateWrites", unfollowed := true, recurses := true, apart := false }
def StateWritesSaid : Prop := stateWritesRow.holds Tryz.pinned (OpenSpec.ofChange stateWritesSpec)

/-- ITS FALSE NEIGHBOUR: 'it returns false'. Refute it at one input. -/
def stateWritesWrong : ChangeSpec := { name := "stateWrites", fn := fun _ => fun
  | [d1, d2] => { results := [.lit (.bool false)], args := [d1, d2] }
  | _ => none }
def StateWritesWrongFalsely : Prop := stateWritesRow.holds Tryz.pinned (OpenSpec.ofChange stateWritesWrong)

/-- 'winnowerlaw23.StateTakes': WHATEVER THE INPUT: true; the input reads as it did. -/
def stateTakesSpec : ChangeSpec := { name := "stateTakes", fn := fun _ => fun
  | [d1, d2, d3] => { results := [.lit (.bool true)], args := [d1, d2, d3] }
  | _ => none }
def stateTakesRow : OpenClaim := { program := "ytfnohjheonlnmaagreat", sum := "a956e10efe74320d4f49500000b991ac68f1ba61f8f3515b87eaf2abb072ecf8", func := "winnower/winnowerlaw23.StateTakes", spec := "stateTakes", unfollowed := true, recurses := true, apart := false }
def StateTakesSaid : Prop := stateTakesRow.holds Tryz.pinned (OpenSpec.ofChange stateTakesSpec)

/-- ITS FALSE NEIGHBOUR: 'it returns false'. Refute it at one input. -/
def stateTakesWrong : ChangeSpec := { name := "stateTakes", fn := fun _ => fun
  | [d1, d2, d3] => { results := [.lit (.bool false)], args := [d1, d2, d3] }
  | _ => none }
def StateTakesWrongFalsely : Prop := stateTakesRow.holds Tryz.pinned (OpenSpec.ofChange stateTakesWrong)

/-- 'winnowerlaw26.FleetDoes': WHATEVER THE INPUT: true; the input reads as it did. -/
def fleetDoesSpec : ChangeSpec := { name := "fleetDoes", fn := fun _ => fun
  | [d1, d2] => { results := [.lit (.bool true)], args := [d1, d2] }
  | _ => none }
def fleetDoesRow : OpenClaim := { program := "ytfnohjheonlnmaagreat", sum := "a956e10efe74320d4f49500000b991ac68f1ba61f8f3515b87eaf2abb072ecf8", func := "winnower/winnowerlaw26.FleetDoes", spec := "fleetDoes", unfollowed := true, recurses := true, apart := false }
def FleetDoesSaid : Prop := fleetDoesRow.holds Tryz.pinned (OpenSpec.ofChange fleetDoesSpec)

/-- ITS FALSE NEIGHBOUR: 'it returns false'. Refute it at one input. -/
def fleetDoesWrong : ChangeSpec := { name := "fleetDoes", fn := fun _ => fun
  | [d1, d2] => { results := [.lit (.bool false)], args := [d1, d2] }
  | _ => none }
def FleetDoesWrongFalsely : Prop := fleetDoesRow.holds Tryz.pinned (OpenSpec.ofChange fleetDoesWrong)

/-- 'winnowerlaw26.FleetSound': WHATEVER THE INPUT: true; the input reads as it did. -/
def fleetSoundSpec : ChangeSpec := { name := "fleetSound", fn := fun _ => fun
  | [d1, d2] => { results := [.lit (.bool true)], args := [d1, d2] }
  | _ => none }
def fleetSoundRow : OpenClaim := { program := "ytfnohjheonlnmaagreat", sum := "a956e10efe74320d4f49500000b991ac68f1ba61f8f3515b87eaf2abb072ecf8", func := "winnower/winnowerlaw26.FleetSound", spec := "fleetSound", unfollowed := true, recurses := true, apart := false }
def FleetSoundSaid : Prop := fleetSoundRow.holds Tryz.pinned (OpenSpec.ofChange fleetSoundSpec)

/-- ITS FALSE NEIGHBOUR: 'it returns false'. Refute it at one input. -/
def fleetSoundWrong : ChangeSpec := { name := "fleetSound", fn := fun _ => fun
  | [d1, d2] => { results := [.lit (.bool false)], args := [d1, d2] }
  | _ => none }
def FleetSoundWrongFalsely : Prop := fleetSoundRow.holds Tryz.pinned (OpenSpec.ofChange fleetSoundWrong)

/- THE SECOND FORM. 'bulk': how many values and letters a reading holds, each counted each time it is reached (what is shared counts as often as it is met; a slice's spare places count too). A statement '..UptoSaid' is the law's where the arguments, and the package variables that the reading takes, are together of bulk at most 1048576: NARROWER than '..Said'. Prove '..Said' where nothing that the law and all that it calls make is longer than what came in: it says more and counts as full. Else prove '..UptoSaid'. A law counts once. -/
mutual
def uptoBulk {H : Type} : DataW H → Nat
  | .lit (.string bytes) => bytes.length + 1
  | .lit _ => 1
  | .nil => 1
  | .ptr d => uptoBulk d + 1
  | .slice elems spare => uptoBulkAll elems + uptoBulkAll spare + 1
  | .agg parts => uptoBulkAll parts + 1
  | .iface _ d => uptoBulk d + 1
  | .map entries => uptoBulkEntries entries + 1
  | .held _ => 1
def uptoBulkAll {H : Type} : List (DataW H) → Nat
  | [] => 0
  | d :: r => uptoBulk d + uptoBulkAll r
def uptoBulkEntries {H : Type} : List (Lit × DataW H) → Nat
  | [] => 0
  | x :: r => uptoBulkEntry x + uptoBulkEntries r
def uptoBulkEntry {H : Type} : Lit × DataW H → Nat
  | (.string bytes, d) => bytes.length + uptoBulk d + 1
  | (_, d) => uptoBulk d + 1
 end
def uptoSmall : (H : Type) → List (DataW H) → Bool := fun _ ds => decide (uptoBulkAll ds ≤ 1048576)
def OpenSpec.upto (s : _root_.Go.ChangeSpec) : _root_.Go.OpenSpec := { _root_.Go.OpenSpec.ofChange s with cond := some uptoSmall }

/-- 'winnowerlaw26.FleetRounds', WHERE WHAT IT READS IS OF BULK AT MOST 1048576: true; the input reads as it did. -/
def fleetRoundsUptoRow : OpenClaim := { program := "ytfnohjheonlnmaagreat", sum := "a956e10efe74320d4f49500000b991ac68f1ba61f8f3515b87eaf2abb072ecf8", func := "winnower/winnowerlaw26.FleetRounds", spec := "fleetRounds", unfollowed := true, recurses := true, apart := false, narrowed := true }
def FleetRoundsUptoSaid : Prop := fleetRoundsUptoRow.holds Tryz.pinned (OpenSpec.upto fleetRoundsSpec)

/-- 'winnowerlaw26.FleetAgrees', WHERE WHAT IT READS IS OF BULK AT MOST 1048576: true; the input reads as it did. -/
def fleetAgreesUptoRow : OpenClaim := { program := "ytfnohjheonlnmaagreat", sum := "a956e10efe74320d4f49500000b991ac68f1ba61f8f3515b87eaf2abb072ecf8", func := "winnower/winnowerlaw26.FleetAgrees", spec := "fleetAgrees", unfollowed := true, recurses := true, apart := false, narrowed := true }
def FleetAgreesUptoSaid : Prop := fleetAgreesUptoRow.holds Tryz.pinned (OpenSpec.upto fleetAgreesSpec)

/-- 'winnowerlaw42.ModelTells', WHERE WHAT IT READS IS OF BULK AT MOST 1048576: true; the input reads as it did. -/
def modelTellsUptoRow : OpenClaim := { program := "ytfnohjheonlnmaagreat", sum := "a956e10efe74320d4f49500000b991ac68f1ba61f8f3515b87eaf2abb072ecf8", func := "winnower/winnowerlaw42.ModelTells", spec := "modelTells", unfollowed := true, recurses := true, apart := false, narrowed := true }
def ModelTellsUptoSaid : Prop := modelTellsUptoRow.holds Tryz.pinned (OpenSpec.upto modelTellsSpec)

/-- 'winnowerlaw42.ModelLess', WHERE WHAT IT READS IS OF BULK AT MOST 1048576: true; the input reads as it did. -/
def modelLessUptoRow : OpenClaim := { program := "ytfnohjheonlnmaagreat", sum := "a956e10efe74320d4f49500000b991ac68f1ba61f8f3515b87eaf2abb072ecf8", func := "winnower/winnowerlaw42.ModelLess", spec := "modelLess", unfollowed := true, recurses := true, apart := false, narrowed := true }
def ModelLessUptoSaid : Prop := modelLessUptoRow.holds Tryz.pinned (OpenSpec.upto modelLessSpec)

/-- 'winnowerlaw42.ModelParts', WHERE WHAT IT READS IS OF BULK AT MOST 1048576: true; the input reads as it did. -/
def modelPartsUptoRow : OpenClaim := { program := "ytfnohjheonlnmaagreat", sum := "a956e10efe74320d4f49500000b991ac68f1ba61f8f3515b87eaf2abb072ecf8", func := "winnower/winnowerlaw42.ModelParts", spec := "modelParts", unfollowed := true, recurses := true, apart := false, narrowed := true }
def ModelPartsUptoSaid : Prop := modelPartsUptoRow.holds Tryz.pinned (OpenSpec.upto modelPartsSpec)

/-- 'winnowerlaw23.StateNew', WHERE WHAT IT READS IS OF BULK AT MOST 1048576: true; the input reads as it did. -/
def stateNewUptoRow : OpenClaim := { program := "ytfnohjheonlnmaagreat", sum := "a956e10efe74320d4f49500000b991ac68f1ba61f8f3515b87eaf2abb072ecf8", func := "winnower/winnowerlaw23.StateNew", spec := "stateNew", unfollowed := true, recurses := true, apart := false, narrowed := true }
def StateNewUptoSaid : Prop := stateNewUptoRow.holds Tryz.pinned (OpenSpec.upto stateNewSpec)

/-- 'winnowerlaw23.StateWrites', WHERE WHAT IT READS IS OF BULK AT MOST 1048576: true; the input reads as it did. -/
def stateWritesUptoRow : OpenClaim := { program := "ytfnohjheonlnmaagreat", sum := "a956e10efe74320d4f49500000b991ac68f1ba61f8f3515b87eaf2abb072ecf8", func := "winnower/winnowerlaw23.StateWrites", spec := "stateWrites", unfollowed := true, recurses := true, apart := false, narrowed := true }
def StateWritesUptoSaid : Prop := stateWritesUptoRow.holds Tryz.pinned (OpenSpec.upto stateWritesSpec)

/-- 'winnowerlaw23.StateTakes', WHERE WHAT IT READS IS OF BULK AT MOST 1048576: true; the input reads as it did. -/
def stateTakesUptoRow : OpenClaim := { program := "ytfnohjheonlnmaagreat", sum := "a956e10efe74320d4f49500000b991ac68f1ba61f8f3515b87eaf2abb072ecf8", func := "winnower/winnowerlaw23.StateTakes", spec := "stateTakes", unfollowed := true, recurses := true, apart := false, narrowed := true }
def StateTakesUptoSaid : Prop := stateTakesUptoRow.holds Tryz.pinned (OpenSpec.upto stateTakesSpec)

/-- 'winnowerlaw26.FleetDoes', WHERE WHAT IT READS IS OF BULK AT MOST 1048576: true; the input reads as it did. -/
def fleetDoesUptoRow : OpenClaim := { program := "ytfnohjheonlnmaagreat", sum := "a956e10efe74320d4f49500000b991ac68f1ba61f8f3515b87eaf2abb072ecf8", func := "winnower/winnowerlaw26.FleetDoes", spec := "fleetDoes", unfollowed := true, recurses := true, apart := false, narrowed := true }
def FleetDoesUptoSaid : Prop := fleetDoesUptoRow.holds Tryz.pinned (OpenSpec.upto fleetDoesSpec)

/-- 'winnowerlaw26.FleetSound', WHERE WHAT IT READS IS OF BULK AT MOST 1048576: true; the input reads as it did. -/
def fleetSoundUptoRow : OpenClaim := { program := "ytfnohjheonlnmaagreat", sum := "a956e10efe74320d4f49500000b991ac68f1ba61f8f3515b87eaf2abb072ecf8", func := "winnower/winnowerlaw26.FleetSound", spec := "fleetSound", unfollowed := true, recurses := true, apart := false, narrowed := true }
def FleetSoundUptoSaid : Prop := fleetSoundUptoRow.holds Tryz.pinned (OpenSpec.upto fleetSoundSpec)

end Rows
end Go.Proofs.YtfnohjheonlnmaaGreat
