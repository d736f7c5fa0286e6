/-
  No cell of these rows narrows 'for every input' (looked for: loops, veiled, ifaces, maps, wideKeys, modest, calm, conditions, laid).
  DERIVED. THE GIVEN ROWS OF THIS SEAT. 10 by the template 'for every input the law returns true; each argument reads behind the call as it read before'; 0 by the template 'total and deterministic' (their statements: YtihgnfmoafjakaaGreatTotals.lean).
  GIVEN WITH THE SEED: the statements are not yours to turn. If you find one false, say at which input.
  Laid BY PROGRAM, IN A SANDBOX (cutbox-rows.mjs): the forced cells as the released guide's own fill.sh prints them over the translation bd7b8691a046bc80… (all of the seat's roots in one cut). By AI agents, Wed Nov 11 2026. No macro, syntax, notation, axiom, sorry.
-/
import Derived.Test.YtihgnfmoafjakaaGreatChecked
import GoSem.Claim
import GoSem.ClaimJoined
import GoSem.ClaimMapViews
import Derived.JoinedTies
import Derived.KernelRfl
namespace Go.Proofs.YtihgnfmoafjakaaGreat
/- THE CELL 'sum', in the pinned program and in every row, IS THE sha256 OF THE DUMP (.gsa) THAT YtihgnfmoafjakaaGreatProg.lean LOADS. Nothing in Lean hashes anything: it is a label: what it is worth is what the hold of that sum in a sandbox is worth. -/
noncomputable def Tryz.pinned : Pinned := { name := "ytihgnfmoafjakaagreat", sum := "bd7b8691a046bc804683380b0fa19df149499375b821c8c4a0be12fc2f62eee4", checked := Tryz.checked }
namespace Rows
def none {H : Type} : Left H := { results := [], args := [] }

/-- 'winnowerlaw25.ExchangeTells': WHATEVER THE INPUT: true; the input reads as it did. -/
def exchangeTellsSpec : ChangeSpec := { name := "exchangeTells", fn := fun _ => fun
  | [d1, d2, d3] => { results := [.lit (.bool true)], args := [d1, d2, d3] }
  | _ => none }
def exchangeTellsRow : OpenClaim := { program := "ytihgnfmoafjakaagreat", sum := "bd7b8691a046bc804683380b0fa19df149499375b821c8c4a0be12fc2f62eee4", func := "winnower/winnowerlaw25.ExchangeTells", spec := "exchangeTells", unfollowed := true, recurses := true, apart := false }
def ExchangeTellsSaid : Prop := exchangeTellsRow.holds Tryz.pinned (OpenSpec.ofChange exchangeTellsSpec)

/-- ITS FALSE NEIGHBOUR: 'it returns false'. Refute it at one input. -/
def exchangeTellsWrong : ChangeSpec := { name := "exchangeTells", fn := fun _ => fun
  | [d1, d2, d3] => { results := [.lit (.bool false)], args := [d1, d2, d3] }
  | _ => none }
def ExchangeTellsWrongFalsely : Prop := exchangeTellsRow.holds Tryz.pinned (OpenSpec.ofChange exchangeTellsWrong)

/-- 'winnowerlaw25.ExchangeWins': WHATEVER THE INPUT: true; the input reads as it did. -/
def exchangeWinsSpec : ChangeSpec := { name := "exchangeWins", fn := fun _ => fun
  | [d1, d2, d3] => { results := [.lit (.bool true)], args := [d1, d2, d3] }
  | _ => none }
def exchangeWinsRow : OpenClaim := { program := "ytihgnfmoafjakaagreat", sum := "bd7b8691a046bc804683380b0fa19df149499375b821c8c4a0be12fc2f62eee4", func := "winnower/winnowerlaw25.ExchangeWins", spec := "exchangeWins", unfollowed := true, recurses := true, apart := false }
def ExchangeWinsSaid : Prop := exchangeWinsRow.holds Tryz.pinned (OpenSpec.ofChange exchangeWinsSpec)

/-- ITS FALSE NEIGHBOUR: 'it returns false'. Refute it at one input. -/
def exchangeWinsWrong : ChangeSpec := { name := "exchangeWins", fn := fun _ => fun
  | [d1, d2, d3] => { results := [.lit (.bool false)], args := [d1, d2, d3] }
  | _ => none }
def ExchangeWinsWrongFalsely : Prop := exchangeWinsRow.holds Tryz.pinned (OpenSpec.ofChange exchangeWinsWrong)

/-- 'winnowerlaw25.ExchangeParts': WHATEVER THE INPUT: true; the input reads as it did. -/
def exchangePartsSpec : ChangeSpec := { name := "exchangeParts", fn := fun _ => fun
  | [d1, d2, d3] => { results := [.lit (.bool true)], args := [d1, d2, d3] }
  | _ => none }
def exchangePartsRow : OpenClaim := { program := "ytihgnfmoafjakaagreat", sum := "bd7b8691a046bc804683380b0fa19df149499375b821c8c4a0be12fc2f62eee4", func := "winnower/winnowerlaw25.ExchangeParts", spec := "exchangeParts", unfollowed := true, recurses := true, apart := false }
def ExchangePartsSaid : Prop := exchangePartsRow.holds Tryz.pinned (OpenSpec.ofChange exchangePartsSpec)

/-- ITS FALSE NEIGHBOUR: 'it returns false'. Refute it at one input. -/
def exchangePartsWrong : ChangeSpec := { name := "exchangeParts", fn := fun _ => fun
  | [d1, d2, d3] => { results := [.lit (.bool false)], args := [d1, d2, d3] }
  | _ => none }
def ExchangePartsWrongFalsely : Prop := exchangePartsRow.holds Tryz.pinned (OpenSpec.ofChange exchangePartsWrong)

/-- 'winnowerlaw25.ExchangeBoth': WHATEVER THE INPUT: true; the input reads as it did. -/
def exchangeBothSpec : ChangeSpec := { name := "exchangeBoth", fn := fun _ => fun
  | [d1, d2, d3] => { results := [.lit (.bool true)], args := [d1, d2, d3] }
  | _ => none }
def exchangeBothRow : OpenClaim := { program := "ytihgnfmoafjakaagreat", sum := "bd7b8691a046bc804683380b0fa19df149499375b821c8c4a0be12fc2f62eee4", func := "winnower/winnowerlaw25.ExchangeBoth", spec := "exchangeBoth", unfollowed := true, recurses := true, apart := false }
def ExchangeBothSaid : Prop := exchangeBothRow.holds Tryz.pinned (OpenSpec.ofChange exchangeBothSpec)

/-- ITS FALSE NEIGHBOUR: 'it returns false'. Refute it at one input. -/
def exchangeBothWrong : ChangeSpec := { name := "exchangeBoth", fn := fun _ => fun
  | [d1, d2, d3] => { results := [.lit (.bool false)], args := [d1, d2, d3] }
  | _ => none }
def ExchangeBothWrongFalsely : Prop := exchangeBothRow.holds Tryz.pinned (OpenSpec.ofChange exchangeBothWrong)

/-- 'winnowerlaw42.ModelTells': WHATEVER THE INPUT: true; the input reads as it did. -/
def modelTellsSpec : ChangeSpec := { name := "modelTells", fn := fun _ => fun
  | [d1, d2, d3] => { results := [.lit (.bool true)], args := [d1, d2, d3] }
  | _ => none }
def modelTellsRow : OpenClaim := { program := "ytihgnfmoafjakaagreat", sum := "bd7b8691a046bc804683380b0fa19df149499375b821c8c4a0be12fc2f62eee4", func := "winnower/winnowerlaw42.ModelTells", spec := "modelTells", unfollowed := true, recurses := true, apart := false }
def ModelTellsSaid : Prop := modelTellsRow.holds Tryz.pinned (OpenSpec.ofChange modelTellsSpec)

/-- ITS FALSE NEIGHBOUR: 'it returns false'. Refute it at one input. -/
def modelTellsWrong : ChangeSpec := { name := "modelTells", fn := fun _ => fun
  | [d1, d2, d3] => { results := [.lit (.bool false)], args := [d1, d2, d3] }
  | _ => none }
def ModelTellsWrongFalsely : Prop := modelTellsRow.holds Tryz.pinned (OpenSpec.ofChange modelTellsWrong)

/-- 'winnowerlaw42.ModelLess': WHATEVER THE INPUT: true; the input reads as it did. -/
def modelLessSpec : ChangeSpec := { name := "modelLess", fn := fun _ => fun
  | [d1, d2, d3] => { results := [.lit (.bool true)], args := [d1, d2, d3] }
  | _ => none }
def modelLessRow : OpenClaim := { program := "ytihgnfmoafjakaagreat", sum := "bd7b8691a046bc804683380b0fa19df149499375b821c8c4a0be12fc2f62eee4", func := "winnower/winnowerlaw42.ModelLess", spec := "modelLess", unfollowed := true, recurses := true, apart := false }
def ModelLessSaid : Prop := modelLessRow.holds Tryz.pinned (OpenSpec.ofChange modelLessSpec)

/-- ITS FALSE NEIGHBOUR: 'it returns false'. Refute it at one input. -/
def modelLessWrong : ChangeSpec := { name := "modelLess", fn := fun _ => fun
  | [d1, d2, d3] => { results := [.lit (.bool false)], args := [d1, d2, d3] }
  | _ => none }
def ModelLessWrongFalsely : Prop := modelLessRow.holds Tryz.pinned (OpenSpec.ofChange modelLessWrong)

/-- 'winnowerlaw42.ModelParts': WHATEVER THE INPUT: true; the input reads as it did. -/
def modelPartsSpec : ChangeSpec := { name := "modelParts", fn := fun _ => fun
  | [d1, d2, d3] => { results := [.lit (.bool true)], args := [d1, d2, d3] }
  | _ => none }
def modelPartsRow : OpenClaim := { program := "ytihgnfmoafjakaagreat", sum := "bd7b8691a046bc804683380b0fa19df149499375b821c8c4a0be12fc2f62eee4", func := "winnower/winnowerlaw42.ModelParts", spec := "modelParts", unfollowed := true, recurses := true, apart := false }
def ModelPartsSaid : Prop := modelPartsRow.holds Tryz.pinned (OpenSpec.ofChange modelPartsSpec)

/-- ITS FALSE NEIGHBOUR: 'it returns false'. Refute it at one input. -/
def modelPartsWrong : ChangeSpec := { name := "modelParts", fn := fun _ => fun
  | [d1, d2, d3] => { results := [.lit (.bool false)], args := [d1, d2, d3] }
  | _ => none }
def ModelPartsWrongFalsely : Prop := modelPartsRow.holds Tryz.pinned (OpenSpec.ofChange modelPartsWrong)

/-- 'winnowerlaw23.StateNew': WHATEVER THE INPUT: true; the input reads as it did. -/
def stateNewSpec : ChangeSpec := { name := "stateNew", fn := fun _ => fun
  | [d1, d2, d3] => { results := [.lit (.bool true)], args := [d1, d2, d3] }
  | _ => none }
def stateNewRow : OpenClaim := { program := "ytihgnfmoafjakaagreat", sum := "bd7b8691a046bc804683380b0fa19df149499375b821c8c4a0be12fc2f62eee4", func := "winnower/winnowerlaw23.StateNew", spec := "stateNew", unfollowed := true, recurses := true, apart := false }
def StateNewSaid : Prop := stateNewRow.holds Tryz.pinned (OpenSpec.ofChange stateNewSpec)

/-- ITS FALSE NEIGHBOUR: 'it returns false'. Refute it at one input. -/
def stateNewWrong : ChangeSpec := { name := "stateNew", fn := fun _ => fun
  | [d1, d2, d3] => { results := [.lit (.bool false)], args := [d1, d2, d3] }
  | _ => none }
def StateNewWrongFalsely : Prop := stateNewRow.holds Tryz.pinned (OpenSpec.ofChange stateNewWrong)

/-- 'winnowerlaw23.StateWrites': WHATEVER THE INPUT: true; the input reads as it did. -/
def stateWritesSpec : ChangeSpec := { name := "stateWrites", fn := fun _ => fun
  | [d1, d2] => { results := [.lit (.bool true)], args := [d1, d2] }
  | _ => none }
def stateWritesRow : OpenClaim := { program := "ytihgnfmoafjakaagreat", sum := "bd7b8691a046bc804683380b0fa19df149499375b821c8c4a0be12fc2f62eee4", func := "winnower/winnowerlaw23.StateWrites", spec := "stateWrites", unfollowed := true, recurses := true, apart := false }
def StateWritesSaid : Prop := stateWritesRow.holds Tryz.pinned (OpenSpec.ofChange stateWritesSpec)

/-- ITS FALSE NEIGHBOUR: 'it returns false'. Refute it at one input. -/
def stateWritesWrong : ChangeSpec := { name := "stateWrites", fn := fun _ => fun
  | [d1, d2] => { results := [.lit (.bool false)], args := [d1, d2] }
  | _ => none }
def StateWritesWrongFalsely : Prop := stateWritesRow.holds Tryz.pinned (OpenSpec.ofChange stateWritesWrong)

/-- 'winnowerlaw23.StateTakes': WHATEVER THE INPUT: true; the input reads as it did. -/
def stateTakesSpec : ChangeSpec := { name := "stateTakes", fn := fun _ => fun
  | [d1, d2, d3] => { results := [.lit (.bool true)], args := [d1, d2, d3] }
  | _ => none }
def stateTakesRow : OpenClaim := { program := "ytihgnfmoafjakaagreat", sum := "bd7b8691a046bc804683380b0fa19df149499375b821c8c4a0be12fc2f62eee4", func := "winnower/winnowerlaw23.StateTakes", spec := "stateTakes", unfollowed := true, recurses := true, apart := false }
def StateTakesSaid : Prop := stateTakesRow.holds Tryz.pinned (OpenSpec.ofChange stateTakesSpec)

/-- ITS FALSE NEIGHBOUR: 'it returns false'. Refute it at one input. -/
def stateTakesWrong : ChangeSpec := { name := "stateTakes", fn := fun _ => fun
  | [d1, d2, d3] => { results := [.lit (.bool false)], args := [d1, d2, d3] }
  | _ => none }
def StateTakesWrongFalsely : Prop := stateTakesRow.holds Tryz.pinned (OpenSpec.ofChange stateTakesWrong)

/- THE SECOND FORM. 'bulk': how many values and letters a reading holds, each counted each time it is reached (what is shared counts as often as it is met; a slice's spare places count too). A statement '..UptoSaid' is the law's where the arguments, and the package variables that the reading takes, are together of bulk at most 1048576: NARROWER than '..Said'. Prove '..Said' where nothing that the law and all that it calls make is longer than what came in: it says more and counts as full. Else prove '..UptoSaid'. A law counts once. -/
mutual
def uptoBulk {H : Type} : DataW H → Nat
  | .lit (.string bytes) => bytes.length + 1
  | .lit _ => 1
  | .nil => 1
  | .ptr d => uptoBulk d + 1
  | .slice elems spare => uptoBulkAll elems + uptoBulkAll spare + 1
  | .agg parts => uptoBulkAll parts + 1
  | .iface _ d => uptoBulk d + 1
  | .map entries => uptoBulkEntries entries + 1
  | .held _ => 1
def uptoBulkAll {H : Type} : List (DataW H) → Nat
  | [] => 0
  | d :: r => uptoBulk d + uptoBulkAll r
def uptoBulkEntries {H : Type} : List (Lit × DataW H) → Nat
  | [] => 0
  | x :: r => uptoBulkEntry x + uptoBulkEntries r
def uptoBulkEntry {H : Type} : Lit × DataW H → Nat
  | (.string bytes, d) => bytes.length + uptoBulk d + 1
  | (_, d) => uptoBulk d + 1
 end
def uptoSmall : (H : Type) → List (DataW H) → Bool := fun _ ds => decide (uptoBulkAll ds ≤ 1048576)
def OpenSpec.upto (s : _root_.Go.ChangeSpec) : _root_.Go.OpenSpec := { _root_.Go.OpenSpec.ofChange s with cond := some uptoSmall }

/-- 'winnowerlaw25.ExchangeTells', WHERE WHAT IT READS IS OF BULK AT MOST 1048576: true; the input reads as it did. -/
def exchangeTellsUptoRow : OpenClaim := { program := "ytihgnfmoafjakaagreat", sum := "bd7b8691a046bc804683380b0fa19df149499375b821c8c4a0be12fc2f62eee4", func := "winnower/winnowerlaw25.ExchangeTells", spec := "exchangeTells", unfollowed := true, recurses := true, apart := false, narrowed := true }
def ExchangeTellsUptoSaid : Prop := exchangeTellsUptoRow.holds Tryz.pinned (OpenSpec.upto exchangeTellsSpec)

/-- 'winnowerlaw25.ExchangeWins', WHERE WHAT IT READS IS OF BULK AT MOST 1048576: true; the input reads as it did. -/
def exchangeWinsUptoRow : OpenClaim := { program := "ytihgnfmoafjakaagreat", sum := "bd7b8691a046bc804683380b0fa19df149499375b821c8c4a0be12fc2f62eee4", func := "winnower/winnowerlaw25.ExchangeWins", spec := "exchangeWins", unfollowed := true, recurses := true, apart := false, narrowed := true }
def ExchangeWinsUptoSaid : Prop := exchangeWinsUptoRow.holds Tryz.pinned (OpenSpec.upto exchangeWinsSpec)

/-- 'winnowerlaw25.ExchangeParts', WHERE WHAT IT READS IS OF BULK AT MOST 1048576: true; the input reads as it did. -/
def exchangePartsUptoRow : OpenClaim := { program := "ytihgnfmoafjakaagreat", sum := "bd7b8691a046bc804683380b0fa19df149499375b821c8c4a0be12fc2f62eee4", func := "winnower/winnowerlaw25.ExchangeParts", spec := "exchangeParts", unfollowed := true, recurses := true, apart := false, narrowed := true }
def ExchangePartsUptoSaid : Prop := exchangePartsUptoRow.holds Tryz.pinned (OpenSpec.upto exchangePartsSpec)

/-- 'winnowerlaw25.ExchangeBoth', WHERE WHAT IT READS IS OF BULK AT MOST 1048576: true; the input reads as it did. -/
def exchangeBothUptoRow : OpenClaim := { program := "ytihgnfmoafjakaagreat", sum := "bd7b8691a046bc804683380b0fa19df149499375b821c8c4a0be12fc2f62eee4", func := "winnower/winnowerlaw25.ExchangeBoth", spec := "exchangeBoth", unfollowed := true, recurses := true, apart := false, narrowed := true }
def ExchangeBothUptoSaid : Prop := exchangeBothUptoRow.holds Tryz.pinned (OpenSpec.upto exchangeBothSpec)

/-- 'winnowerlaw42.ModelTells', WHERE WHAT IT READS IS OF BULK AT MOST 1048576: true; the input reads as it did. -/
def modelTellsUptoRow : OpenClaim := { program := "ytihgnfmoafjakaagreat", sum := "bd7b8691a046bc804683380b0fa19df149499375b821c8c4a0be12fc2f62eee4", func := "winnower/winnowerlaw42.ModelTells", spec := "modelTells", unfollowed := true, recurses := true, apart := false, narrowed := true }
def ModelTellsUptoSaid : Prop := modelTellsUptoRow.holds Tryz.pinned (OpenSpec.upto modelTellsSpec)

/-- 'winnowerlaw42.ModelLess', WHERE WHAT IT READS IS OF BULK AT MOST 1048576: true; the input reads as it did. -/
def modelLessUptoRow : OpenClaim := { program := "ytihgnfmoafjakaagreat", sum := "bd7b8691a046bc804683380b0fa19df149499375b821c8c4a0be12fc2f62eee4", func := "winnower/winnowerlaw42.ModelLess", spec := "modelLess", unfollowed := true, recurses := true, apart := false, narrowed := true }
def ModelLessUptoSaid : Prop := modelLessUptoRow.holds Tryz.pinned (OpenSpec.upto modelLessSpec)

/-- 'winnowerlaw42.ModelParts', WHERE WHAT IT READS IS OF BULK AT MOST 1048576: true; the input reads as it did. -/
def modelPartsUptoRow : OpenClaim := { program := "ytihgnfmoafjakaagreat", sum := "bd7b8691a046bc804683380b0fa19df149499375b821c8c4a0be12fc2f62eee4", func := "winnower/winnowerlaw42.ModelParts", spec := "modelParts", unfollowed := true, recurses := true, apart := false, narrowed := true }
def ModelPartsUptoSaid : Prop := modelPartsUptoRow.holds Tryz.pinned (OpenSpec.upto modelPartsSpec)

/-- 'winnowerlaw23.StateNew', WHERE WHAT IT READS IS OF BULK AT MOST 1048576: true; the input reads as it did. -/
def stateNewUptoRow : OpenClaim := { program := "ytihgnfmoafjakaagreat", sum := "bd7b8691a046bc804683380b0fa19df149499375b821c8c4a0be12fc2f62eee4", func := "winnower/winnowerlaw23.StateNew", spec := "stateNew", unfollowed := true, recurses := true, apart := false, narrowed := true }
def StateNewUptoSaid : Prop := stateNewUptoRow.holds Tryz.pinned (OpenSpec.upto stateNewSpec)

/-- 'winnowerlaw23.StateWrites', WHERE WHAT IT READS IS OF BULK AT MOST 1048576: true; the input reads as it did. -/
def stateWritesUptoRow : OpenClaim := { program := "ytihgnfmoafjakaagreat", sum := "bd7b8691a046bc804683380b0fa19df149499375b821c8c4a0be12fc2f62eee4", func := "winnower/winnowerlaw23.StateWrites", spec := "stateWrites", unfollowed := true, recurses := true, apart := false, narrowed := true }
def StateWritesUptoSaid : Prop := stateWritesUptoRow.holds Tryz.pinned (OpenSpec.upto stateWritesSpec)

/-- 'winnowerlaw23.StateTakes', WHERE WHAT IT READS IS OF BULK AT MOST 1048576: true; the input reads as it did. -/
def stateTakesUptoRow : OpenClaim := { program := "ytihgnfmoafjakaagreat", sum := "bd7b8691a046bc804683380b0fa19df149499375b821c8c4a0be12fc2f62eee4", func := "winnower/winnowerlaw23.StateTakes", spec := "stateTakes", unfollowed := true, recurses := true, apart := false, narrowed := true }
def StateTakesUptoSaid : Prop := stateTakesUptoRow.holds Tryz.pinned (OpenSpec.upto stateTakesSpec)

end Rows
end Go.Proofs.YtihgnfmoafjakaaGreat
