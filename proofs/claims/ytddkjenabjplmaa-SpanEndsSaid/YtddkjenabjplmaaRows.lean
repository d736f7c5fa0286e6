/-
  No cell of these rows narrows 'for every input' (looked for: loops, veiled, ifaces, maps, wideKeys, modest, calm, conditions, laid).
  DERIVED. THE GIVEN ROWS OF THIS SEAT. 7 by the template 'for every input the law returns true; each argument reads behind the call as it read before'; 0 by the template 'total and deterministic' (their statements: YtddkjenabjplmaaTotals.lean).
  GIVEN WITH THE SEED: the statements are not yours to turn. If you find one false, say at which input.
  Laid BY PROGRAM, IN A SANDBOX (cutbox-rows.mjs): the forced cells as the released guide's own fill.sh prints them over the translation 2d6698b06a17f89c… (all of the seat's roots in one cut). By AI agents, Wed Nov 11 2026. No macro, syntax, notation, axiom, sorry.
-/
import Derived.Test.YtddkjenabjplmaaChecked
import GoSem.Claim
import GoSem.ClaimJoined
import GoSem.ClaimMapViews
import Derived.JoinedTies
import Derived.KernelRfl
namespace Go.Proofs.Ytddkjenabjplmaa
/- THE CELL 'sum', in the pinned program and in every row, IS THE sha256 OF THE DUMP (.gsa) THAT YtddkjenabjplmaaProg.lean LOADS. Nothing in Lean hashes anything: it is a label: what it is worth is what the hold of that sum in a sandbox is worth. -/
noncomputable def Try.pinned : Pinned := { name := "ytddkjenabjplmaa", sum := "2d6698b06a17f89cc5443163401d0e9115bdd59f5874e99827c2111771b9e492", checked := Try.checked }
namespace Rows
def none {H : Type} : Left H := { results := [], args := [] }

/-- 'winnowerlaw06.KeyNext': WHATEVER THE INPUT: true; the input reads as it did. -/
def keyNextSpec : ChangeSpec := { name := "keyNext", fn := fun _ => fun
  | [d1, d2] => { results := [.lit (.bool true)], args := [d1, d2] }
  | _ => none }
def keyNextRow : OpenClaim := { program := "ytddkjenabjplmaa", sum := "2d6698b06a17f89cc5443163401d0e9115bdd59f5874e99827c2111771b9e492", func := "winnower/winnowerlaw06.KeyNext", spec := "keyNext", apart := false }
def KeyNextSaid : Prop := keyNextRow.holds Try.pinned (OpenSpec.ofChange keyNextSpec)

/-- ITS FALSE NEIGHBOUR: 'it returns false'. Refute it at one input. -/
def keyNextWrong : ChangeSpec := { name := "keyNext", fn := fun _ => fun
  | [d1, d2] => { results := [.lit (.bool false)], args := [d1, d2] }
  | _ => none }
def KeyNextWrongFalsely : Prop := keyNextRow.holds Try.pinned (OpenSpec.ofChange keyNextWrong)

/-- 'winnowerlaw06.KeyTotal': WHATEVER THE INPUT: true; the input reads as it did. -/
def keyTotalSpec : ChangeSpec := { name := "keyTotal", fn := fun _ => fun
  | [d1, d2, d3] => { results := [.lit (.bool true)], args := [d1, d2, d3] }
  | _ => none }
def keyTotalRow : OpenClaim := { program := "ytddkjenabjplmaa", sum := "2d6698b06a17f89cc5443163401d0e9115bdd59f5874e99827c2111771b9e492", func := "winnower/winnowerlaw06.KeyTotal", spec := "keyTotal", apart := false }
def KeyTotalSaid : Prop := keyTotalRow.holds Try.pinned (OpenSpec.ofChange keyTotalSpec)

/-- ITS FALSE NEIGHBOUR: 'it returns false'. Refute it at one input. -/
def keyTotalWrong : ChangeSpec := { name := "keyTotal", fn := fun _ => fun
  | [d1, d2, d3] => { results := [.lit (.bool false)], args := [d1, d2, d3] }
  | _ => none }
def KeyTotalWrongFalsely : Prop := keyTotalRow.holds Try.pinned (OpenSpec.ofChange keyTotalWrong)

/-- 'winnowerlaw06.KeyOrder': WHATEVER THE INPUT: true; the input reads as it did. -/
def keyOrderSpec : ChangeSpec := { name := "keyOrder", fn := fun _ => fun
  | [d1, d2] => { results := [.lit (.bool true)], args := [d1, d2] }
  | _ => none }
def keyOrderRow : OpenClaim := { program := "ytddkjenabjplmaa", sum := "2d6698b06a17f89cc5443163401d0e9115bdd59f5874e99827c2111771b9e492", func := "winnower/winnowerlaw06.KeyOrder", spec := "keyOrder", apart := false }
def KeyOrderSaid : Prop := keyOrderRow.holds Try.pinned (OpenSpec.ofChange keyOrderSpec)

/-- ITS FALSE NEIGHBOUR: 'it returns false'. Refute it at one input. -/
def keyOrderWrong : ChangeSpec := { name := "keyOrder", fn := fun _ => fun
  | [d1, d2] => { results := [.lit (.bool false)], args := [d1, d2] }
  | _ => none }
def KeyOrderWrongFalsely : Prop := keyOrderRow.holds Try.pinned (OpenSpec.ofChange keyOrderWrong)

/-- 'winnowerlaw06.KeyCommon': WHATEVER THE INPUT: true; the input reads as it did. -/
def keyCommonSpec : ChangeSpec := { name := "keyCommon", fn := fun _ => fun
  | [d] => { results := [.lit (.bool true)], args := [d] }
  | _ => none }
def keyCommonRow : OpenClaim := { program := "ytddkjenabjplmaa", sum := "2d6698b06a17f89cc5443163401d0e9115bdd59f5874e99827c2111771b9e492", func := "winnower/winnowerlaw06.KeyCommon", spec := "keyCommon", apart := false }
def KeyCommonSaid : Prop := keyCommonRow.holds Try.pinned (OpenSpec.ofChange keyCommonSpec)

/-- ITS FALSE NEIGHBOUR: 'it returns false'. Refute it at one input. -/
def keyCommonWrong : ChangeSpec := { name := "keyCommon", fn := fun _ => fun
  | [d] => { results := [.lit (.bool false)], args := [d] }
  | _ => none }
def KeyCommonWrongFalsely : Prop := keyCommonRow.holds Try.pinned (OpenSpec.ofChange keyCommonWrong)

/-- 'winnowerlaw07.SpanMeets': WHATEVER THE INPUT: true; the input reads as it did. -/
def spanMeetsSpec : ChangeSpec := { name := "spanMeets", fn := fun _ => fun
  | [d1, d2, d3] => { results := [.lit (.bool true)], args := [d1, d2, d3] }
  | _ => none }
def spanMeetsRow : OpenClaim := { program := "ytddkjenabjplmaa", sum := "2d6698b06a17f89cc5443163401d0e9115bdd59f5874e99827c2111771b9e492", func := "winnower/winnowerlaw07.SpanMeets", spec := "spanMeets", apart := false }
def SpanMeetsSaid : Prop := spanMeetsRow.holds Try.pinned (OpenSpec.ofChange spanMeetsSpec)

/-- ITS FALSE NEIGHBOUR: 'it returns false'. Refute it at one input. -/
def spanMeetsWrong : ChangeSpec := { name := "spanMeets", fn := fun _ => fun
  | [d1, d2, d3] => { results := [.lit (.bool false)], args := [d1, d2, d3] }
  | _ => none }
def SpanMeetsWrongFalsely : Prop := spanMeetsRow.holds Try.pinned (OpenSpec.ofChange spanMeetsWrong)

/-- 'winnowerlaw07.SpanEnds': WHATEVER THE INPUT: true; the input reads as it did. -/
def spanEndsSpec : ChangeSpec := { name := "spanEnds", fn := fun _ => fun
  | [d1, d2] => { results := [.lit (.bool true)], args := [d1, d2] }
  | _ => none }
def spanEndsRow : OpenClaim := { program := "ytddkjenabjplmaa", sum := "2d6698b06a17f89cc5443163401d0e9115bdd59f5874e99827c2111771b9e492", func := "winnower/winnowerlaw07.SpanEnds", spec := "spanEnds", apart := false }
def SpanEndsSaid : Prop := spanEndsRow.holds Try.pinned (OpenSpec.ofChange spanEndsSpec)

/-- ITS FALSE NEIGHBOUR: 'it returns false'. Refute it at one input. -/
def spanEndsWrong : ChangeSpec := { name := "spanEnds", fn := fun _ => fun
  | [d1, d2] => { results := [.lit (.bool false)], args := [d1, d2] }
  | _ => none }
def SpanEndsWrongFalsely : Prop := spanEndsRow.holds Try.pinned (OpenSpec.ofChange spanEndsWrong)

/-- 'winnowerlaw07.SpanHas': WHATEVER THE INPUT: true; the input reads as it did. -/
def spanHasSpec : ChangeSpec := { name := "spanHas", fn := fun _ => fun
  | [d1, d2, d3] => { results := [.lit (.bool true)], args := [d1, d2, d3] }
  | _ => none }
def spanHasRow : OpenClaim := { program := "ytddkjenabjplmaa", sum := "2d6698b06a17f89cc5443163401d0e9115bdd59f5874e99827c2111771b9e492", func := "winnower/winnowerlaw07.SpanHas", spec := "spanHas", apart := false }
def SpanHasSaid : Prop := spanHasRow.holds Try.pinned (OpenSpec.ofChange spanHasSpec)

/-- ITS FALSE NEIGHBOUR: 'it returns false'. Refute it at one input. -/
def spanHasWrong : ChangeSpec := { name := "spanHas", fn := fun _ => fun
  | [d1, d2, d3] => { results := [.lit (.bool false)], args := [d1, d2, d3] }
  | _ => none }
def SpanHasWrongFalsely : Prop := spanHasRow.holds Try.pinned (OpenSpec.ofChange spanHasWrong)

/- THE SECOND FORM. 'bulk': how many values and letters a reading holds, each counted each time it is reached (what is shared counts as often as it is met; a slice's spare places count too). A statement '..UptoSaid' is the law's where the arguments, and the package variables that the reading takes, are together of bulk at most 1048576: NARROWER than '..Said'. Prove '..Said' where nothing that the law and all that it calls make is longer than what came in: it says more and counts as full. Else prove '..UptoSaid'. A law counts once. -/
mutual
def uptoBulk {H : Type} : DataW H → Nat
  | .lit (.string bytes) => bytes.length + 1
  | .lit _ => 1
  | .nil => 1
  | .ptr d => uptoBulk d + 1
  | .slice elems spare => uptoBulkAll elems + uptoBulkAll spare + 1
  | .agg parts => uptoBulkAll parts + 1
  | .iface _ d => uptoBulk d + 1
  | .map entries => uptoBulkEntries entries + 1
  | .held _ => 1
def uptoBulkAll {H : Type} : List (DataW H) → Nat
  | [] => 0
  | d :: r => uptoBulk d + uptoBulkAll r
def uptoBulkEntries {H : Type} : List (Lit × DataW H) → Nat
  | [] => 0
  | x :: r => uptoBulkEntry x + uptoBulkEntries r
def uptoBulkEntry {H : Type} : Lit × DataW H → Nat
  | (.string bytes, d) => bytes.length + uptoBulk d + 1
  | (_, d) => uptoBulk d + 1
 end
def uptoSmall : (H : Type) → List (DataW H) → Bool := fun _ ds => decide (uptoBulkAll ds ≤ 1048576)
def OpenSpec.upto (s : _root_.Go.ChangeSpec) : _root_.Go.OpenSpec := { _root_.Go.OpenSpec.ofChange s with cond := some uptoSmall }

/-- 'winnowerlaw06.KeyNext', WHERE WHAT IT READS IS OF BULK AT MOST 1048576: true; the input reads as it did. -/
def keyNextUptoRow : OpenClaim := { program := "ytddkjenabjplmaa", sum := "2d6698b06a17f89cc5443163401d0e9115bdd59f5874e99827c2111771b9e492", func := "winnower/winnowerlaw06.KeyNext", spec := "keyNext", apart := false, narrowed := true }
def KeyNextUptoSaid : Prop := keyNextUptoRow.holds Try.pinned (OpenSpec.upto keyNextSpec)

/-- 'winnowerlaw06.KeyTotal', WHERE WHAT IT READS IS OF BULK AT MOST 1048576: true; the input reads as it did. -/
def keyTotalUptoRow : OpenClaim := { program := "ytddkjenabjplmaa", sum := "2d6698b06a17f89cc5443163401d0e9115bdd59f5874e99827c2111771b9e492", func := "winnower/winnowerlaw06.KeyTotal", spec := "keyTotal", apart := false, narrowed := true }
def KeyTotalUptoSaid : Prop := keyTotalUptoRow.holds Try.pinned (OpenSpec.upto keyTotalSpec)

/-- 'winnowerlaw06.KeyOrder', WHERE WHAT IT READS IS OF BULK AT MOST 1048576: true; the input reads as it did. -/
def keyOrderUptoRow : OpenClaim := { program := "ytddkjenabjplmaa", sum := "2d6698b06a17f89cc5443163401d0e9115bdd59f5874e99827c2111771b9e492", func := "winnower/winnowerlaw06.KeyOrder", spec := "keyOrder", apart := false, narrowed := true }
def KeyOrderUptoSaid : Prop := keyOrderUptoRow.holds Try.pinned (OpenSpec.upto keyOrderSpec)

/-- 'winnowerlaw06.KeyCommon', WHERE WHAT IT READS IS OF BULK AT MOST 1048576: true; the input reads as it did. -/
def keyCommonUptoRow : OpenClaim := { program := "ytddkjenabjplmaa", sum := "2d6698b06a17f89cc5443163401d0e9115bdd59f5874e99827c2111771b9e492", func := "winnower/winnowerlaw06.KeyCommon", spec := "keyCommon", apart := false, narrowed := true }
def KeyCommonUptoSaid : Prop := keyCommonUptoRow.holds Try.pinned (OpenSpec.upto keyCommonSpec)

/-- 'winnowerlaw07.SpanMeets', WHERE WHAT IT READS IS OF BULK AT MOST 1048576: true; the input reads as it did. -/
def spanMeetsUptoRow : OpenClaim := { program := "ytddkjenabjplmaa", sum := "2d6698b06a17f89cc5443163401d0e9115bdd59f5874e99827c2111771b9e492", func := "winnower/winnowerlaw07.SpanMeets", spec := "spanMeets", apart := false, narrowed := true }
def SpanMeetsUptoSaid : Prop := spanMeetsUptoRow.holds Try.pinned (OpenSpec.upto spanMeetsSpec)

/-- 'winnowerlaw07.SpanEnds', WHERE WHAT IT READS IS OF BULK AT MOST 1048576: true; the input reads as it did. -/
def spanEndsUptoRow : OpenClaim := { program := "ytddkjenabjplmaa", sum := "2d6698b06a17f89cc5443163401d0e9115bdd59f5874e99827c2111771b9e492", func := "winnower/winnowerlaw07.SpanEnds", spec := "spanEnds", apart := false, narrowed := true }
def SpanEndsUptoSaid : Prop := spanEndsUptoRow.holds Try.pinned (OpenSpec.upto spanEndsSpec)

/-- 'winnowerlaw07.SpanHas', WHERE WHAT IT READS IS OF BULK AT MOST 1048576: true; the input reads as it did. -/
def spanHasUptoRow : OpenClaim := { program := "ytddkjenabjplmaa", sum := "2d6698b06a17f89cc5443163401d0e9115bdd59f5874e99827c2111771b9e492", func := "winnower/winnowerlaw07.SpanHas", spec := "spanHas", apart := false, narrowed := true }
def SpanHasUptoSaid : Prop := spanHasUptoRow.holds Try.pinned (OpenSpec.upto spanHasSpec)

end Rows
end Go.Proofs.Ytddkjenabjplmaa
