/-
  No cell of these rows narrows 'for every input' (looked for: loops, veiled, ifaces, maps, wideKeys, modest, calm, conditions, laid).
  DERIVED. THE GIVEN ROWS OF THIS SEAT. 3 by the template 'for every input the law returns true; each argument reads behind the call as it read before'; 0 by the template 'total and deterministic' (their statements: YtjnpfbohnpjckaaTotals.lean).
  GIVEN WITH THE SEED: the statements are not yours to turn. If you find one false, say at which input.
  Laid BY PROGRAM, IN A SANDBOX (cutbox-rows.mjs): the forced cells as the released guide's own fill.sh prints them over the translation 3a9ceae2c1547573… (all of the seat's roots in one cut). By AI agents, Wed Nov 11 2026. No macro, syntax, notation, axiom, sorry.
-/
import Derived.Test.YtjnpfbohnpjckaaChecked
import GoSem.Claim
import GoSem.ClaimJoined
import GoSem.ClaimMapViews
import Derived.JoinedTies
import Derived.KernelRfl
namespace Go.Proofs.Ytjnpfbohnpjckaa
/- THE CELL 'sum', in the pinned program and in every row, IS THE sha256 OF THE DUMP (.gsa) THAT YtjnpfbohnpjckaaProg.lean LOADS. Nothing in Lean hashes anything: it is a label: what it is worth is what the hold of that sum in a sandbox is worth. -/
noncomputable def Try.pinned : Pinned := { name := "ytjnpfbohnpjckaa", sum := "3a9ceae2c1547573f6d1b3636b209b82081dfd0bfb245a09ce7294da16440bac", checked := Try.checked }
namespace Rows
def none {H : Type} : Left H := { results := [], args := [] }

/-- 'winnowerlaw32.DescentAsks': WHATEVER THE INPUT: true; the input reads as it did. -/
def descentAsksSpec : ChangeSpec := { name := "descentAsks", fn := fun _ => fun
  | [d1, d2, d3] => { results := [.lit (.bool true)], args := [d1, d2, d3] }
  | _ => none }
def descentAsksRow : OpenClaim := { program := "ytjnpfbohnpjckaa", sum := "3a9ceae2c1547573f6d1b3636b209b82081dfd0bfb245a09ce7294da16440bac", func := "winnower/winnowerlaw32.DescentAsks", spec := "descentAsks", unfollowed := true, recurses := true, apart := false }
def DescentAsksSaid : Prop := descentAsksRow.holds Try.pinned (OpenSpec.ofChange descentAsksSpec)

/-- ITS FALSE NEIGHBOUR: 'it returns false'. Refute it at one input. -/
def descentAsksWrong : ChangeSpec := { name := "descentAsks", fn := fun _ => fun
  | [d1, d2, d3] => { results := [.lit (.bool false)], args := [d1, d2, d3] }
  | _ => none }
def DescentAsksWrongFalsely : Prop := descentAsksRow.holds Try.pinned (OpenSpec.ofChange descentAsksWrong)

/-- 'winnowerlaw32.DescentFinds': WHATEVER THE INPUT: true; the input reads as it did. -/
def descentFindsSpec : ChangeSpec := { name := "descentFinds", fn := fun _ => fun
  | [d1, d2, d3] => { results := [.lit (.bool true)], args := [d1, d2, d3] }
  | _ => none }
def descentFindsRow : OpenClaim := { program := "ytjnpfbohnpjckaa", sum := "3a9ceae2c1547573f6d1b3636b209b82081dfd0bfb245a09ce7294da16440bac", func := "winnower/winnowerlaw32.DescentFinds", spec := "descentFinds", unfollowed := true, recurses := true, apart := false }
def DescentFindsSaid : Prop := descentFindsRow.holds Try.pinned (OpenSpec.ofChange descentFindsSpec)

/-- ITS FALSE NEIGHBOUR: 'it returns false'. Refute it at one input. -/
def descentFindsWrong : ChangeSpec := { name := "descentFinds", fn := fun _ => fun
  | [d1, d2, d3] => { results := [.lit (.bool false)], args := [d1, d2, d3] }
  | _ => none }
def DescentFindsWrongFalsely : Prop := descentFindsRow.holds Try.pinned (OpenSpec.ofChange descentFindsWrong)

/-- 'winnowerlaw32.DescentSame': WHATEVER THE INPUT: true; the input reads as it did. -/
def descentSameSpec : ChangeSpec := { name := "descentSame", fn := fun _ => fun
  | [d1, d2] => { results := [.lit (.bool true)], args := [d1, d2] }
  | _ => none }
def descentSameRow : OpenClaim := { program := "ytjnpfbohnpjckaa", sum := "3a9ceae2c1547573f6d1b3636b209b82081dfd0bfb245a09ce7294da16440bac", func := "winnower/winnowerlaw32.DescentSame", spec := "descentSame", unfollowed := true, recurses := true, apart := false }
def DescentSameSaid : Prop := descentSameRow.holds Try.pinned (OpenSpec.ofChange descentSameSpec)

/-- ITS FALSE NEIGHBOUR: 'it returns false'. Refute it at one input. -/
def descentSameWrong : ChangeSpec := { name := "descentSame", fn := fun _ => fun
  | [d1, d2] => { results := [.lit (.bool false)], args := [d1, d2] }
  | _ => none }
def DescentSameWrongFalsely : Prop := descentSameRow.holds Try.pinned (OpenSpec.ofChange descentSameWrong)

/- THE SECOND FORM. 'bulk': how many values and letters a reading holds, each counted each time it is reached (what is shared counts as often as it is met; a slice's spare places count too). A statement '..UptoSaid' is the law's where the arguments, and the package variables that the reading takes, are together of bulk at most 1048576: NARROWER than '..Said'. Prove '..Said' where nothing that the law and all that it calls make is longer than what came in: it says more and counts as full. Else prove '..UptoSaid'. A law counts once. -/
mutual
def uptoBulk {H : Type} : DataW H → Nat
  | .lit (.string bytes) => bytes.length + 1
  | .lit _ => 1
  | .nil => 1
  | .ptr d => uptoBulk d + 1
  | .slice elems spare => uptoBulkAll elems + uptoBulkAll spare + 1
  | .agg parts => uptoBulkAll parts + 1
  | .iface _ d => uptoBulk d + 1
  | .map entries => uptoBulkEntries entries + 1
  | .held _ => 1
def uptoBulkAll {H : Type} : List (DataW H) → Nat
  | [] => 0
  | d :: r => uptoBulk d + uptoBulkAll r
def uptoBulkEntries {H : Type} : List (Lit × DataW H) → Nat
  | [] => 0
  | x :: r => uptoBulkEntry x + uptoBulkEntries r
def uptoBulkEntry {H : Type} : Lit × DataW H → Nat
  | (.string bytes, d) => bytes.length + uptoBulk d + 1
  | (_, d) => uptoBulk d + 1
 end
def uptoSmall : (H : Type) → List (DataW H) → Bool := fun _ ds => decide (uptoBulkAll ds ≤ 1048576)
def OpenSpec.upto (s : _root_.Go.ChangeSpec) : _root_.Go.OpenSpec := { _root_.Go.OpenSpec.ofChange s with cond := some uptoSmall }

/-- 'winnowerlaw32.DescentAsks', WHERE WHAT IT READS IS OF BULK AT MOST 1048576: true; the input reads as it did. -/
def descentAsksUptoRow : OpenClaim := { program := "ytjnpfbohnpjckaa", sum := "3a9ceae2c1547573f6d1b3636b209b82081dfd0bfb245a09ce7294da16440bac", func := "winnower/winnowerlaw32.DescentAsks", spec := "descentAsks", unfollowed := true, recurses := true, apart := false, narrowed := true }
def DescentAsksUptoSaid : Prop := descentAsksUptoRow.holds Try.pinned (OpenSpec.upto descentAsksSpec)

/-- 'winnowerlaw32.DescentFinds', WHERE WHAT IT READS IS OF BULK AT MOST 1048576: true; the input reads as it did. -/
def descentFindsUptoRow : OpenClaim := { program := "ytjnpfbohnpjckaa", sum := "3a9ceae2c1547573f6d1b3636b209b82081dfd0bfb245a09ce7294da16440bac", func := "winnower/winnowerlaw32.DescentFinds", spec := "descentFinds", unfollowed := true, recurses := true, apart := false, narrowed := true }
def DescentFindsUptoSaid : Prop := descentFindsUptoRow.holds Try.pinned (OpenSpec.upto descentFindsSpec)

/-- 'winnowerlaw32.DescentSame', WHERE WHAT IT READS IS OF BULK AT MOST 1048576: true; the input reads as it did. -/
def descentSameUptoRow : OpenClaim := { program := "ytjnpfbohnpjckaa", sum := "3a9ceae2c1547573f6d1b3636b209b82081dfd0bfb245a09ce7294da16440bac", func := "winnower/winnowerlaw32.DescentSame", spec := "descentSame", unfollowed := true, recurses := true, apart := false, narrowed := true }
def DescentSameUptoSaid : Prop := descentSameUptoRow.holds Try.pinned (OpenSpec.upto descentSameSpec)

end Rows
end Go.Proofs.Ytjnpfbohnpjckaa
