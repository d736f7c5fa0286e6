/- Chapter 06: with what all begin. -/
import Derived.Test.YtnmkojglcgaobaaK06B
namespace Go.Proofs.Ytnmkojglcgaobaa
open Go.Abs
set_option linter.unusedSimpArgs false
set_option linter.unusedVariables false
set_option maxRecDepth 20000
set_option maxHeartbeats 4000000

noncomputable def T06j : Tab := T06i
theorem T06j_ok : TabOK Try.prog T06j := T06i_ok
@[go_sem] theorem T06j_old {g : FuncId} {xs : List A} : T06j.f g xs = T06i.f g xs := rfl
@[go_sem] theorem T06j_eff {g : FuncId} : T06j.eff g = T06i.eff g := rfl
@[go_sem] theorem T06j_frz {g : FuncId} : T06j.frz g = T06i.frz g := rfl
@[go_sem] theorem T06j_effT : T06j.effT = T06i.effT := rfl
@[go_sem] theorem T06j_fix : T06j.fix = T06i.fix := rfl
@[go_sem] theorem T06j_nf : T06j.nf = T06i.nf := rfl
@[go_sem] theorem T06j_ords {n : Nat} : T06j.ords n = T06i.ords n := rfl
@[go_sem] theorem T06j_hp : T06j.hp = T06i.hp := rfl
noncomputable def T06k : Tab := T06j
theorem T06k_ok : TabOK Try.prog T06k := T06j_ok
@[go_sem] theorem T06k_old {g : FuncId} {xs : List A} : T06k.f g xs = T06j.f g xs := rfl
@[go_sem] theorem T06k_eff {g : FuncId} : T06k.eff g = T06j.eff g := rfl
@[go_sem] theorem T06k_frz {g : FuncId} : T06k.frz g = T06j.frz g := rfl
@[go_sem] theorem T06k_effT : T06k.effT = T06j.effT := rfl
@[go_sem] theorem T06k_fix : T06k.fix = T06j.fix := rfl
@[go_sem] theorem T06k_nf : T06k.nf = T06j.nf := rfl
@[go_sem] theorem T06k_ords {n : Nat} : T06k.ords n = T06j.ords n := rfl
@[go_sem] theorem T06k_hp : T06k.hp = T06j.hp := rfl
/-- With what all begin. -/
def comB : List (List UInt8) → List UInt8
  | [] => []
  | l0 :: r => l0.take (comP l0 (l0 :: r) l0.length)
noncomputable def T06l : Tab := T06k
theorem T06l_ok : TabOK Try.prog T06l := T06k_ok
@[go_sem] theorem T06l_old {g : FuncId} {xs : List A} : T06l.f g xs = T06k.f g xs := rfl
@[go_sem] theorem T06l_eff {g : FuncId} : T06l.eff g = T06k.eff g := rfl
@[go_sem] theorem T06l_frz {g : FuncId} : T06l.frz g = T06k.frz g := rfl
@[go_sem] theorem T06l_effT : T06l.effT = T06k.effT := rfl
@[go_sem] theorem T06l_fix : T06l.fix = T06k.fix := rfl
@[go_sem] theorem T06l_nf : T06l.nf = T06k.nf := rfl
@[go_sem] theorem T06l_ords {n : Nat} : T06l.ords n = T06k.ords n := rfl
@[go_sem] theorem T06l_hp : T06l.hp = T06k.hp := rfl
end Go.Proofs.Ytnmkojglcgaobaa
