/- The law 'StateWrites': whatever comes in, the Go function returns true, and what came in reads as it did. No condition. -/
import Derived.Test.YtihgnfmoafjakaaGreatRows
import Derived.Test.YtihgnfmoafjakaaGreatU11
import Derived.WalkKit
import Derived.ProofKit
import Derived.OpenShut
import Derived.ShutString
import Derived.ChangeOld
import Derived.Below
namespace Go.Proofs.YtihgnfmoafjakaaGreat.stateWrites
open Go.ChangeShapes Go.WideShapes Go.ChangeAt Go.RowKit
set_option linter.unusedVariables false
theorem own:ownKnob Tryz.prog.godebug=none:=by kernel_rfl
theorem laidOut:laidOutB Tryz.prog=true:=by kernel_rfl
theorem ag0:Go.bJ.bE Tryz.prog 26=some true:=by kernel_rfl
theorem ft0:Go.bJ.iY Tryz.prog 12 26=some [.int .i64,.rows [.str,.str,.bool],.rows [.str,.int .i64,.int .i64,.int .i64,.int .i64,.bool,.str],.rows [.str,.str,.bool,.rows [.int .i64,.rows [.int .i64,.int .i64]]],.int .i64]:=by kernel_rfl
theorem ag1:Go.bJ.bE Tryz.prog 75=some true:=by kernel_rfl
theorem ft1:Go.bJ.iY Tryz.prog 12 75=some [.str,.int .i64,.str,.bool]:=by kernel_rfl
theorem walk(x0:List Go.bJ.A)(x1:List Go.bJ.A)(f0:Go.bJ.cJ [.int .i64,.rows [.str,.str,.bool],.rows [.str,.int .i64,.int .i64,.int .i64,.int .i64,.bool,.str],.rows [.str,.str,.bool,.rows [.int .i64,.rows [.int .i64,.int .i64]]],.int .i64] x0)(f1:Go.bJ.cJ [.str,.int .i64,.str,.bool] x1):Go.bJ.az Tryz.prog 11 [.agg x0,.agg x1] (· = .bool true):=by have ml:=Go.bJ.mF;obtain⟨s,rfl,hs⟩:=Hc f0;obtain⟨pk,pp,pb,pd,rfl,hp,gp⟩:=Y' f1;exact rm s pk pp pb pd hs (by omega) (by omega)
set_option maxRecDepth 100000 in
theorem lifted(os:Os)(started:os.Started)(H:Type)(enc:TypeId×Value->H):
 ReturnsInHanded {} Tryz.checked os 11 .any (Rows.stateWritesSpec.pre6 enc Tryz.prog Tryz.f11 Rows.stateWritesRow.domain false) (Rows.stateWritesSpec.post enc Tryz.prog Tryz.f11 false true false false):=by
 refine returnsInHanded_of_change (C:=Tryz.checked) own started (by kernel_rfl) Tryz.func11
  (ChangeSpec.witness6 (enc:=enc) (C:=Tryz.checked) false ⟨#[], #[.agg #[.int .i64 0,.slice none 0 0,.slice none 0 0,.slice none 0 0,.int .i64 0],.agg #[.string ByteArray.empty,.int .i64 0,.string ByteArray.empty,.bool false]],[]⟩ 8 (by kernel_rfl) (by kernel_rfl) (by kernel_rfl) (by kernel_rfl)) ?_
 intro W base args ds gs before NZ hW hcnd _;have jj: ∀(j:Nat) t v,Tryz.f11.params[j]? =some t->args[j]? =some v->Value.okWide Tryz.prog W .any base t v:=NZ;have hW':=hW;obtain⟨p,q,hA0,hV,rfl,hfz,oQ⟩:=hW;have hA:DataW.TrodAll enc Tryz.prog W 0 (fun _=>true) true Tryz.f11.params.toList args.toList ds p:=hA0;rw[Tryz.params11]at hA jj;obtain⟨v0,vs0,d0,ds0,p0,q0,AD,rfl,rfl,h0,r0⟩:=trodAll_cons hA;obtain⟨v1,vs1,d1,ds1,p1,q1,rfl,rfl,rfl,h1,r1⟩:=trodAll_cons r0;obtain⟨rfl,rfl,rfl⟩:=trodAll_nil r1;obtain rfl:args= #[v0,v1]:=by cases args;simp_all
 obtain⟨rfl,rfl⟩:=trodVars_none hV;have lt0: ∀x∈p0,x.block<W.heap.size:=by obtain⟨m,hm⟩:=h0;exact DataW.trod_lt m _ _ _ hm
 obtain⟨a0,rep0,fit0,_⟩:=Go.bJ.AW ag0 ft0 (jj 0 26 v0 rfl rfl) h0;have lt1: ∀x∈p1,x.block<W.heap.size:=by obtain⟨m,hm⟩:=h1;exact DataW.trod_lt m _ _ _ hm
 obtain⟨a1,rep1,fit1,_⟩:=Go.bJ.AW ag1 ft1 (jj 1 75 v1 rfl rfl) h1;clear hA0 NZ;have hc:=Go.bJ.Gi (walk a0 a1 fit0 fit1) (W:=W) (vs:=[v0,v1]) (by simp only[Go.bJ.aP];exact⟨_,_,rfl,rep0,_,_,rfl,rep1,rfl⟩)
 refine hc.mono fun e W' ⟨he,bel⟩=> ?_;subst he;exact⟨_,rfl,_,_,_,[],_,[],hW',trodAll_mk1 (shut_bool Tryz.underlying4 _),(trodAll_cons_mk (Below.trod laidOut (by kernel_rfl) (of_decide_eq_true (by kernel_rfl)) h0 bel lt0) (trodAll_cons_mk (Below.trod laidOut (by kernel_rfl) (of_decide_eq_true (by kernel_rfl)) h1 bel lt1) trodAll_mk0)),rfl,bel.frame _,fun h=>by cases h⟩
set_option maxHeartbeats 8000000 in
theorem over:Rows.stateWritesRow.holds Tryz.pinned (OpenSpec.ofChange Rows.stateWritesSpec):=
 OpenClaim.holds_of_wide 11 Tryz.f11 rfl rfl rfl rfl rfl rfl rfl ⟨rfl,rfl,rfl,rfl,rfl⟩ rfl rfl rfl rfl rfl (by as_aux_lemma=>kernel_rfl) Tryz.func11 (by as_aux_lemma=>kernel_rfl)
  (of_decide_eq_true (by as_aux_lemma=>kernel_rfl)) (by as_aux_lemma=>unfold Func.isWrapper;first|(rw[if_pos (by decide+kernel)];kernel_rfl)|(rw[if_neg (by decide+kernel)];exact⟨rfl,rfl⟩))
  (fun os started H enc _=>lifted os started H enc)
/-- The statement. -/
theorem proved:Rows.StateWritesSaid:=over
#print axioms proved
end Go.Proofs.YtihgnfmoafjakaaGreat.stateWrites
