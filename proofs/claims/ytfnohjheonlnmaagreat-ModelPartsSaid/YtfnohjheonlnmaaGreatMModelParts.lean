/- The law 'ModelParts': whatever comes in, the Go function returns true, and what came in reads as it did. No condition. -/
import Derived.Test.YtfnohjheonlnmaaGreatRows
import Derived.Test.YtfnohjheonlnmaaGreatU12
import Derived.WalkKit
import Derived.ProofKit
import Derived.OpenShut
import Derived.ShutString
import Derived.ChangeOld
import Derived.Below
namespace Go.Proofs.YtfnohjheonlnmaaGreat.modelParts
open Go.ChangeShapes Go.WideShapes Go.ChangeAt Go.RowKit
set_option linter.unusedVariables false
theorem own:ownKnob Tryz.prog.godebug=none:=by kernel_rfl
theorem laidOut:laidOutB Tryz.prog=true:=by kernel_rfl
theorem ag0:Go.dF.dS Tryz.prog 29=some true:=by kernel_rfl
theorem ft0:Go.dF.l6 Tryz.prog 12 29=some [.int .i64,.rows [.str,.str,.bool],.rows [.str,.int .i64,.int .i64,.int .i64,.int .i64,.bool,.str],.rows [.str,.str,.bool,.rows [.int .i64,.rows [.int .i64,.int .i64]]],.int .i64]:=by kernel_rfl
theorem ag1:Go.dF.dS Tryz.prog 29=some true:=by kernel_rfl
theorem ft1:Go.dF.l6 Tryz.prog 12 29=some [.int .i64,.rows [.str,.str,.bool],.rows [.str,.int .i64,.int .i64,.int .i64,.int .i64,.bool,.str],.rows [.str,.str,.bool,.rows [.int .i64,.rows [.int .i64,.int .i64]]],.int .i64]:=by kernel_rfl
theorem ag2:Go.dF.dS Tryz.prog 62=some false:=by kernel_rfl
theorem ft2:Go.dF.l6 Tryz.prog 12 62=some [.int .u32]:=by kernel_rfl
theorem walk(x0:List Go.dF.A)(x1:List Go.dF.A)(x2:Go.dF.A)(f0:Go.dF.fD [.int .i64,.rows [.str,.str,.bool],.rows [.str,.int .i64,.int .i64,.int .i64,.int .i64,.bool,.str],.rows [.str,.str,.bool,.rows [.int .i64,.rows [.int .i64,.int .i64]]],.int .i64] x0)(f1:Go.dF.fD [.int .i64,.rows [.str,.str,.bool],.rows [.str,.int .i64,.int .i64,.int .i64,.int .i64,.bool,.str],.rows [.str,.str,.bool,.rows [.int .i64,.rows [.int .i64,.int .i64]]],.int .i64] x1)(f2:Go.dF.fits (.int .u32) x2):Go.dF.bp Tryz.prog 7 [.agg x0,.agg x1,x2] (· = .bool true):=by have ml:=Go.dF.rf;obtain⟨s,rfl,hs⟩:=pO f0;obtain⟨t,rfl,ht⟩:=pO f1;obtain⟨k,rfl,hk⟩:=fits_u32 f2;exact z8 s t k hs ht
set_option maxRecDepth 100000 in
theorem lifted(os:Os)(started:os.Started)(H:Type)(enc:TypeId×Value->H):
 ReturnsInHanded {} Tryz.checked os 7 .any (Rows.modelPartsSpec.pre6 enc Tryz.prog Tryz.f7 Rows.modelPartsRow.domain false) (Rows.modelPartsSpec.post enc Tryz.prog Tryz.f7 false true false false):=by
 refine returnsInHanded_of_change (C:=Tryz.checked) own started (by kernel_rfl) Tryz.func7
  (ChangeSpec.witness6 (enc:=enc) (C:=Tryz.checked) false ⟨#[], #[.agg #[.int .i64 0,.slice none 0 0,.slice none 0 0,.slice none 0 0,.int .i64 0],.agg #[.int .i64 0,.slice none 0 0,.slice none 0 0,.slice none 0 0,.int .i64 0],.int .u32 0],[]⟩ 8 (by kernel_rfl) (by kernel_rfl) (by kernel_rfl) (by kernel_rfl)) ?_
 intro W base args ds gs before Er hW hcnd _;have mO: ∀(j:Nat) t v,Tryz.f7.params[j]? =some t->args[j]? =some v->Value.okWide Tryz.prog W .any base t v:=Er;have hW':=hW;obtain⟨p,q,hA0,hV,rfl,hfz,vp⟩:=hW;have hA:DataW.TrodAll enc Tryz.prog W 0 (fun _=>true) true Tryz.f7.params.toList args.toList ds p:=hA0;rw[Tryz.params7]at hA mO;obtain⟨v0,vs0,d0,ds0,p0,q0,DT,rfl,rfl,h0,r0⟩:=trodAll_cons hA;obtain⟨v1,vs1,d1,ds1,p1,q1,rfl,rfl,rfl,h1,r1⟩:=trodAll_cons r0;obtain⟨v2,vs2,d2,ds2,p2,q2,rfl,rfl,rfl,h2,r2⟩:=trodAll_cons r1;obtain⟨rfl,rfl,rfl⟩:=trodAll_nil r2;obtain rfl:args= #[v0,v1,v2]:=by cases args;simp_all
 obtain⟨rfl,rfl⟩:=trodVars_none hV;have lt0: ∀x∈p0,x.block<W.heap.size:=by obtain⟨m,hm⟩:=h0;exact DataW.trod_lt m _ _ _ hm
 obtain⟨a0,rep0,fit0,_⟩:=Go.dF.pX ag0 ft0 (mO 0 29 v0 rfl rfl) h0;have lt1: ∀x∈p1,x.block<W.heap.size:=by obtain⟨m,hm⟩:=h1;exact DataW.trod_lt m _ _ _ hm
 obtain⟨a1,rep1,fit1,_⟩:=Go.dF.pX ag1 ft1 (mO 1 29 v1 rfl rfl) h1;have lt2: ∀x∈p2,x.block<W.heap.size:=by obtain⟨m,hm⟩:=h2;exact DataW.trod_lt m _ _ _ hm
 obtain⟨a2,rep2,fit2,_⟩:=Go.dF.open_cell ag2 ft2 (mO 2 62 v2 rfl rfl) h2;clear hA0 Er;have hc:=Go.dF.Ce (walk a0 a1 a2 fit0 fit1 fit2) (W:=W) (vs:=[v0,v1,v2]) (by simp only[Go.dF.cH];exact⟨_,_,rfl,rep0,_,_,rfl,rep1,_,_,rfl,rep2,rfl⟩)
 refine hc.mono fun e W' ⟨he,bel⟩=> ?_;subst he;exact⟨_,rfl,_,_,_,[],_,[],hW',trodAll_mk1 (shut_bool Tryz.underlying4 _),(trodAll_cons_mk (Below.trod laidOut (by kernel_rfl) (of_decide_eq_true (by kernel_rfl)) h0 bel lt0) (trodAll_cons_mk (Below.trod laidOut (by kernel_rfl) (of_decide_eq_true (by kernel_rfl)) h1 bel lt1) (trodAll_cons_mk (Below.trod laidOut (by kernel_rfl) (of_decide_eq_true (by kernel_rfl)) h2 bel lt2) trodAll_mk0))),rfl,bel.frame _,fun h=>by cases h⟩
set_option maxHeartbeats 8000000 in
theorem over:Rows.modelPartsRow.holds Tryz.pinned (OpenSpec.ofChange Rows.modelPartsSpec):=
 OpenClaim.holds_of_wide 7 Tryz.f7 rfl rfl rfl rfl rfl rfl rfl ⟨rfl,rfl,rfl,rfl,rfl⟩ rfl rfl rfl rfl rfl (by as_aux_lemma=>kernel_rfl) Tryz.func7 (by as_aux_lemma=>kernel_rfl)
  (of_decide_eq_true (by as_aux_lemma=>kernel_rfl)) (by as_aux_lemma=>unfold Func.isWrapper;first|(rw[if_pos (by decide+kernel)];kernel_rfl)|(rw[if_neg (by decide+kernel)];exact⟨rfl,rfl⟩))
  (fun os started H enc _=>lifted os started H enc)
/-- The statement. -/
theorem proved:Rows.ModelPartsSaid:=over
#print axioms proved
end Go.Proofs.YtfnohjheonlnmaaGreat.modelParts
