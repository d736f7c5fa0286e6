/- The law 'StateNew': whatever comes in, the Go function returns true, and what came in reads as it did. No condition. -/
import Derived.Test.YtfnohjheonlnmaaGreatRows
import Derived.Test.YtfnohjheonlnmaaGreatU12
import Derived.WalkKit
import Derived.ProofKit
import Derived.OpenShut
import Derived.ShutString
import Derived.ChangeOld
import Derived.Below
namespace Go.Proofs.YtfnohjheonlnmaaGreat.stateNew
open Go.ChangeShapes Go.WideShapes Go.ChangeAt Go.RowKit
set_option linter.unusedVariables false
theorem own:ownKnob Tryz.prog.godebug=none:=by kernel_rfl
theorem laidOut:laidOutB Tryz.prog=true:=by kernel_rfl
theorem ag0:Go.du.dM Tryz.prog 3=some false:=by kernel_rfl
theorem ft0:Go.du.kD Tryz.prog 12 3=some [.int .i64]:=by kernel_rfl
theorem ag1:Go.du.dM Tryz.prog 45=some false:=by kernel_rfl
theorem ft1:Go.du.kD Tryz.prog 12 45=some [.rows [.int .i64,.int .i64,.str,.str]]:=by kernel_rfl
theorem ag2:Go.du.dM Tryz.prog 78=some true:=by kernel_rfl
theorem ft2:Go.du.kD Tryz.prog 12 78=some [.int .i64,.rows [.str,.str,.bool],.rows [.str,.int .i64,.int .i64,.int .i64,.int .i64,.bool,.str],.rows [.str,.str,.bool,.rows [.int .i64,.rows [.int .i64,.int .i64]]],.int .i64,.int .i64,.rows [.str,.str,.bool],.rows [.str,.int .i64,.int .i64,.int .i64,.int .i64,.bool,.str],.rows [.str,.str,.bool,.rows [.int .i64,.rows [.int .i64,.int .i64]]],.int .i64]:=by kernel_rfl
theorem walk(x0:Go.du.A)(x1:Go.du.A)(x2:List Go.du.A)(f0:Go.du.fits (.int .i64) x0)(f1:Go.du.fits (.rows [.int .i64,.int .i64,.str,.str]) x1)(f2:Go.du.eZ [.int .i64,.rows [.str,.str,.bool],.rows [.str,.int .i64,.int .i64,.int .i64,.int .i64,.bool,.str],.rows [.str,.str,.bool,.rows [.int .i64,.rows [.int .i64,.int .i64]]],.int .i64,.int .i64,.rows [.str,.str,.bool],.rows [.str,.int .i64,.int .i64,.int .i64,.int .i64,.bool,.str],.rows [.str,.str,.bool,.rows [.int .i64,.rows [.int .i64,.int .i64]]],.int .i64] x2):Go.du.bj Tryz.prog 8 [x0,x1,.agg x2] (· = .bool true):=by have ml:=Go.du.l_;obtain⟨n,rfl,hn⟩:=XQ f0;obtain⟨f,rfl,hf,of⟩:=fits_nds f1;obtain⟨la,lb,rfl,hla,TB⟩:=aak f2;exact CA n f la lb ⟨by omega,of⟩ hla TB
set_option maxRecDepth 100000 in
theorem lifted(os:Os)(started:os.Started)(H:Type)(enc:TypeId×Value->H):
 ReturnsInHanded {} Tryz.checked os 8 .any (Rows.stateNewSpec.pre6 enc Tryz.prog Tryz.f8 Rows.stateNewRow.domain false) (Rows.stateNewSpec.post enc Tryz.prog Tryz.f8 false true false false):=by
 refine returnsInHanded_of_change (C:=Tryz.checked) own started (by kernel_rfl) Tryz.func8
  (ChangeSpec.witness6 (enc:=enc) (C:=Tryz.checked) false ⟨#[], #[.int .i64 0,.slice none 0 0,.agg #[.int .i64 0,.slice none 0 0,.slice none 0 0,.slice none 0 0,.int .i64 0,.int .i64 0,.slice none 0 0,.slice none 0 0,.slice none 0 0,.int .i64 0]],[]⟩ 8 (by kernel_rfl) (by kernel_rfl) (by kernel_rfl) (by kernel_rfl)) ?_
 intro W base args ds gs before wz hW hcnd _;have lE: ∀(j:Nat) t v,Tryz.f8.params[j]? =some t->args[j]? =some v->Value.okWide Tryz.prog W .any base t v:=wz;have hW':=hW;obtain⟨p,q,QB,hV,rfl,hfz,uw⟩:=hW;have hA:DataW.TrodAll enc Tryz.prog W 0 (fun _=>true) true Tryz.f8.params.toList args.toList ds p:=QB;rw[Tryz.params8]at hA lE;obtain⟨v0,vs0,d0,ds0,p0,q0,zy,rfl,rfl,h0,r0⟩:=trodAll_cons hA;obtain⟨v1,vs1,d1,ds1,p1,q1,rfl,rfl,rfl,h1,r1⟩:=trodAll_cons r0;obtain⟨v2,vs2,d2,ds2,p2,q2,rfl,rfl,rfl,h2,r2⟩:=trodAll_cons r1;obtain⟨rfl,rfl,rfl⟩:=trodAll_nil r2;obtain rfl:args= #[v0,v1,v2]:=by cases args;simp_all
 obtain⟨rfl,rfl⟩:=trodVars_none hV;have lt0: ∀x∈p0,x.block<W.heap.size:=by obtain⟨m,hm⟩:=h0;exact DataW.trod_lt m _ _ _ hm
 obtain⟨a0,Ut,Uu,_⟩:=Go.du.Bu ag0 ft0 (lE 0 3 v0 rfl rfl) h0;have lt1: ∀x∈p1,x.block<W.heap.size:=by obtain⟨m,hm⟩:=h1;exact DataW.trod_lt m _ _ _ hm
 obtain⟨a1,Uv,Uw,_⟩:=Go.du.Bu ag1 ft1 (lE 1 45 v1 rfl rfl) h1;have lt2: ∀x∈p2,x.block<W.heap.size:=by obtain⟨m,hm⟩:=h2;exact DataW.trod_lt m _ _ _ hm
 obtain⟨a2,Ux,Uy,_⟩:=Go.du.od ag2 ft2 (lE 2 78 v2 rfl rfl) h2;clear QB wz;have hc:=Go.du.wN (walk a0 a1 a2 Uu Uw Uy) (W:=W) (vs:=[v0,v1,v2]) (by simp only[Go.du.cJ];exact⟨_,_,rfl,Ut,_,_,rfl,Uv,_,_,rfl,Ux,rfl⟩)
 refine hc.mono fun e W' ⟨he,Na⟩=> ?_;subst he;exact⟨_,rfl,_,_,_,[],_,[],hW',trodAll_mk1 (shut_bool Tryz.underlying4 _),(trodAll_cons_mk (Below.trod laidOut (by kernel_rfl) (of_decide_eq_true (by kernel_rfl)) h0 Na lt0) (trodAll_cons_mk (Below.trod laidOut (by kernel_rfl) (of_decide_eq_true (by kernel_rfl)) h1 Na lt1) (trodAll_cons_mk (Below.trod laidOut (by kernel_rfl) (of_decide_eq_true (by kernel_rfl)) h2 Na lt2) trodAll_mk0))),rfl,Na.frame _,fun h=>by cases h⟩
theorem j1:(Rows.stateNewRow.inPlace==Tryz.prog.inPlace 8)=true:=by kernel_rfl
theorem j2:(Rows.stateNewRow.unfollowed==Tryz.prog.unfollowed 8)=true:=by kernel_rfl
theorem j3:(Rows.stateNewRow.recurses==Tryz.prog.recurses 8)=true:=by kernel_rfl
theorem j4:(Rows.stateNewRow.named==Tryz.prog.varsNamed 8)=true:=by kernel_rfl
theorem closed:joinedFacts Tryz.prog 8 Tryz.f8 Rows.stateNewSpec Rows.stateNewRow=true:=by unfold joinedFacts;rw[j1,j2,j3,j4];kernel_rfl
set_option maxHeartbeats 8000000 in
theorem Uz:Rows.stateNewRow.holds Tryz.pinned (OpenSpec.ofChange Rows.stateNewSpec):=
 OpenClaim.holds_of_wide 8 Tryz.f8 rfl rfl rfl rfl rfl rfl rfl ⟨rfl,rfl,rfl,rfl,rfl⟩ rfl rfl rfl rfl rfl (by as_aux_lemma=>kernel_rfl) Tryz.func8 closed
  (of_decide_eq_true (by as_aux_lemma=>kernel_rfl)) (by as_aux_lemma=>unfold Func.isWrapper;first|(rw[if_pos (by decide+kernel)];kernel_rfl)|(rw[if_neg (by decide+kernel)];exact⟨rfl,rfl⟩))
  (fun os started H enc _=>lifted os started H enc)
/-- The statement. -/theorem proved:Rows.StateNewSaid:=Uz
#print axioms proved
end Go.Proofs.YtfnohjheonlnmaaGreat.stateNew
