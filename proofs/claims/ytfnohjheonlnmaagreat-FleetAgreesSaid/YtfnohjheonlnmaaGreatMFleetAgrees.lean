/- The law 'FleetAgrees': whatever comes in, the Go function returns true, and what came in reads as it did. No condition. -/
import Derived.Test.YtfnohjheonlnmaaGreatRows
import Derived.Test.YtfnohjheonlnmaaGreatU12
import Derived.WalkKit
import Derived.ProofKit
import Derived.OpenShut
import Derived.ShutString
import Derived.ChangeOld
import Derived.Below
namespace Go.Proofs.YtfnohjheonlnmaaGreat.fleetAgrees
open Go.ChangeShapes Go.WideShapes Go.ChangeAt Go.RowKit
set_option linter.unusedVariables false
theorem own:ownKnob Tryz.prog.godebug=none:=by kernel_rfl
theorem laidOut:laidOutB Tryz.prog=true:=by kernel_rfl
theorem ag0:Go.eC.ed Tryz.prog 41=some false:=by kernel_rfl
theorem ft0:Go.eC.oU Tryz.prog 12 41=some [.list (.rows [.int .i64,.int .i64,.str,.str])]:=by kernel_rfl
theorem ag1:Go.eC.ed Tryz.prog 5=some false:=by kernel_rfl
theorem ft1:Go.eC.oU Tryz.prog 12 5=some [.int .u8]:=by kernel_rfl
theorem ag2:Go.eC.ed Tryz.prog 42=some false:=by kernel_rfl
theorem ft2:Go.eC.oU Tryz.prog 12 42=some [.rows [.int .i64,.int .i64,.int .i64,.str,.int .i64,.str]]:=by kernel_rfl
theorem walk(x0:Go.eC.A)(x1:Go.eC.A)(x2:Go.eC.A)(f0:Go.eC.fits (.list (.rows [.int .i64,.int .i64,.str,.str])) x0)(f1:Go.eC.fits (.int .u8) x1)(f2:Go.eC.fits (.rows [.int .i64,.int .i64,.int .i64,.str,.int .i64,.str]) x2):Go.eC.bh Tryz.prog 4 [x0,x1,x2] (· = .bool true):=by have ml:=Go.eC.wT;obtain⟨L,rfl,hL,oL⟩:=Ku f0;obtain⟨n,rfl,hn⟩:=fits_u8 f1;obtain⟨l,rfl,hl,ol⟩:=Kt f2;exact xE L n l (by omega) (fun m hm=>⟨by have:=(oL m hm).1;omega,(oL m hm).2⟩) hn (by omega) ol
set_option maxRecDepth 100000 in
theorem lifted(os:Os)(started:os.Started)(H:Type)(enc:TypeId×Value->H):
 ReturnsInHanded {} Tryz.checked os 4 .any (Rows.fleetAgreesSpec.pre6 enc Tryz.prog Tryz.f4 Rows.fleetAgreesRow.domain false) (Rows.fleetAgreesSpec.post enc Tryz.prog Tryz.f4 false true false false):=by
 refine returnsInHanded_of_change (C:=Tryz.checked) own started (by kernel_rfl) Tryz.func4
  (ChangeSpec.witness6 (enc:=enc) (C:=Tryz.checked) false ⟨#[], #[.slice none 0 0,.int .u8 0,.slice none 0 0],[]⟩ 8 (by kernel_rfl) (by kernel_rfl) (by kernel_rfl) (by kernel_rfl)) ?_
 intro W base args ds gs before Rh hW hcnd _;have qM: ∀(j:Nat) t v,Tryz.f4.params[j]? =some t->args[j]? =some v->Value.okWide Tryz.prog W .any base t v:=Rh;have hW':=hW;obtain⟨p,q,hA0,hV,rfl,hfz,uz⟩:=hW;have hA:DataW.TrodAll enc Tryz.prog W 0 (fun _=>true) true Tryz.f4.params.toList args.toList ds p:=hA0;rw[Tryz.params4]at hA qM;obtain⟨v0,vs0,d0,ds0,p0,q0,Fc,rfl,rfl,h0,r0⟩:=trodAll_cons hA;obtain⟨v1,vs1,d1,ds1,p1,q1,rfl,rfl,rfl,h1,r1⟩:=trodAll_cons r0;obtain⟨v2,vs2,d2,ds2,p2,q2,rfl,rfl,rfl,h2,r2⟩:=trodAll_cons r1;obtain⟨rfl,rfl,rfl⟩:=trodAll_nil r2;obtain rfl:args= #[v0,v1,v2]:=by cases args;simp_all
 obtain⟨rfl,rfl⟩:=trodVars_none hV;have lt0: ∀x∈p0,x.block<W.heap.size:=by obtain⟨m,hm⟩:=h0;exact DataW.trod_lt m _ _ _ hm
 obtain⟨a0,rep0,fit0,_⟩:=Go.eC.sB ag0 ft0 (qM 0 41 v0 rfl rfl) h0;have lt1: ∀x∈p1,x.block<W.heap.size:=by obtain⟨m,hm⟩:=h1;exact DataW.trod_lt m _ _ _ hm
 obtain⟨a1,rep1,fit1,_⟩:=Go.eC.sB ag1 ft1 (qM 1 5 v1 rfl rfl) h1;have lt2: ∀x∈p2,x.block<W.heap.size:=by obtain⟨m,hm⟩:=h2;exact DataW.trod_lt m _ _ _ hm
 obtain⟨a2,rep2,fit2,_⟩:=Go.eC.sB ag2 ft2 (qM 2 42 v2 rfl rfl) h2;clear hA0 Rh;have hc:=Go.eC.Jt (walk a0 a1 a2 fit0 fit1 fit2) (W:=W) (vs:=[v0,v1,v2]) (by simp only[Go.eC.cJ];exact⟨_,_,rfl,rep0,_,_,rfl,rep1,_,_,rfl,rep2,rfl⟩)
 refine hc.mono fun e W' ⟨he,bel⟩=> ?_;subst he;exact⟨_,rfl,_,_,_,[],_,[],hW',trodAll_mk1 (shut_bool Tryz.underlying4 _),(trodAll_cons_mk (Below.trod laidOut (by kernel_rfl) (of_decide_eq_true (by kernel_rfl)) h0 bel lt0) (trodAll_cons_mk (Below.trod laidOut (by kernel_rfl) (of_decide_eq_true (by kernel_rfl)) h1 bel lt1) (trodAll_cons_mk (Below.trod laidOut (by kernel_rfl) (of_decide_eq_true (by kernel_rfl)) h2 bel lt2) trodAll_mk0))),rfl,bel.frame _,fun h=>by cases h⟩
theorem j1:(Rows.fleetAgreesRow.inPlace==Tryz.prog.inPlace 4)=true:=by kernel_rfl
theorem j2:(Rows.fleetAgreesRow.unfollowed==Tryz.prog.unfollowed 4)=true:=by kernel_rfl
theorem j3:(Rows.fleetAgreesRow.recurses==Tryz.prog.recurses 4)=true:=by kernel_rfl
theorem j4:(Rows.fleetAgreesRow.named==Tryz.prog.varsNamed 4)=true:=by kernel_rfl
theorem closed:joinedFacts Tryz.prog 4 Tryz.f4 Rows.fleetAgreesSpec Rows.fleetAgreesRow=true:=by unfold joinedFacts;rw[j1,j2,j3,j4];kernel_rfl
set_option maxHeartbeats 8000000 in
theorem over:Rows.fleetAgreesRow.holds Tryz.pinned (OpenSpec.ofChange Rows.fleetAgreesSpec):=
 OpenClaim.holds_of_wide 4 Tryz.f4 rfl rfl rfl rfl rfl rfl rfl ⟨rfl,rfl,rfl,rfl,rfl⟩ rfl rfl rfl rfl rfl (by as_aux_lemma=>kernel_rfl) Tryz.func4 closed
  (of_decide_eq_true (by as_aux_lemma=>kernel_rfl)) (by as_aux_lemma=>unfold Func.isWrapper;first|(rw[if_pos (by decide+kernel)];kernel_rfl)|(rw[if_neg (by decide+kernel)];exact⟨rfl,rfl⟩))
  (fun os started H enc _=>lifted os started H enc)
/-- The statement. -/theorem proved:Rows.FleetAgreesSaid:=over
#print axioms proved
end Go.Proofs.YtfnohjheonlnmaaGreat.fleetAgrees
