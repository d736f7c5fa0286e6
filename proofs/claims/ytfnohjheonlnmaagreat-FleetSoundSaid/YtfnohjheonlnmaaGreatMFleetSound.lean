/- The law 'FleetSound': whatever comes in, the Go function returns true, and what came in reads as it did. No condition. -/
import Derived.Test.YtfnohjheonlnmaaGreatRows
import Derived.Test.YtfnohjheonlnmaaGreatU12
import Derived.WalkKit
import Derived.ProofKit
import Derived.OpenShut
import Derived.ShutString
import Derived.ChangeOld
import Derived.Below
namespace Go.Proofs.YtfnohjheonlnmaaGreat.fleetSound
open Go.ChangeShapes Go.WideShapes Go.ChangeAt Go.RowKit
set_option linter.unusedVariables false
theorem own:ownKnob Tryz.prog.godebug=none:=by kernel_rfl
theorem laidOut:laidOutB Tryz.prog=true:=by kernel_rfl
theorem ag0:Go.eC.ed Tryz.prog 41=some false:=by kernel_rfl
theorem ft0:Go.eC.oU Tryz.prog 12 41=some [.list (.rows [.int .i64,.int .i64,.str,.str])]:=by kernel_rfl
theorem ag1:Go.eC.ed Tryz.prog 42=some false:=by kernel_rfl
theorem ft1:Go.eC.oU Tryz.prog 12 42=some [.rows [.int .i64,.int .i64,.int .i64,.str,.int .i64,.str]]:=by kernel_rfl
theorem walk(x0:Go.eC.A)(x1:Go.eC.A)(f0:Go.eC.fits (.list (.rows [.int .i64,.int .i64,.str,.str])) x0)(f1:Go.eC.fits (.rows [.int .i64,.int .i64,.int .i64,.str,.int .i64,.str]) x1):Go.eC.bh Tryz.prog 12 [x0,x1] (· = .bool true):=by have ml:=Go.eC.wT;obtain⟨L,rfl,hL,oL⟩:=Ku f0;obtain⟨l,rfl,hl,ol⟩:=Kt f1;exact zf L l (by omega) (fun m hm=>⟨by have:=(oL m hm).1;omega,(oL m hm).2⟩) (by omega) ol
set_option maxRecDepth 100000 in
theorem lifted(os:Os)(started:os.Started)(H:Type)(enc:TypeId×Value->H):
 ReturnsInHanded {} Tryz.checked os 12 .any (Rows.fleetSoundSpec.pre6 enc Tryz.prog Tryz.f12 Rows.fleetSoundRow.domain false) (Rows.fleetSoundSpec.post enc Tryz.prog Tryz.f12 false true false false):=by
 refine returnsInHanded_of_change (C:=Tryz.checked) own started (by kernel_rfl) Tryz.func12
  (ChangeSpec.witness6 (enc:=enc) (C:=Tryz.checked) false ⟨#[], #[.slice none 0 0,.slice none 0 0],[]⟩ 8 (by kernel_rfl) (by kernel_rfl) (by kernel_rfl) (by kernel_rfl)) ?_
 intro W base args ds gs before Rh hW hcnd _;have qM: ∀(j:Nat) t v,Tryz.f12.params[j]? =some t->args[j]? =some v->Value.okWide Tryz.prog W .any base t v:=Rh;have hW':=hW;obtain⟨p,q,hA0,hV,rfl,hfz,uz⟩:=hW;have hA:DataW.TrodAll enc Tryz.prog W 0 (fun _=>true) true Tryz.f12.params.toList args.toList ds p:=hA0;rw[Tryz.params12]at hA qM;obtain⟨v0,vs0,d0,ds0,p0,q0,Fc,rfl,rfl,h0,r0⟩:=trodAll_cons hA;obtain⟨v1,vs1,d1,ds1,p1,q1,rfl,rfl,rfl,h1,r1⟩:=trodAll_cons r0;obtain⟨rfl,rfl,rfl⟩:=trodAll_nil r1;obtain rfl:args= #[v0,v1]:=by cases args;simp_all
 obtain⟨rfl,rfl⟩:=trodVars_none hV;have lt0: ∀x∈p0,x.block<W.heap.size:=by obtain⟨m,hm⟩:=h0;exact DataW.trod_lt m _ _ _ hm
 obtain⟨a0,rep0,fit0,_⟩:=Go.eC.sB ag0 ft0 (qM 0 41 v0 rfl rfl) h0;have lt1: ∀x∈p1,x.block<W.heap.size:=by obtain⟨m,hm⟩:=h1;exact DataW.trod_lt m _ _ _ hm
 obtain⟨a1,rep1,fit1,_⟩:=Go.eC.sB ag1 ft1 (qM 1 42 v1 rfl rfl) h1;clear hA0 Rh;have hc:=Go.eC.Jt (walk a0 a1 fit0 fit1) (W:=W) (vs:=[v0,v1]) (by simp only[Go.eC.cJ];exact⟨_,_,rfl,rep0,_,_,rfl,rep1,rfl⟩)
 refine hc.mono fun e W' ⟨he,bel⟩=> ?_;subst he;exact⟨_,rfl,_,_,_,[],_,[],hW',trodAll_mk1 (shut_bool Tryz.underlying4 _),(trodAll_cons_mk (Below.trod laidOut (by kernel_rfl) (of_decide_eq_true (by kernel_rfl)) h0 bel lt0) (trodAll_cons_mk (Below.trod laidOut (by kernel_rfl) (of_decide_eq_true (by kernel_rfl)) h1 bel lt1) trodAll_mk0)),rfl,bel.frame _,fun h=>by cases h⟩
theorem j1:(Rows.fleetSoundRow.inPlace==Tryz.prog.inPlace 12)=true:=by kernel_rfl
theorem j2:(Rows.fleetSoundRow.unfollowed==Tryz.prog.unfollowed 12)=true:=by kernel_rfl
theorem j3:(Rows.fleetSoundRow.recurses==Tryz.prog.recurses 12)=true:=by kernel_rfl
theorem j4:(Rows.fleetSoundRow.named==Tryz.prog.varsNamed 12)=true:=by kernel_rfl
theorem closed:joinedFacts Tryz.prog 12 Tryz.f12 Rows.fleetSoundSpec Rows.fleetSoundRow=true:=by unfold joinedFacts;rw[j1,j2,j3,j4];kernel_rfl
set_option maxHeartbeats 8000000 in
theorem over:Rows.fleetSoundRow.holds Tryz.pinned (OpenSpec.ofChange Rows.fleetSoundSpec):=
 OpenClaim.holds_of_wide 12 Tryz.f12 rfl rfl rfl rfl rfl rfl rfl ⟨rfl,rfl,rfl,rfl,rfl⟩ rfl rfl rfl rfl rfl (by as_aux_lemma=>kernel_rfl) Tryz.func12 closed
  (of_decide_eq_true (by as_aux_lemma=>kernel_rfl)) (by as_aux_lemma=>unfold Func.isWrapper;first|(rw[if_pos (by decide+kernel)];kernel_rfl)|(rw[if_neg (by decide+kernel)];exact⟨rfl,rfl⟩))
  (fun os started H enc _=>lifted os started H enc)
/-- The statement. -/theorem proved:Rows.FleetSoundSaid:=over
#print axioms proved
end Go.Proofs.YtfnohjheonlnmaaGreat.fleetSound
