/- The law 'FleetRounds': whatever comes in, the Go function returns true, and what came in reads as it did. No condition. -/
import Derived.Test.YtfnohjheonlnmaaGreatRows
import Derived.Test.YtfnohjheonlnmaaGreatU12
import Derived.WalkKit
import Derived.ProofKit
import Derived.OpenShut
import Derived.ShutString
import Derived.ChangeOld
import Derived.Below
namespace Go.Proofs.YtfnohjheonlnmaaGreat.fleetRounds
open Go.ChangeShapes Go.WideShapes Go.ChangeAt Go.RowKit
set_option linter.unusedVariables false
theorem own:ownKnob Tryz.prog.godebug=none:=by kernel_rfl
theorem laidOut:laidOutB Tryz.prog=true:=by kernel_rfl
theorem ag0:Go.ez.d_ Tryz.prog 22=some false:=by kernel_rfl
theorem ft0:Go.ez.oG Tryz.prog 12 22=some [.rows [.int .i64,.rows [.str,.str,.bool],.rows [.str,.int .i64,.int .i64,.int .i64,.int .i64,.bool,.str],.rows [.str,.str,.bool,.rows [.int .i64,.rows [.int .i64,.int .i64]]],.int .i64]]:=by kernel_rfl
theorem ag1:Go.ez.d_ Tryz.prog 3=some false:=by kernel_rfl
theorem ft1:Go.ez.oG Tryz.prog 12 3=some [.int .i64]:=by kernel_rfl
theorem ag2:Go.ez.d_ Tryz.prog 23=some false:=by kernel_rfl
theorem ft2:Go.ez.oG Tryz.prog 12 23=some [.rows [.str,.int .i64,.int .i64,.int .i64,.int .i64,.bool,.str]]:=by kernel_rfl
theorem walk(x0:Go.ez.A)(x1:Go.ez.A)(x2:Go.ez.A)(f0:Go.ez.fits (.rows [.int .i64,.rows [.str,.str,.bool],.rows [.str,.int .i64,.int .i64,.int .i64,.int .i64,.bool,.str],.rows [.str,.str,.bool,.rows [.int .i64,.rows [.int .i64,.int .i64]]],.int .i64]) x0)(f1:Go.ez.fits (.int .i64) x1)(f2:Go.ez.fits (.rows [.str,.int .i64,.int .i64,.int .i64,.int .i64,.bool,.str]) x2):Go.ez.bh Tryz.prog 3 [x0,x1,x2] (· = .bool true):=by have ml:=Go.ez.qg;obtain⟨f,rfl,hf,of⟩:=Wq f0;obtain⟨u,rfl,hu⟩:=XC f1;obtain⟨l,rfl,hl,ol⟩:=Kf f2;exact xj f u l (by omega) of ⟨by omega,ol⟩
set_option maxRecDepth 100000 in
theorem lifted(os:Os)(started:os.Started)(H:Type)(enc:TypeId×Value->H):
 ReturnsInHanded {} Tryz.checked os 3 .any (Rows.fleetRoundsSpec.pre6 enc Tryz.prog Tryz.f3 Rows.fleetRoundsRow.domain false) (Rows.fleetRoundsSpec.post enc Tryz.prog Tryz.f3 false true false false):=by
 refine returnsInHanded_of_change (C:=Tryz.checked) own started (by kernel_rfl) Tryz.func3
  (ChangeSpec.witness6 (enc:=enc) (C:=Tryz.checked) false ⟨#[], #[.slice none 0 0,.int .i64 0,.slice none 0 0],[]⟩ 8 (by kernel_rfl) (by kernel_rfl) (by kernel_rfl) (by kernel_rfl)) ?_
 intro W base args ds gs before QR hW hcnd _;have qC: ∀(j:Nat) t v,Tryz.f3.params[j]? =some t->args[j]? =some v->Value.okWide Tryz.prog W .any base t v:=QR;have hW':=hW;obtain⟨p,q,hA0,hV,rfl,hfz,uR⟩:=hW;have hA:DataW.TrodAll enc Tryz.prog W 0 (fun _=>true) true Tryz.f3.params.toList args.toList ds p:=hA0;rw[Tryz.params3]at hA qC;obtain⟨v0,vs0,d0,ds0,p0,q0,ES,rfl,rfl,h0,r0⟩:=trodAll_cons hA;obtain⟨v1,vs1,d1,ds1,p1,q1,rfl,rfl,rfl,h1,r1⟩:=trodAll_cons r0;obtain⟨v2,vs2,d2,ds2,p2,q2,rfl,rfl,rfl,h2,r2⟩:=trodAll_cons r1;obtain⟨rfl,rfl,rfl⟩:=trodAll_nil r2;obtain rfl:args= #[v0,v1,v2]:=by cases args;simp_all
 obtain⟨rfl,rfl⟩:=trodVars_none hV;have lt0: ∀x∈p0,x.block<W.heap.size:=by obtain⟨m,hm⟩:=h0;exact DataW.trod_lt m _ _ _ hm
 obtain⟨a0,rep0,fit0,_⟩:=Go.ez.sm ag0 ft0 (qC 0 22 v0 rfl rfl) h0;have lt1: ∀x∈p1,x.block<W.heap.size:=by obtain⟨m,hm⟩:=h1;exact DataW.trod_lt m _ _ _ hm
 obtain⟨a1,rep1,fit1,_⟩:=Go.ez.sm ag1 ft1 (qC 1 3 v1 rfl rfl) h1;have lt2: ∀x∈p2,x.block<W.heap.size:=by obtain⟨m,hm⟩:=h2;exact DataW.trod_lt m _ _ _ hm
 obtain⟨a2,rep2,fit2,_⟩:=Go.ez.sm ag2 ft2 (qC 2 23 v2 rfl rfl) h2;clear hA0 QR;have hc:=Go.ez.Je (walk a0 a1 a2 fit0 fit1 fit2) (W:=W) (vs:=[v0,v1,v2]) (by simp only[Go.ez.cL];exact⟨_,_,rfl,rep0,_,_,rfl,rep1,_,_,rfl,rep2,rfl⟩)
 refine hc.mono fun e W' ⟨he,bel⟩=> ?_;subst he;exact⟨_,rfl,_,_,_,[],_,[],hW',trodAll_mk1 (shut_bool Tryz.underlying4 _),(trodAll_cons_mk (Below.trod laidOut (by kernel_rfl) (of_decide_eq_true (by kernel_rfl)) h0 bel lt0) (trodAll_cons_mk (Below.trod laidOut (by kernel_rfl) (of_decide_eq_true (by kernel_rfl)) h1 bel lt1) (trodAll_cons_mk (Below.trod laidOut (by kernel_rfl) (of_decide_eq_true (by kernel_rfl)) h2 bel lt2) trodAll_mk0))),rfl,bel.frame _,fun h=>by cases h⟩
theorem j1:(Rows.fleetRoundsRow.inPlace==Tryz.prog.inPlace 3)=true:=by kernel_rfl
theorem j2:(Rows.fleetRoundsRow.unfollowed==Tryz.prog.unfollowed 3)=true:=by kernel_rfl
theorem j3:(Rows.fleetRoundsRow.recurses==Tryz.prog.recurses 3)=true:=by kernel_rfl
theorem j4:(Rows.fleetRoundsRow.named==Tryz.prog.varsNamed 3)=true:=by kernel_rfl
theorem closed:joinedFacts Tryz.prog 3 Tryz.f3 Rows.fleetRoundsSpec Rows.fleetRoundsRow=true:=by unfold joinedFacts;rw[j1,j2,j3,j4];kernel_rfl
set_option maxHeartbeats 8000000 in
theorem over:Rows.fleetRoundsRow.holds Tryz.pinned (OpenSpec.ofChange Rows.fleetRoundsSpec):=
 OpenClaim.holds_of_wide 3 Tryz.f3 rfl rfl rfl rfl rfl rfl rfl ⟨rfl,rfl,rfl,rfl,rfl⟩ rfl rfl rfl rfl rfl (by as_aux_lemma=>kernel_rfl) Tryz.func3 closed
  (of_decide_eq_true (by as_aux_lemma=>kernel_rfl)) (by as_aux_lemma=>unfold Func.isWrapper;first|(rw[if_pos (by decide+kernel)];kernel_rfl)|(rw[if_neg (by decide+kernel)];exact⟨rfl,rfl⟩))
  (fun os started H enc _=>lifted os started H enc)
/-- The statement. -/theorem proved:Rows.FleetRoundsSaid:=over
#print axioms proved
end Go.Proofs.YtfnohjheonlnmaaGreat.fleetRounds
