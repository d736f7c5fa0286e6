/- The law 'StateTakes': whatever comes in, the Go function returns true, and what came in reads as it did. No condition. -/
import Derived.Test.YtihgnfmoafjakaaGreatRows
import Derived.Test.YtihgnfmoafjakaaGreatU11
import Derived.WalkKit
import Derived.ProofKit
import Derived.OpenShut
import Derived.ShutString
import Derived.ChangeOld
import Derived.Below
namespace Go.Proofs.YtihgnfmoafjakaaGreat.stateTakes
open Go.ChangeShapes Go.WideShapes Go.ChangeAt Go.RowKit
set_option linter.unusedVariables false
theorem own:ownKnob Tryz.prog.godebug=none:=by kernel_rfl
theorem laidOut:laidOutB Tryz.prog=true:=by kernel_rfl
theorem ag0:Go.bJ.bE Tryz.prog 26=some true:=by kernel_rfl
theorem ft0:Go.bJ.iY Tryz.prog 12 26=some [.int .i64,.rows [.str,.str,.bool],.rows [.str,.int .i64,.int .i64,.int .i64,.int .i64,.bool,.str],.rows [.str,.str,.bool,.rows [.int .i64,.rows [.int .i64,.int .i64]]],.int .i64]:=by kernel_rfl
theorem ag1:Go.bJ.bE Tryz.prog 23=some false:=by kernel_rfl
theorem ft1:Go.bJ.iY Tryz.prog 12 23=some [.rows [.str,.int .i64,.int .i64,.int .i64,.int .i64,.bool,.str]]:=by kernel_rfl
theorem ag2:Go.bJ.bE Tryz.prog 24=some false:=by kernel_rfl
theorem ft2:Go.bJ.iY Tryz.prog 12 24=some [.rows [.str,.str,.bool,.rows [.int .i64,.rows [.int .i64,.int .i64]]]]:=by kernel_rfl
theorem walk(x0:List Go.bJ.A)(x1:Go.bJ.A)(x2:Go.bJ.A)(f0:Go.bJ.cJ [.int .i64,.rows [.str,.str,.bool],.rows [.str,.int .i64,.int .i64,.int .i64,.int .i64,.bool,.str],.rows [.str,.str,.bool,.rows [.int .i64,.rows [.int .i64,.int .i64]]],.int .i64] x0)(f1:Go.bJ.fits (.rows [.str,.int .i64,.int .i64,.int .i64,.int .i64,.bool,.str]) x1)(f2:Go.bJ.fits (.rows [.str,.str,.bool,.rows [.int .i64,.rows [.int .i64,.int .i64]]]) x2):Go.bJ.az Tryz.prog 12 [.agg x0,x1,x2] (· = .bool true):=by have ml:=Go.bJ.mF;obtain⟨s,rfl,hs⟩:=Hc f0;obtain⟨l,rfl,hl,ol⟩:=Hb f1;obtain⟨k,rfl,hk,gk⟩:=Nj f2;exact s7 s l k hs ⟨by omega,ol⟩ ⟨by omega,fun p h=>by have:=gk p h;omega⟩
set_option maxRecDepth 100000 in
theorem lifted(os:Os)(started:os.Started)(H:Type)(enc:TypeId×Value->H):
 ReturnsInHanded {} Tryz.checked os 12 .any (Rows.stateTakesSpec.pre6 enc Tryz.prog Tryz.f12 Rows.stateTakesRow.domain false) (Rows.stateTakesSpec.post enc Tryz.prog Tryz.f12 false true false false):=by
 refine returnsInHanded_of_change (C:=Tryz.checked) own started (by kernel_rfl) Tryz.func12
  (ChangeSpec.witness6 (enc:=enc) (C:=Tryz.checked) false ⟨#[], #[.agg #[.int .i64 0,.slice none 0 0,.slice none 0 0,.slice none 0 0,.int .i64 0],.slice none 0 0,.slice none 0 0],[]⟩ 8 (by kernel_rfl) (by kernel_rfl) (by kernel_rfl) (by kernel_rfl)) ?_
 intro W base args ds gs before NZ hW hcnd _;have jj: ∀(j:Nat) t v,Tryz.f12.params[j]? =some t->args[j]? =some v->Value.okWide Tryz.prog W .any base t v:=NZ;have hW':=hW;obtain⟨p,q,hA0,hV,rfl,hfz,oQ⟩:=hW;have hA:DataW.TrodAll enc Tryz.prog W 0 (fun _=>true) true Tryz.f12.params.toList args.toList ds p:=hA0;rw[Tryz.params12]at hA jj;obtain⟨v0,vs0,d0,ds0,p0,q0,AD,rfl,rfl,h0,r0⟩:=trodAll_cons hA;obtain⟨v1,vs1,d1,ds1,p1,q1,rfl,rfl,rfl,h1,r1⟩:=trodAll_cons r0;obtain⟨v2,vs2,d2,ds2,p2,q2,rfl,rfl,rfl,h2,r2⟩:=trodAll_cons r1;obtain⟨rfl,rfl,rfl⟩:=trodAll_nil r2;obtain rfl:args= #[v0,v1,v2]:=by cases args;simp_all
 obtain⟨rfl,rfl⟩:=trodVars_none hV;have lt0: ∀x∈p0,x.block<W.heap.size:=by obtain⟨m,hm⟩:=h0;exact DataW.trod_lt m _ _ _ hm
 obtain⟨a0,rep0,fit0,_⟩:=Go.bJ.AW ag0 ft0 (jj 0 26 v0 rfl rfl) h0;have lt1: ∀x∈p1,x.block<W.heap.size:=by obtain⟨m,hm⟩:=h1;exact DataW.trod_lt m _ _ _ hm
 obtain⟨a1,rep1,fit1,_⟩:=Go.bJ.Gh ag1 ft1 (jj 1 23 v1 rfl rfl) h1;have lt2: ∀x∈p2,x.block<W.heap.size:=by obtain⟨m,hm⟩:=h2;exact DataW.trod_lt m _ _ _ hm
 obtain⟨a2,rep2,fit2,_⟩:=Go.bJ.Gh ag2 ft2 (jj 2 24 v2 rfl rfl) h2;clear hA0 NZ;have hc:=Go.bJ.Gi (walk a0 a1 a2 fit0 fit1 fit2) (W:=W) (vs:=[v0,v1,v2]) (by simp only[Go.bJ.aP];exact⟨_,_,rfl,rep0,_,_,rfl,rep1,_,_,rfl,rep2,rfl⟩)
 refine hc.mono fun e W' ⟨he,bel⟩=> ?_;subst he;exact⟨_,rfl,_,_,_,[],_,[],hW',trodAll_mk1 (shut_bool Tryz.underlying4 _),(trodAll_cons_mk (Below.trod laidOut (by kernel_rfl) (of_decide_eq_true (by kernel_rfl)) h0 bel lt0) (trodAll_cons_mk (Below.trod laidOut (by kernel_rfl) (of_decide_eq_true (by kernel_rfl)) h1 bel lt1) (trodAll_cons_mk (Below.trod laidOut (by kernel_rfl) (of_decide_eq_true (by kernel_rfl)) h2 bel lt2) trodAll_mk0))),rfl,bel.frame _,fun h=>by cases h⟩
set_option maxHeartbeats 8000000 in
theorem over:Rows.stateTakesRow.holds Tryz.pinned (OpenSpec.ofChange Rows.stateTakesSpec):=
 OpenClaim.holds_of_wide 12 Tryz.f12 rfl rfl rfl rfl rfl rfl rfl ⟨rfl,rfl,rfl,rfl,rfl⟩ rfl rfl rfl rfl rfl (by as_aux_lemma=>kernel_rfl) Tryz.func12 (by as_aux_lemma=>kernel_rfl)
  (of_decide_eq_true (by as_aux_lemma=>kernel_rfl)) (by as_aux_lemma=>unfold Func.isWrapper;first|(rw[if_pos (by decide+kernel)];kernel_rfl)|(rw[if_neg (by decide+kernel)];exact⟨rfl,rfl⟩))
  (fun os started H enc _=>lifted os started H enc)
/-- The statement. -/
theorem proved:Rows.StateTakesSaid:=over
#print axioms proved
end Go.Proofs.YtihgnfmoafjakaaGreat.stateTakes
