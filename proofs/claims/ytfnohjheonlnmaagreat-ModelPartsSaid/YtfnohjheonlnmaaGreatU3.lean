/- What the laws of this claim rest on: the abstract executor, its soundness, and what the functions compute on pure data. No condition. -/
import Derived.Test.YtfnohjheonlnmaaGreatU2
noncomputable section
set_option linter.unusedVariables false
set_option linter.unusedSimpArgs false
namespace Go.dF
open Go.RowKit
def oI(P:Program)(f:FuncId):Prop:= ∃fn,P.funcs[f]? =some fn/\fn.body.isNone=false/\(fn.name== "runtime.NumGoroutine")=false
def bp(P:Program)(f:FuncId)(args:List A)(vo:A->Prop):Prop:=
 ∀(N:Nat->Prop) (w:World) (vs:List Value),(∀b,N b->b<w.heap.size)->cH ⟨N,[],w⟩ args vs->
  Calls P f vs.toArray w fun e w'=> ∃v r,e= .returned v/\vo r/\bU ⟨N,[],w'⟩ r v/\jT w w'
structure uw(N:Nat->Prop)(φ:List ia)(H:List Obj)(w:World):Prop where
 len:φ.length=H.length
 gp: ∀(n:Nat) (o:Obj) (p:ia),ff H n=some o->φ[n]? =some p->cb (bB N φ w) o p
 own: ∀n b k:Nat,φ[n]? =some (ia.loc b k)->b<w.heap.size/\ ¬N b
 inj: ∀n m b k k':Nat,φ[n]? =some (ia.loc b k)->φ[m]? =some (ia.loc b k')->n=m
structure Sv(φ:List ia)(w:World)(S:List Nat)(j4:List ia)(w':World):Prop where
 os:w'.os=w.os
 tape:w'.tape=w.tape
 output:w'.output=w.output
 drawn:w.drawn<=w'.drawn
 size:w.heap.size<=w'.heap.size
 block: ∀b,b<w.heap.size->(∀n k:Nat,φ[n]? ≠some (ia.loc b k))->w'.heap[b]? =w.heap[b]?
 shape: ∀(b:Nat) (c:Array Value) (e:TypeId) (fr:Nat×Nat),w.heap[b]? =some (.cells c e fr)-> ∃c' VR,w'.heap[b]? =some (.cells c' e VR)/\c'.size=c.size
 own: ∀n b k:Nat,j4[n]? =some (ia.loc b k)->w.heap.size<=b\/ ∃m k':Nat,φ[m]? =some (ia.loc b k')
 stay: ∀(n:Nat) (p:ia),n∉S->φ[n]? =some p->j4[n]? =some p
def jb(P:Program)(f:FuncId)(args:List A)(H:List Obj)(r:A)(H':List Obj)(S:List Nat):Prop:=
 ∀(N:Nat->Prop) (φ:List ia) (w:World) (vs:List Value),(∀b,N b->b<w.heap.size)->uw N φ H w->(∀n:Nat,φ[n]? ≠some ia.free)->cH (bB N φ w) args vs->
  Calls P f vs.toArray w fun e w'=> ∃v j4,e= .returned v/\bU (bB N j4 w') r v/\uw N j4 H' w'/\Sv φ w S j4 w'/\H.length<=H'.length
structure aN(P:Program)(Γ:aW):Prop where
 f: ∀f args r,Γ.f f args=some r->oI P f/\bp P f args (· =r)
 hp: ∀f args H r H' S,Γ.hp f args H=some (r,H',S)->oI P f/\jb P f args H r H' S
theorem qG{P:Program}{f:FuncId}(h:oI P f)(args:Array Value)(w:World):(callFunc f args).run P w= .ok (.enter f args) w:=by
 obtain⟨fn,h1,h2,h3⟩:=h;have tE:fn.body≠none:=fun e=>by rw[e]at h2;simp at h2
 have h3':fn.name≠ "runtime.NumGoroutine" :=by simpa using h3
 simp[callFunc,h1,tE,h3']
mutual
theorem Sw{E E':Env}: ∀(x:A) (v:Value),x.flat=true->bU E x v->bU E' x v
 | .any,_,h,_=>by simp[A.flat]at h
 | .int _ _,v,_,hr=>by simpa only[bU]using hr
 | .bool _,v,_,hr=>by simpa only[bU]using hr
 | .str _,v,_,hr=>by simpa only[bU]using hr
 | .d_,v,_,hr=>by simpa only[bU]using hr
 | .Ab,v,_,hr=>by simpa only[bU]using hr
 | .emp _,v,_,hr=>by simpa only[bU]using hr
 | .agg cs,v,h,hr=>by simp only[bU]at hr⊢;obtain⟨vs,hv,hl,h1⟩:=hr;exact⟨vs,hv,B9 cs vs (by simpa only[A.flat]using h) hl,h1⟩
 | .fq cs,v,h,hr=>by simp only[bU]at hr⊢;obtain⟨vs,hv,hl⟩:=hr;exact⟨vs,hv,B9 cs vs (by simpa only[A.flat]using h) hl⟩
 | .ay _,_,h,_=>by simp[A.flat]at h
 | .clip _,_,h,_=>by simp[A.flat]at h
 | .iU _,_,h,_=>by simp[A.flat]at h
 | .ref _ _,_,h,_=>by simp[A.flat]at h
 | .mu _ _ _,_,h,_=>by simp[A.flat]at h
 | .row _ _ _ _ _,_,h,_=>by simp[A.flat]at h
 | .fn _ _,_,h,_=>by simp[A.flat]at h
theorem B9{E E':Env}: ∀(cs:List A) (vs:List Value),A.flat.RY cs=true->cH E cs vs->cH E' cs vs
 | [],_,_,hr=>by simpa only[cH]using hr
 |c::cs,vs,h,hr=>by simp only[A.flat.RY,ak]at h;simp only[cH]at hr⊢;obtain⟨v,qC,hv,hc,hl⟩:=hr;exact⟨v,qC,hv,Sw c v h.1 hc,B9 cs qC h.2 hl⟩
end
section
variable{P:Program}{Γ:aW}{N0:Nat->Prop}{w0:pU}{nt:Nat}{σ:St}{φ:List ia}{a:Act}{w:World}
def GoodC(P:Program)(o:Oper)(a:Act)(w:World)(N0:Nat->Prop)(w0:pU)(nt:Nat)(φ:List ia)(n:Nat)(jO:St):Prop:=
 va P o a w N0 w0 nt φ n jO\/ ∃f args,(Go.execOp a.eval o).run P w= .ok (.enter f args) w/\
  Calls P f args w fun e w'=> ∃v j4,e= .returned v/\cn N0 w0 nt jO j4 (a.put o.dst v) w'/\ ∀m,m≠n->φ[m]? =some .free->j4[m]? =some .free
theorem OJ(h:cn N0 w0 nt σ φ a w): ∀xs:List Operand,cH (bB N0 φ w) (σ.se xs) (xs.map a.eval)
 | []=>by simp[St.se,cH]
 |x::xs=>by
  simp only[St.se,aS,cH]
  exact⟨_,_,rfl,h.ev x,OJ h xs⟩
theorem V8(yU:aN P Γ)(h:cn N0 w0 nt σ φ a w){d:Option Tmp}{f:Operand}{xs:List Operand}{us:Array TypeId}{t:TypeId}{p:String}{af:Array Edge}{g:Option (Nat×Bool)}(hd: ∀t,d=some t->t<nt){n:Nat}{jO:St}
 (hr:GF Γ σ d (σ.ev f) (σ.se xs)=some jO):GoodC P ⟨d,.call ⟨.value f,⟨xs⟩,us⟩,t,p,af,g⟩ a w N0 w0 nt φ n jO:=by
 have hf:=h.ev f;cases hc:σ.ev f<;>simp only[hc,GF]at hr<;>try(simp at hr;done)
 rename_i q o7;rw[hc]at hf;simp only[bU]at hf;obtain⟨cvs,hfv,hcr⟩:=hf;have DT:=nT (OJ h xs) hcr;unfold R4 at hr;cases hv:mX σ.H (σ.se xs++o7)with
 |none=>simp[hv]at hr
 |some bs=>
  simp only[hv,aY]at hr;cases hg:Γ.f q bs with
  |none=>simp[hg]at hr
  |some r=>
   simp only[hg,aY]at hr;split at hr
   · rename_i hpf
     obtain rfl:=an hr;obtain⟨vR,hA⟩:=yU.f q bs r hg
     have bo: ∀b,(bB N0 φ w).N b->b<w.heap.size:=by
      rintro b (h0|⟨m,k,hm⟩)
      · exact cG (h.n0 b h0).1 h.below.size
      · exact(h.own m b k hm).2
     right;refine⟨q,(xs.map a.eval++cvs).toArray, ?_, ?_⟩
     · have:(Go.execOp a.eval ⟨d,.call ⟨.value f,⟨xs⟩,us⟩,t,p,af,g⟩).run P w=(callFunc q (xs.map a.eval++cvs).toArray).run P w:=by
        simp only[Go.execOp,resolve,hfv,Deferred.ofValue,Sem.run_bind,Sem.run_pure,Result.andThen_ok,invoke]
        congr 2
        apply np;simp
       rw[this]
       exact qG vR _ w
     · by_cases hp:A.pure.cX (σ.se xs++o7)=true
       · obtain⟨yw,_⟩:=DH h hv DT (N':=(bB N0 φ w).N) (fun _ hb=>hb) (.inl hp)
         refine Calls.mono (hA (bB N0 φ w).N w _ bo yw) ?_;rintro e w' ⟨v,r',rfl,rfl,fY,hbel⟩
         have g:=hbel;refine⟨v,φ,rfl,(h.grew g).put hd ?_,fun _ _ h=>h⟩
         refine bU.mono (K:=fun _=>True) (E:=⟨(bB N0 φ w).N,[],w'⟩) ?_ _ _ fY (fun _ _=>trivial)
         exact{
          size:=ai _
          RX:=fun b _ hn=>⟨hn,rfl⟩
          refs:=fun m o _ hm=>by simp at hm
          own:=fun m b k c e fr _ hm=>by simp at hm}
       · have Ao:r.flat=true:=by simpa[hp]using hpf
         obtain⟨yw,_⟩:=DH h hv DT (N':=N0) (fun _ hb=> .inl hb) (.inr (uo h))
         refine Calls.mono (hA N0 w _ (fun b hb=>bo b (.inl hb)) yw) ?_;rintro e w' ⟨v,r',rfl,rfl,fY,hbel⟩
         have g:=hbel;exact⟨v,φ,rfl,(h.grew g).put hd (Sw _ _ Ao fY),fun _ _ h=>h⟩
   · simp at hr
end
end Go.dF
namespace Go.dF
open Go.RowKit
def pC(N0:Nat->Prop)(φ:List ia)(ρ:List Nat)(b:Nat):Prop:=N0 b\/ ∃n k:Nat,φ[n]? =some (ia.loc b k)/\n∉ρ
def lH(φ:List ia)(ρ:List Nat):List ia:=ρ.map fun n=>φ.getD n .free
theorem q_{φ:List ia}{ρ:List Nat}(bo: ∀n∈ρ,n<φ.length){i n:Nat}(h:ρ[i]? =some n):(lH φ ρ)[i]? =φ[n]? :=by
 have hn:=bo n (cu h)
 simp[lH,aT,h,hn]
theorem jB{φ:List ia}{ρ:List Nat}(bo: ∀n∈ρ,n<φ.length){i:Nat}{p:ia}(h:(lH φ ρ)[i]? =some p): ∃n,ρ[i]? =some n/\n∈ρ/\φ[n]? =some p:=by
 cases hi:ρ[i]? with
 |none=>simp[lH,aT,hi]at h
 |some n=>exact⟨n,rfl,cu hi,by rw[<-q_ bo hi];exact h⟩
theorem Gc: ∀{ρ:List Nat} {n i:Nat},idx ρ n=some i->ρ[i]? =some n
 | [],_,_,h=>by simp[idx]at h
 |m::ms,n,i,h=>by
  simp only[idx]at h;split at h
  · rename_i e;subst e;obtain rfl:=an h;rfl
  · cases hm:idx ms n with
    |none=>simp[hm]at h
    |some j=>
     simp[hm]at h;subst h;simpa using Gc hm
theorem Ha: ∀{ρ:List Nat} {m i n:Nat},ρ[i]? =some n->mw ρ m i=n
 | [],_,_,_,h=>by simp at h
 |k::ks,m,0,n,h=>by simpa[mw]using h
 |k::ks,m,i+1,n,h=>by simp only[mw];exact Ha (by simpa using h)
theorem Hb: ∀{ρ:List Nat} {m i:Nat},mw ρ m (ρ.length+i)=m+i
 | [],m,i=>by simp[mw]
 |k::ks,m,i=>by
  rw[show(k::ks).length+i=(ks.length+i)+1 by simp;omega]
  simp only[mw];exact Hb
section
variable{N0:Nat->Prop}{φ:List ia}{ρ:List Nat}{w:World}
theorem Ap(bo: ∀n∈ρ,n<φ.length)(b:Nat):(bB (pC N0 φ ρ) (lH φ ρ) w).N b ↔ (bB N0 φ w).N b:=by
 constructor
 · rintro((h0|⟨n,k,hn,_⟩)|⟨i,k,hi⟩)
   · exact .inl h0
   · exact .inr ⟨n,k,hn⟩
   · obtain⟨n,_,_,hn⟩:=jB bo hi
     exact .inr ⟨n,k,hn⟩
 · rintro(h0|⟨n,k,hn⟩)
   · exact .inl (.inl h0)
   · by_cases yR:n∈ρ
     · obtain⟨i,hi⟩:=bO yR
       exact .inr ⟨i,k,by rw[q_ bo hi];exact hn⟩
     · exact .inl (.inr ⟨n,k,hn,yR⟩)
mutual
theorem OK(bo: ∀n∈ρ,n<φ.length): ∀(x:A) (v:Value) (x':A),bU (bB N0 φ w) x v->x.oA ρ=some x'->bU (bB (pC N0 φ ρ) (lH φ ρ) w) x' v
 | .any,v,x',h,hx=>by simp only[A.oA,bf]at hx;subst hx;simp only[bU]
 | .int _ _,v,x',h,hx=>by simp only[A.oA,bf]at hx;subst hx;simpa only[bU]using h
 | .bool _,v,x',h,hx=>by simp only[A.oA,bf]at hx;subst hx;simpa only[bU]using h
 | .str _,v,x',h,hx=>by simp only[A.oA,bf]at hx;subst hx;simpa only[bU]using h
 | .d_,v,x',h,hx=>by simp only[A.oA,bf]at hx;subst hx;simpa only[bU]using h
 | .Ab,v,x',h,hx=>by simp only[A.oA,bf]at hx;subst hx;simpa only[bU]using h
 | .emp _,v,x',h,hx=>by simp only[A.oA,bf]at hx;subst hx;simpa only[bU]using h
 | .ay es,v,x',h,hx=>by simp only[A.oA,bf]at hx;subst hx;exact bU.pure_mono (E:=bB N0 φ w) (E':=bB (pC N0 φ ρ) (lH φ ρ) w) rfl (fun b hb h'=>hb ((Ap bo b).1 h')) (by simp[A.pure]) h
 | .clip es,v,x',h,hx=>by simp only[A.oA,bf]at hx;subst hx;exact bU.pure_mono (E:=bB N0 φ w) (E':=bB (pC N0 φ ρ) (lH φ ρ) w) rfl (fun b hb h'=>hb ((Ap bo b).1 h')) (by simp[A.pure]) h
 | .iU es,v,x',h,hx=>by simp only[A.oA,bf]at hx;subst hx;exact bU.pure_mono (E:=bB N0 φ w) (E':=bB (pC N0 φ ρ) (lH φ ρ) w) rfl (fun b hb h'=>hb ((Ap bo b).1 h')) (by simp[A.pure]) h
 | .agg cs,v,x',h,hx=>by simp only[A.oA]at hx;obtain⟨Sx,h1,rfl⟩:=aM.1 hx;simp only[bU]at h⊢;obtain⟨vs,hv,hl,ho⟩:=h;exact⟨vs,hv,vS bo cs vs Sx hl h1,ho⟩
 | .fn f cs,v,x',h,hx=>by simp only[A.oA]at hx;obtain⟨Sx,h1,rfl⟩:=aM.1 hx;simp only[bU]at h⊢;obtain⟨vs,hv,hl⟩:=h;exact⟨vs,hv,vS bo cs vs Sx hl h1⟩
 | .fq cs,v,x',h,hx=>by simp only[A.oA]at hx;obtain⟨Sx,h1,rfl⟩:=aM.1 hx;simp only[bU]at h⊢;obtain⟨vs,hv,hl⟩:=h;exact⟨vs,hv,vS bo cs vs Sx hl h1⟩
 | .ref n o,v,x',h,hx=>by simp only[A.oA]at hx;obtain⟨i,h1,rfl⟩:=aM.1 hx;simp only[bU]at h⊢;obtain⟨b,k,hb,hv⟩:=h;exact⟨b,k,by show(lH φ ρ)[i]? =_;rw[q_ bo (Gc h1)];exact hb,hv⟩
 | .mu n j o,v,x',h,hx=>by simp only[A.oA]at hx;obtain⟨i,h1,rfl⟩:=aM.1 hx;simp only[bU]at h⊢;obtain⟨b,k,hb,hv⟩:=h;exact⟨b,k,by show(lH φ ρ)[i]? =_;rw[q_ bo (Gc h1)];exact hb,hv⟩
 | .row n o k l c,v,x',h,hx=>by
  simp only[A.oA]at hx;obtain⟨i,h1,rfl⟩:=aM.1 hx;simp only[bU]at h⊢;have e:(lH φ ρ)[i]? =φ[n]? :=q_ bo (Gc h1)
  rcases h with⟨p,hp,r⟩|⟨b,cap,c',e',fr,hp,r⟩
  · exact .inl ⟨p,by show(lH φ ρ)[i]? =_;rw[e];exact hp,r⟩
  · exact .inr ⟨b,cap,c',e',fr,by show(lH φ ρ)[i]? =_;rw[e];exact hp,r⟩
theorem vS(bo: ∀n∈ρ,n<φ.length): ∀(cs:List A) (vs:List Value) (Sx:List A),cH (bB N0 φ w) cs vs->A.oA.vm ρ cs=some Sx->cH (bB (pC N0 φ ρ) (lH φ ρ) w) Sx vs
 | [],vs,Sx,h,hx=>by simp only[A.oA.vm,bf]at hx;subst hx;simpa only[cH]using h
 |c::cs,vs,Sx,h,hx=>by simp only[A.oA.vm]at hx;obtain⟨c',h1,hx⟩:=bL.1 hx;obtain⟨ds,h2,rfl⟩:=aM.1 hx;simp only[cH]at h⊢;obtain⟨v,qC,hv,hc,hl⟩:=h;exact⟨v,qC,hv,OK bo c v c' hc h1,vS bo cs qC ds hl h2⟩
end
theorem Sy: ∀{cs ds:List A},A.oA.vm ρ cs=some ds->cs.length=ds.length/\ ∀(i:Nat) (c d:A),cs[i]? =some c->ds[i]? =some d->c.oA ρ=some d
 | [],ds,h=>by simp only[A.oA.vm,bf]at h;subst h;exact⟨rfl,fun i c d h=>by simp at h⟩
 |c::cs,ds,h=>by
  simp only[A.oA.vm]at h;obtain⟨c',h1,hx⟩:=bL.1 h;obtain⟨es,h2,rfl⟩:=aM.1 hx;obtain⟨g1,g2⟩:=Sy h2;refine⟨by simp[g1],fun i x y hx hy=> ?_⟩
  cases i with
  |zero=>simp at hx hy;subst hx;subst hy;exact h1
  |succ i=>exact g2 i x y (by simpa using hx) (by simpa using hy)
theorem V9(bo: ∀n∈ρ,n<φ.length){o o':Obj}{p:ia}(h:cb (bB N0 φ w) o p)(ho:o.oA ρ=some o'):cb (bB (pC N0 φ ρ) (lH φ ρ) w) o' p:=by
 cases o with
 |box cs=>
  simp only[Obj.oA]at ho;obtain⟨Sx,h1,rfl⟩:=aM.1 ho;obtain⟨g1,g2⟩:=Sy h1;cases p with
  |loc b k=>
   simp only[cb]at h⊢;refine⟨h.1,dc.2 fun i y hy=> ?_⟩
   have hi:i<cs.length:=by rw[g1];exact(aA.1 hy).1
   obtain⟨v,hv,sX,hr⟩:=dc.1 h.2 i _ (ae hi)
   exact⟨v,hv,sX,OK bo _ v y hr (g2 i _ y (ae hi) hy)⟩
  |nil=>simp[cb]at h
  |free=>simp[cb]at h
 |row k es=>
  simp only[Obj.oA,bf]at ho;subst ho;cases p with
  |loc b k'=>
   simp only[cb]at h⊢;exact⟨h.1,h.2.1,h.2.2.1,jR.pure_mono (E:=bB N0 φ w) (E':=bB (pC N0 φ ρ) (lH φ ρ) w) rfl (fun b hb h'=>hb ((Ap bo b).1 h')) h.2.1 h.2.2.2⟩
  |nil=>simpa only[cb]using h
  |free=>simpa only[cb]using h
theorem Hc{H:List Obj}: ∀{ns:List Nat} {fc:List Obj},uf ρ H ns=some fc->ns.length=fc.length/\(∀n∈ns,n<H.length)/\ ∀(i n:Nat) (o:Obj),ns[i]? =some n->fc[i]? =some o-> ∃o',H[n]? =some o'/\o'.oA ρ=some o
 | [],fc,h=>by simp only[uf,bf]at h;subst h;exact⟨rfl,by simp,fun i n o h=>by simp at h⟩
 |m::ns,fc,h=>by
  simp only[uf]at h;obtain⟨o',h1,hx⟩:=bL.1 h;obtain⟨H₁,h2,rfl⟩:=aM.1 hx;obtain⟨g1,g2,g3⟩:=Hc h2;rw[dQ]at h1;cases hm:H[m]? with
  |none=>simp[hm,renO]at h1
  |some p=>
   rw[hm]at h1;simp only[renO]at h1;refine⟨by simp[g1],fun n hn=> ?_,fun i n o hi ho=> ?_⟩
   · rcases aD.1 hn with rfl|hn
     · exact(aA.1 hm).1
     · exact g2 n hn
   · cases i with
     |zero=>simp at hi ho;subst hi;subst ho;exact⟨p,hm,h1⟩
     |succ i=>exact g3 i n o (by simpa using hi) (by simpa using ho)
end
theorem vT(H:List Obj): ∀(fuel:Nat) (todo acc:List Nat),acc.Nodup->(reach H fuel todo acc).Nodup
 |0,_,acc,h=>by simpa only[reach]using h
 |_+1,[],acc,h=>by simpa only[reach]using h
 |fuel+1,n::todo,acc,h=>by
  simp only[reach]
  split
  · exact vT H fuel todo acc h
  · rename_i hn
    refine vT H fuel _ _ ?_;rw[List.nodup_append]
    refine⟨h,by simp,fun x hx y hy=> ?_⟩
    simp at hy;subst hy;intro e;subst e;simp at hn;exact hn hx
theorem B_(H:List Obj)(p:Nat->Prop)(hs: ∀m,p m-> ∀n∈yP (ff H m),p n): ∀(fuel:Nat) (todo acc:List Nat),(∀n∈todo,p n)->(∀n∈acc,p n)-> ∀n∈reach H fuel todo acc,p n
 |0,_,acc,_,h=>by simpa only[reach]using h
 |_+1,[],acc,_,h=>by simpa only[reach]using h
 |fuel+1,n::todo,acc,ht,h=>by
  simp only[reach]
  split
  · exact B_ H p hs fuel todo acc (fun m hm=>ht m (by simp[hm])) h
  · refine B_ H p hs fuel _ _ (fun m hm=> ?_) (fun m hm=> ?_)
    · rcases aJ.1 hm with hm|hm
      · exact hs n (ht n (by simp)) m hm
      · exact ht m (by simp[hm])
    · rcases aJ.1 hm with hm|hm
      · exact h m hm
      · simp at hm;subst hm;exact ht m (by simp)
mutual
theorem V_{E:Env}: ∀(x:A) (v:Value),bU E x v-> ∀n∈x.names,E.φ[n]? ≠some ia.free
 | .any,v,h,n,hn=>by simp[A.names]at hn
 | .int _ _,v,h,n,hn=>by simp[A.names]at hn
 | .bool _,v,h,n,hn=>by simp[A.names]at hn
 | .str _,v,h,n,hn=>by simp[A.names]at hn
 | .d_,v,h,n,hn=>by simp[A.names]at hn
 | .Ab,v,h,n,hn=>by simp[A.names]at hn
 | .emp _,v,h,n,hn=>by simp[A.names]at hn
 | .ay _,v,h,n,hn=>by simp[A.names]at hn
 | .clip _,v,h,n,hn=>by simp[A.names]at hn
 | .iU _,v,h,n,hn=>by simp[A.names]at hn
 | .agg cs,v,h,n,hn=>by simp only[bU]at h;obtain⟨vs,_,hl,_⟩:=h;exact nV cs vs hl n (by simpa only[A.names]using hn)
 | .fn _ cs,v,h,n,hn=>by simp only[bU]at h;obtain⟨vs,_,hl⟩:=h;exact nV cs vs hl n (by simpa only[A.names]using hn)
 | .fq cs,v,h,n,hn=>by simp only[bU]at h;obtain⟨vs,_,hl⟩:=h;exact nV cs vs hl n (by simpa only[A.names]using hn)
 | .ref m o,v,h,n,hn=>by simp only[A.names,bc]at hn;subst hn;simp only[bU]at h;obtain⟨b,k,hb,_⟩:=h;rw[hb];simp
 | .mu m j o,v,h,n,hn=>by simp only[A.names,bc]at hn;subst hn;simp only[bU]at h;obtain⟨b,k,hb,_⟩:=h;rw[hb];simp
 | .row m o k l c,v,h,n,hn=>by
  simp only[A.names,bc]at hn;subst hn;simp only[bU]at h;rcases h with⟨p,hp,hf,_⟩|⟨b,cap,c',e',fr,hp,_⟩
  · rw[hp];intro e;exact hf (an e)
  · rw[hp];simp
theorem nV{E:Env}: ∀(cs:List A) (vs:List Value),cH E cs vs-> ∀n∈A.names.l4 cs,E.φ[n]? ≠some ia.free
 | [],vs,h,n,hn=>by simp[A.names.l4]at hn
 |c::cs,vs,h,n,hn=>by
  simp only[cH]at h;obtain⟨v,qC,_,hc,hl⟩:=h;simp only[A.names.l4,aJ]at hn;rcases hn with hn|hn
  · exact V_ c v hc n hn
  · exact nV cs qC hl n hn
end
section
variable{P:Program}{Γ:aW}{N0:Nat->Prop}{w0:pU}{nt:Nat}{σ:St}{φ:List ia}{a:Act}{w:World}{ρ:List Nat}
theorem V'(h:cn N0 w0 nt σ φ a w){aq:List A}{vs:List Value}(hr:cH (bB N0 φ w) aq vs)(fuel:Nat): ∀n∈reach σ.H fuel (A.names.l4 aq) [],φ[n]? ≠some ia.free:=by
 refine B_ σ.H (fun n=>φ[n]? ≠some ia.free) (fun m hm n hn=> ?_) fuel _ _ (fun n hn=>nV (E:=bB N0 φ w) aq vs hr n hn) (by simp)
 cases ho:ff σ.H m with
 |none=>rw[ho]at hn;simp[yP]at hn
 |some o=>
  rw[ho]at hn;cases o with
  |row k es=>simp[yP,Obj.names]at hn
  |box cs=>
   simp only[yP,Obj.names]at hn;have bo:m<φ.length:=by rw[h.len];rw[dQ]at ho;exact(aA.1 ho).1
   have kQ:=h.gp m _ _ ho (ae bo)
   cases hp:φ[m]with
   |loc b k=>
    rw[hp]at kQ;simp only[cb]at kQ;obtain⟨us,_,hL,_⟩:=xp kQ.2;exact nV (E:=bB N0 φ w) cs us hL n hn
   |nil=>rw[hp]at kQ;simp[cb]at kQ
   |free=>rw[hp]at kQ;simp[cb]at kQ
theorem cn.loc(h:cn N0 w0 nt σ φ a w)(vp:ρ.Nodup){fc:List Obj}(hH:uf ρ σ.H ρ=some fc):(∀n∈ρ,n<φ.length)/\uw (pC N0 φ ρ) (lH φ ρ) fc w:=by
 obtain⟨g1,g2,g3⟩:=Hc hH;have bo: ∀n∈ρ,n<φ.length:=fun n hn=>by rw[h.len];exact g2 n hn
 refine⟨bo,{
  len:=by simp[lH,g1]
  gp:=fun i o p ho hp=> ?_
  own:=fun i b k hi=> ?_
  inj:=fun i j b k k' hi hj=> ?_}⟩
 · obtain⟨n,hn,_,kP⟩:=jB bo hp
   rw[dQ]at ho;obtain⟨o',B5,hren⟩:=g3 i n o hn ho;exact V9 bo (h.gp n o' p (by rw[dQ];exact B5) kP) hren
 · obtain⟨n,hn,hm,kP⟩:=jB bo hi
   refine⟨(h.own n b k kP).2, ?_⟩
   rintro(h0|⟨n',k',pz,yR⟩)
   · rcases(h.own n b k kP).1 with h1|h1
     · have:=(h.n0 b h0).1;omega
     · exact(h.n0 b h0).2 h1
   · exact yR ((h.inj n n' b k k' kP pz)▸hm)
 · obtain⟨n,hn,_,kP⟩:=jB bo hi
   obtain⟨n',pz,_,OG⟩:=jB bo hj;obtain rfl:=h.inj n n' b k k' kP OG;have hi1:=(aA.1 hn).1;have hj1:=(aA.1 pz).1;exact(List.getElem_inj vp).1 (by rw[(aA.1 hn).2,(aA.1 pz).2])
def jC{α:Type}:List Nat->List α->List α->List α
 | [],os,xs=>xs++os
 |n::ns,o::os,xs=>jC ns os (xs.set n o)
 |_::_,[],xs=>xs
theorem vU(ρ':List Nat)(m:Nat): ∀(ns:List Nat) (os H:List Obj),sx ρ' m ns os H=jC ns (os.map (Obj.back ρ' m)) H
 | [],os,H=>rfl
 |n::ns,o::os,H=>by simp only[sx,aS,jC,ji];exact vU ρ' m ns os _
 |_::_,[],H=>rfl
theorem tF{α:Type}: ∀{ns:List Nat} {os xs:List α},ns.length<=os.length-> ∀{j:Nat},j∉ns->j<xs.length->(jC ns os xs)[j]? =xs[j]?
 | [],os,xs,_,j,_,hj=>by simp only[jC];exact ck hj
 |n::ns,[],xs,h,_,_,_=>by simp at h
 |n::ns,o::os,xs,h,j,hn,hj=>by
  simp only[jC]
  rw[tF (by simpa using h) (fun h'=>hn (by simp[h'])) (by simpa using hj),cC (fun e=>hn (by simp[e]))]
theorem pD{α:Type}: ∀{ns:List Nat} {os xs:List α},ns.length<=os.length->ns.Nodup->(∀n∈ns,n<xs.length)-> ∀i,(jC ns os xs)[mw ns xs.length i]? =os[i]?
 | [],os,xs,_,_,_,i=>by
  simp only[jC,mw]
  rw[bX (by omega),dU]
 |n::ns,[],xs,h,_,_,_=>by simp at h
 |n::ns,o::os,xs,h,vp,bo,i=>by
  simp only[jC]
  rw[iy]at vp;cases i with
  |zero=>
   simp only[mw]
   rw[tF (by simpa using h) vp.1 (by simpa using bo n (by simp))]
   simp[bo n (by simp)]
  |succ i=>
   simp only[mw]
   have:=pD (ns:=ns) (os:=os) (xs:=xs.set n o) (by simpa using h) vp.2 (fun m hm=>by simpa using bo m (by simp[hm])) i;simpa using this
theorem re{α:Type}: ∀{ns:List Nat} {os xs:List α},ns.length<=os.length->(jC ns os xs).length=xs.length+(os.length-ns.length)
 | [],os,xs,_=>by simp[jC]
 |n::ns,[],xs,h=>by simp at h
 |n::ns,o::os,xs,h=>by
  simp only[jC]
  rw[re (by simpa using h)]
  simp
theorem DU{α:Type}{ns:List Nat}{os xs:List α}(h:ns.length<=os.length)(vp:ns.Nodup)(bo: ∀n∈ns,n<xs.length){j:Nat}{x:α}(hj:(jC ns os xs)[j]? =some x):
 (∃i,j=mw ns xs.length i/\os[i]? =some x)\/(j∉ns/\j<xs.length/\xs[j]? =some x):=by
 have hl:=(aA.1 hj).1;rw[re h]at hl;by_cases h1:j<xs.length
 · by_cases h2:j∈ns
   · obtain⟨i,hi⟩:=bO h2
     have:=Ha (m:=xs.length) hi;refine .inl ⟨i,this.symm, ?_⟩
     rw[<-pD h vp bo i,this];exact hj
   · exact .inr ⟨h2,h1,by rw[<-tF h h2 h1];exact hj⟩
 · refine .inl ⟨ns.length+(j-xs.length),by rw[Hb];omega, ?_⟩
   rw[<-pD h vp bo,Hb,show xs.length+(j-xs.length)=j by omega];exact hj
mutual
theorem Aq{El E:Env}{m:Nat}(hw:El.w=E.w)(hN: ∀b,¬El.N b-> ¬E.N b)(kP: ∀(i:Nat) (p:ia),El.φ[i]? =some p->E.φ[mw ρ m i]? =some p): ∀(x:A) (v:Value),bU El x v->bU E (x.back ρ m) v
 | .any,v,h=>by simp only[A.back,bU]
 | .int _ _,v,h=>by simpa only[A.back,bU]using h
 | .bool _,v,h=>by simpa only[A.back,bU]using h
 | .str _,v,h=>by simpa only[A.back,bU]using h
 | .d_,v,h=>by simpa only[A.back,bU]using h
 | .Ab,v,h=>by simpa only[A.back,bU]using h
 | .emp _,v,h=>by simpa only[A.back,bU]using h
 | .ay es,v,h=>by simp only[A.back];exact bU.pure_mono hw.symm hN (by simp[A.pure]) h
 | .clip es,v,h=>by simp only[A.back];exact bU.pure_mono hw.symm hN (by simp[A.pure]) h
 | .iU es,v,h=>by simp only[A.back];exact bU.pure_mono hw.symm hN (by simp[A.pure]) h
 | .agg cs,v,h=>by simp only[A.back,bU]at h⊢;obtain⟨vs,hv,hl,ho⟩:=h;exact⟨vs,hv,xt hw hN kP cs vs hl,ho⟩
 | .fn f cs,v,h=>by simp only[A.back,bU]at h⊢;obtain⟨vs,hv,hl⟩:=h;exact⟨vs,hv,xt hw hN kP cs vs hl⟩
 | .fq cs,v,h=>by simp only[A.back,bU]at h⊢;obtain⟨vs,hv,hl⟩:=h;exact⟨vs,hv,xt hw hN kP cs vs hl⟩
 | .ref n o,v,h=>by simp only[A.back,bU]at h⊢;obtain⟨b,k,hb,hv⟩:=h;exact⟨b,k,kP n _ hb,hv⟩
 | .mu n j o,v,h=>by simp only[A.back,bU]at h⊢;obtain⟨b,k,hb,hv⟩:=h;exact⟨b,k,kP n _ hb,hv⟩
 | .row n o k l c,v,h=>by
  simp only[A.back,bU]at h⊢;rcases h with⟨p,hp,r⟩|⟨b,cap,c',e',fr,hp,r⟩
  · exact .inl ⟨p,kP n _ hp,r⟩
  · exact .inr ⟨b,cap,c',e',fr,kP n _ hp,by rw[<-hw];exact r⟩
theorem xt{El E:Env}{m:Nat}(hw:El.w=E.w)(hN: ∀b,¬El.N b-> ¬E.N b)(kP: ∀(i:Nat) (p:ia),El.φ[i]? =some p->E.φ[mw ρ m i]? =some p): ∀(cs:List A) (vs:List Value),cH El cs vs->cH E (A.back.sw ρ m cs) vs
 | [],vs,h=>by simpa only[A.back.sw,cH]using h
 |c::cs,vs,h=>by simp only[A.back.sw,cH]at h⊢;obtain⟨v,qC,hv,hc,hl⟩:=h;exact⟨v,qC,hv,Aq hw hN kP c v hc,xt hw hN kP cs qC hl⟩
end
theorem Nf{m:Nat}: ∀{cs:List A} {i:Nat},(A.back.sw ρ m cs)[i]? =(cs[i]?).map (A.back ρ m)
 | [],i=>by simp[A.back.sw]
 |c::cs,0=>by simp[A.back.sw]
 |c::cs,i+1=>by simpa[A.back.sw]using Nf (cs:=cs) (i:=i)
theorem DV{El E:Env}{m:Nat}(hw:El.w=E.w)(hN: ∀b,¬El.N b-> ¬E.N b)(kP: ∀(i:Nat) (p:ia),El.φ[i]? =some p->E.φ[mw ρ m i]? =some p){o:Obj}{p:ia}(h:cb El o p):cb E (o.back ρ m) p:=by
 cases o with
 |box cs=>
  cases p with
  |loc b k=>
   simp only[Obj.back,cb]at h⊢;refine⟨by rw[<-hw];exact h.1,dc.2 fun i y hy=> ?_⟩
   rw[Nf]at hy;obtain⟨x,hx,rfl⟩:=aM.1 hy;obtain⟨v,hv,h1,hr⟩:=dc.1 h.2 i x hx;exact⟨v,by rw[<-hw];exact hv,h1,Aq hw hN kP x v hr⟩
  |nil=>simp[cb]at h
  |free=>simp[cb]at h
 |row k es=>
  cases p with
  |loc b k'=>
   simp only[Obj.back,cb]at h⊢;exact⟨h.1,h.2.1,by rw[<-hw];exact h.2.2.1,jR.pure_mono hw.symm hN h.2.1 h.2.2.2⟩
  |nil=>simpa only[Obj.back,cb]using h
  |free=>simpa only[Obj.back,cb]using h
theorem Clear.lC{m:Nat}(h:Clear σ m)(n:Nat):Clear (σ.lC n) m:=by
 have one: ∀x:A,x.mem m=false->(jA n x).mem m=false:=fun x hx=>by
  unfold jA;split
  · rfl
  · exact hx
 refine⟨fun d=> ?_,fun j cs hj=> ?_⟩
 · show(look (σ.s.map fun p=>(p.1,jA n p.2)) d).mem m=false
   rw[tC];exact one _ (h.1 d)
 · simp only[St.lC]at hj
   rw[G_]at hj;cases ho:ff σ.H j with
   |none=>simp[ho]at hj
   |some o=>
    simp[ho]at hj;cases o with
    |row k es=>simp[ub]at hj
    |box ds=>
     simp[ub]at hj;subst hj;have hd:=h.2 j ds ho;clear ho;induction ds with
     |nil=>rfl
     |cons y ys ih=>
      simp only[A.mem.lW,dm]at hd;simp only[aS,A.mem.lW,dm]
      exact⟨one y hd.1,ih hd.2⟩
theorem cn.ij{m:Nat}: ∀{S:List Nat} {σ:St},cn N0 w0 nt σ φ a w->cn N0 w0 nt (Go.dF.ij ρ m σ S) φ a w/\(∀j,Clear σ j->Clear (Go.dF.ij ρ m σ S) j)/\(∀i∈S,Clear (Go.dF.ij ρ m σ S) (mw ρ m i))/\(Go.dF.ij ρ m σ S).H.length=σ.H.length
 | [],σ,h=>⟨h,fun _ h=>h,by simp,rfl⟩
 |i::is,σ,h=>by
  obtain⟨h1,h2,h3,h4⟩:=cn.ij (m:=m) (S:=is) (h.lC (mw ρ m i))
  refine⟨h1,fun j hj=>h2 j (hj.lC _),fun j hj=> ?_,h4.trans (by simp[St.lC])⟩
  rcases aD.1 hj with rfl|hj
  · exact h2 _ (DR σ _)
  · exact h3 j hj
theorem Ar{m:Nat}: ∀{S:List Nat},ug Γ ρ m S=true-> ∀i∈S,Γ.fix (mw ρ m i)=false
 | [],_,i,hi=>by simp at hi
 |j::js,h,i,hi=>by
  simp only[ug,ak,bT]at h;rcases aD.1 hi with rfl|hi
  · exact h.1
  · exact Ar h.2 i hi
theorem cn.turned(h:cn N0 w0 nt σ φ a w)(z_:w0.fix=Γ.fix)(vp:ρ.Nodup){fc:List Obj}(hH:uf ρ σ.H ρ=some fc){Kv:List ia}{H':List Obj}{S:List Nat}{w':World}{r:A}{v:Value}
 (mQ:uw (pC N0 φ ρ) Kv H' w') (hT:Sv (lH φ ρ) w S Kv w') (hlen:fc.length<=H'.length) (hmv:ug Γ ρ σ.H.length S=true)
 (hr:bU (bB (pC N0 φ ρ) Kv w') r v) {d:Option Tmp} (hd: ∀t,d=some t->t<nt):
 ∃j4,cn N0 w0 nt (GG σ d ρ (r,H',S)) j4 (a.put d v) w'/\ ∀m,m∉ρ->m<φ.length->j4[m]? =φ[m]? :=by
 obtain⟨bo,KJ⟩:=h.loc vp hH;obtain⟨g1,g2,g3⟩:=Hc hH;obtain⟨hs,_,o6,vz⟩:=cn.ij (ρ:=ρ) (m:=σ.H.length) (S:=S) h;have xw:φ.length=σ.H.length:=h.len;have hle:ρ.length<=Kv.length:=by rw[mQ.len];omega
 have hle':ρ.length<=H'.length:=by omega
 have ux: ∀i,(jC ρ Kv φ)[mw ρ σ.H.length i]? =Kv[i]? :=fun i=>by rw[<-xw];exact pD hle vp bo i
 have hold: ∀j,j∉ρ->j<φ.length->(jC ρ Kv φ)[j]? =φ[j]? :=fun j h1 h2=>tF hle h1 h2;have rM: ∀(j:Nat) (p:ia),(jC ρ Kv φ)[j]? =some p->(∃i,j=mw ρ σ.H.length i/\Kv[i]? =some p)\/(j∉ρ/\j<φ.length/\φ[j]? =some p):=fun j p hj=>by rw[<-xw];exact DU hle vp bo hj
 have Wa: ∀(i:Nat) (p:ia),Kv[i]? =some p->(jC ρ Kv φ)[mw ρ σ.H.length i]? =some p:=fun i p hp=>by rw[ux];exact hp
 have hN: ∀b,¬(bB (pC N0 φ ρ) Kv w').N b-> ¬(bB N0 (jC ρ Kv φ) w').N b:=fun b hb=>by
  rintro(h0|⟨j,k,hj⟩)
  · exact hb (.inl (.inl h0))
  · rcases rM j _ hj with⟨i,_,hi⟩|⟨h1,h2,h3⟩
    · exact hb (.inr ⟨i,k,hi⟩)
    · exact hb (.inl (.inr ⟨j,k,h3,h1⟩))
 have RL: ∀(j b k:Nat),j∉ρ->φ[j]? =some (ia.loc b k)->w'.heap[b]? =w.heap[b]? :=fun j b k hj hb=>by refine hT.block b (h.own j b k hb).2 fun i k' hi=> ?_;obtain⟨n,_,hm,hn⟩:=jB bo hi;exact hj ((h.inj n j b k' k hn hb)▸hm)
 have iW:Ext (fun n=> ∀i∈S,mw ρ σ.H.length i≠n) (bB N0 φ w) (bB N0 (jC ρ Kv φ) w'):={
  size:=hT.size
  RX:=fun b hb hn=>⟨by
   rintro(h0|⟨j,k,hj⟩)
   · exact hn (.inl h0)
   · rcases rM j _ hj with⟨i,_,hi⟩|⟨h1,h2,h3⟩
     · rcases hT.own i b k hi with h'|⟨i',k',jU⟩
       · have:b<w.heap.size:=hb
         omega
       · obtain⟨n,_,_,pz⟩:=jB bo jU
         exact hn (.inr ⟨n,k',pz⟩)
     · exact hn (.inr ⟨j,k,h3⟩),hT.block b hb fun i k hi=>by
   obtain⟨n,_,_,pz⟩:=jB bo hi;exact hn (.inr ⟨n,k,pz⟩)⟩
  refs:=fun n p hk hp hf=>by
   show(jC ρ Kv φ)[n]? =some p;have yu:φ[n]? =some p:=hp;by_cases hn:n∈ρ
   · obtain⟨i,hi⟩:=bO hn
     have e:=Ha (m:=σ.H.length) hi;have hiS:i∉S:=fun hS=>hk i hS e;rw[<-e]
     exact Wa i p (hT.stay i p hiS (by rw[q_ bo hi];exact yu))
   · rw[hold n hn (aA.1 yu).1];exact yu
  own:=fun n b k c e fr _ hn hc=>hT.shape b c e fr hc}
 have hconc:cn N0 w0 nt ⟨(Go.dF.ij ρ σ.H.length σ S).s,sx ρ σ.H.length ρ H' (Go.dF.ij ρ σ.H.length σ S).H⟩ (jC ρ Kv φ) a w':={
  gj:=fun t=>bU.mono iW _ _ (hs.gj t) fun n hn i hi e=>by have:=(o6 i hi).1 t;rw[e]at this;have pz:(look (Go.dF.ij ρ σ.H.length σ S).s t).mem n=true:=hn;rw[this]at pz;cases pz
  size:=h.size
  defers:=h.defers
  len:=by rw[vU,re hle,re (by simpa using hle'),vz,xw,mQ.len];simp
  gp:=fun j o p ho hp=>by
   rw[dQ,vU]at ho;have hltS: ∀n∈ρ,n<(Go.dF.ij ρ σ.H.length σ S).H.length:=fun n hn=>by rw[vz,<-xw];exact bo n hn
   rcases rM j p hp with⟨i,rfl,hi⟩|⟨h1,h2,h3⟩
   · have:=pD (os:=H'.map (Obj.back ρ σ.H.length)) (by simpa using hle') vp hltS i
     rw[vz]at this;rw[this,aT]at ho;obtain⟨o',B5,rfl⟩:=aM.1 ho;exact DV (El:=bB (pC N0 φ ρ) Kv w') (E:=bB N0 (jC ρ Kv φ) w') rfl hN Wa (mQ.gp i o' p (by rw[dQ];exact B5) hi)
   · rw[tF (by simpa using hle') h1 (by rw[vz,<-xw];exact h2)]at ho
     refine cb.mono iW (hs.gp j o p (by rw[dQ];exact ho) h3) (fun b k hb c e fr hh=> ?_) (fun cs F' n hn i hi e=> ?_)
     · subst hb
       show w'.heap[b]? =_;rw[RL j b k h1 h3];exact hh
     · subst F';subst e
       have:=(o6 i hi).2 j cs (by rw[dQ];exact ho)
       rw[this]at hn;cases hn
  own:=fun j b k hj=>by
   rcases rM j _ hj with⟨i,_,hi⟩|⟨h1,h2,h3⟩
   · refine⟨?_,(mQ.own i b k hi).1⟩
     rcases hT.own i b k hi with h'|⟨i',k',jU⟩
     · exact .inl (aL h.below.size h')
     · obtain⟨n,_,_,pz⟩:=jB bo jU
       exact(h.own n b k' pz).1
   · exact⟨(h.own j b k h3).1,cG (h.own j b k h3).2 hT.size⟩
  inj:=fun j j' b k k' hj BM=>by
   rcases rM j _ hj with⟨i,e,hi⟩|⟨h1,h2,h3⟩<;>rcases rM j' _ BM with⟨i',e',jU⟩|⟨sX,tE,h3'⟩
   · rw[e,e',mQ.inj i i' b k k' hi jU]
   · exact absurd (.inr ⟨j',k',h3',sX⟩) (mQ.own i b k hi).2
   · exact absurd (.inr ⟨j,k,h3,h1⟩) (mQ.own i' b k' jU).2
   · exact h.inj j j' b k k' h3 h3'
  n0:=h.n0
  qE:=fun n p hf hp dR=>by have yu:=h.qE n p hf hp dR;refine iW.refs n p (fun i hi e=> ?_) yu dR;have:=Ar hmv i hi;rw[e,<-z_,hf]at this;cases this
  below:={
   os:=hT.os.trans h.below.os
   tape:=hT.tape.trans h.below.tape
   output:=hT.output.trans h.below.output
   drawn:=aL h.below.drawn hT.drawn
   size:=aL h.below.size hT.size
   block:=fun b hb hM=>by
    rw[hT.block b (cG hb h.below.size) fun i k hi=>by
     obtain⟨n,_,_,pz⟩:=jB bo hi;rcases(h.own n b k pz).1 with h'|h'
     · omega
     · exact hM h']
    exact h.below.block b hb hM
   shape:=fun b c e fr hc=>by obtain⟨c',VR,k1,k2⟩:=h.below.shape b c e fr hc;obtain⟨c'',fr'',k3,k4⟩:=hT.shape b c' e VR k1;exact⟨c'',fr'',k3,k4.trans k2⟩}}
 refine⟨jC ρ Kv φ,hconc.put hd ?_,fun m h1 h2=>hold m h1 h2⟩
 exact Aq (El:=bB (pC N0 φ ρ) Kv w') (E:=bB N0 (jC ρ Kv φ) w') rfl hN Wa r v hr
theorem Sz: ∀(ns:List Nat) (H:List Obj),(tq ρ ns H).length=H.length/\(∀j,j∉ns->(tq ρ ns H)[j]? =H[j]?)/\(∀j,j∈ns->j<H.length->(tq ρ ns H)[j]? =some (.row 0 []))
 | [],H=>⟨rfl,fun _ _=>rfl,fun j h=>by simp at h⟩
 |n::ns,H=>by
  obtain⟨h1,h2,h3⟩:=Sz ns (qe H n (.row 0 []))
  simp only[tq]
  rw[ji]at h1 h2 h3⊢;refine⟨by simpa using h1,fun j hj=> ?_,fun j hj hl=> ?_⟩
  · rw[h2 j (fun h=>hj (by simp[h])),cC (fun e=>hj (by simp[e]))]
  · by_cases hjn:j∈ns
    · exact h3 j hjn (by simpa using hl)
    · rcases aD.1 hj with rfl|hj
      · rw[h2 _ hjn];simp[hl]
      · exact absurd hj hjn
def oJ:List Nat->List ia->List ia
 | [],φ=>φ
 |n::ns,φ=>oJ ns (φ.set n .free)
theorem Ca: ∀(ns:List Nat) (φ:List ia),(oJ ns φ).length=φ.length/\(∀j,j∉ns->(oJ ns φ)[j]? =φ[j]?)/\(∀j,j∈ns->j<φ.length->(oJ ns φ)[j]? =some .free)
 | [],φ=>⟨rfl,fun _ _=>rfl,fun j h=>by simp at h⟩
 |n::ns,φ=>by
  obtain⟨h1,h2,h3⟩:=Ca ns (φ.set n .free)
  simp only[oJ]
  refine⟨by simpa using h1,fun j hj=> ?_,fun j hj hl=> ?_⟩
  · rw[h2 j (fun h=>hj (by simp[h])),cC (fun e=>hj (by simp[e]))]
  · by_cases hjn:j∈ns
    · exact h3 j hjn (by simpa using hl)
    · rcases aD.1 hj with rfl|hj
      · rw[h2 _ hjn];simp[hl]
      · exact absurd hj hjn
theorem As{fc:List Obj}: ∀(s:List (Nat×A)) (d:Nat),look (s.map fun p=>(p.1,sh ρ fc p.2)) d=sh ρ fc (look s d)
 | [],d=>by
  have:A.meets ρ .any=false:=by simp[A.meets,A.mem]
  simp[look,sh,this]
 |(i,v)::s,d=>by
  simp only[aS,look]
  split
  · rfl
  · exact As s d
theorem SA(h:cn N0 w0 nt σ φ a w)(vp:ρ.Nodup){fc:List Obj}(hH:uf ρ σ.H ρ=some fc){x y:A}{v:Value}(hr:bU (bB (pC N0 φ ρ) (lH φ ρ) w) x v)(hv:view fc x=some y):
 bU ⟨pC N0 φ ρ,[],w⟩ y v/\y.pure=true:=by
 obtain⟨bo,KJ⟩:=h.loc vp hH
 have hc:cn (pC N0 φ ρ) {toWorld:=w,M:=fun b=> ∃n k:Nat,(lH φ ρ)[n]? =some (ia.loc b k),fix:=fun _=>false,φ0:=[]} a.tmps.size {s:=[],H:=fc} (lH φ ρ) ⟨a.tmps,[]⟩ w:={
  gj:=fun d=>by simp only[look,bU]
  size:=rfl
  defers:=rfl
  len:=KJ.len
  gp:=KJ.gp
  own:=fun n b k hn=>⟨.inr ⟨n,k,hn⟩,(KJ.own n b k hn).1⟩
  inj:=KJ.inj
  n0:=fun b hb=>⟨by
   rcases hb with h0|⟨n,k,hn,_⟩
   · exact cG (h.n0 b h0).1 h.below.size
   · exact(h.own n b k hn).2,by
   rintro⟨n,k,hn⟩
   exact(KJ.own n b k hn).2 hb⟩
  qE:=fun n p hf=>by cases hf
  below:=Kept.refl _}
 exact rL hc hv hr (N':=pC N0 φ ρ) ⟨fun b hb=> .inl hb,.inr fun n b k hn=>(KJ.own n b k hn).2⟩
theorem cn.frozen(h:cn N0 w0 nt σ φ a w)(vp:ρ.Nodup){fc:List Obj}(hH:uf ρ σ.H ρ=some fc)(z_: ∀n∈ρ,w0.fix n=true->w0.φ0.length<=n):
 cn N0 w0 nt ⟨σ.s.map (fun p=>(p.1,sh ρ fc p.2)),tq ρ ρ (σ.H.map (Ow ρ fc))⟩ (oJ ρ φ) a w/\(∀b,pC N0 φ ρ b ↔ (bB N0 (oJ ρ φ) w).N b):=by
 obtain⟨bo,KJ⟩:=h.loc vp hH;obtain⟨f1,f2,f3⟩:=Ca ρ φ;obtain⟨d1,d2,d3⟩:=Sz (ρ:=ρ) ρ (σ.H.map (Ow ρ fc))
 have DS: ∀m b k:Nat,(oJ ρ φ)[m]? =some (ia.loc b k)->m∉ρ/\φ[m]? =some (.loc b k):=fun m b k hm=>by
  by_cases yR:m∈ρ
  · rw[f3 m yR (bo m yR)]at hm;simp at hm
  · rw[f2 m yR]at hm;exact⟨yR,hm⟩
 have hN: ∀b,pC N0 φ ρ b ↔ (bB N0 (oJ ρ φ) w).N b:=fun b=>by
  constructor
  · rintro(h0|⟨n,k,hn,yR⟩)
    · exact .inl h0
    · exact .inr ⟨n,k,by rw[f2 n yR];exact hn⟩
  · rintro(h0|⟨n,k,hn⟩)
    · exact .inl h0
    · obtain⟨h1,h2⟩:=DS n b k hn
      exact .inr ⟨n,k,h2,h1⟩
 have iW:Ext (fun n=>n∉ρ) (bB N0 φ w) (bB N0 (oJ ρ φ) w):={
  size:=ai _
  RX:=fun b _ hn=>⟨by
   rintro(h0|⟨m,k,hm⟩)
   · exact hn (.inl h0)
   · exact hn (.inr ⟨m,k,(DS m b k hm).2⟩),rfl⟩
  refs:=fun m p hk hm _=>by show(oJ ρ φ)[m]? =some p;rw[f2 m hk];exact hm
  own:=fun m b k c e fr _ _ hc=>⟨c,fr,hc,rfl⟩}
 have one: ∀(x:A) (v:Value),bU (bB N0 φ w) x v->bU (bB N0 (oJ ρ φ) w) (sh ρ fc x) v:=fun x v hx=>by
  unfold sh;split
  · cases hren:x.oA ρ with
    |none=>simp only[bU]
    |some x'=>
     simp only;have hl:=OK bo x v x' hx hren;cases hv:view fc x' with
     |none=>simp only[nc,bU]
     |some y=>
      simp only[ib]
      obtain⟨hy,hp⟩:=SA h vp hH hl hv;exact bU.pure_mono (E:=⟨pC N0 φ ρ,[],w⟩) (E':=bB N0 (oJ ρ φ) w) rfl (fun b hb h'=>hb ((hN b).2 h')) hp hy
  · rename_i hm
    refine bU.mono iW x v hx fun n hn yR=> ?_;simp only[A.meets,qv,not_exists,not_and]at hm;exact hm n yR hn
 refine⟨{
  gj:=fun d=>by
   show bU _ (look (σ.s.map fun p=>(p.1,sh ρ fc p.2)) d) _;rw[As]
   exact one _ _ (h.gj d)
  size:=h.size
  defers:=h.defers
  len:=by rw[f1,d1];simp[h.len]
  gp:=fun m o p ho hp=> ?_
  own:=fun m b k hm=>h.own m b k (DS m b k hm).2
  inj:=fun m m' b k k' hm oo=>h.inj m m' b k k' (DS m b k hm).2 (DS m' b k' oo).2
  n0:=h.n0
  qE:=fun n p hf hp dR=>by
   have hn:n∉ρ:=fun yR=>by have h1:=z_ n yR hf;have h2:=(aA.1 hp).1;omega
   rw[f2 n hn];exact h.qE n p hf hp dR
  below:=h.below},hN⟩
 rw[dQ]at ho;by_cases yR:m∈ρ
 · rw[d3 m yR (by simpa[<-h.len]using bo m yR)]at ho
   rw[f3 m yR (bo m yR)]at hp;obtain rfl:=an ho;obtain rfl:=an hp;simp[cb]
 · rw[d2 m yR,aT]at ho
   rw[f2 m yR]at hp;obtain⟨o',B5,rfl⟩:=aM.1 ho;have kQ:=h.gp m o' p (by rw[dQ];exact B5) hp;cases o' with
   |row k es=>
    exact cb.mono iW kQ (fun b k _ c e fr hh=>hh) (fun cs F'=>by cases F')
   |box cs=>
    cases p with
    |loc b k=>
     simp only[Ow,cb]at kQ⊢;refine⟨kQ.1,dc.2 fun i y hy=> ?_⟩
     rw[aT]at hy;obtain⟨x,hx,rfl⟩:=aM.1 hy;obtain⟨v,hv,h1,hr⟩:=dc.1 kQ.2 i x hx;exact⟨v,hv,h1,one x v hr⟩
    |nil=>simp[cb]at kQ
    |free=>simp[cb]at kQ
theorem viewL_loc(h:cn N0 w0 nt σ φ a w)(vp:ρ.Nodup){fc:List Obj}(hH:uf ρ σ.H ρ=some fc){xs ys:List A}{vs:List Value}(hv:mX fc xs=some ys)(hr:cH (bB (pC N0 φ ρ) (lH φ ρ) w) xs vs):
 cH ⟨pC N0 φ ρ,[],w⟩ ys vs:=by
 obtain⟨h1,h2⟩:=B7 hv;obtain⟨g1,g2⟩:=db.1 hr;refine db.2 ⟨by rw[<-h1,g1],fun i c u hc hu=> ?_⟩
 have hi:i<xs.length:=by rw[h1];exact(aA.1 hc).1
 exact(SA h vp hH (g2 i _ u (ae hi) hu) (h2 i _ c (ae hi) hc)).1
theorem SB(yU:aN P Γ)(h:cn N0 w0 nt σ φ a w)(z_:w0.fix=Γ.fix){d:Option Tmp}{f:Operand}{xs:List Operand}{us:Array TypeId}{t:TypeId}{p:String}{af:Array Edge}{g:Option (Nat×Bool)}(hd: ∀t,d=some t->t<nt){n:Nat}{jO:St}
 (hr:vC Γ σ d (σ.ev f) (σ.se xs)=some jO):GoodC P ⟨d,.call ⟨.value f,⟨xs⟩,us⟩,t,p,af,g⟩ a w N0 w0 nt φ n jO:=by
 have hf:=h.ev f;cases hc:σ.ev f<;>simp only[hc,vC]at hr<;>try(simp at hr;done)
 rename_i q o7;rw[hc]at hf;simp only[bU]at hf;obtain⟨cvs,hfv,hcr⟩:=hf;have DT:=nT (OJ h xs) hcr;unfold R5 yQ at hr;have vp:=vT σ.H 64 (A.names.l4 (σ.se xs++o7)) [] (by simp)
 have Y9:=V' h DT 64;generalize yR:reach σ.H 64 (A.names.l4 (σ.se xs++o7)) []=ρ at hr vp Y9;obtain⟨as',h1,hr⟩:=bL.1 hr;obtain⟨fc,h2,hr⟩:=bL.1 hr;obtain⟨bo,KJ⟩:=h.loc vp h2;have hla:=vS bo _ _ as' DT h1
 have hlocn: ∀b,pC N0 φ ρ b->b<w.heap.size:=by
  rintro b (h0|⟨m,k,hm,_⟩)
  · exact cG (h.n0 b h0).1 h.below.size
  · exact(h.own m b k hm).2
 have mo: ∀{q:FuncId},oI P q->a.eval f= .func (.func q) #[] cvs.toArray->(Go.execOp a.eval ⟨d,.call ⟨.value f,⟨xs⟩,us⟩,t,p,af,g⟩).run P w= .ok (.enter q (xs.map a.eval++cvs).toArray) w:=by
  intro q hq hfv
  have:(Go.execOp a.eval ⟨d,.call ⟨.value f,⟨xs⟩,us⟩,t,p,af,g⟩).run P w=(callFunc q (xs.map a.eval++cvs).toArray).run P w:=by
   simp only[Go.execOp,resolve,hfv,Deferred.ofValue,Sem.run_bind,Sem.run_pure,Result.andThen_ok,invoke]
   congr 2
   apply np;simp
  rw[this]
  exact qG hq _ w
 split at hr
 · rename_i hfz
   split at hr
   · rename_i hfixed
     obtain⟨bs,hb,hr⟩:=bL.1 hr;obtain⟨r,hg,rfl⟩:=aM.1 hr;obtain⟨vR,hA⟩:=yU.f q bs r hg;right;refine⟨q,_,mo vR hfv, ?_⟩
     obtain⟨RL,hN⟩:=h.frozen vp h2 (fun m hm hf=>by rw[cw]at hfixed;have:=hfixed m hm;rw[z_]at hf;simp[hf]at this)
     have yw:=viewL_loc h vp h2 hb hla;refine Calls.mono (hA (pC N0 φ ρ) w _ hlocn yw) ?_;rintro e w' ⟨v,r',rfl,rfl,fY,VJ⟩
     refine⟨v,oJ ρ φ,rfl,(RL.grew VJ).put hd ?_,fun m _ hm=> ?_⟩
     · refine bU.mono (K:=fun _=>True) (E:=⟨pC N0 φ ρ,[],w'⟩) ?_ _ _ fY (fun _ _=>trivial)
       exact{
        size:=ai _
        RX:=fun b _ hn=>⟨fun h'=>hn ((hN b).2 h'),rfl⟩
        refs:=fun m o _ hm=>by simp at hm
        own:=fun m b k c e fr _ hm=>by simp at hm}
     · rw[(Ca ρ φ).2.1 m (fun yR=>Y9 m yR hm)];exact hm
   · simp at hr
 · obtain⟨⟨r,H',S⟩,hg,hr⟩:=bL.1 hr
   split at hr
   · rename_i hmv
     obtain rfl:=an hr;obtain⟨vR,hA⟩:=yU.hp q as' fc r H' S hg;right;refine⟨q,_,mo vR hfv, ?_⟩
     refine Calls.mono (hA (pC N0 φ ρ) (lH φ ρ) w _ hlocn KJ (fun i hi=> ?_) hla) ?_
     · obtain⟨m,_,hm,kP⟩:=jB bo hi
       exact Y9 m hm kP
     · rintro e w' ⟨v,Kv,rfl,fY,mQ,hT,hlen⟩
       obtain⟨j4,BK,hk⟩:=h.turned z_ vp h2 mQ hT hlen hmv fY hd;exact⟨v,j4,rfl,BK,fun m _ hm=>by rw[hk m (fun yR=>Y9 m yR hm) (aA.1 hm).1];exact hm⟩
   · simp at hr
end
end Go.dF
namespace Go.dF
open Go.RowKit
section
variable{P:Program}{Γ:aW}{N0:Nat->Prop}{w0:pU}{nt:Nat}{σ:St}{φ:List ia}{a:Act}{w:World}
theorem OL(yU:aN P Γ)(h:cn N0 w0 nt σ φ a w){o:Oper}(hd: ∀t,o.dst=some t->t<nt){n:Nat}(z_:w0.fix=Γ.fix)(dR:eL P o.op=true->φ[n]? =some .free){jO:St}
 (hr:execOp P Γ n o.dst o.op σ=some jO):GoodC P o a w N0 w0 nt φ n jO:=by
 obtain⟨d,op,t,p,af,g⟩:=o;simp only at hd dR hr;unfold execOp at hr;split at hr
 · exact .inl (Sp h hd (dR rfl) hr)
 · exact .inl (Sn h hd (dR rfl) hr)
 · exact .inl (Sq h hd hr)
 · exact .inl (V7 h hd (fun hb=>dR (by simpa[eL]using hb)) hr)
 · exact .inl (OH h hd (dR rfl) z_ hr)
 · exact .inl (Su h hd hr)
 · split at hr
   · exact SB yU h z_ hd hr
   · exact V8 yU h hd hr
 · cases he:u_ P σ op with
   |none=>simp[he]at hr
   |some r=>
    simp[he]at hr;subst hr;exact .inl (yv h hd (o:=⟨d,op,t,p,af,g⟩) (Sl h he))
theorem OM: ∀(os:List Oper) (j:Nat),GH (dstsOf os) j=(os[j]?).bind (·.dst)
 | [],j=>by simp[dstsOf,GH]
 |o::os,0=>by simp[dstsOf,GH]
 |o::os,j+1=>by simp[dstsOf,GH,OM os j]
theorem ON(h:cn N0 w0 nt σ φ a w){ops:Array Oper}{o:Oper}{b:Bool}(hw:oB (dstsOf ops.toList) σ o.guard=some b):Region.wanted o (yielded ops a.tmps)=b:=by
 unfold oB at hw;unfold Region.wanted;split at hw
 · rename_i hg
   simp only[hg]
   simpa using hw
 · rename_i j want hg
   simp only[hg]
   rw[OM]at hw;unfold yielded;have uy:ops.toList[j]? =ops[j]? :=by simp
   rw[uy]at hw;cases hj:(ops[j]?).bind (·.dst)with
   |none=>simp[hj]at hw⊢;exact hw
   |some t=>
    rw[hj]at hw;simp only[aY]at hw⊢;have hs:=h.gj t;have ux:a.tmps.getD t undef=(a.tmps[t]?).getD undef:=by simp
    rw[ux]at hs;cases ht:look σ.s t<;>rw[ht]at hw hs<;>simp only at hw<;>try(simp at hw;done)
    case bool c=>
     simp only[bU]at hs;cases hq:a.tmps[t]? with
     |none=>simp[hq,undef]at hs
     |some v=>
      simp[hq]at hs;subst hs;simp at hw⊢;exact hw
    all_goals
     have hb:=an hw;subst hb;cases hq:a.tmps[t]? with
     |none=>rfl
     |some v=>
      simp only[hq,ib]at hs
      cases v<;>first
       |rfl
       |(exfalso
         simp only[bU]at hs
         first
          |(simp at hs;done)
          |(rcases hs with⟨_,_,_,_,_,_,hs⟩|⟨_,_,_,_,_,_,hs,_⟩<;>simp at hs;done)
          |(obtain⟨_,hs,_⟩:=hs;simp at hs;done)
          |(obtain⟨_,_,hs,_⟩:=hs;simp at hs;done)
          |(obtain⟨_,_,_,hs,_⟩:=hs;simp at hs;done)
          |(obtain⟨_,_,_,hs⟩:=hs;simp at hs;done))
theorem DW(yU:aN P Γ)(h:cn N0 w0 nt σ φ a w){ops:Array Oper}{i:Nat}{o:Oper}(ho:ops[i]? =some o)(hd: ∀t,o.dst=some t->t<nt){n:Nat}(z_:w0.fix=Γ.fix)(dR:eL P o.op=true->φ[n]? =some .free){jO:St}
 (hr:ew P Γ (dstsOf ops.toList) n o σ=some jO) {Q:Exit->Act->World->Prop} {K:Act->World->Prop}
 (hK: ∀j4 a' w',cn N0 w0 nt jO j4 a' w'->(∀m,m≠n->φ[m]? =some .free->j4[m]? =some .free)->K a' w'):wpOp P ops Q i K a w:=by
 unfold ew at hr;unfold wpOp;simp only[ho]
 cases hw:oB (dstsOf ops.toList) σ o.guard with
 |none=>simp[hw]at hr
 |some b=>
  rw[ON h hw]
  simp only[hw]at hr;cases b with
  |false=>
   simp at hr;subst hr;simp only[az,if_false]
   exact hK φ _ _ (h.put hd (B0 _)) (fun _ _ h=>h)
  |true=>
   simp only[if_true]at hr⊢;left;unfold Oper.wp;rcases OL yU h hd z_ dR hr with⟨v,w',j4,mo,hc,hf⟩|⟨f,args,mo,hcalls⟩
   · rcases mo with mo|⟨mo,rfl⟩
     · rw[mo];exact hK j4 _ _ hc hf
     · rw[mo];exact hK j4 _ _ hc hf
   · rw[mo]
     simp only[Oper.upon]
     refine Calls.mono hcalls ?_;rintro e w' ⟨v,j4,rfl,hc,hf⟩
     exact hK j4 _ _ hc hf
end
end Go.dF
namespace Go.dF
open Go.RowKit
def Kw(P:Program):Nat->Nat->List Oper->List (Nat×Nat×Oper)
 |_,_,[]=>[]
 |n,i,o::os=>(n,i,o)::Kw P (gI P o.op n) (i+1) os
def uz(P:Program)(Γ:aW)(ds:List (Option Tmp)):List (Nat×Nat×Oper)->St->Option St
 | [],σ=>some σ
 |x::xs,σ=>(ew P Γ ds x.1 x.2.2 σ).bind (uz P Γ ds xs)
theorem DX(P:Program)(Γ:aW)(ds:List (Option Tmp)): ∀(os:List Oper) (n i:Nat) (σ:St),oC P Γ ds os n σ=uz P Γ ds (Kw P n i os) σ
 | [],_,_,_=>rfl
 |o::os,n,i,σ=>by
  simp only[oC,Kw,uz]
  congr 1
  funext τ
  exact DX P Γ ds os _ (i+1) τ
theorem nxt_le(P:Program)(op:Op)(n:Nat):n<=gI P op n:=by unfold gI;split<;>omega
theorem OO(P:Program): ∀(os:List Oper) (n i:Nat) (x:Nat×Nat×Oper),x∈Kw P n i os->n<=x.1/\i<=x.2.1/\os[x.2.1-i]? =some x.2.2
 | [],_,_,x,h=>by simp[Kw]at h
 |o::os,n,i,x,h=>by
  simp only[Kw,aD]at h;rcases h with rfl|h
  · simp
  · obtain⟨h1,h2,h3⟩:=OO P os _ _ x h
    have:=nxt_le P o.op n;refine⟨by omega,by omega, ?_⟩
    rw[show x.2.1-i=(x.2.1-(i+1))+1 by omega]
    simpa using h3
theorem SC(P:Program): ∀(os:List Oper) (n i:Nat),(Kw P n i os).Pairwise (fun x y=>x.2.1<y.2.1/\(eL P x.2.2.op=true->x.1<y.1))
 | [],_,_=>by simp[Kw]
 |o::os,n,i=>by
  simp only[Kw,aR]
  refine⟨fun y hy=> ?_,SC P os _ _⟩
  obtain⟨h1,h2,_⟩:=OO P os _ _ y hy;refine⟨by show i<y.2.1;omega,fun ha=> ?_⟩
  have OP:eL P o.op=true:=ha;simp only[gI,OP,if_true]at h1;show n<y.1;omega
theorem Y_(P:Program): ∀(os:List Oper) (n i:Nat),(Kw P n i os).map (·.2.1)=(List.range os.length).map (i+ ·)
 | [],_,_=>by simp[Kw]
 |o::os,n,i=>by
  simp only[Kw,aS,aG,List.range_succ_eq_map,eD]
  rw[Y_ P os]
  simp;intro a _;omega
def iN(σ τ:St):Prop:=(∀d,look σ.s d=look τ.s d)/\σ.H=τ.H
theorem iN.refl(σ:St):iN σ σ:=⟨fun _=>rfl,rfl⟩
theorem iN.symm{σ τ:St}(h:iN σ τ):iN τ σ:=⟨fun d=>(h.1 d).symm,h.2.symm⟩
theorem iN.trans{σ τ ρ:St}(h:iN σ τ)(h':iN τ ρ):iN σ ρ:=⟨fun d=>(h.1 d).trans (h'.1 d),h.2.trans h'.2⟩
theorem iN.put{σ τ:St}(h:iN σ τ)(d:Option Tmp)(v:A):iN (σ.put d v) (τ.put d v):=by
 cases d with
 |none=>exact h
 |some d=>exact⟨fun t=>by simp only[St.put,look];split<;>first|rfl|exact h.1 t,h.2⟩
theorem iN.gD{σ τ:St}(h:iN σ τ)(n:Nat)(o:Obj):iN (σ.gD n o) (τ.gD n o):=⟨h.1,by simp only[St.gD,h.2]⟩
theorem iN.lC{σ τ:St}(h:iN σ τ)(n:Nat):iN (σ.lC n) (τ.lC n):=
 ⟨fun d=>by show look (σ.s.map fun p=>(p.1,jA n p.2)) d=look (τ.s.map fun p=>(p.1,jA n p.2)) d;rw[tC,tC,h.1 d],by simp only[St.lC,h.2]⟩
theorem iN.ev{σ τ:St}(h:iN σ τ)(x:Operand):σ.ev x=τ.ev x:=by
 cases x<;>simp only[St.ev]
 exact h.1 _
section
variable{P:Program}{Γ:aW}{σ τ:St}
theorem mR: ∀{xs:List Operand},(∀x∈xs,σ.ev x=τ.ev x)->σ.se xs=τ.se xs
 | [],_=>rfl
 |x::xs,h=>by simp only[St.se];rw[h x (by simp),mR (xs:=xs) fun y hy=>h y (by simp[hy])]
theorem vV{o:Option Operand}(h: ∀x,o=some x->σ.ev x=τ.ev x):σ.bd o=τ.bd o:=by
 cases o with
 |none=>rfl
 |some x=>simp only[St.bd];rw[h x rfl]
theorem sB{t:TypeId}: ∀{ps:List (Nat×Operand)} {zs:List A},(∀p∈ps,σ.ev p.2=τ.ev p.2)->pS P t σ ps zs=pS P t τ ps zs
 | [],_,_=>rfl
 |(i,x)::ps,zs,h=>by
  simp only[pS]
  rw[show σ.ev x=τ.ev x from h (i,x) (by simp)]
  split
  · congr 1
    funext M'
    exact sB fun p hp=>h p (by simp[hp])
  · rfl
theorem sC{t:TypeId}: ∀{ps:List (Nat×Operand)} {zs:List A},(∀p∈ps,σ.ev p.2=τ.ev p.2)->pT P t σ ps zs=pT P t τ ps zs
 | [],_,_=>rfl
 |(i,x)::ps,zs,h=>by
  simp only[pT]
  rw[show σ.ev x=τ.ev x from h (i,x) (by simp)]
  split
  · congr 1
    funext M'
    exact sC fun p hp=>h p (by simp[hp])
  · rfl
theorem sD{k:Nat}: ∀{ps:List (Nat×Operand)} {zs:List A},(∀p∈ps,σ.ev p.2=τ.ev p.2)->nR k σ ps zs=nR k τ ps zs
 | [],_,_=>rfl
 |(i,x)::ps,zs,h=>by
  simp only[nR]
  rw[show σ.ev x=τ.ev x from h (i,x) (by simp)]
  split
  · exact sD fun p hp=>h p (by simp[hp])
  · rfl
theorem DY{op:Op}(hH:σ.H=τ.H)(h: ∀x∈op.operands,σ.ev x=τ.ev x):u_ P σ op=u_ P τ op:=by
 unfold u_;split<;>simp only[Op.operands]at h
 · rw[h _ (by simp)]
 · rw[h _ (by simp)]
 · rw[h _ (by simp),h _ (by simp),h _ (by simp)]
 · rename_i t ps
   have hp: ∀p∈ps.toList,σ.ev p.2=τ.ev p.2:=fun p hp=>h p.2 (by simp only[List.mem_toArray,bZ];exact⟨p,hp,rfl⟩)
   unfold vA;split
   · split
     · rw[sC hp]
     · rw[sB hp]
   · rfl
 · rename_i t len ps
   have hp: ∀p∈ps.toList,σ.ev p.2=τ.ev p.2:=fun p hp=>h p.2 (by simp only[List.mem_toArray,bZ];exact⟨p,hp,rfl⟩)
   unfold kR;split
   · split
     · rw[sD hp]
     · rfl
   · rfl
 · rw[hH,h _ (by simp)]
 · rw[h _ (by simp)]
 · rw[h _ (by simp),h _ (by simp)]
 · rw[h _ (by simp)]
 · rw[hH,h _ (by simp)]
 · rename_i fn first captured
   rw[mR (xs:=first.toList) fun x hx=>h x (by simp at hx;simp[hx]),mR (xs:=captured.toList) fun x hx=>h x (by simp at hx;simp[hx])]
 · rename_i t x lo hi mx
   rw[h x (by simp),vV (o:=lo) fun y hy=>h y (by subst hy;simp),vV (o:=hi) fun y hy=>h y (by subst hy;simp),vV (o:=mx) fun y hy=>h y (by subst hy;simp)]
 · rw[h _ (by simp)]
 · rw[h _ (by simp)]
 · rw[h _ (by simp),h _ (by simp)]
 · rw[h _ (by simp),h _ (by simp)]
 · rw[h _ (by simp)]
 · rw[h _ (by simp[Call.operands])]
 · rw[mR fun x hx=>h x (by simp[Call.operands,hx])]
 · rw[mR fun x hx=>h x (by simp[Call.operands,hx])]
 · rfl
def fg(P:Program)(Γ:aW):Op->Bool
 | .alloc _=>false
 | .box _ _=>false
 | .store _ _ _=>false
 | .convert src dst _=> !Af P src dst
 | .call ⟨.builtin .append,_,_⟩=>false
 | .call ⟨.builtin .clear,_,_⟩=>false
 | .call ⟨.value f,_,_⟩=> !GD Γ f
 |_=>true
def Y'(Γ:aW)(H:List Obj)(f:A)(aq:List A):Option A:=
 match f with
 | .fn g o7=>(mX H (aq++o7)).bind fun bs=>(Γ.f g bs).bind fun r=>if(A.pure.cX (aq++o7)||r.flat)=true then some r else none
 |_=>none
def xX(P:Program)(Γ:aW)(σ:St)(op:Op):Option A:=
 match op with
 | .call ⟨.value f,⟨xs⟩,_⟩=>Y' Γ σ.H (σ.ev f) (σ.se xs)
 |op=>u_ P σ op
theorem callV_eq{d:Option Tmp}{f:A}{aq:List A}:GF Γ σ d f aq=(Y' Γ σ.H f aq).map (σ.put d):=by
 cases f<;>simp only[GF,Y',R4,eQ]
 rename_i g o7;cases mX σ.H (aq++o7)with
 |none=>rfl
 |some bs=>
  simp only[aY]
  cases Γ.f g bs with
  |none=>rfl
  |some r=>simp only[aY];split<;>rfl
theorem Au{n:Nat}{d:Option Tmp}{op:Op}(h:fg P Γ op=true):execOp P Γ n d op σ=(xX P Γ σ op).map (σ.put d):=by
 unfold execOp;split
 · simp[fg]at h
 · simp[fg]at h
 · simp[fg]at h
 · rename_i src dst x
   simp only[fg,bT]at h;simp only[DC,h,az,if_false,xX,u_]
 · simp[fg]at h
 · simp[fg]at h
 · rename_i f xs us
   have hf:GD Γ f=false:=by simpa[fg]using h
   rw[if_neg (by simp[hf])]
   exact callV_eq
 · rename_i h1 h2 h3 h4 h5 h5' h6
   unfold xX;split
   · rename_i f xs us
     exact absurd rfl (h6 f xs us)
   · rfl
theorem yV{op:Op}(hH:σ.H=τ.H)(h: ∀x∈op.operands,σ.ev x=τ.ev x):xX P Γ σ op=xX P Γ τ op:=by
 unfold xX;split
 · simp only[Op.operands]at h
   rw[hH,h _ (by simp[Call.operands]),mR fun x hx=>h x (by simp[Call.operands,hx])]
 · exact DY hH h
theorem nW{ops:Array Oper}{o:Oper}(h: ∀t∈o.looksAt ops,look σ.s t=look τ.s t):oB (dstsOf ops.toList) σ o.guard=oB (dstsOf ops.toList) τ o.guard:=by
 unfold oB;split
 · rfl
 · rename_i j want hg
   rw[OM]
   have uy:ops.toList[j]? =ops[j]? :=by simp
   rw[uy]
   cases hj:(ops[j]?).bind (·.dst)with
   |none=>rfl
   |some t=>
    simp only;rw[h t (by simp[Oper.looksAt,hg,hj])]
theorem vW{ops:Array Oper}{o:Oper}(h: ∀t∈o.looksAt ops,look σ.s t=look τ.s t): ∀x∈o.op.operands,σ.ev x=τ.ev x:=fun x hx=>by
 cases x<;>simp only[St.ev]
 rename_i t;exact h t (List.mem_append_left _ (jJ.2 ⟨.tmp t,by simpa using hx,rfl⟩))
def vq(P:Program)(Γ:aW)(ds:List (Option Tmp))(o:Oper)(σ:St):Option A:=
 match oB ds σ o.guard with
 |none=>none
 |some true=>xX P Γ σ o.op
 |some false=>some (.fq [])
theorem fU{ds:List (Option Tmp)}{n:Nat}{o:Oper}(h:fg P Γ o.op=true):ew P Γ ds n o σ=(vq P Γ ds o σ).map (σ.put o.dst):=by
 unfold ew vq;cases oB ds σ o.guard with
 |none=>rfl
 |some b=>
  cases b with
  |true=>simp only[if_true];exact Au h
  |false=>rfl
theorem yW{ops:Array Oper}{o:Oper}(hH:σ.H=τ.H)(h: ∀t∈o.looksAt ops,look σ.s t=look τ.s t):vq P Γ (dstsOf ops.toList) o σ=vq P Γ (dstsOf ops.toList) o τ:=by unfold vq;rw[nW h,yV hH (vW h)]
theorem yx(d:Option Tmp)(v:A):(σ.put d v).H=σ.H:=by cases d<;>rfl
theorem pW{d:Option Tmp}{v:A}{t:Tmp}(h: ∀e,d=some e->e≠t):look (σ.put d v).s t=look σ.s t:=by
 cases d with
 |none=>rfl
 |some e=>simp only[St.put,look];rw[if_neg (h e rfl)]
theorem put_comm{x y:Option Tmp}{v u:A}(h: ∀d,x=some d->y≠some d):iN ((σ.put x v).put y u) ((σ.put y u).put x v):=by
 cases x with
 |none=>exact iN.refl _
 |some d=>
  cases y with
  |none=>exact iN.refl _
  |some e=>
   have eH:d≠e:=fun he=>h d rfl (he▸rfl)
   refine⟨fun t=> ?_,rfl⟩
   simp only[St.put,look]
   by_cases h1:e=t
   · subst h1;simp[eH]
   · simp[h1]
theorem swap1{ops:Array Oper}{n m:Nat}{y x:Oper}(hy:fg P Γ y.op=true)(hx:fg P Γ x.op=true)(hap:y.apart ops x=true){yX σ2:St}
 (h1:ew P Γ (dstsOf ops.toList) n y σ=some yX) (h2:ew P Γ (dstsOf ops.toList) m x yX=some σ2):
 ∃sY tG,ew P Γ (dstsOf ops.toList) m x σ=some sY/\ew P Γ (dstsOf ops.toList) n y sY=some tG/\iN σ2 tG:=by
 obtain⟨a1,a2,a3⟩:=Oper.apart_spec hap;rw[fU hy]at h1;rw[fU hx]at h2;cases hv:vq P Γ (dstsOf ops.toList) y σ with
 |none=>simp[hv]at h1
 |some v=>
  simp[hv]at h1;subst h1;cases hu:vq P Γ (dstsOf ops.toList) x (σ.put y.dst v)with
  |none=>simp[hu]at h2
  |some u=>
   simp[hu]at h2;subst h2
   have V5:vq P Γ (dstsOf ops.toList) x σ=some u:=by
    rw[<-hu]
    exact yW (yx _ _).symm fun t ht=>(pW fun e he e'=>a1 e he (e'▸ht)).symm
   have B4:vq P Γ (dstsOf ops.toList) y (σ.put x.dst u)=some v:=by
    rw[<-hv]
    exact yW (yx _ _) fun t ht=>pW fun e he e'=>a3 e he (e'▸ht)
   refine⟨σ.put x.dst u,(σ.put x.dst u).put y.dst v,by rw[fU hx,V5];rfl,by rw[fU hy,B4];rfl, ?_⟩
   exact put_comm a2
theorem Hd{ρ:List Nat}{m:Nat}: ∀{S:List Nat} {σ τ:St},iN σ τ->iN (ij ρ m σ S) (ij ρ m τ S)
 | [],_,_,h=>h
 |i::is,_,_,h=>by simp only[ij];exact Hd (h.lC _)
theorem Wb(hs:iN σ τ){d:Option Tmp}{f:A}{aq:List A}{jO:St}(h:vC Γ σ d f aq=some jO): ∃vX,vC Γ τ d f aq=some vX/\iN jO vX:=by
 cases f<;>simp only[vC]at h⊢ <;>try(simp at h;done)
 unfold R5 yQ at h⊢;rw[<-hs.2]
 generalize reach σ.H 64 _ []=ρ at h⊢;obtain⟨as',h1,h⟩:=bL.1 h;obtain⟨fc,h2,h⟩:=bL.1 h;simp only[h1,h2,aY]
 split at h
 · rename_i hfz
   rw[if_pos hfz]
   split at h
   · rename_i z_
     rw[if_pos z_]
     obtain⟨bs,h3,h⟩:=bL.1 h;obtain⟨r,h4,rfl⟩:=aM.1 h;simp only[h3,aY,h4,dT,bf]
     refine⟨_,rfl, ?_⟩
     unfold Ox;refine iN.put ⟨fun t=> ?_,by simp only[hs.2]⟩ d r;show look (σ.s.map fun p=>(p.1,sh ρ fc p.2)) t=look (τ.s.map fun p=>(p.1,sh ρ fc p.2)) t;rw[As,As,hs.1 t]
   · simp at h
 · rename_i hfz
   rw[if_neg hfz]
   obtain⟨⟨r,H',S⟩,h3,h⟩:=bL.1 h;simp only[h3,aY]
   split at h
   · rename_i hm
     rw[if_pos hm]
     obtain rfl:=an h;refine⟨_,rfl, ?_⟩
     unfold GG;have e:=Hd (ρ:=ρ) (m:=σ.H.length) (S:=S) hs
     show iN (St.put ⟨(ij ρ σ.H.length σ S).s,sx ρ σ.H.length ρ H' (ij ρ σ.H.length σ S).H⟩ d (r.back ρ σ.H.length))
      (St.put ⟨(ij ρ τ.H.length τ S).s,sx ρ τ.H.length ρ H' (ij ρ τ.H.length τ S).H⟩ d (r.back ρ τ.H.length))
     rw[show r.back ρ τ.H.length=r.back ρ σ.H.length by rw[hs.2]]
     refine iN.put ⟨fun t=> ?_, ?_⟩ d _
     · show look (ij ρ σ.H.length σ S).s t=look (ij ρ τ.H.length τ S).s t
       rw[<-hs.2];exact e.1 t
     · show sx ρ σ.H.length ρ H' (ij ρ σ.H.length σ S).H=sx ρ τ.H.length ρ H' (ij ρ τ.H.length τ S).H
       rw[<-hs.2,e.2]
   · simp at h
def fJ:Op->Bool
 | .alloc _=>true
 | .box _ _=>true
 |_=>false
def vY(P:Program)(ds:List (Option Tmp))(n:Nat)(o:Oper)(σ:St):Option (Option Obj×A):=
 match oB ds σ o.guard with
 |none=>none
 |some false=>some (none,.fq [])
 |some true=>
  match o.op with
  | .alloc t=>(iR P t).bind fun z=>if z.val=true then some (some (.box z.cells),.ref n 0)else none
  | .box _ x=>if(σ.ev x).val=true then some (some (.box (σ.ev x).cells),.ref n 0)else none
  |_=>none
def vr(σ:St)(n:Nat):Option Obj->St
 |some o=>σ.gD n o
 |none=>σ
theorem lf{ds:List (Option Tmp)}{n:Nat}{o:Oper}(h:fJ o.op=true):ew P Γ ds n o σ=(vY P ds n o σ).map fun x=>(vr σ n x.1).put o.dst x.2:=by
 unfold ew vY;cases oB ds σ o.guard with
 |none=>rfl
 |some b=>
  cases b with
  |false=>rfl
  |true=>
   simp only[if_true]
   cases ho:o.op<;>rw[ho]at h<;>simp[fJ]at h
   · simp only[execOp]
     cases iR P _ with
     |none=>rfl
     |some z=>simp only[ud,BT,aY];split<;>rfl
   · simp only[execOp,BT];split<;>rfl
theorem uA{ops:Array Oper}{n:Nat}{o:Oper}(h: ∀t∈o.looksAt ops,look σ.s t=look τ.s t):vY P (dstsOf ops.toList) n o σ=vY P (dstsOf ops.toList) n o τ:=by
 unfold vY;rw[nW h]
 cases oB (dstsOf ops.toList) τ o.guard with
 |none=>rfl
 |some b=>
  cases b with
  |false=>rfl
  |true=>
   simp only;cases ho:o.op<;>try rfl
   rename_i t x;have:=vW h x (by rw[ho];simp[Op.operands])
   simp only[this]
def yY(H H':List Obj)(n:Nat):Prop:=ff H n=some (.row 0 [])/\ ∀m,m≠n->ff H' m=ff H m
theorem yY.lay{H:List Obj}{n:Nat}(h:ff H n=some (.row 0 []))(o:Obj):yY H (qe H n o) n:=
 ⟨h,fun m hm=>by rw[ji,dQ,dQ,cC (fw hm)]⟩
section
variable{H H':List Obj}{n:Nat}
theorem OQ(h:yY H H' n){m off k len:Nat}{y:A}(hv:mb H m off k len=some y):mb H' m off k len=some y:=by
 by_cases hm:m=n
 · subst hm
   unfold mb at hv;rw[h.1]at hv;simp only at hv;split at hv
   · rename_i hc;omega
   · cases hv
 · unfold mb at hv⊢
   rw[h.2 m hm];exact hv
theorem He(h:yY H H' n){x y:A}(hv:pd H x=some y):pd H' x=some y:=by cases x<;>simp only[pd]at hv⊢ <;>first|exact hv|exact OQ h hv
theorem vZ(h:yY H H' n): ∀{xs ys:List A},jS H xs=some ys->jS H' xs=some ys
 | [],_,hv=>by simpa only[jS]using hv
 |x::xs,ys,hv=>by simp only[jS]at hv⊢;obtain⟨y,h1,hv⟩:=bL.1 hv;obtain⟨zs,h2,rfl⟩:=aM.1 hv;rw[He h h1,vZ h h2];rfl
theorem Hf(h:yY H H' n){x y:A}(hv:ry H x=some y):ry H' x=some y:=by
 cases x<;>simp only[ry]at hv⊢ <;>try exact He h hv
 · obtain⟨zs,h2,rfl⟩:=aM.1 hv
   rw[vZ h h2];rfl
 · rename_i m off
   by_cases hm:m=n
   · subst hm;rw[h.1]at hv;cases hv
   · rw[h.2 m hm]
     split at hv
     · obtain⟨zs,h2,rfl⟩:=aM.1 hv
       simp only[vZ h h2];rfl
     · cases hv
 · rename_i m i off
   by_cases hm:m=n
   · subst hm;rw[h.1]at hv;simp at hv
   · rw[h.2 m hm];exact hv
theorem DZ(h:yY H H' n): ∀{xs ys:List A},nE H xs=some ys->nE H' xs=some ys
 | [],_,hv=>by simpa only[nE]using hv
 |x::xs,ys,hv=>by simp only[nE]at hv⊢;obtain⟨y,h1,hv⟩:=bL.1 hv;obtain⟨zs,h2,rfl⟩:=aM.1 hv;rw[Hf h h1,DZ h h2];rfl
theorem Ng(h:yY H H' n){x y:A}(hv:view H x=some y):view H' x=some y:=by
 cases x<;>simp only[view]at hv⊢ <;>try exact Hf h hv
 obtain⟨zs,h2,rfl⟩:=aM.1 hv;rw[DZ h h2];rfl
theorem Hg(h:yY H H' n): ∀{xs ys:List A},mX H xs=some ys->mX H' xs=some ys
 | [],_,hv=>by simpa only[mX]using hv
 |x::xs,ys,hv=>by simp only[mX]at hv⊢;obtain⟨y,h1,hv⟩:=bL.1 hv;obtain⟨zs,h2,rfl⟩:=aM.1 hv;rw[Ng h h1,Hg h h2];rfl
theorem Wc(h:yY H H' n){t:TypeId}{x y:A}(hv:yo P t H x=some y):yo P t H' x=some y:=by
 unfold yo at hv⊢;split at hv
 · exact hv
 · rename_i m off
   by_cases hm:m=n
   · subst hm;rw[h.1]at hv;simp at hv
   · simp only[h.2 m hm];exact hv
 · rename_i m i off
   by_cases hm:m=n
   · subst hm;rw[h.1]at hv;simp at hv
   · simp only[h.2 m hm];exact hv
 · cases hv
theorem Wd(h:yY H H' n){b:Bool}{x y:A}(hv:rz b (view H x)=some y):rz b (view H' x)=some y:=by
 cases hx:view H x with
 |none=>rw[hx]at hv;cases b<;>simp[rz]at hv
 |some z=>rw[hx]at hv;rw[Ng h hx];exact hv
theorem We(h:yY H H' n){s d:TypeId}{x y:A}(hv:tn P s d H x=some y):tn P s d H' x=some y:=by cases x<;>simp only[tn]at hv⊢ <;>first|exact hv|exact Wd h hv
theorem valX_more(h:yY H H' n){s:List (Nat×A)}{op:Op}{y:A}(hv:xX P Γ ⟨s,H⟩ op=some y):xX P Γ ⟨s,H'⟩ op=some y:=by
 have EB: ∀x:Operand,(St.mk s H').ev x=(St.mk s H).ev x:=fun x=>by cases x<;>rfl
 have hevL: ∀xs:List Operand,(St.mk s H').se xs=(St.mk s H).se xs:=fun xs=>mR fun x _=>EB x;have hbd: ∀x:Option Operand,(St.mk s H').bd x=(St.mk s H).bd x:=fun x=>vV fun y _=>EB y;have hfS: ∀(t:TypeId) (ps:List (Nat×Operand)) (zs:List A),pS P t ⟨s,H'⟩ ps zs=pS P t ⟨s,H⟩ ps zs:=fun t ps zs=>sB fun p _=>EB p.2;have hfA: ∀(t:TypeId) (ps:List (Nat×Operand)) (zs:List A),pT P t ⟨s,H'⟩ ps zs=pT P t ⟨s,H⟩ ps zs:=fun t ps zs=>sC fun p _=>EB p.2;have hfE: ∀(k:Nat) (ps:List (Nat×Operand)) (zs:List A),nR k ⟨s,H'⟩ ps zs=nR k ⟨s,H⟩ ps zs:=fun k ps zs=>sD fun p _=>EB p.2;unfold xX at hv⊢;split at hv
 · simp only[EB,hevL]
   unfold Y' at hv⊢;split at hv
   · rename_i g o7 hf
     obtain⟨bs,h1,hv⟩:=bL.1 hv;simp only[Hg h h1,aY]
     exact hv
   · cases hv
 · unfold u_ at hv⊢
   split at hv<;>(try simp only[EB,hevL,hbd,vA,kR,hfS,hfA,hfE]at hv⊢)<;>first
    |exact hv
    |exact Wc h hv
    |exact We h hv
end
theorem val1_more{n:Nat}{H':List Obj}(h:yY σ.H H' n){ops:Array Oper}{o:Oper}{y:A}(hv:vq P Γ (dstsOf ops.toList) o σ=some y):vq P Γ (dstsOf ops.toList) o ⟨σ.s,H'⟩=some y:=by
 unfold vq at hv⊢;rw[nW (σ:=⟨σ.s,H'⟩) (τ:=σ) (ops:=ops) (o:=o) fun t _=>rfl]
 cases hw:oB (dstsOf ops.toList) σ o.guard with
 |none=>rw[hw]at hv;cases hv
 |some b=>
  rw[hw]at hv;cases b with
  |false=>exact hv
  |true=>exact valX_more (P:=P) (Γ:=Γ) h (s:=σ.s) hv
theorem layO_s(n:Nat)(o:Option Obj):(vr σ n o).s=σ.s:=by cases o<;>rfl
theorem SD(n:Nat)(o:Option Obj)(d:Option Tmp)(v:A):vr (σ.put d v) n o=(vr σ n o).put d v:=by cases o<;>cases d<;>rfl
theorem swapA{ops:Array Oper}{n m:Nat}{y x:Oper}(hy:fg P Γ y.op=true)(hx:fJ x.op=true)(hap:y.apart ops x=true)(hn:ff σ.H m=some (.row 0 [])){yX σ2:St}
 (h1:ew P Γ (dstsOf ops.toList) n y σ=some yX) (h2:ew P Γ (dstsOf ops.toList) m x yX=some σ2):
 ∃sY tG,ew P Γ (dstsOf ops.toList) m x σ=some sY/\ew P Γ (dstsOf ops.toList) n y sY=some tG/\iN σ2 tG:=by
 obtain⟨a1,a2,a3⟩:=Oper.apart_spec hap;rw[fU hy]at h1;rw[lf hx]at h2;obtain⟨v,hv,rfl⟩:=aM.1 h1;obtain⟨⟨o,u⟩,hu,rfl⟩:=aM.1 h2
 have V5:vY P (dstsOf ops.toList) m x σ=some (o,u):=by
  rw[<-hu]
  exact uA fun t ht=>(pW fun e he e'=>a1 e he (e'▸ht)).symm
 have hv1:vq P Γ (dstsOf ops.toList) y (vr σ m o)=some v:=by
  cases o with
  |none=>exact hv
  |some o=>exact val1_more (P:=P) (Γ:=Γ) (n:=m) (yY.lay hn o) hv
 have B4:vq P Γ (dstsOf ops.toList) y ((vr σ m o).put x.dst u)=some v:=by
  rw[<-hv1]
  exact yW (yx _ _) fun t ht=>pW fun e he e'=>a3 e he (e'▸ht)
 refine⟨(vr σ m o).put x.dst u,((vr σ m o).put x.dst u).put y.dst v,by rw[lf hx,V5];rfl,by rw[fU hy,B4];rfl, ?_⟩
 simp only[SD]
 exact put_comm a2
theorem swapAA{ops:Array Oper}{n m:Nat}{y x:Oper}(hy:fJ y.op=true)(hx:fJ x.op=true)(hap:y.apart ops x=true)(eH:n≠m){yX σ2:St}
 (h1:ew P Γ (dstsOf ops.toList) n y σ=some yX) (h2:ew P Γ (dstsOf ops.toList) m x yX=some σ2):
 ∃sY tG,ew P Γ (dstsOf ops.toList) m x σ=some sY/\ew P Γ (dstsOf ops.toList) n y sY=some tG/\iN σ2 tG:=by
 obtain⟨a1,a2,a3⟩:=Oper.apart_spec hap;rw[lf hy]at h1;rw[lf hx]at h2;obtain⟨⟨p,v⟩,hv,rfl⟩:=aM.1 h1;obtain⟨⟨o,u⟩,hu,rfl⟩:=aM.1 h2
 have V5:vY P (dstsOf ops.toList) m x σ=some (o,u):=by
  rw[<-hu]
  refine uA fun t ht=> ?_;rw[pW fun e he e'=>a1 e he (e'▸ht),layO_s]
 have B4:vY P (dstsOf ops.toList) n y ((vr σ m o).put x.dst u)=some (p,v):=by
  rw[<-hv]
  refine uA fun t ht=> ?_;rw[pW fun e he e'=>a3 e he (e'▸ht),layO_s]
 refine⟨(vr σ m o).put x.dst u,(vr ((vr σ m o).put x.dst u) n p).put y.dst v,by rw[lf hx,V5];rfl,by rw[lf hy,B4];rfl, ?_⟩
 simp only[SD]
 have hc:vr (vr σ m o) n p=vr (vr σ n p) m o:=by
  cases o<;>cases p<;>try rfl
  simp only[vr,St.gD,ji]
  rw[List.set_comm _ _ (fw eH)]
 rw[hc]
 exact put_comm a2
theorem Av{ds:List (Option Tmp)}{n m:Nat}{o:Oper}(h:fJ o.op=true)(eH:n≠m){jO:St}(hr:ew P Γ ds n o σ=some jO):ff jO.H m=ff σ.H m:=by
 rw[lf h]at hr;obtain⟨⟨p,v⟩,_,rfl⟩:=aM.1 hr;rw[yx]
 cases p with
 |none=>rfl
 |some p=>simp only[vr,St.gD,ji,dQ];rw[cC eH]
def v_:Op->Bool
 | .alloc _=>false
 | .box _ _=>false
 | .store _ _ _=>false
 | .convert _ _ _=>false
 | .load _ _=>false
 | .call ⟨.builtin .append,_,_⟩=>false
 | .call ⟨.builtin .clear,_,_⟩=>false
 | .call ⟨.value _,_,_⟩=>false
 |_=>true
theorem wa{op:Op}(h:v_ op=true):fg P Γ op=true:=by unfold v_ at h;unfold fg;split at h<;>simp_all
theorem Wf{op:Op}(hl:v_ op=true)(h: ∀x∈op.operands,σ.ev x=τ.ev x):xX P Γ σ op=xX P Γ τ op:=by
 have h1:xX P Γ ⟨σ.s,τ.H⟩ op=xX P Γ τ op:=yV rfl fun x hx=>by rw[<-h x hx];cases x<;>rfl
 rw[<-h1]
 unfold xX;split
 · simp[v_]at hl
 · unfold u_
   have EB: ∀x:Operand,(St.mk σ.s τ.H).ev x=σ.ev x:=fun x=>by cases x<;>rfl
   have hevL: ∀xs:List Operand,(St.mk σ.s τ.H).se xs=σ.se xs:=fun xs=>mR fun x _=>EB x;have hbd: ∀x:Option Operand,(St.mk σ.s τ.H).bd x=σ.bd x:=fun x=>vV fun y _=>EB y;have hfS: ∀(t:TypeId) (ps:List (Nat×Operand)) (zs:List A),pS P t ⟨σ.s,τ.H⟩ ps zs=pS P t σ ps zs:=fun t ps zs=>sB fun p _=>EB p.2;have hfA: ∀(t:TypeId) (ps:List (Nat×Operand)) (zs:List A),pT P t ⟨σ.s,τ.H⟩ ps zs=pT P t σ ps zs:=fun t ps zs=>sC fun p _=>EB p.2;have hfE: ∀(k:Nat) (ps:List (Nat×Operand)) (zs:List A),nR k ⟨σ.s,τ.H⟩ ps zs=nR k σ ps zs:=fun k ps zs=>sD fun p _=>EB p.2
   split<;>first
    |rfl
    |(simp[v_]at hl;done)
    |simp only[EB,hevL,hbd,vA,kR,hfS,hfA,hfE]
theorem Wg{ops:Array Oper}{o:Oper}(hl:v_ o.op=true)(h: ∀t∈o.looksAt ops,look σ.s t=look τ.s t):vq P Γ (dstsOf ops.toList) o σ=vq P Γ (dstsOf ops.toList) o τ:=by unfold vq;rw[nW h,Wf hl (vW h)]
def sF:Op->Bool
 | .store _ _ _=>true
 |_=>false
def Hh(H:List Obj)(size:Option Nat)(a v:A):Option (Nat×Obj):=
 match a with
 | .ref n off=>
  match ff H n with
  |some (.box cs)=>if size=some v.cells.length/\off+v.cells.length<=cs.length/\v.val=true then some (n,.box (jI cs off v.cells))else none
  |_=>none
 | .mu n i off=>
  match ff H n with
  |some (.row k es)=>(es[i]?).bind fun e=>if size=some v.cells.length/\off+v.cells.length<=e.cells.length/\v.cells.length≠0/\v.val=true/\v.pure=true then some (n,.row k (fE es i (rE e off v)))else none
  |_=>none
 |_=>none
theorem storeA_eq{d:Option Tmp}{size:Option Nat}{a v:A}:ue σ d size a v=(Hh σ.H size a v).map fun x=>(σ.gD x.1 x.2).put d (.fq []):=by
 cases a<;>simp only[ue,Hh,eQ]
 · rename_i n off
   cases ff σ.H n with
   |none=>rfl
   |some o=>cases o<;>simp only[eQ]<;>split<;>rfl
 · rename_i n i off
   cases ff σ.H n with
   |none=>rfl
   |some o=>
    cases o<;>simp only[eQ]
    rename_i k es;cases es[i]? with
    |none=>rfl
    |some e=>simp only[aY];split<;>rfl
def yZ(P:Program)(ds:List (Option Tmp))(o:Oper)(σ:St):Option (Option (Nat×Obj)):=
 match oB ds σ o.guard with
 |none=>none
 |some false=>some none
 |some true=>
  match o.op with
  | .store t a x=>(Hh σ.H (cW P t) (σ.ev a) (σ.ev x)).map some
  |_=>none
def Hi(σ:St):Option (Nat×Obj)->St
 |some x=>σ.gD x.1 x.2
 |none=>σ
theorem uB{ds:List (Option Tmp)}{n:Nat}{o:Oper}(h:sF o.op=true):ew P Γ ds n o σ=(yZ P ds o σ).map fun x=>(Hi σ x).put o.dst (.fq []):=by
 unfold ew yZ;cases oB ds σ o.guard with
 |none=>rfl
 |some b=>
  cases b with
  |false=>rfl
  |true=>
   simp only[if_true]
   cases ho:o.op<;>rw[ho]at h<;>simp[sF]at h
   simp only[execOp,storeA_eq]
   cases Hh σ.H _ _ _<;>rfl
theorem OR{ops:Array Oper}{o:Oper}(hH:σ.H=τ.H)(h: ∀t∈o.looksAt ops,look σ.s t=look τ.s t):yZ P (dstsOf ops.toList) o σ=yZ P (dstsOf ops.toList) o τ:=by
 unfold yZ;rw[nW h]
 cases oB (dstsOf ops.toList) τ o.guard with
 |none=>rfl
 |some b=>
  cases b with
  |false=>rfl
  |true=>
   simp only;cases ho:o.op<;>try rfl
   rename_i t x y;have h1:=vW h x (by rw[ho];simp[Op.operands])
   have h2:=vW h y (by rw[ho];simp[Op.operands])
   simp only[h1,h2,hH]
theorem setO1_s(o:Option (Nat×Obj)):(Hi σ o).s=σ.s:=by cases o<;>rfl
theorem setO1_put(o:Option (Nat×Obj))(d:Option Tmp)(v:A):Hi (σ.put d v) o=(Hi σ o).put d v:=by cases o<;>cases d<;>rfl
theorem swapS{ops:Array Oper}{n m:Nat}{y x:Oper}(hy:v_ y.op=true)(hx:sF x.op=true)(hap:y.apart ops x=true){yX σ2:St}
 (h1:ew P Γ (dstsOf ops.toList) n y σ=some yX) (h2:ew P Γ (dstsOf ops.toList) m x yX=some σ2):
 ∃sY tG,ew P Γ (dstsOf ops.toList) m x σ=some sY/\ew P Γ (dstsOf ops.toList) n y sY=some tG/\iN σ2 tG:=by
 obtain⟨a1,a2,a3⟩:=Oper.apart_spec hap;rw[fU (wa hy)]at h1;rw[uB hx]at h2;obtain⟨v,hv,rfl⟩:=aM.1 h1;obtain⟨o,hu,rfl⟩:=aM.1 h2
 have V5:yZ P (dstsOf ops.toList) x σ=some o:=by
  rw[<-hu]
  exact OR (yx _ _).symm fun t ht=>(pW fun e he e'=>a1 e he (e'▸ht)).symm
 have B4:vq P Γ (dstsOf ops.toList) y ((Hi σ o).put x.dst (.fq []))=some v:=by
  rw[<-hv]
  refine Wg hy fun t ht=> ?_;rw[pW fun e he e'=>a3 e he (e'▸ht),setO1_s]
 refine⟨(Hi σ o).put x.dst (.fq []),((Hi σ o).put x.dst (.fq [])).put y.dst v,by rw[uB hx,V5];rfl,by rw[fU (wa hy),B4];rfl, ?_⟩
 simp only[setO1_put]
 exact put_comm a2
theorem Wh{n:Nat}{d:Option Tmp}{op:Op}(hs:iN σ τ){jO:St}(h:execOp P Γ n d op σ=some jO): ∃vX,execOp P Γ n d op τ=some vX/\iN jO vX:=by
 by_cases hp:fg P Γ op=true
 · rw[Au hp]at h⊢
   rw[<-yV hs.2 (fun x _=>hs.ev x)]
   cases hv:xX P Γ σ op with
   |none=>simp[hv]at h
   |some v=>
    simp[hv]at h;subst h;exact⟨_,rfl,hs.put d v⟩
 · have hbox: ∀x:A,BT σ n d x=some jO-> ∃vX,BT τ n d x=some vX/\iN jO vX:=fun x h=>by
    unfold BT at h⊢;split at h
    · rename_i hv
      obtain rfl:=an h;rw[if_pos hv]
      exact⟨_,rfl,(hs.gD n _).put d _⟩
    · simp at h
   unfold execOp at h⊢;split at h
   · cases hz:iR P _ with
     |none=>rw[hz]at h;simp[ud]at h
     |some z=>rw[hz]at h;simp only[ud]at h⊢;exact hbox z h
   · simp only[<-hs.ev];exact hbox _ h
   · simp only[<-hs.ev]
     unfold ue at h⊢;split at h
     · simp only[<-hs.2]
       split at h
       · split at h
         · rename_i hc
           obtain rfl:=an h;rw[if_pos hc]
           exact⟨_,rfl,(hs.gD _ _).put d _⟩
         · simp at h
       · simp at h
     · simp only[<-hs.2]
       split at h
       · rename_i k es ho
         obtain⟨e,he,h⟩:=bL.1 h;simp only[he,aY]
         split at h
         · rename_i hc
           obtain rfl:=an h;rw[if_pos hc]
           exact⟨_,rfl,(hs.gD _ _).put d _⟩
         · simp at h
       · simp at h
     · simp at h
   · simp only[<-hs.ev]
     unfold DC at h⊢;split at h
     · rename_i hb
       rw[if_pos hb]
       split at h
       · obtain rfl:=an h
         exact⟨_,rfl,(hs.gD _ _).put d _⟩
       · simp at h
     · rename_i hb
       rw[if_neg hb,<-hs.2]
       cases hv:tn P _ _ σ.H (σ.ev _)with
       |none=>simp[hv]at h
       |some v=>
        simp[hv]at h;subst h;exact⟨_,rfl,hs.put d v⟩
   · simp only[<-hs.ev]
     unfold xm at h⊢;split at h
     · split at h
       · split at h
         · simp at h
         · rename_i hc
           rw[if_neg hc]
           have EA: ∀e tx k x,Es P σ e tx k x=Es P τ e tx k x:=fun e tx k x=>by unfold Es;rw[hs.2]
           rw[<-EA]
           cases hv:Es P σ _ _ _ (σ.ev _)with
           |none=>simp[hv]at h
           |some src=>
            simp only[hv,aY]at h⊢;unfold uc at h⊢;split at h
            · split at h
              · rename_i hq
                obtain rfl:=an h;rw[if_pos hq]
                exact⟨_,rfl,(hs.gD _ _).put d _⟩
              · simp at h
            · split at h
              · rename_i hq
                obtain rfl:=an h;rw[if_pos hq]
                exact⟨_,rfl,(hs.gD _ _).put d _⟩
              · simp at h
            · simp only[<-hs.2]
              split at h
              · split at h
                · rename_i hq
                  rw[if_pos hq]
                  split at h
                  · rename_i o6
                    rw[if_pos o6]
                    split at h
                    · simp at h
                    · rename_i eH
                      obtain rfl:=an h;rw[if_neg eH]
                      exact⟨_,rfl,(hs.gD _ _).put d _⟩
                  · rename_i o6
                    rw[if_neg o6]
                    split at h
                    · simp at h
                    · rename_i RJ
                      obtain rfl:=an h;rw[if_neg RJ]
                      exact⟨_,rfl,((hs.lC _).gD _ _).put d _⟩
                · simp at h
              · simp at h
            · simp at h
       · simp at h
     · simp at h
   · simp only[<-hs.ev]
     unfold BU at h⊢;simp only[<-hs.2]
     split at h
     · split at h
       · split at h
         · split at h
           · split at h
             · rename_i hc
               obtain rfl:=an h;rw[if_pos hc]
               exact⟨_,rfl,(hs.gD _ _).put d _⟩
             · simp at h
           · simp at h
         · simp at h
       · simp at h
     · simp at h
   · rename_i f xs us
     have hf:GD Γ f=true:=by simpa[fg]using hp
     rw[if_pos hf]at h⊢;simp only[<-hs.ev,<-mR (σ:=σ) (τ:=τ) (fun x _=>hs.ev x)]
     exact Wb hs h
   · rw[<-DY hs.2 (fun x _=>hs.ev x)]
     cases hv:u_ P σ op with
     |none=>simp[hv]at h
     |some v=>
      simp[hv]at h;subst h;exact⟨_,rfl,hs.put d v⟩
theorem Nh{ops:Array Oper}{n:Nat}{o:Oper}(hs:iN σ τ){jO:St}(h:ew P Γ (dstsOf ops.toList) n o σ=some jO): ∃vX,ew P Γ (dstsOf ops.toList) n o τ=some vX/\iN jO vX:=by
 unfold ew at h⊢;rw[<-nW (σ:=σ) (τ:=τ) (ops:=ops) (o:=o) fun t _=>hs.1 t]
 cases hw:oB (dstsOf ops.toList) σ o.guard with
 |none=>simp[hw]at h
 |some b=>
  simp only[hw]at h⊢;cases b with
  |true=>simp only[if_true]at h⊢;exact Wh hs h
  |false=>
   simp at h⊢;subst h;exact hs.put _ _
theorem SE{ops:Array Oper}: ∀{L:List (Nat×Nat×Oper)} {σ τ jO:St},iN σ τ->uz P Γ (dstsOf ops.toList) L σ=some jO-> ∃vX,uz P Γ (dstsOf ops.toList) L τ=some vX/\iN jO vX
 | [],σ,τ,jO,hs,h=>by simp only[uz,bf]at h;subst h;exact⟨τ,rfl,hs⟩
 |x::L,σ,τ,jO,hs,h=>by
  simp only[uz]at h;cases h1:ew P Γ (dstsOf ops.toList) x.1 x.2.2 σ with
  |none=>simp[h1]at h
  |some yX=>
   simp only[h1,aY]at h;obtain⟨τ1,h2,hs1⟩:=Nh hs h1;obtain⟨vX,h3,hs'⟩:=SE hs1 h;exact⟨vX,by simp only[uz,h2,aY];exact h3,hs'⟩
theorem Ni{ops:Array Oper}{x:Nat×Nat×Oper}{L2:List (Nat×Nat×Oper)}: ∀{L1:List (Nat×Nat×Oper)} {σ τ:St},
 (∀y∈L1,(fg P Γ y.2.2.op=true/\fg P Γ x.2.2.op=true\/fg P Γ y.2.2.op=true/\fJ x.2.2.op=true\/fJ y.2.2.op=true/\fJ x.2.2.op=true/\y.1≠x.1\/v_ y.2.2.op=true/\sF x.2.2.op=true)/\y.2.2.apart ops x.2.2=true)->
 (fJ x.2.2.op=true->ff σ.H x.1=some (.row 0 []))->
 uz P Γ (dstsOf ops.toList) (L1++x::L2) σ=some τ-> ∃yX vX,ew P Γ (dstsOf ops.toList) x.1 x.2.2 σ=some yX/\uz P Γ (dstsOf ops.toList) (L1++L2) yX=some vX/\iN τ vX
 | [],σ,τ,_,_,h=>by
  simp only[bx,uz]at h⊢;cases h1:ew P Γ (dstsOf ops.toList) x.1 x.2.2 σ with
  |none=>simp[h1]at h
  |some yX=>
   simp only[h1,aY]at h;exact⟨yX,τ,rfl,h,iN.refl τ⟩
 |y::L1,σ,τ,hi,hnth,h=>by
  simp only[bF,uz]at h;cases h1:ew P Γ (dstsOf ops.toList) y.1 y.2.2 σ with
  |none=>simp[h1]at h
  |some σa=>
   simp only[h1,aY]at h;obtain⟨i1,i3⟩:=hi y (by simp)
   obtain⟨σb,vX,h2,h3,hs⟩:=Ni (L1:=L1) (fun z hz=>hi z (by simp[hz])) (fun ha=>by
    rcases i1 with⟨j1,j2⟩|⟨j1,_⟩|⟨j1,_,j3⟩|⟨j1,_⟩
    · rw[fU j1]at h1
      obtain⟨v,_,rfl⟩:=aM.1 h1;rw[yx];exact hnth ha
    · rw[fU j1]at h1
      obtain⟨v,_,rfl⟩:=aM.1 h1;rw[yx];exact hnth ha
    · rw[Av j1 j3 h1];exact hnth ha
    · rw[fU (wa j1)]at h1
      obtain⟨v,_,rfl⟩:=aM.1 h1;rw[yx];exact hnth ha) h
   have hsw: ∃sY tG,ew P Γ (dstsOf ops.toList) x.1 x.2.2 σ=some sY/\ew P Γ (dstsOf ops.toList) y.1 y.2.2 sY=some tG/\iN σb tG:=by
    rcases i1 with⟨j1,j2⟩|⟨j1,j2⟩|⟨j1,j2,j3⟩|⟨j1,j2⟩
    · exact swap1 j1 j2 i3 h1 h2
    · exact swapA j1 j2 i3 (hnth j2) h1 h2
    · exact swapAA j1 j2 i3 j3 h1 h2
    · exact swapS j1 j2 i3 h1 h2
   obtain⟨sY,tG,g1,g2,gs⟩:=hsw;obtain⟨τ'',g3,gs'⟩:=SE gs h3;exact⟨sY,τ'',g1,by simp only[bF,uz,g2,aY];exact g3,hs.trans gs'⟩
end
end Go.dF
namespace Go.dF
open Go.RowKit
def SF(aq:List Nat)(o:Oper):Nat:=o.after.toList.foldl (fun x e=>if Region.binds .any e=true then x|||2^e.on|||aq.getD e.on 0 else x) 0
def SG:List Oper->List Nat->List Nat
 | [],aq=>aq
 |o::os,aq=>SG os (aq++[SF aq o])
def pairOK(P:Program)(Γ:aW)(ops:Array Oper)(m:Nat)(oi:Oper)(j:Nat):Bool:=
 match ops[j]? with
 |some oj=>m.testBit j||((fg P Γ oj.op&&fg P Γ oi.op||fg P Γ oj.op&&fJ oi.op||fJ oj.op&&fJ oi.op||v_ oj.op&&sF oi.op)&&oj.apart ops oi)
 |none=>true
def SH(P:Program)(Γ:aW)(ops:Array Oper)(aq:List Nat):Bool:=
 (List.range ops.size).all fun i=>
  match ops[i]? with
  |some oi=>(oi.after.toList.all fun e=> !Region.binds .any e||decide (e.on<i))&&(List.range i).all (pairOK P Γ ops (aq.getD i 0) oi)
  |none=>true
def Aw(P:Program)(Γ:aW)(ops:Array Oper):Bool:=SH P Γ ops (SG ops.toList [])
def pE(ops:Array Oper)(L:List Nat)(i:Nat):Bool:=
 match ops[i]? with
 |some o=>o.after.toList.all fun e=> !Region.binds .any e|| !L.contains e.on
 |none=>false
def Ax(P:Program)(Γ:aW)(o:Op):Bool:=fg P Γ o||fJ o||sF o
def xx(P:Program)(Γ:aW)(ops:Array Oper):Bool:=ops.toList.all fun o=>Ax P Γ o.op
def Za(P:Program)(Γ:aW)(ops:Array Oper)(i y:Nat):Bool:=
 match ops[i]?,ops[y]? with
 |some a,some b=>((fg P Γ a.op&&fg P Γ b.op)||(v_ a.op&&sF b.op)||(xx P Γ ops&&fg P Γ a.op&&fJ b.op))&&a.apart ops b
 |_,_=>false
def cov(P:Program)(Γ:aW)(ops:Array Oper)(aq:List Nat):Nat->List Nat->List (List Nat)->Bool
 |0,L,rs=>L.isEmpty&& !rs.isEmpty&&rs.all List.isEmpty
 |f+1,L,rs=>
  match rs with
  | []=>false
  | []::_=>false
  |(i::_)::_=>
   if(rs.all (fun r=>r.head? ==some i)&&L.contains i&&pE ops L i&&L.all (fun y=>y==i||(aq.getD y 0).testBit i||Za P Γ ops i y))=true then cov P Γ ops aq f (L.erase i) (rs.map List.tail)
   else L.all fun j=> !pE ops L j||cov P Γ ops aq f (L.erase j) (rs.filterMap fun r=>if r.head? =some j then some r.tail else none)
def Wi(P:Program)(Γ:aW)(ops:Array Oper)(os:List (List Nat)):Bool:=
 ((List.range ops.size).all fun i=>match ops[i]? with|some o=>o.after.toList.all fun e=> !Region.binds .any e||decide (e.on<i)|none=>true)&&
 cov P Γ ops (SG ops.toList []) ops.size (List.range ops.size) os
def Ay(nt:Nat)(ops:Array Oper):Bool:=ops.toList.all fun o=>match o.dst with|some d=>decide (d<nt)|none=>true
def frzOK(Γ:aW)(os:List (List Nat)):Bool:=
 match R6 os with
 |none=>true
 |some ρ=>decide ρ.Nodup&&ρ.all fun n=>decide (Γ.nf<=n)
def aQ(P:Program)(Γ:aW)(nt:Nat):Code->Bool
 | .seq a b=>aQ P Γ nt a&&aQ P Γ nt b
 | .cond _ a b=>aQ P Γ nt a&&aQ P Γ nt b
 | .block _ c=>aQ P Γ nt c
 | .loop c=>aQ P Γ nt c
 | .region id ops d=>(Ay nt ops&&frzOK Γ (Γ.fS id))&&(if(GJ (Γ.fS id)).isEmpty=true then(!d||Aw P Γ ops)else(d&&Wi P Γ ops (GJ (Γ.fS id))))
 |_=>true
section
variable{P:Program}{Γ:aW}{N0:Nat->Prop}{w0:pU}{nt:Nat}{σ τ:St}{φ:List ia}{a:Act}{w:World}
theorem Hj{ops:Array Oper}(h:Ay nt ops=true){i:Nat}{o:Oper}(ho:ops[i]? =some o): ∀t,o.dst=some t->t<nt:=fun t ht=>by
 unfold Ay at h;rw[cw]at h;have:=h o (by simpa using sZ ho)
 simp only[ht,decide_eq_true_eq]at this;exact this
theorem cn.sim(h:cn N0 w0 nt σ φ a w)(hs:iN σ τ):cn N0 w0 nt τ φ a w:=
 {h with
  gj:=fun d=>by rw[<-hs.1 d];exact h.gj d
  len:=by rw[<-hs.2];exact h.len
  gp:=fun n o p ho hp=>h.gp n o p (by rw[hs.2];exact ho) hp}
theorem Wj{ds:List (Option Tmp)}{n n':Nat}{o:Oper}(h:eL P o.op=false):ew P Γ ds n o σ=ew P Γ ds n' o σ:=by
 unfold ew;split
 · rfl
 · rename_i b hb
   cases b with
   |false=>rfl
   |true=>
    simp only[if_true]
    unfold execOp;split
    · rename_i h';rw[h']at h;simp[eL]at h
    · rename_i h';rw[h']at h;simp[eL]at h
    · rfl
    · rename_i h'
      rw[h']at h;simp only[eL]at h;simp only[DC,h,az,if_false]
    · rename_i h';rw[h']at h;simp[eL]at h
    · rfl
    · rfl
    · rfl
theorem y0(yU:aN P Γ)(xY:w0.fix=Γ.fix)(h:cn N0 w0 nt σ φ a w){ops:Array Oper}(mq:Ay nt ops=true){x:Nat×Nat×Oper}(ho:ops[x.2.1]? =some x.2.2){L:List (Nat×Nat×Oper)}
 (z_:eL P x.2.2.op=true->φ[x.1]? =some .free) (hfL: ∀y∈L,eL P y.2.2.op=true->φ[y.1]? =some .free) (eH: ∀y∈L,eL P x.2.2.op=true->eL P y.2.2.op=true->y.1≠x.1) {jO:St}
 (hr:ew P Γ (dstsOf ops.toList) x.1 x.2.2 σ=some jO) {Q:Exit->Act->World->Prop} {K:Act->World->Prop}
 (hK: ∀j4 a' w',cn N0 w0 nt jO j4 a' w'->(∀y∈L,eL P y.2.2.op=true->j4[y.1]? =some .free)->K a' w'):wpOp P ops Q x.2.1 K a w:=by
 by_cases hal:eL P x.2.2.op=true
 · exact DW yU h ho (Hj mq ho) xY (fun _=>z_ hal) hr fun j4 a' w' hc hf=>hK j4 a' w' hc fun y hy ha=>hf y.1 (eH y hy hal ha) (hfL y hy ha)
 · have hal':eL P x.2.2.op=false:=by simpa using hal
   rw[Wj (n':=φ.length) hal']at hr;refine DW yU h ho (Hj mq ho) xY (fun ha=>absurd ha hal) hr fun j4 a' w' hc hf=>hK j4 a' w' hc fun y hy ha=>hf y.1 (fun e=> ?_) (hfL y hy ha)
   have:=(aA.1 (hfL y hy ha)).1;omega
theorem Hk(yU:aN P Γ)(xY:w0.fix=Γ.fix){ops:Array Oper}(mq:Ay nt ops=true){Q:Exit->Act->World->Prop}{τ:St}: ∀{L:List (Nat×Nat×Oper)} {σ:St} {φ:List ia} {a:Act} {w:World},
 cn N0 w0 nt σ φ a w->(∀x∈L,ops[x.2.1]? =some x.2.2)->L.Pairwise (fun x y=>x.2.1<y.2.1/\(eL P x.2.2.op=true->x.1<y.1))->
 (∀y∈L,eL P y.2.2.op=true->φ[y.1]? =some .free)->uz P Γ (dstsOf ops.toList) L σ=some τ->(∀j4 a' w',cn N0 w0 nt τ j4 a' w'->Q .normal a' w')->wpOps P ops Q (L.map (·.2.1)) a w
 | [],σ,φ,a,w,h,_,_,_,hr,hQ=>by simp only[uz,bf]at hr;subst hr;exact hQ φ a w h
 |x::L,σ,φ,a,w,h,uy,hp,hf,hr,hQ=>by
  rw[aS,wpOps_cons]
  simp only[uz]at hr;rw[aR]at hp;cases h1:ew P Γ (dstsOf ops.toList) x.1 x.2.2 σ with
  |none=>simp[h1]at hr
  |some yX=>
   simp only[h1,aY]at hr;refine y0 yU xY h mq (uy x (by simp)) (L:=L) (hf x (by simp)) (fun y hy=>hf y (by simp[hy])) (fun y hy ha _ e=> ?_) h1 fun j4 a' w' hc Sh=> ?_
   · have:=(hp.1 y hy).2 ha
     omega
   · exact Hk yU xY mq hc (fun y hy=>uy y (by simp[hy])) hp.2 Sh hr hQ
theorem Hl{aq:List Nat}{j:Nat}: ∀{es:List Edge} {x:Nat},(es.foldl (fun x e=>if Region.binds .any e=true then x|||2^e.on|||aq.getD e.on 0 else x) x).testBit j=true->
 x.testBit j=true\/ ∃e∈es,Region.binds .any e=true/\(e.on=j\/(aq.getD e.on 0).testBit j=true)
 | [],x,h=> .inl h
 |e::es,x,h=>by
  rw[cg]at h;rcases Hl h with h|⟨e',BL,h'⟩
  · split at h
    · rename_i hb
      rw[Nat.testBit_or,Nat.testBit_or,bE,bE,Nat.testBit_two_pow]at h;rcases h with(h|h)|h
      · exact .inl h
      · exact .inr ⟨e,by simp,hb,.inl (by simpa using h)⟩
      · exact .inr ⟨e,by simp,hb,.inr h⟩
    · exact .inl h
  · exact .inr ⟨e',by simp[BL],h'⟩
theorem Cb{ops:Array Oper}{D:Nat->Prop}(hD: ∀(m:Nat) (o:Oper),ops[m]? =some o->D m-> ∀e∈o.after,Region.binds .any e=true->D e.on): ∀{os ps:List Oper} {aq:List Nat},ops.toList=ps++os->aq.length=ps.length->
 (∀(m:Nat) (o:Oper),m<aq.length->ops[m]? =some o->(∀e∈o.after,Region.binds .any e=true->D e.on)-> ∀j,(aq.getD m 0).testBit j=true->D j)->
 ∀(m:Nat) (o:Oper),ops[m]? =some o->(∀e∈o.after,Region.binds .any e=true->D e.on)-> ∀j,((SG os aq).getD m 0).testBit j=true->D j
 | [],ps,aq,hp,hl,h,m,o,ho,hd,j,hj=>by
  have hm:m<aq.length:=by
   have h1:=(bR.1 ho).1;have h2:ops.toList.length=ps.length:=by rw[hp];simp
   rw[gW]at h2;omega
  exact h m o hm ho hd j hj
 |q::os,ps,aq,hp,hl,h,m,o,ho,hd,j,hj=>by
  simp only[SG]at hj;refine Cb (os:=os) (ps:=ps++[q]) (aq:=aq++[SF aq q]) hD (by rw[hp];simp) (by simp[hl]) ?_ m o ho hd j hj;intro m' o' oo B5 hd' j' BM;by_cases bo:m'<aq.length
  · rw[show(aq++[SF aq q]).getD m' 0=aq.getD m' 0 by simp[List.getD,ck bo]]at BM
    exact h m' o' bo B5 hd' j' BM
  · have hme:m'=aq.length:=by rw[aj]at oo;simp at oo;omega
    subst hme;have hq:ops[aq.length]? =some q:=by rw[<-Array.getElem?_toList,hp,hl];simp
    rw[B5]at hq;obtain rfl:=an hq;have e1:(aq++[SF aq o']).getD aq.length 0=SF aq o':=by simp[List.getD]
    rw[e1]at BM;rcases Hl BM with h0|⟨e,he,hb,h1⟩
    · simp at h0
    · have BL:e∈o'.after:=by simpa using he
      rcases h1 with rfl|h1
      · exact hd' e BL hb
      · by_cases aH:e.on<aq.length
        · have qH:e.on<ops.size:=by
           have:=congrArg List.length hp;simp at this;omega
          exact h e.on ops[e.on] aH (iX qH) (hD e.on _ (iX qH) (hd' e BL hb)) j' h1
        · rw[show aq.getD e.on 0=0 by simp[List.getD,ez (Nat.le_of_not_lt aH)]]at h1
          simp at h1
theorem qI{ops:Array Oper}(h:Aw P Γ ops=true){i:Nat}{oi:Oper}(hi:ops[i]? =some oi):
 (∀e∈oi.after,Region.binds .any e=true->e.on<i)/\ ∀(j:Nat) (oj:Oper),j<i->ops[j]? =some oj->((SG ops.toList []).getD i 0).testBit j=true\/((fg P Γ oj.op=true/\fg P Γ oi.op=true\/fg P Γ oj.op=true/\fJ oi.op=true\/fJ oj.op=true/\fJ oi.op=true\/v_ oj.op=true/\sF oi.op=true)/\oj.apart ops oi=true):=by
 unfold Aw SH at h;rw[cw]at h;have h1:=h i (by simpa using(bR.1 hi).1)
 simp only[hi,ak]at h1;obtain⟨h2,h3⟩:=h1;rw[cw]at h2 h3;refine⟨fun e he hb=> ?_,fun j oj hj hoj=> ?_⟩
 · have:=h2 e (by simpa using he)
   simpa[hb]using this
 · have:=h3 j (by simpa using hj)
   unfold pairOK at this;simp only[hoj,bE,ak]at this;rcases this with h|⟨((h4|h4)|h4)|h4,h6⟩
   · exact .inl h
   · exact .inr ⟨.inl h4,h6⟩
   · exact .inr ⟨.inr (.inl h4),h6⟩
   · exact .inr ⟨.inr (.inr (.inl h4)),h6⟩
   · exact .inr ⟨.inr (.inr (.inr h4)),h6⟩
theorem Nj{op:Op}(h:fJ op=true):eL P op=true:=by cases op<;>simp[fJ]at h<;>rfl
theorem SI(h:cn N0 w0 nt σ φ a w){n:Nat}(hn:φ[n]? =some .free):ff σ.H n=some (.row 0 []):=by
 have bo:n<σ.H.length:=by rw[<-h.len];exact(aA.1 hn).1
 have ho:ff σ.H n=some σ.H[n]:=by rw[dQ];exact ae bo
 have:=h.gp n _ _ ho hn;rw[ho]
 cases hh:σ.H[n]with
 |box cs=>rw[hh]at this;simp[cb]at this
 |row k es=>rw[hh]at this;simp only[cb]at this;rw[this.1,this.2]
theorem any_sound(yU:aN P Γ)(xY:w0.fix=Γ.fix){ops:Array Oper}(mq:Ay nt ops=true)(KK:Aw P Γ ops=true){Q:Exit->Act->World->Prop}: ∀(fuel:Nat) (fk:Array Bool) {L:List (Nat×Nat×Oper)} {σ τ:St} {φ:List ia} {a:Act} {w:World},
 L.length<=fuel->(∀i,fk.getD i true=false ↔∃x∈L,x.2.1=i)->
 cn N0 w0 nt σ φ a w->(∀x∈L,ops[x.2.1]? =some x.2.2)->L.Pairwise (fun x y=>x.2.1<y.2.1/\(eL P x.2.2.op=true->x.1<y.1))->
 (∀y∈L,eL P y.2.2.op=true->φ[y.1]? =some .free)->uz P Γ (dstsOf ops.toList) L σ=some τ->(∀j4 a' w',cn N0 w0 nt τ j4 a' w'->Q .normal a' w')->fk.size=ops.size->(∀(m:Nat) (o:Oper),ops[m]? =some o->fk.getD m true=true-> ∀e∈o.after,Region.binds .any e=true->fk.getD e.on true=true)->wpAny P .any ops Q fuel fk a w:=by
 intro fuel
 -- the first of those that are left is ready
 have first: ∀(fk:Array Bool) (x:Nat×Nat×Oper) (L:List (Nat×Nat×Oper)),(∀i,fk.getD i true=false ↔∃y∈x::L,y.2.1=i)->(∀y∈x::L,ops[y.2.1]? =some y.2.2)->
  (x::L).Pairwise (fun x y=>x.2.1<y.2.1/\(eL P x.2.2.op=true->x.1<y.1))->fk.size=ops.size->x.2.1∈Region.ready .any ops fk:=by
  intro fk x L hl uy hp qY;rw[mem_ready]
  refine⟨(hl x.2.1).2 ⟨x,by simp,rfl⟩,x.2.2,uy x (by simp),fun e he hb=> ?_⟩
  have bo:=(qI KK (uy x (by simp))).1 e he hb;have Y5:x.2.1<ops.size:=(bR.1 (uy x (by simp))).1;cases hg:fk.getD e.on true with
  |false=>
   obtain⟨y,hy,hye⟩:=(hl e.on).1 hg;rcases aD.1 hy with rfl|hy
   · omega
   · have:=((aR.1 hp).1 y hy).1
     omega
  |true=>
   have he:e.on<fk.size:=by omega
   simpa[he]using hg
 induction fuel with
 |zero=>
  intro fk L σ τ φ a w hlen hl hc uy hp hf hr hQ qY o6;have hL:L=[]:=aV.1 (by omega)
  subst hL;simp only[uz,bf]at hr;subst hr;refine⟨?_,hQ φ a w hc⟩
  rw[oe]
  intro i hi;obtain⟨x,hx,_⟩:=(hl i).1 (mem_ready.1 hi).1;cases hx
 |succ fuel ih=>
  intro fk L σ τ φ a w hlen hl hc uy hp hf hr hQ qY o6;refine⟨fun OS=> ?_,fun i hi=> ?_⟩
  · cases L with
    |nil=>
     simp only[uz,bf]at hr;subst hr;exact hQ φ a w hc
    |cons x L=>
     have:=first fk x L hl uy hp qY
     rw[OS]at this;cases this
  · obtain⟨hun,oi,SJ,nn⟩:=mem_ready.1 hi
    obtain⟨x,hx,rfl⟩:=(hl i).1 hun;have RM:=uy x hx;rw[SJ]at RM;obtain rfl:=an RM;obtain⟨L1,L2,rfl⟩:=List.append_of_mem hx;have RK:=cZ.1 hp;have hp2:=aR.1 RK.2.1
    obtain⟨yX,vX,g1,g2,gs⟩:=Ni (fun y hy=>by
     have bo:=(RK.2.2 y hy x (by simp)).1;have hyo:=uy y (by simp[hy])
     rcases(qI KK SJ).2 y.2.1 y.2.2 bo hyo with hdep|hind
     · exfalso
       have h2:=(hl y.2.1).2 ⟨y,by simp[hy],rfl⟩
       have h1:=Cb (ops:=ops) (D:=fun m=>fk.getD m true=true) o6 (os:=ops.toList) (ps:=[]) (aq:=[]) rfl rfl (fun m o hm=>absurd hm (by simp)) x.2.1 x.2.2 SJ (fun e he hb=>by
        have h3:=nn e he hb;have h4:=(qI KK SJ).1 e he hb;have h5:e.on<fk.size:=by rw[qY];have:=(bR.1 SJ).1;omega
        simpa[h5]using h3) y.2.1 hdep
       rw[h1]at h2;cases h2
     · refine⟨?_,hind.2⟩
       rcases hind.1 with h'|h'|⟨h1,h2⟩|h'
       · exact .inl h'
       · exact .inr (.inl h')
       · have eH:=(RK.2.2 y hy x (by simp)).2 (Nj h1)
         exact .inr (.inr (.inl ⟨h1,h2,by omega⟩))
       · exact .inr (.inr (.inr h'))) (fun ha=>SI hc (hf x hx (Nj ha))) hr
    refine y0 yU xY hc mq SJ (L:=L1++L2) (hf x hx) (fun y hy=>hf y (by
     rcases aJ.1 hy with hy|hy
     · simp[hy]
     · simp[hy])) (fun y hy ha hb e=> ?_) g1 fun j4 a' w' BK Sh=> ?_
    · rcases aJ.1 hy with hy|hy
      · have:=(RK.2.2 y hy x (by simp)).2 hb
        omega
      · have:=(hp2.1 y hy).2 ha
        omega
    · refine ih (fk.setIfInBounds x.2.1 true) (L:=L1++L2) (τ:=vX) ?_ ?_ BK ?_ ?_ Sh g2 ?_ (by simp[qY]) ?_
      · simp at hlen⊢;omega
      · intro i
        have Y5:x.2.1<fk.size:=by rw[qY];exact(bR.1 SJ).1
        by_cases hxi:x.2.1=i
        · subst hxi
          constructor
          · intro h;simp[Y5]at h
          · rintro⟨y,hy,hye⟩
            exfalso;rcases aJ.1 hy with hy|hy
            · have:=(RK.2.2 y hy x (by simp)).1
              omega
            · have:=(hp2.1 y hy).1
              omega
        · rw[getD_set_ne true hxi,hl i]
          constructor
          · rintro⟨y,hy,hye⟩
            refine⟨y, ?_,hye⟩
            rcases aJ.1 hy with hy|hy
            · simp[hy]
            · rcases aD.1 hy with rfl|hy
              · exact absurd hye hxi
              · simp[hy]
          · rintro⟨y,hy,hye⟩
            refine⟨y, ?_,hye⟩
            rcases aJ.1 hy with hy|hy
            · simp[hy]
            · simp[hy]
      · intro y hy
        refine uy y ?_;rcases aJ.1 hy with hy|hy
        · simp[hy]
        · simp[hy]
      · rw[cZ]
        exact⟨RK.1,hp2.2,fun y hy z hz=>RK.2.2 y hy z (by simp[hz])⟩
      · exact fun φ'' a'' w'' hc''=>hQ φ'' a'' w'' (hc''.sim gs.symm)
      · intro m o ho hm e he hb
        have Y5:x.2.1<fk.size:=by rw[qY];exact(bR.1 SJ).1
        have key:fk.getD e.on true=true:=by
         by_cases hxm:x.2.1=m
         · subst hxm
           rw[SJ]at ho;obtain rfl:=an ho;have h3:=nn e he hb;have h4:=(qI KK SJ).1 e he hb;have h5:e.on<fk.size:=by rw[qY];have:=(bR.1 SJ).1;omega
           simpa[h5]using h3
         · rw[getD_set_ne true hxm]at hm
           exact o6 m o ho hm e he hb
        by_cases y8:x.2.1=e.on
        · rw[<-y8];simp[Y5]
        · rw[getD_set_ne true y8];exact key
theorem cn.Zb(h:cn N0 w0 nt σ φ a w):cn N0 w0 nt {σ with H:=σ.H++[.row 0 []]} (φ++[.free]) a w:=by
 have ux: ∀m:Nat,(φ++[ia.free])[m]? =if m=φ.length then some .free else φ[m]? :=fun m=>by
  rw[fo]
  split
  · rw[if_neg (by omega)]
  · split
    · rename_i h1 h2;subst h2;simp
    · rename_i h1 h2
      rw[ez (by simp;omega),ez (by omega)]
 have DS: ∀m b k:Nat,(φ++[ia.free])[m]? =some (ia.loc b k)->φ[m]? =some (.loc b k):=fun m b k hm=>by
  rw[ux]at hm;split at hm
  · simp at hm
  · exact hm
 have iW:Ext (fun _=>True) (bB N0 φ w) (bB N0 (φ++[.free]) w):={
  size:=ai _
  RX:=fun b _ hn=>⟨by
   rintro(h0|⟨m,k,hm⟩)
   · exact hn (.inl h0)
   · exact hn (.inr ⟨m,k,DS m b k hm⟩),rfl⟩
  refs:=fun m o _ hm _=>by have bo:m<φ.length:=(aA.1 hm).1;show(φ++[ia.free])[m]? =some o;rw[ux,if_neg (by omega)];exact hm
  own:=fun m b k c e fr _ hm hc=>⟨c,fr,hc,rfl⟩}
 exact{
  gj:=fun d=>bU.mono iW _ _ (h.gj d) (fun _ _=>trivial)
  size:=h.size
  defers:=h.defers
  len:=by simp[h.len]
  gp:=fun m o p hm hp=>by
   rw[ux]at hp;rw[dQ,fo]at hm;split at hp
   · rename_i e
     simp at hp;subst hp;rw[if_neg (by rw[<-h.len];omega),show m-σ.H.length=0 by rw[<-h.len];omega]at hm;simp at hm;subst hm;simp[cb]
   · rename_i e
     have bo:m<φ.length:=(aA.1 hp).1;rw[if_pos (by rw[<-h.len];exact bo)]at hm;exact cb.mono iW (h.gp m o p (by rw[dQ];exact hm) hp) (fun b k _ c e fr hh=>hh) (fun _ _ _ _=>trivial)
  own:=fun m b k hm=>h.own m b k (DS m b k hm)
  inj:=fun m m' b k k' hm oo=>h.inj m m' b k k' (DS m b k hm) (DS m' b k' oo)
  n0:=h.n0
  qE:=fun m p hf hp dR=>by have:=h.qE m p hf hp dR;have bo:m<φ.length:=(aA.1 this).1;rw[ck bo];exact this
  below:=h.below}
theorem growH_len(op:Op):(grow P op σ).H.length=gI P op σ.H.length:=by unfold grow gI;split<;>simp
theorem xy: ∀(os:List Oper) (i:Nat) {σ:St} {φ:List ia},cn N0 w0 nt σ φ a w-> ∃j4,cn N0 w0 nt (pre P os σ) j4 a w/\(∀y∈Kw P σ.H.length i os,eL P y.2.2.op=true->j4[y.1]? =some .free)/\
 ∀m:Nat,φ[m]? =some ia.free->j4[m]? =some ia.free
 | [],i,σ,φ,h=>⟨φ,h,by simp[Kw],fun _ h=>h⟩
 |o::os,i,σ,φ,h=>by
  have hg: ∃φ1,cn N0 w0 nt (grow P o.op σ) φ1 a w/\(eL P o.op=true->φ1[σ.H.length]? =some .free)/\ ∀m:Nat,φ[m]? =some ia.free->φ1[m]? =some ia.free:=by
   unfold grow;split
   · refine⟨φ++[.free],h.Zb,fun _=>by rw[<-h.len];simp,fun m hm=> ?_⟩
     have bo:m<φ.length:=(aA.1 hm).1;rw[ck bo]
     exact hm
   · rename_i ha
     exact⟨φ,h,fun h=>absurd h ha,fun _ h=>h⟩
  obtain⟨φ1,h1,hf,hk⟩:=hg;obtain⟨j4,h2,hf2,hk2⟩:=xy os (i+1) h1;refine⟨j4,h2,fun y hy ha=> ?_,fun m hm=>hk2 m (hk m hm)⟩
  simp only[Kw,aD]at hy;rcases hy with rfl|hy
  · exact hk2 _ (hf ha)
  · rw[growH_len]at hf2
    exact hf2 y hy ha
theorem OT(yU:aN P Γ)(xY:w0.fix=Γ.fix)(hm:P.follows .mixedOrders=true)(h:cn N0 w0 nt σ φ a w){id:Nat}{ops:Array Oper}{d:Bool}(mq:Ay nt ops=true)(KK:d=true->Aw P Γ ops=true){τ:St}
 (hr:oC P Γ (dstsOf ops.toList) ops.toList σ.H.length (pre P ops.toList σ)=some τ) {Q:Exit->Act->World->Prop} (hQ: ∀j4 a' w',cn N0 w0 nt τ j4 a' w'->Q .normal a' w'):(Code.region id ops d).wp P Q a w:=by
 rw[DX P Γ _ _ _ 0]at hr;have uy: ∀x∈Kw P σ.H.length 0 ops.toList,ops[x.2.1]? =some x.2.2:=fun x hx=>by have:=(OO P _ _ _ x hx).2.2;simpa using this
 have hp:=SC P ops.toList σ.H.length 0;have hidx:=Y_ P ops.toList σ.H.length 0;simp only[bY,gW]at hidx;have hidx':(Kw P σ.H.length 0 ops.toList).map (·.2.1)=List.range ops.size:=by rw[hidx];simp
 cases d with
 |false=>
  obtain⟨j4,hc,hf,_⟩:=xy (P:=P) ops.toList 0 h;refine wp_region ?_;rw[<-hidx']
  exact Hk yU xY mq hc uy hp hf hr hQ
 |true=>
  have VJ:jT w {w with drawn:=w.drawn+1}:=jT.drew w;obtain⟨j4,hc,hf,_⟩:=xy (P:=P) ops.toList 0 (h.grew VJ)
  refine wp_region_any hm ?_;refine any_sound yU xY mq (KK rfl) ops.size _ (L:=Kw P σ.H.length 0 ops.toList) ?_ ?_ hc uy hp hf hr hQ (by simp) (fun m o ho hm=>by have:=(bR.1 ho).1;simp[this]at hm)
  · have:=congrArg List.length hidx'
    simp at this;omega
  · intro i
    have py:(∃x∈Kw P σ.H.length 0 ops.toList,x.2.1=i) ↔ i<ops.size:=by rw[<-fK,<-hidx',bZ]
    rw[py]
    by_cases hi:i<ops.size<;>simp[hi]
def Hm(P:Program)(Γ:aW)(ops:Array Oper)(B:List (Nat×Oper))(q:St->Prop):Nat->List Nat->St->Prop
 |0,L,σ=>L=[]/\q σ
 |f+1,L,σ=> ∀i∈L,pE ops L i=true-> ∃x jO,kg B i=some x/\ew P Γ (dstsOf ops.toList) x.1 x.2 σ=some jO/\Hm P Γ ops B q f (L.erase i) jO
theorem SK{ops:Array Oper}{B:List (Nat×Oper)}{q:St->Prop}(hq: ∀{σ τ:St},iN σ τ->q σ->q τ): ∀{f:Nat} {L:List Nat} {σ τ:St},iN σ τ->Hm P Γ ops B q f L σ->Hm P Γ ops B q f L τ
 |0,L,σ,τ,hs,h=>⟨h.1,hq hs h.2⟩
 |f+1,L,σ,τ,hs,h=>fun i hi hr=>by obtain⟨x,jO,h1,h2,h3⟩:=h i hi hr;obtain⟨vX,h4,h5⟩:=Nh hs h2;exact⟨x,vX,h1,h4,SK hq h5 h3⟩
theorem pF{ops:Array Oper}{L:List Nat}{i:Nat}(h:pE ops L i=true): ∃o,ops[i]? =some o/\ ∀e∈o.after,Region.binds .any e=true->e.on∉L:=by
 unfold pE at h;cases ho:ops[i]? with
 |none=>rw[ho]at h;cases h
 |some o=>
  rw[ho]at h;simp only[cw]at h;refine⟨o,rfl,fun e he hb hm=> ?_⟩
  have:=h e (by simpa using he)
  simp[hb,hm]at this
theorem Hn{ops:Array Oper}{L:List Nat}{i:Nat}{o:Oper}(ho:ops[i]? =some o)(h: ∀e∈o.after,Region.binds .any e=true->e.on∉L):pE ops L i=true:=by
 unfold pE;rw[ho]
 simp only[cw]
 intro e he;have:=h e (by simpa using he)
 cases hb:Region.binds .any e with
 |false=>rfl
 |true=>simp[this hb]
theorem D0{ops:Array Oper}{L:List Nat}{i j:Nat}(h:pE ops L i=true):pE ops (L.erase j) i=true:=by obtain⟨o,ho,h1⟩:=pF h;exact Hn ho fun e he hb hm=>h1 e he hb (fP hm)
def OU(ops:Array Oper)(L:List Nat):Prop:= ∀(m:Nat) (o:Oper),ops[m]? =some o->m∉L-> ∀e∈o.after,Region.binds .any e=true->e.on∉L
theorem uC{ops:Array Oper}{L:List Nat}{i:Nat}(hn:L.Nodup)(hc:OU ops L)(hr:pE ops L i=true):OU ops (L.erase i):=fun m o ho hm e he hb hme=>by
 obtain⟨o',B5,h1⟩:=pF hr;have hL:=fP hme;by_cases hmi:m=i
 · subst hmi
   rw[ho]at B5;obtain rfl:=an B5;exact h1 e he hb hL
 · exact hc m o ho (fun hmL=>hm ((fp hmi).2 hmL)) e he hb hL
theorem SL{ops:Array Oper}{B:List (Nat×Oper)}(hB: ∀(i:Nat) (x:Nat×Oper),kg B i=some x->ops[i]? =some x.2){i:Nat}{x:Nat×Oper}{o:Oper}(h:kg B i=some x)(ho:ops[i]? =some o):x.2=o:=by have:=hB i x h;rw[ho]at this;exact(an this).symm
def D1(B:List (Nat×Oper))(L:List Nat)(σ:St):Prop:= ∀i∈L,∀x,kg B i=some x->fJ x.2.op=true->ff σ.H x.1=some (.row 0 [])
theorem Wk{ds:List (Option Tmp)}{n m:Nat}{o:Oper}(hs:Ax P Γ o.op=true)(eH:fJ o.op=true->n≠m){jO:St}(hr:ew P Γ ds n o σ=some jO)(hf:ff σ.H m=some (.row 0 [])):ff jO.H m=some (.row 0 []):=by
 unfold Ax at hs;simp only[bE]at hs;rcases hs with(hs|hs)|hs
 · rw[fU hs]at hr
   obtain⟨v,_,rfl⟩:=aM.1 hr;rw[yx];exact hf
 · rw[Av hs (eH hs) hr];exact hf
 · rw[uB hs]at hr
   obtain⟨v,hv,rfl⟩:=aM.1 hr;rw[yx]
   cases v with
   |none=>exact hf
   |some v=>
    have hvm:v.1≠m:=fun e=>by
     unfold yZ at hv;split at hv
     · cases hv
     · cases hv
     · split at hv
       · obtain⟨z,hz,hzv⟩:=aM.1 hv
         obtain rfl:=an hzv;unfold Hh at hz;split at hz
         · split at hz
           · rename_i hn
             split at hz
             · obtain rfl:=an hz
               simp only at e;subst e;rw[hf]at hn;cases hn
             · cases hz
           · cases hz
         · split at hz
           · rename_i k es hn
             obtain⟨e',BL,hz⟩:=bL.1 hz;split at hz
             · obtain rfl:=an hz
               simp only at e;subst e;rw[hf]at hn;cases hn;simp at BL
             · cases hz
           · cases hz
         · cases hz
       · cases hv
    show ff (qe σ.H v.1 v.2) m=_;rw[ji,dQ,cC hvm,<-dQ];exact hf
theorem simple_at{ops:Array Oper}(h:xx P Γ ops=true){i:Nat}{o:Oper}(ho:ops[i]? =some o):Ax P Γ o.op=true:=by unfold xx at h;rw[cw]at h;exact h o (by simpa using sZ ho)
theorem D1.step{ops:Array Oper}{B:List (Nat×Oper)}{L:List Nat}(hS:xx P Γ ops=true)(hB: ∀(i:Nat) (x:Nat×Oper),kg B i=some x->ops[i]? =some x.2)
 (hBa: ∀(i j:Nat) (x y:Nat×Oper),kg B i=some x->kg B j=some y->i≠j->eL P x.2.op=true->eL P y.2.op=true->x.1≠y.1)
 (hn:L.Nodup) {j:Nat} {y:Nat×Oper} (hy:kg B j=some y) {ds:List (Option Tmp)} {jO:St} (hr:ew P Γ ds y.1 y.2 σ=some jO) (hf:D1 B L σ):D1 B (L.erase j) jO:=fun i hi x hx ha=>by
 have Cc:i≠j:=fun e=>by subst e;exact absurd hi (mf hn)
 have al: ∀op:Op,fJ op=true->eL P op=true:=fun op h=>by cases op<;>simp[fJ]at h<;>rfl
 exact Wk (simple_at hS (hB j y hy)) (fun hb=>hBa j i y x hy hx (fw Cc) (al _ hb) (al _ ha)) hr (hf i (fP hi) x hx ha)
theorem Wl{ops:Array Oper}{B:List (Nat×Oper)}{q:St->Prop}(hq: ∀{σ τ:St},iN σ τ->q σ->q τ)(hB: ∀(i:Nat) (x:Nat×Oper),kg B i=some x->ops[i]? =some x.2)
 (hBa: ∀(i j:Nat) (x y:Nat×Oper),kg B i=some x->kg B j=some y->i≠j->eL P x.2.op=true->eL P y.2.op=true->x.1≠y.1):
 ∀{f:Nat} {L:List Nat} {i:Nat} {x:Nat×Oper} {σ yX:St},L.Nodup->(xx P Γ ops=true->D1 B L σ)->OU ops L->i∈L->pE ops L i=true->(∀y∈L,y≠i->((SG ops.toList []).getD y 0).testBit i=true\/Za P Γ ops i y=true)->
 kg B i=some x->ew P Γ (dstsOf ops.toList) x.1 x.2 σ=some yX->Hm P Γ ops B q f (L.erase i) yX->Hm P Γ ops B q (f+1) L σ:=by
 intro f;induction f with
 |zero=>
  intro L i x σ yX hn RL hc hi hr hcom hx h1 hg j hj hrj;have hL:L.erase i=[]:=hg.1;by_cases hji:j=i
  · subst hji;exact⟨x,yX,hx,h1,hg⟩
  · have:=(fp hji).2 hj
    rw[hL]at this;cases this
 |succ f ih=>
  intro L i x σ yX hn RL hc hi hr hcom hx h1 hg j hj hrj;by_cases hji:j=i
  · subst hji;exact⟨x,yX,hx,h1,hg⟩
  · have hje:=(fp hji).2 hj
    obtain⟨y,σ2,hy,h2,hg2⟩:=hg j hje (D0 hrj)
    have RN:Za P Γ ops i j=true:=by
     rcases hcom j hj hji with h|h
     · exfalso
       obtain⟨o,ho,hdone⟩:=pF hrj;exact Cb (ops:=ops) (D:=fun m=>m∉L) (fun m o ho hm e he hb=>hc m o ho hm e he hb) (os:=ops.toList) (ps:=[]) (aq:=[]) rfl rfl (fun m o hm=>absurd hm (by simp)) j o ho hdone i h hi
     · exact h
    obtain⟨oi,SJ,_⟩:=pF hr;obtain⟨oj,hoj,_⟩:=pF hrj;have e1:=SL hB hx SJ;have e2:=SL hB hy hoj;unfold Za at RN;rw[SJ,hoj]at RN;simp only[ak,bE]at RN;obtain⟨hk,hap⟩:=RN;rw[e1]at h1;rw[e2]at h2
    have hsw: ∃sY tG,ew P Γ (dstsOf ops.toList) y.1 oj σ=some sY/\ew P Γ (dstsOf ops.toList) x.1 oi sY=some tG/\iN σ2 tG:=by
     rcases hk with(⟨k1,k2⟩|⟨k1,k2⟩)|⟨⟨k0,k1⟩,k2⟩
     · exact swap1 k1 k2 hap h1 h2
     · exact swapS k1 k2 hap h1 h2
     · exact swapA k1 k2 hap (RL k0 j hj y hy (by rw[e2];exact k2)) h1 h2
    obtain⟨sY,tG,g1,g2,gs⟩:=hsw;refine⟨y,sY,hy,by rw[e2];exact g1, ?_⟩
    refine ih (L:=L.erase j) (i:=i) (x:=x) (yX:=tG) (hn.erase j) (fun hS=>D1.step hS hB hBa hn hy (by rw[e2];exact g1) (RL hS)) (uC hn hc hrj) ((fp (fw hji)).2 hi) (D0 hr) (fun z hz hzi=>hcom z (fP hz) hzi) hx (by rw[e1];exact g2) ?_;rw[List.erase_comm]
    exact SK hq gs hg2
theorem cov_sound{ops:Array Oper}{B:List (Nat×Oper)}{q:St->Prop}(hq: ∀{σ τ:St},iN σ τ->q σ->q τ)(hB: ∀(i:Nat) (x:Nat×Oper),kg B i=some x->ops[i]? =some x.2)
 (hBa: ∀(i j:Nat) (x y:Nat×Oper),kg B i=some x->kg B j=some y->i≠j->eL P x.2.op=true->eL P y.2.op=true->x.1≠y.1):
 ∀{f:Nat} {L:List Nat} {rs:List (List Nat)} {σ:St},L.Nodup->(xx P Γ ops=true->D1 B L σ)->OU ops L->cov P Γ ops (SG ops.toList []) f L rs=true->(∀r∈rs,∃τ,vn P Γ (dstsOf ops.toList) B r σ=some τ/\q τ)->Hm P Γ ops B q f L σ:=by
 intro f;induction f with
 |zero=>
  intro L rs σ hn RL hc h hr;simp only[cov,ak]at h;obtain⟨⟨h1,h2⟩,h3⟩:=h;cases rs with
  |nil=>simp at h2
  |cons r rs=>
   obtain⟨τ,RO,hqτ⟩:=hr r (by simp)
   have hre:r=[]:=by
    have:=(cw.1 h3) r (by simp)
    simpa using this
   subst hre;simp only[vn,bf]at RO;subst RO;exact⟨by simpa using h1,hqτ⟩
 |succ f ih=>
  intro L rs σ hn RL hc h hr;cases rs with
  |nil=>simp[cov]at h
  |cons r0 rs=>
   cases r0 with
   |nil=>simp[cov]at h
   |cons i r0=>
    simp only[cov]at h;split at h
    · rename_i hs
      simp only[ak,cw]at hs;obtain⟨⟨⟨s1,s2⟩,s3⟩,s4⟩:=hs;obtain⟨τ,RO,_⟩:=hr (i::r0) (by simp)
      simp only[vn]at RO;cases hx:kg B i with
      |none=>rw[hx]at RO;simp at RO
      |some x=>
       rw[hx]at RO;simp only[aY]at RO;cases h1:ew P Γ (dstsOf ops.toList) x.1 x.2 σ with
       |none=>rw[h1]at RO;simp at RO
       |some yX=>
        refine Wl hq hB hBa hn RL hc (by simpa using s2) s3 (fun y hy eH=> ?_) hx h1 (ih (hn.erase i) (fun hS=>D1.step hS hB hBa hn hx h1 (RL hS)) (uC hn hc s3) h fun r' GW=> ?_)
        · have:=s4 y hy
          simp only[bE,beq_iff_eq]at this;rcases this with(h|h)|h
          · exact absurd h eH
          · exact .inl h
          · exact .inr h
        · obtain⟨r,hrm,rfl⟩:=bZ.1 GW
          obtain⟨vX,hτ',RP⟩:=hr r hrm;have hh:=s1 r hrm;cases r with
          |nil=>simp at hh
          |cons k r=>
           have:k=i:=by simpa using hh
           subst this;simp only[vn,hx,aY,h1]at hτ';exact⟨vX,hτ',RP⟩
    · rename_i hs
      rw[cw]at h;intro j hj hrj;have hcj:=h j hj;rw[hrj]at hcj;simp only[bG,bu]at hcj
      -- some order begins with j
      have eH: ∃r,r∈(List.filterMap (fun r:List Nat=>if r.head? =some j then some r.tail else none) ((i::r0)::rs)):=by
       cases hf:(List.filterMap (fun r:List Nat=>if r.head? =some j then some r.tail else none) ((i::r0)::rs))with
       |nil=>
        rw[hf]at hcj;cases f<;>simp[cov]at hcj
       |cons a aq=>exact⟨a,by simp⟩
      have back: ∀r',r'∈(List.filterMap (fun r:List Nat=>if r.head? =some j then some r.tail else none) ((i::r0)::rs))-> ∃τ,vn P Γ (dstsOf ops.toList) B (j::r') σ=some τ/\q τ:=fun r' GW=>by
       obtain⟨r,hrm,hh⟩:=jJ.1 GW;split at hh
       · rename_i hd
         obtain rfl:=an hh;cases r with
         |nil=>simp at hd
         |cons k r=>
          have:k=j:=by simpa using hd
          subst this;exact hr _ hrm
       · cases hh
      obtain⟨r1,hr1⟩:=eH;obtain⟨τ,RO,_⟩:=back r1 hr1;simp only[vn]at RO;cases hx:kg B j with
      |none=>rw[hx]at RO;simp at RO
      |some x=>
       rw[hx]at RO;simp only[aY]at RO;cases h1:ew P Γ (dstsOf ops.toList) x.1 x.2 σ with
       |none=>rw[h1]at RO;simp at RO
       |some yX=>
        refine⟨x,yX,rfl,h1,ih (hn.erase j) (fun hS=>D1.step hS hB hBa hn hx h1 (RL hS)) (uC hn hc hrj) hcj fun r' GW=> ?_⟩
        obtain⟨vX,hτ',RP⟩:=back r' GW;simp only[vn,hx,aY,h1]at hτ';exact⟨vX,hτ',RP⟩
theorem xz: ∀(os:List Oper) (n i:Nat) (x:Nat×Oper),kg (qf P n os) i=some x->os[i]? =some x.2/\n<=x.1
 | [],_,_,_,h=>by simp[qf,kg]at h
 |o::os,n,0,x,h=>by simp only[qf,kg,bf]at h;subst h;exact⟨rfl,ai _⟩
 |o::os,n,i+1,x,h=>by simp only[qf,kg]at h;obtain⟨h1,h2⟩:=xz os _ i x h;exact⟨by simpa using h1,aL (nxt_le P o.op n) h2⟩
theorem y9: ∀(os:List Oper) (n i j:Nat) (x y:Nat×Oper),kg (qf P n os) i=some x->kg (qf P n os) j=some y->i≠j->eL P x.2.op=true->eL P y.2.op=true->x.1≠y.1
 | [],_,_,_,_,_,h,_,_,_,_=>by simp[qf,kg]at h
 |o::os,n,0,0,x,y,_,_,h,_,_=>absurd rfl h
 |o::os,n,0,j+1,x,y,h,h',_,ha,_=>by
  simp only[qf,kg,bf]at h h';subst h;have:=(xz os _ j y h').2;have h2:gI P o.op n=n+1:=by unfold gI;rw[if_pos ha]
  show n≠y.1;omega
 |o::os,n,i+1,0,x,y,h,h',_,_,ha=>by
  simp only[qf,kg,bf]at h h';subst h';have:=(xz os _ i x h).2;have h2:gI P o.op n=n+1:=by unfold gI;rw[if_pos ha]
  show x.1≠n;omega
 |o::os,n,i+1,j+1,x,y,h,h',eH,ha,hb=>by simp only[qf,kg]at h h';exact y9 os _ i j x y h h' (by omega) ha hb
theorem Ho: ∀(os:List Oper) (n k i:Nat) (x:Nat×Oper),kg (qf P n os) i=some x->(x.1,k+i,x.2)∈Kw P n k os
 | [],_,_,_,_,h=>by simp[qf,kg]at h
 |o::os,n,k,0,x,h=>by simp only[qf,kg,bf]at h;subst h;simp[Kw]
 |o::os,n,k,i+1,x,h=>by
  simp only[qf,kg]at h;have:=Ho os _ (k+1) i x h;simp only[Kw,aD]
  right
  rwa [show k+1+i=k+(i+1) by omega]at this
theorem Wm(yU:aN P Γ)(xY:w0.fix=Γ.fix){ops:Array Oper}(mq:Ay nt ops=true){B:List (Nat×Oper)}(hB: ∀(i:Nat) (x:Nat×Oper),kg B i=some x->ops[i]? =some x.2)
 (hBa: ∀(i j:Nat) (x y:Nat×Oper),kg B i=some x->kg B j=some y->i≠j->eL P x.2.op=true->eL P y.2.op=true->x.1≠y.1)
 (tH: ∀(i:Nat) (o:Oper),ops[i]? =some o-> ∀e∈o.after,Region.binds .any e=true->e.on<i) {q:St->Prop} {Q:Exit->Act->World->Prop} (hQ: ∀τ j4 a' w',q τ->cn N0 w0 nt τ j4 a' w'->Q .normal a' w'):
 ∀(f fuel:Nat) (fk:Array Bool) {L:List Nat} {σ:St} {φ:List ia} {a:Act} {w:World},L.length=f->f<=fuel->L.Nodup->(∀i,fk.getD i true=false ↔ i∈L)->(∀i∈L,i<ops.size)->
 cn N0 w0 nt σ φ a w->(∀i∈L,∀x,kg B i=some x->eL P x.2.op=true->φ[x.1]? =some .free)->Hm P Γ ops B q f L σ->fk.size=ops.size->wpAny P .any ops Q fuel fk a w:=by
 intro f;induction f with
 |zero=>
  intro fuel fk L σ φ a w hlen hfu hn hl qY hc hf hg hls
  have Nk:Region.ready .any ops fk=[]:=by
   rw[oe]
   intro i hi;have:=(hl i).1 (mem_ready.1 hi).1;rw[hg.1]at this;cases this
  cases fuel with
  |zero=>exact⟨Nk,hQ _ _ _ _ hg.2 hc⟩
  |succ fuel=>exact⟨fun _=>hQ _ _ _ _ hg.2 hc,fun i hi=>by rw[Nk]at hi;cases hi⟩
 |succ f ih=>
  intro fuel fk L σ φ a w hlen hfu hn hl qY hc hf hg hls;cases fuel with
  |zero=>omega
  |succ fuel=>
   have toReady: ∀i∈L,pE ops L i=true->i∈Region.ready .any ops fk:=fun i hi hr=>by
    obtain⟨o,ho,h1⟩:=pF hr;rw[mem_ready]
    refine⟨(hl i).2 hi,o,ho,fun e he hb=> ?_⟩
    have h2:=h1 e he hb
    have h3:fk.getD e.on true=true:=by
     cases hg:fk.getD e.on true
     · exact absurd ((hl e.on).1 hg) h2
     · rfl
    have h4:=tH i o ho e he hb;have h5:e.on<fk.size:=by rw[hls];have:=qY i hi;omega
    simpa[h5]using h3
   refine⟨fun OS=> ?_,fun i hi=> ?_⟩
   · exfalso
     -- the least of those that are left is ready
     have eH:L≠ []:=fun e=>by rw[e]at hlen;simp at hlen
     obtain⟨m,hm,EC⟩: ∃m∈L,∀y∈L,m<=y:=by
      clear hg hf hl hn hlen hfu toReady qY;induction L with
      |nil=>exact absurd rfl eH
      |cons x L ih2=>
       cases L with
       |nil=>exact⟨x,by simp,fun y hy=>by simp at hy;omega⟩
       |cons z L=>
        obtain⟨m,hm,EC⟩:=ih2 (by simp)
        by_cases hxm:x<=m
        · exact⟨x,by simp,fun y hy=>by
           rcases aD.1 hy with rfl|hy
           · exact ai _
           · have:=EC y hy;omega⟩
        · exact⟨m,by simp[hm],fun y hy=>by
           rcases aD.1 hy with rfl|hy
           · omega
           · exact EC y hy⟩
     have hms:=qY m hm;have:=toReady m hm (Hn (iX hms) fun e he hb py=>by have h1:=tH m _ (iX hms) e he hb;have h2:=EC _ py;omega)
     rw[OS]at this;cases this
   · obtain⟨hun,oi,SJ,nn⟩:=mem_ready.1 hi
     have hiL:=(hl i).1 hun
     have hri:pE ops L i=true:=Hn SJ fun e he hb py=>by
      have h1:=nn e he hb;have h2:=(hl e.on).2 py;have h4:=tH i oi SJ e he hb;have h5:e.on<fk.size:=by rw[hls];have:=qY i hiL;omega
      simp[h5]at h1 h2;rw[h1]at h2;cases h2
     obtain⟨x,yX,hx,h1,hg1⟩:=hg i hiL hri;have RM:ops[i]? =some x.2:=hB i x hx;refine y0 yU xY hc mq (x:=(x.1,i,x.2)) RM (L:=((L.erase i).filterMap fun j=>(kg B j).map fun y=>(y.1,j,y.2))) (fun ha=>hf i hiL x hx ha) (fun y hy ha=> ?_) (fun y hy ha hb=> ?_) h1 fun j4 a' w' BK Sh=> ?_
     · obtain⟨j,hj,Aj⟩:=jJ.1 hy
       obtain⟨y',Ga,rfl⟩:=aM.1 Aj;exact hf j (fP hj) y' Ga ha
     · obtain⟨j,hj,Aj⟩:=jJ.1 hy
       obtain⟨y',Ga,rfl⟩:=aM.1 Aj;have hji:j≠i:=fun e=>by subst e;exact absurd hj (mf hn)
       exact hBa j i y' x Ga hx hji hb ha
     · refine ih fuel (fk.setIfInBounds i true) (L:=L.erase i) (by rw[mg hiL];omega) (by omega) (hn.erase i) ?_ (fun j hj=>qY j (fP hj)) BK (fun j hj y hy ha=>Sh (y.1,j,y.2) (jJ.2 ⟨j,hj,by rw[hy];rfl⟩) ha) hg1 (by simp[hls])
       intro j;have his:i<fk.size:=by rw[hls];exact qY i hiL
       by_cases Cc:i=j
       · subst Cc
         constructor
         · intro h;simp[his]at h
         · intro h;exact absurd h (mf hn)
       · rw[getD_set_ne true Cc,hl j,fp (fw Cc)]
theorem Nl{ds:List (Option Tmp)}{B:List (Nat×Oper)}{q:St->Prop}: ∀{os:List (List Nat)},yq P Γ ds B σ q os-> ∀r∈os,∃τ,vn P Γ ds B r σ=some τ/\q τ
 | [],_,r,hr=>by cases hr
 |o::os,h,r,hr=>by
  obtain⟨⟨τ,h1,h2⟩,h3⟩:=h;rcases aD.1 hr with rfl|hr
  · exact⟨τ,h1,h2⟩
  · exact Nl h3 r hr
theorem Az(yU:aN P Γ)(xY:w0.fix=Γ.fix)(hm:P.follows .mixedOrders=true)(h:cn N0 w0 nt σ φ a w){id:Nat}{ops:Array Oper}(mq:Ay nt ops=true){os:List (List Nat)}(KK:Wi P Γ ops os=true){q:St->Prop}
 (hr:yq P Γ (dstsOf ops.toList) (qf P σ.H.length ops.toList) (pre P ops.toList σ) q os) {Q:Exit->Act->World->Prop} (hQ: ∀τ j4 a' w',q τ->cn N0 w0 nt τ j4 a' w'->Q .normal a' w'):(Code.region id ops true).wp P Q a w:=by
 have VJ:jT w {w with drawn:=w.drawn+1}:=jT.drew w;obtain⟨j4,hc,hf,_⟩:=xy (P:=P) ops.toList 0 (h.grew VJ)
 refine wp_region_any hm ?_;unfold Wi at KK;rw[ak]at KK;obtain⟨tH,hcov⟩:=KK;rw[cw]at tH;have hB: ∀(i:Nat) (x:Nat×Oper),kg (qf P σ.H.length ops.toList) i=some x->ops[i]? =some x.2:=fun i x hx=>by have:=(xz _ _ _ _ hx).1;simpa using this
 -- whatever the slots' history, all that is asked is asked of what the state says
 have hg:=cov_sound (q:=fun τ=> ∃vX,iN vX τ/\q vX) (B:=qf P σ.H.length ops.toList) (fun hs ⟨vX,h1,h2⟩=>⟨vX,h1.trans hs,h2⟩) hB (fun i j x y h1 h2 h3 h4 h5=>y9 _ _ i j x y h1 h2 h3 h4 h5) (List.nodup_range) (fun _ i _ x hx ha=>by
  have h1:=Ho ops.toList σ.H.length 0 i x hx;exact SI hc (hf _ h1 (by have:fJ x.2.op=true:=ha;revert this;cases x.2.op<;>simp[fJ,eL]))) (fun m o ho hm=>by
  have:=(bR.1 ho).1;exact absurd (fK.2 this) hm) hcov (fun r GW=>by obtain⟨τ,h1,h2⟩:=Nl hr r GW;exact⟨τ,h1,τ,iN.refl τ,h2⟩)
 refine Wm yU xY mq hB (fun i j x y h1 h2 h3 h4 h5=>y9 _ _ i j x y h1 h2 h3 h4 h5) (fun i o ho e he hb=>by
  have h1:=tH i (by simpa using(bR.1 ho).1)
  rw[ho]at h1;simp only[cw]at h1;have h2:=h1 e (by simpa using he)
  simpa[hb]using h2) (fun τ φ'' a'' w'' ⟨vX,h1,h2⟩ BK=>hQ vX φ'' a'' w'' h2 (BK.sim h1.symm)) ops.size ops.size _ (by simp) (ai _) List.nodup_range ?_ (fun i hi=>fK.1 hi) hc (fun i hi x hx ha=> ?_) hg (by simp)
 · intro i
   by_cases hi:i<ops.size<;>simp[hi]
 · have:=Ho ops.toList σ.H.length 0 i x hx
   exact hf _ this ha
end
end Go.dF
