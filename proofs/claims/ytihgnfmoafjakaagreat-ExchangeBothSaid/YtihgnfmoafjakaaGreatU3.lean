/- What the laws of this claim rest on: the abstract executor, its soundness, and what the functions compute on pure data. No condition. -/
import Derived.Test.YtihgnfmoafjakaaGreatU2
noncomputable section
set_option linter.unusedVariables false
set_option linter.unusedSimpArgs false
namespace Go.bo
open Go.RowKit
def jI(P:Program)(f:FuncId):Prop:= ∃fn,P.funcs[f]? =some fn/\fn.body.isNone=false/\(fn.name== "runtime.NumGoroutine")=false
def ay(P:Program)(f:FuncId)(args:List A)(pJ:A->Prop):Prop:=
 ∀(N:Nat->Prop) (w:World) (vs:List Value),(∀b,N b->b<w.heap.size)->aQ ⟨N,[],w⟩ args vs->
  Calls P f vs.toArray w fun e w'=> ∃v r,e= .returned v/\pJ r/\aJ ⟨N,[],w'⟩ r v/\eL w w'
structure oE(N:Nat->Prop)(φ:List dj)(H:List Obj)(w:World):Prop where
 len:φ.length=H.length
 c7: ∀(n:Nat) (o:Obj) (p:dj),cn H n=some o->φ[n]? =some p->aL (aB N φ w) o p
 own: ∀n b k:Nat,φ[n]? =some (dj.loc b k)->b<w.heap.size/\ ¬N b
 inj: ∀n m b k k':Nat,φ[n]? =some (dj.loc b k)->φ[m]? =some (dj.loc b k')->n=m
structure M_(φ:List dj)(w:World)(S:List Nat)(eT:List dj)(w':World):Prop where
 os:w'.os=w.os
 tape:w'.tape=w.tape
 output:w'.output=w.output
 drawn:w.drawn<=w'.drawn
 size:w.heap.size<=w'.heap.size
 block: ∀b,b<w.heap.size->(∀n k:Nat,φ[n]? ≠some (dj.loc b k))->w'.heap[b]? =w.heap[b]?
 shape: ∀(b:Nat) (c:Array Value) (e:TypeId) (fr:Nat×Nat),w.heap[b]? =some (.cells c e fr)-> ∃c' Qj,w'.heap[b]? =some (.cells c' e Qj)/\c'.size=c.size
 own: ∀n b k:Nat,eT[n]? =some (dj.loc b k)->w.heap.size<=b\/ ∃m k':Nat,φ[m]? =some (dj.loc b k')
 stay: ∀(n:Nat) (p:dj),n∉S->φ[n]? =some p->eT[n]? =some p
def dR(P:Program)(f:FuncId)(args:List A)(H:List Obj)(r:A)(H':List Obj)(S:List Nat):Prop:=
 ∀(N:Nat->Prop) (φ:List dj) (w:World) (vs:List Value),(∀b,N b->b<w.heap.size)->oE N φ H w->(∀n:Nat,φ[n]? ≠some dj.free)->aQ (aB N φ w) args vs->
  Calls P f vs.toArray w fun e w'=> ∃v eT,e= .returned v/\aJ (aB N eT w') r v/\oE N eT H' w'/\M_ φ w S eT w'/\H.length<=H'.length
structure ag(P:Program)(Γ:an):Prop where
 f: ∀f args r,Γ.f f args=some r->jI P f/\ay P f args (· =r)
 hp: ∀f args H r H' S,Γ.hp f args H=some (r,H',S)->jI P f/\dR P f args H r H' S
theorem lE{P:Program}{f:FuncId}(h:jI P f)(args:Array Value)(w:World):(callFunc f args).run P w= .ok (.enter f args) w:=by
 obtain⟨fn,h1,h2,h3⟩:=h;have nI:fn.body≠none:=fun e=>by rw[e]at h2;simp at h2
 have h3':fn.name≠ "runtime.NumGoroutine" :=by simpa using h3
 simp[callFunc,h1,nI,h3']
mutual
theorem M'{E E':Env}: ∀(x:A) (v:Value),x.flat=true->aJ E x v->aJ E' x v
 | .any,_,h,_=>by simp[A.flat]at h
 | .int _ _,v,_,hr=>by simpa only[aJ]using hr
 | .bool _,v,_,hr=>by simpa only[aJ]using hr
 | .str _,v,_,hr=>by simpa only[aJ]using hr
 | .bT,v,_,hr=>by simpa only[aJ]using hr
 | .uV,v,_,hr=>by simpa only[aJ]using hr
 | .emp _,v,_,hr=>by simpa only[aJ]using hr
 | .agg cs,v,h,hr=>by simp only[aJ]at hr⊢;obtain⟨vs,hv,hl,h1⟩:=hr;exact⟨vs,hv,xi cs vs (by simpa only[A.flat]using h) hl,h1⟩
 | .cD cs,v,h,hr=>by simp only[aJ]at hr⊢;obtain⟨vs,hv,hl⟩:=hr;exact⟨vs,hv,xi cs vs (by simpa only[A.flat]using h) hl⟩
 | .ab _,_,h,_=>by simp[A.flat]at h
 | .clip _,_,h,_=>by simp[A.flat]at h
 | .dK _,_,h,_=>by simp[A.flat]at h
 | .ref _ _,_,h,_=>by simp[A.flat]at h
 | .h_ _ _ _,_,h,_=>by simp[A.flat]at h
 | .row _ _ _ _ _,_,h,_=>by simp[A.flat]at h
 | .fn _ _,_,h,_=>by simp[A.flat]at h
theorem xi{E E':Env}: ∀(cs:List A) (vs:List Value),A.flat.s7 cs=true->aQ E cs vs->aQ E' cs vs
 | [],_,_,hr=>by simpa only[aQ]using hr
 |c::cs,vs,h,hr=>by simp only[A.flat.s7,Bool.and_eq_true]at h;simp only[aQ]at hr⊢;obtain⟨v,lB,hv,hc,hl⟩:=hr;exact⟨v,lB,hv,M' c v h.1 hc,xi cs lB h.2 hl⟩
end
section
variable{P:Program}{Γ:an}{N0:Nat->Prop}{w0:kD}{nt:Nat}{σ:St}{φ:List dj}{a:Act}{w:World}
def Yo(P:Program)(o:Oper)(a:Act)(w:World)(N0:Nat->Prop)(w0:kD)(nt:Nat)(φ:List dj)(n:Nat)(eF:St):Prop:=
 po P o a w N0 w0 nt φ n eF\/ ∃f args,(Go.execOp a.eval o).run P w= .ok (.enter f args) w/\
  Calls P f args w fun e w'=> ∃v eT,e= .returned v/\aO N0 w0 nt eF eT (a.put o.dst v) w'/\ ∀m,m≠n->φ[m]? =some .free->eT[m]? =some .free
theorem JA(h:aO N0 w0 nt σ φ a w): ∀xs:List Operand,aQ (aB N0 φ w) (σ.mF xs) (xs.map a.eval)
 | []=>by simp[St.mF,aQ]
 |x::xs=>by
  simp only[St.mF,List.map_cons,aQ]
  exact⟨_,_,rfl,h.ev x,JA h xs⟩
theorem Qy(tK:ag P Γ)(h:aO N0 w0 nt σ φ a w){d:Option Tmp}{f:Operand}{xs:List Operand}{us:Array TypeId}{t:TypeId}{p:String}{af:Array Edge}{g:Option (Nat×Bool)}(hd: ∀t,d=some t->t<nt){n:Nat}{eF:St}
 (hr:BX Γ σ d (σ.ev f) (σ.mF xs)=some eF):Yo P ⟨d,.call ⟨.value f,⟨xs⟩,us⟩,t,p,af,g⟩ a w N0 w0 nt φ n eF:=by
 have hf:=h.ev f;cases hc:σ.ev f<;>simp only[hc,BX]at hr<;>try(simp at hr;done)
 rename_i q jW;rw[hc]at hf;simp only[aJ]at hf;obtain⟨cvs,hfv,hcr⟩:=hf;have u':=jm (JA h xs) hcr;unfold ML at hr;cases hv:iG σ.H (σ.mF xs++jW)with
 |none=>simp[hv]at hr
 |some bs=>
  simp only[hv,Option.bind_some]at hr;cases hg:Γ.f q bs with
  |none=>simp[hg]at hr
  |some r=>
   simp only[hg,Option.bind_some]at hr;split at hr
   · rename_i hpf
     obtain rfl:=Option.some.inj hr;obtain⟨qm,hA⟩:=tK.f q bs r hg
     have aw: ∀b,(aB N0 φ w).N b->b<w.heap.size:=by
      rintro b (h0|⟨m,k,hm⟩)
      · exact Nat.lt_of_lt_of_le (h.n0 b h0).1 h.below.size
      · exact(h.own m b k hm).2
     right;refine⟨q,(xs.map a.eval++cvs).toArray, ?_, ?_⟩
     · have:(Go.execOp a.eval ⟨d,.call ⟨.value f,⟨xs⟩,us⟩,t,p,af,g⟩).run P w=(callFunc q (xs.map a.eval++cvs).toArray).run P w:=by
        simp only[Go.execOp,resolve,hfv,Deferred.ofValue,Sem.run_bind,Sem.run_pure,Result.andThen_ok,invoke]
        congr 2
        apply Array.ext';simp
       rw[this]
       exact lE qm _ w
     · by_cases hp:A.pure.a_ (σ.mF xs++jW)=true
       · obtain⟨td,_⟩:=y8 h hv u' (N':=(aB N0 φ w).N) (fun _ hb=>hb) (.inl hp)
         refine Calls.mono (hA (aB N0 φ w).N w _ aw td) ?_;rintro e w' ⟨v,r',rfl,rfl,cS,hbel⟩
         have g:=hbel;refine⟨v,φ,rfl,(h.Vt g).put hd ?_,fun _ _ h=>h⟩
         refine aJ.mono (K:=fun _=>True) (E:=⟨(aB N0 φ w).N,[],w'⟩) ?_ _ _ cS (fun _ _=>trivial)
         exact{
          size:=Nat.le_refl _
          MI:=fun b _ hn=>⟨hn,rfl⟩
          refs:=fun m o _ hm=>by simp at hm
          own:=fun m b k c e fr _ hm=>by simp at hm}
       · have va:r.flat=true:=by simpa[hp]using hpf
         obtain⟨td,_⟩:=y8 h hv u' (N':=N0) (fun _ hb=> .inl hb) (.inr (oC h))
         refine Calls.mono (hA N0 w _ (fun b hb=>aw b (.inl hb)) td) ?_;rintro e w' ⟨v,r',rfl,rfl,cS,hbel⟩
         have g:=hbel;exact⟨v,φ,rfl,(h.Vt g).put hd (M' _ _ va cS),fun _ _ h=>h⟩
   · simp at hr
end
end Go.bo
namespace Go.bo
open Go.RowKit
def kb(N0:Nat->Prop)(φ:List dj)(ρ:List Nat)(b:Nat):Prop:=N0 b\/ ∃n k:Nat,φ[n]? =some (dj.loc b k)/\n∉ρ
def fT(φ:List dj)(ρ:List Nat):List dj:=ρ.map fun n=>φ.getD n .free
theorem lV{φ:List dj}{ρ:List Nat}(aw: ∀n∈ρ,n<φ.length){i n:Nat}(h:ρ[i]? =some n):(fT φ ρ)[i]? =φ[n]? :=by
 have hn:=aw n (List.mem_of_getElem? h)
 simp[fT,List.getElem?_map,h,hn]
theorem ep{φ:List dj}{ρ:List Nat}(aw: ∀n∈ρ,n<φ.length){i:Nat}{p:dj}(h:(fT φ ρ)[i]? =some p): ∃n,ρ[i]? =some n/\n∈ρ/\φ[n]? =some p:=by
 cases hi:ρ[i]? with
 |none=>simp[fT,List.getElem?_map,hi]at h
 |some n=>exact⟨n,rfl,List.mem_of_getElem? hi,by rw[<-lV aw hi];exact h⟩
theorem By: ∀{ρ:List Nat} {n i:Nat},idx ρ n=some i->ρ[i]? =some n
 | [],_,_,h=>by simp[idx]at h
 |m::ms,n,i,h=>by
  simp only[idx]at h;split at h
  · rename_i e;subst e;obtain rfl:=Option.some.inj h;rfl
  · cases hm:idx ms n with
    |none=>simp[hm]at h
    |some j=>
     simp[hm]at h;subst h;simpa using By hm
theorem Cv: ∀{ρ:List Nat} {m i n:Nat},ρ[i]? =some n->ia ρ m i=n
 | [],_,_,_,h=>by simp at h
 |k::ks,m,0,n,h=>by simpa[ia]using h
 |k::ks,m,i+1,n,h=>by simp only[ia];exact Cv (by simpa using h)
theorem Cw: ∀{ρ:List Nat} {m i:Nat},ia ρ m (ρ.length+i)=m+i
 | [],m,i=>by simp[ia]
 |k::ks,m,i=>by
  rw[show(k::ks).length+i=(ks.length+i)+1 by simp;omega]
  simp only[ia];exact Cw
section
variable{N0:Nat->Prop}{φ:List dj}{ρ:List Nat}{w:World}
theorem vb(aw: ∀n∈ρ,n<φ.length)(b:Nat):(aB (kb N0 φ ρ) (fT φ ρ) w).N b ↔ (aB N0 φ w).N b:=by
 constructor
 · rintro((h0|⟨n,k,hn,_⟩)|⟨i,k,hi⟩)
   · exact .inl h0
   · exact .inr ⟨n,k,hn⟩
   · obtain⟨n,_,_,hn⟩:=ep aw hi
     exact .inr ⟨n,k,hn⟩
 · rintro(h0|⟨n,k,hn⟩)
   · exact .inl (.inl h0)
   · by_cases tH:n∈ρ
     · obtain⟨i,hi⟩:=List.getElem?_of_mem tH
       exact .inr ⟨i,k,by rw[lV aw hi];exact hn⟩
     · exact .inl (.inr ⟨n,k,hn,tH⟩)
mutual
theorem JB(aw: ∀n∈ρ,n<φ.length): ∀(x:A) (v:Value) (x':A),aJ (aB N0 φ w) x v->x.jD ρ=some x'->aJ (aB (kb N0 φ ρ) (fT φ ρ) w) x' v
 | .any,v,x',h,hx=>by simp only[A.jD,Option.some.injEq]at hx;subst hx;simp only[aJ]
 | .int _ _,v,x',h,hx=>by simp only[A.jD,Option.some.injEq]at hx;subst hx;simpa only[aJ]using h
 | .bool _,v,x',h,hx=>by simp only[A.jD,Option.some.injEq]at hx;subst hx;simpa only[aJ]using h
 | .str _,v,x',h,hx=>by simp only[A.jD,Option.some.injEq]at hx;subst hx;simpa only[aJ]using h
 | .bT,v,x',h,hx=>by simp only[A.jD,Option.some.injEq]at hx;subst hx;simpa only[aJ]using h
 | .uV,v,x',h,hx=>by simp only[A.jD,Option.some.injEq]at hx;subst hx;simpa only[aJ]using h
 | .emp _,v,x',h,hx=>by simp only[A.jD,Option.some.injEq]at hx;subst hx;simpa only[aJ]using h
 | .ab es,v,x',h,hx=>by simp only[A.jD,Option.some.injEq]at hx;subst hx;exact aJ.pure_mono (E:=aB N0 φ w) (E':=aB (kb N0 φ ρ) (fT φ ρ) w) rfl (fun b hb h'=>hb ((vb aw b).1 h')) (by simp[A.pure]) h
 | .clip es,v,x',h,hx=>by simp only[A.jD,Option.some.injEq]at hx;subst hx;exact aJ.pure_mono (E:=aB N0 φ w) (E':=aB (kb N0 φ ρ) (fT φ ρ) w) rfl (fun b hb h'=>hb ((vb aw b).1 h')) (by simp[A.pure]) h
 | .dK es,v,x',h,hx=>by simp only[A.jD,Option.some.injEq]at hx;subst hx;exact aJ.pure_mono (E:=aB N0 φ w) (E':=aB (kb N0 φ ρ) (fT φ ρ) w) rfl (fun b hb h'=>hb ((vb aw b).1 h')) (by simp[A.pure]) h
 | .agg cs,v,x',h,hx=>by simp only[A.jD]at hx;obtain⟨Na,h1,rfl⟩:=Option.map_eq_some_iff.1 hx;simp only[aJ]at h⊢;obtain⟨vs,hv,hl,ho⟩:=h;exact⟨vs,hv,qn aw cs vs Na hl h1,ho⟩
 | .fn f cs,v,x',h,hx=>by simp only[A.jD]at hx;obtain⟨Na,h1,rfl⟩:=Option.map_eq_some_iff.1 hx;simp only[aJ]at h⊢;obtain⟨vs,hv,hl⟩:=h;exact⟨vs,hv,qn aw cs vs Na hl h1⟩
 | .cD cs,v,x',h,hx=>by simp only[A.jD]at hx;obtain⟨Na,h1,rfl⟩:=Option.map_eq_some_iff.1 hx;simp only[aJ]at h⊢;obtain⟨vs,hv,hl⟩:=h;exact⟨vs,hv,qn aw cs vs Na hl h1⟩
 | .ref n o,v,x',h,hx=>by simp only[A.jD]at hx;obtain⟨i,h1,rfl⟩:=Option.map_eq_some_iff.1 hx;simp only[aJ]at h⊢;obtain⟨b,k,hb,hv⟩:=h;exact⟨b,k,by show(fT φ ρ)[i]? =_;rw[lV aw (By h1)];exact hb,hv⟩
 | .h_ n j o,v,x',h,hx=>by simp only[A.jD]at hx;obtain⟨i,h1,rfl⟩:=Option.map_eq_some_iff.1 hx;simp only[aJ]at h⊢;obtain⟨b,k,hb,hv⟩:=h;exact⟨b,k,by show(fT φ ρ)[i]? =_;rw[lV aw (By h1)];exact hb,hv⟩
 | .row n o k l c,v,x',h,hx=>by
  simp only[A.jD]at hx;obtain⟨i,h1,rfl⟩:=Option.map_eq_some_iff.1 hx;simp only[aJ]at h⊢;have e:(fT φ ρ)[i]? =φ[n]? :=lV aw (By h1)
  rcases h with⟨p,hp,r⟩|⟨b,cap,c',e',fr,hp,r⟩
  · exact .inl ⟨p,by show(fT φ ρ)[i]? =_;rw[e];exact hp,r⟩
  · exact .inr ⟨b,cap,c',e',fr,by show(fT φ ρ)[i]? =_;rw[e];exact hp,r⟩
theorem qn(aw: ∀n∈ρ,n<φ.length): ∀(cs:List A) (vs:List Value) (Na:List A),aQ (aB N0 φ w) cs vs->A.jD.pG ρ cs=some Na->aQ (aB (kb N0 φ ρ) (fT φ ρ) w) Na vs
 | [],vs,Na,h,hx=>by simp only[A.jD.pG,Option.some.injEq]at hx;subst hx;simpa only[aQ]using h
 |c::cs,vs,Na,h,hx=>by simp only[A.jD.pG]at hx;obtain⟨c',h1,hx⟩:=Option.bind_eq_some_iff.1 hx;obtain⟨ds,h2,rfl⟩:=Option.map_eq_some_iff.1 hx;simp only[aQ]at h⊢;obtain⟨v,lB,hv,hc,hl⟩:=h;exact⟨v,lB,hv,JB aw c v c' hc h1,qn aw cs lB ds hl h2⟩
end
theorem Nb: ∀{cs ds:List A},A.jD.pG ρ cs=some ds->cs.length=ds.length/\ ∀(i:Nat) (c d:A),cs[i]? =some c->ds[i]? =some d->c.jD ρ=some d
 | [],ds,h=>by simp only[A.jD.pG,Option.some.injEq]at h;subst h;exact⟨rfl,fun i c d h=>by simp at h⟩
 |c::cs,ds,h=>by
  simp only[A.jD.pG]at h;obtain⟨c',h1,hx⟩:=Option.bind_eq_some_iff.1 h;obtain⟨es,h2,rfl⟩:=Option.map_eq_some_iff.1 hx;obtain⟨g1,g2⟩:=Nb h2;refine⟨by simp[g1],fun i x y hx hy=> ?_⟩
  cases i with
  |zero=>simp at hx hy;subst hx;subst hy;exact h1
  |succ i=>exact g2 i x y (by simpa using hx) (by simpa using hy)
theorem Qz(aw: ∀n∈ρ,n<φ.length){o o':Obj}{p:dj}(h:aL (aB N0 φ w) o p)(ho:o.jD ρ=some o'):aL (aB (kb N0 φ ρ) (fT φ ρ) w) o' p:=by
 cases o with
 |box cs=>
  simp only[Obj.jD]at ho;obtain⟨Na,h1,rfl⟩:=Option.map_eq_some_iff.1 ho;obtain⟨g1,g2⟩:=Nb h1;cases p with
  |loc b k=>
   simp only[aL]at h⊢;refine⟨h.1,bg.2 fun i y hy=> ?_⟩
   have hi:i<cs.length:=by rw[g1];exact(List.getElem?_eq_some_iff.1 hy).1
   obtain⟨v,hv,nj,hr⟩:=bg.1 h.2 i _ (List.getElem?_eq_getElem hi)
   exact⟨v,hv,nj,JB aw _ v y hr (g2 i _ y (List.getElem?_eq_getElem hi) hy)⟩
  |nil=>simp[aL]at h
  |free=>simp[aL]at h
 |row k es=>
  simp only[Obj.jD,Option.some.injEq]at ho;subst ho;cases p with
  |loc b k'=>
   simp only[aL]at h⊢;exact⟨h.1,h.2.1,h.2.2.1,eJ.pure_mono (E:=aB N0 φ w) (E':=aB (kb N0 φ ρ) (fT φ ρ) w) rfl (fun b hb h'=>hb ((vb aw b).1 h')) h.2.1 h.2.2.2⟩
  |nil=>simpa only[aL]using h
  |free=>simpa only[aL]using h
theorem Cx{H:List Obj}: ∀{ns:List Nat} {cr:List Obj},pH ρ H ns=some cr->ns.length=cr.length/\(∀n∈ns,n<H.length)/\ ∀(i n:Nat) (o:Obj),ns[i]? =some n->cr[i]? =some o-> ∃o',H[n]? =some o'/\o'.jD ρ=some o
 | [],cr,h=>by simp only[pH,Option.some.injEq]at h;subst h;exact⟨rfl,by simp,fun i n o h=>by simp at h⟩
 |m::ns,cr,h=>by
  simp only[pH]at h;obtain⟨o',h1,hx⟩:=Option.bind_eq_some_iff.1 h;obtain⟨H₁,h2,rfl⟩:=Option.map_eq_some_iff.1 hx;obtain⟨g1,g2,g3⟩:=Cx h2;rw[bH]at h1;cases hm:H[m]? with
  |none=>simp[hm,XT]at h1
  |some p=>
   rw[hm]at h1;simp only[XT]at h1;refine⟨by simp[g1],fun n hn=> ?_,fun i n o hi ho=> ?_⟩
   · rcases List.mem_cons.1 hn with rfl|hn
     · exact(List.getElem?_eq_some_iff.1 hm).1
     · exact g2 n hn
   · cases i with
     |zero=>simp at hi ho;subst hi;subst ho;exact⟨p,hm,h1⟩
     |succ i=>exact g3 i n o (by simpa using hi) (by simpa using ho)
end
theorem qo(H:List Obj): ∀(fuel:Nat) (todo acc:List Nat),acc.Nodup->(reach H fuel todo acc).Nodup
 |0,_,acc,h=>by simpa only[reach]using h
 |_+1,[],acc,h=>by simpa only[reach]using h
 |fuel+1,n::todo,acc,h=>by
  simp only[reach]
  split
  · exact qo H fuel todo acc h
  · rename_i hn
    refine qo H fuel _ _ ?_;rw[List.nodup_append]
    refine⟨h,by simp,fun x hx y hy=> ?_⟩
    simp at hy;subst hy;intro e;subst e;simp at hn;exact hn hx
theorem xj(H:List Obj)(p:Nat->Prop)(hs: ∀m,p m-> ∀n∈tF (cn H m),p n): ∀(fuel:Nat) (todo acc:List Nat),(∀n∈todo,p n)->(∀n∈acc,p n)-> ∀n∈reach H fuel todo acc,p n
 |0,_,acc,_,h=>by simpa only[reach]using h
 |_+1,[],acc,_,h=>by simpa only[reach]using h
 |fuel+1,n::todo,acc,ht,h=>by
  simp only[reach]
  split
  · exact xj H p hs fuel todo acc (fun m hm=>ht m (by simp[hm])) h
  · refine xj H p hs fuel _ _ (fun m hm=> ?_) (fun m hm=> ?_)
    · rcases List.mem_append.1 hm with hm|hm
      · exact hs n (ht n (by simp)) m hm
      · exact ht m (by simp[hm])
    · rcases List.mem_append.1 hm with hm|hm
      · exact h m hm
      · simp at hm;subst hm;exact ht m (by simp)
mutual
theorem QA{E:Env}: ∀(x:A) (v:Value),aJ E x v-> ∀n∈x.names,E.φ[n]? ≠some dj.free
 | .any,v,h,n,hn=>by simp[A.names]at hn
 | .int _ _,v,h,n,hn=>by simp[A.names]at hn
 | .bool _,v,h,n,hn=>by simp[A.names]at hn
 | .str _,v,h,n,hn=>by simp[A.names]at hn
 | .bT,v,h,n,hn=>by simp[A.names]at hn
 | .uV,v,h,n,hn=>by simp[A.names]at hn
 | .emp _,v,h,n,hn=>by simp[A.names]at hn
 | .ab _,v,h,n,hn=>by simp[A.names]at hn
 | .clip _,v,h,n,hn=>by simp[A.names]at hn
 | .dK _,v,h,n,hn=>by simp[A.names]at hn
 | .agg cs,v,h,n,hn=>by simp only[aJ]at h;obtain⟨vs,_,hl,_⟩:=h;exact jo cs vs hl n (by simpa only[A.names]using hn)
 | .fn _ cs,v,h,n,hn=>by simp only[aJ]at h;obtain⟨vs,_,hl⟩:=h;exact jo cs vs hl n (by simpa only[A.names]using hn)
 | .cD cs,v,h,n,hn=>by simp only[aJ]at h;obtain⟨vs,_,hl⟩:=h;exact jo cs vs hl n (by simpa only[A.names]using hn)
 | .ref m o,v,h,n,hn=>by simp only[A.names,List.mem_singleton]at hn;subst hn;simp only[aJ]at h;obtain⟨b,k,hb,_⟩:=h;rw[hb];simp
 | .h_ m j o,v,h,n,hn=>by simp only[A.names,List.mem_singleton]at hn;subst hn;simp only[aJ]at h;obtain⟨b,k,hb,_⟩:=h;rw[hb];simp
 | .row m o k l c,v,h,n,hn=>by
  simp only[A.names,List.mem_singleton]at hn;subst hn;simp only[aJ]at h;rcases h with⟨p,hp,hf,_⟩|⟨b,cap,c',e',fr,hp,_⟩
  · rw[hp];intro e;exact hf (Option.some.inj e)
  · rw[hp];simp
theorem jo{E:Env}: ∀(cs:List A) (vs:List Value),aQ E cs vs-> ∀n∈A.names.gq cs,E.φ[n]? ≠some dj.free
 | [],vs,h,n,hn=>by simp[A.names.gq]at hn
 |c::cs,vs,h,n,hn=>by
  simp only[aQ]at h;obtain⟨v,lB,_,hc,hl⟩:=h;simp only[A.names.gq,List.mem_append]at hn;rcases hn with hn|hn
  · exact QA c v hc n hn
  · exact jo cs lB hl n hn
end
section
variable{P:Program}{Γ:an}{N0:Nat->Prop}{w0:kD}{nt:Nat}{σ:St}{φ:List dj}{a:Act}{w:World}{ρ:List Nat}
theorem QB(h:aO N0 w0 nt σ φ a w){aq:List A}{vs:List Value}(hr:aQ (aB N0 φ w) aq vs)(fuel:Nat): ∀n∈reach σ.H fuel (A.names.gq aq) [],φ[n]? ≠some dj.free:=by
 refine xj σ.H (fun n=>φ[n]? ≠some dj.free) (fun m hm n hn=> ?_) fuel _ _ (fun n hn=>jo (E:=aB N0 φ w) aq vs hr n hn) (by simp)
 cases ho:cn σ.H m with
 |none=>rw[ho]at hn;simp[tF]at hn
 |some o=>
  rw[ho]at hn;cases o with
  |row k es=>simp[tF,Obj.names]at hn
  |box cs=>
   simp only[tF,Obj.names]at hn;have aw:m<φ.length:=by rw[h.len];rw[bH]at ho;exact(List.getElem?_eq_some_iff.1 ho).1
   have fC:=h.c7 m _ _ ho (List.getElem?_eq_getElem aw)
   cases hp:φ[m]with
   |loc b k=>
    rw[hp]at fC;simp only[aL]at fC;obtain⟨us,_,hL,_⟩:=rT fC.2;exact jo (E:=aB N0 φ w) cs us hL n hn
   |nil=>rw[hp]at fC;simp[aL]at fC
   |free=>rw[hp]at fC;simp[aL]at fC
theorem aO.loc(h:aO N0 w0 nt σ φ a w)(pq:ρ.Nodup){cr:List Obj}(hH:pH ρ σ.H ρ=some cr):(∀n∈ρ,n<φ.length)/\oE (kb N0 φ ρ) (fT φ ρ) cr w:=by
 obtain⟨g1,g2,g3⟩:=Cx hH;have aw: ∀n∈ρ,n<φ.length:=fun n hn=>by rw[h.len];exact g2 n hn
 refine⟨aw,{
  len:=by simp[fT,g1]
  c7:=fun i o p ho hp=> ?_
  own:=fun i b k hi=> ?_
  inj:=fun i j b k k' hi hj=> ?_}⟩
 · obtain⟨n,hn,_,fA⟩:=ep aw hp
   rw[bH]at ho;obtain⟨o',xc,hren⟩:=g3 i n o hn ho;exact Qz aw (h.c7 n o' p (by rw[bH];exact xc) fA) hren
 · obtain⟨n,hn,hm,fA⟩:=ep aw hi
   refine⟨(h.own n b k fA).2, ?_⟩
   rintro(h0|⟨n',k',ka,tH⟩)
   · rcases(h.own n b k fA).1 with h1|h1
     · have:=(h.n0 b h0).1;omega
     · exact(h.n0 b h0).2 h1
   · exact tH ((h.inj n n' b k k' fA ka)▸hm)
 · obtain⟨n,hn,_,fA⟩:=ep aw hi
   obtain⟨n',ka,_,Jx⟩:=ep aw hj;obtain rfl:=h.inj n n' b k k' fA Jx;have hi1:=(List.getElem?_eq_some_iff.1 hn).1;have hj1:=(List.getElem?_eq_some_iff.1 ka).1;exact(List.getElem_inj pq).1 (by rw[(List.getElem?_eq_some_iff.1 hn).2,(List.getElem?_eq_some_iff.1 ka).2])
def er{α:Type}:List Nat->List α->List α->List α
 | [],os,xs=>xs++os
 |n::ns,o::os,xs=>er ns os (xs.set n o)
 |_::_,[],xs=>xs
theorem qp(ρ':List Nat)(m:Nat): ∀(ns:List Nat) (os H:List Obj),mP ρ' m ns os H=er ns (os.map (Obj.back ρ' m)) H
 | [],os,H=>rfl
 |n::ns,o::os,H=>by simp only[mP,List.map_cons,er,dU];exact qp ρ' m ns os _
 |_::_,[],H=>rfl
theorem nJ{α:Type}: ∀{ns:List Nat} {os xs:List α},ns.length<=os.length-> ∀{j:Nat},j∉ns->j<xs.length->(er ns os xs)[j]? =xs[j]?
 | [],os,xs,_,j,_,hj=>by simp only[er];exact List.getElem?_append_left hj
 |n::ns,[],xs,h,_,_,_=>by simp at h
 |n::ns,o::os,xs,h,j,hn,hj=>by
  simp only[er]
  rw[nJ (by simpa using h) (fun h'=>hn (by simp[h'])) (by simpa using hj),List.getElem?_set_ne (fun e=>hn (by simp[e]))]
theorem kc{α:Type}: ∀{ns:List Nat} {os xs:List α},ns.length<=os.length->ns.Nodup->(∀n∈ns,n<xs.length)-> ∀i,(er ns os xs)[ia ns xs.length i]? =os[i]?
 | [],os,xs,_,_,_,i=>by
  simp only[er,ia]
  rw[List.getElem?_append_right (by omega),Nat.add_sub_cancel_left]
 |n::ns,[],xs,h,_,_,_=>by simp at h
 |n::ns,o::os,xs,h,pq,aw,i=>by
  simp only[er]
  rw[List.nodup_cons]at pq;cases i with
  |zero=>
   simp only[ia]
   rw[nJ (by simpa using h) pq.1 (by simpa using aw n (by simp))]
   simp[aw n (by simp)]
  |succ i=>
   simp only[ia]
   have:=kc (ns:=ns) (os:=os) (xs:=xs.set n o) (by simpa using h) pq.2 (fun m hm=>by simpa using aw m (by simp[hm])) i;simpa using this
theorem lW{α:Type}: ∀{ns:List Nat} {os xs:List α},ns.length<=os.length->(er ns os xs).length=xs.length+(os.length-ns.length)
 | [],os,xs,_=>by simp[er]
 |n::ns,[],xs,h=>by simp at h
 |n::ns,o::os,xs,h=>by
  simp only[er]
  rw[lW (by simpa using h)]
  simp
theorem zj{α:Type}{ns:List Nat}{os xs:List α}(h:ns.length<=os.length)(pq:ns.Nodup)(aw: ∀n∈ns,n<xs.length){j:Nat}{x:α}(hj:(er ns os xs)[j]? =some x):
 (∃i,j=ia ns xs.length i/\os[i]? =some x)\/(j∉ns/\j<xs.length/\xs[j]? =some x):=by
 have hl:=(List.getElem?_eq_some_iff.1 hj).1;rw[lW h]at hl;by_cases h1:j<xs.length
 · by_cases h2:j∈ns
   · obtain⟨i,hi⟩:=List.getElem?_of_mem h2
     have:=Cv (m:=xs.length) hi;refine .inl ⟨i,this.symm, ?_⟩
     rw[<-kc h pq aw i,this];exact hj
   · exact .inr ⟨h2,h1,by rw[<-nJ h h2 h1];exact hj⟩
 · refine .inl ⟨ns.length+(j-xs.length),by rw[Cw];omega, ?_⟩
   rw[<-kc h pq aw,Cw,show xs.length+(j-xs.length)=j by omega];exact hj
mutual
theorem vc{El E:Env}{m:Nat}(hw:El.w=E.w)(hN: ∀b,¬El.N b-> ¬E.N b)(fA: ∀(i:Nat) (p:dj),El.φ[i]? =some p->E.φ[ia ρ m i]? =some p): ∀(x:A) (v:Value),aJ El x v->aJ E (x.back ρ m) v
 | .any,v,h=>by simp only[A.back,aJ]
 | .int _ _,v,h=>by simpa only[A.back,aJ]using h
 | .bool _,v,h=>by simpa only[A.back,aJ]using h
 | .str _,v,h=>by simpa only[A.back,aJ]using h
 | .bT,v,h=>by simpa only[A.back,aJ]using h
 | .uV,v,h=>by simpa only[A.back,aJ]using h
 | .emp _,v,h=>by simpa only[A.back,aJ]using h
 | .ab es,v,h=>by simp only[A.back];exact aJ.pure_mono hw.symm hN (by simp[A.pure]) h
 | .clip es,v,h=>by simp only[A.back];exact aJ.pure_mono hw.symm hN (by simp[A.pure]) h
 | .dK es,v,h=>by simp only[A.back];exact aJ.pure_mono hw.symm hN (by simp[A.pure]) h
 | .agg cs,v,h=>by simp only[A.back,aJ]at h⊢;obtain⟨vs,hv,hl,ho⟩:=h;exact⟨vs,hv,rW hw hN fA cs vs hl,ho⟩
 | .fn f cs,v,h=>by simp only[A.back,aJ]at h⊢;obtain⟨vs,hv,hl⟩:=h;exact⟨vs,hv,rW hw hN fA cs vs hl⟩
 | .cD cs,v,h=>by simp only[A.back,aJ]at h⊢;obtain⟨vs,hv,hl⟩:=h;exact⟨vs,hv,rW hw hN fA cs vs hl⟩
 | .ref n o,v,h=>by simp only[A.back,aJ]at h⊢;obtain⟨b,k,hb,hv⟩:=h;exact⟨b,k,fA n _ hb,hv⟩
 | .h_ n j o,v,h=>by simp only[A.back,aJ]at h⊢;obtain⟨b,k,hb,hv⟩:=h;exact⟨b,k,fA n _ hb,hv⟩
 | .row n o k l c,v,h=>by
  simp only[A.back,aJ]at h⊢;rcases h with⟨p,hp,r⟩|⟨b,cap,c',e',fr,hp,r⟩
  · exact .inl ⟨p,fA n _ hp,r⟩
  · exact .inr ⟨b,cap,c',e',fr,fA n _ hp,by rw[<-hw];exact r⟩
theorem rW{El E:Env}{m:Nat}(hw:El.w=E.w)(hN: ∀b,¬El.N b-> ¬E.N b)(fA: ∀(i:Nat) (p:dj),El.φ[i]? =some p->E.φ[ia ρ m i]? =some p): ∀(cs:List A) (vs:List Value),aQ El cs vs->aQ E (A.back.mO ρ m cs) vs
 | [],vs,h=>by simpa only[A.back.mO,aQ]using h
 |c::cs,vs,h=>by simp only[A.back.mO,aQ]at h⊢;obtain⟨v,lB,hv,hc,hl⟩:=h;exact⟨v,lB,hv,vc hw hN fA c v hc,rW hw hN fA cs lB hl⟩
end
theorem Ig{m:Nat}: ∀{cs:List A} {i:Nat},(A.back.mO ρ m cs)[i]? =(cs[i]?).map (A.back ρ m)
 | [],i=>by simp[A.back.mO]
 |c::cs,0=>by simp[A.back.mO]
 |c::cs,i+1=>by simpa[A.back.mO]using Ig (cs:=cs) (i:=i)
theorem zk{El E:Env}{m:Nat}(hw:El.w=E.w)(hN: ∀b,¬El.N b-> ¬E.N b)(fA: ∀(i:Nat) (p:dj),El.φ[i]? =some p->E.φ[ia ρ m i]? =some p){o:Obj}{p:dj}(h:aL El o p):aL E (o.back ρ m) p:=by
 cases o with
 |box cs=>
  cases p with
  |loc b k=>
   simp only[Obj.back,aL]at h⊢;refine⟨by rw[<-hw];exact h.1,bg.2 fun i y hy=> ?_⟩
   rw[Ig]at hy;obtain⟨x,hx,rfl⟩:=Option.map_eq_some_iff.1 hy;obtain⟨v,hv,h1,hr⟩:=bg.1 h.2 i x hx;exact⟨v,by rw[<-hw];exact hv,h1,vc hw hN fA x v hr⟩
  |nil=>simp[aL]at h
  |free=>simp[aL]at h
 |row k es=>
  cases p with
  |loc b k'=>
   simp only[Obj.back,aL]at h⊢;exact⟨h.1,h.2.1,by rw[<-hw];exact h.2.2.1,eJ.pure_mono hw.symm hN h.2.1 h.2.2.2⟩
  |nil=>simpa only[Obj.back,aL]using h
  |free=>simpa only[Obj.back,aL]using h
theorem Clear.fR{m:Nat}(h:Clear σ m)(n:Nat):Clear (σ.fR n) m:=by
 have one: ∀x:A,x.mem m=false->(eo n x).mem m=false:=fun x hx=>by
  unfold eo;split
  · rfl
  · exact hx
 refine⟨fun d=> ?_,fun j cs hj=> ?_⟩
 · show(look (σ.s.map fun p=>(p.1,eo n p.2)) d).mem m=false
   rw[nG];exact one _ (h.1 d)
 · simp only[St.fR]at hj
   rw[Ct]at hj;cases ho:cn σ.H j with
   |none=>simp[ho]at hj
   |some o=>
    simp[ho]at hj;cases o with
    |row k es=>simp[og]at hj
    |box ds=>
     simp[og]at hj;subst hj;have hd:=h.2 j ds ho;clear ho;induction ds with
     |nil=>rfl
     |cons y ys ih=>
      simp only[A.mem.gm,Bool.or_eq_false_iff]at hd;simp only[List.map_cons,A.mem.gm,Bool.or_eq_false_iff]
      exact⟨one y hd.1,ih hd.2⟩
theorem aO.dp{m:Nat}: ∀{S:List Nat} {σ:St},aO N0 w0 nt σ φ a w->aO N0 w0 nt (Go.bo.dp ρ m σ S) φ a w/\(∀j,Clear σ j->Clear (Go.bo.dp ρ m σ S) j)/\(∀i∈S,Clear (Go.bo.dp ρ m σ S) (ia ρ m i))/\(Go.bo.dp ρ m σ S).H.length=σ.H.length
 | [],σ,h=>⟨h,fun _ h=>h,by simp,rfl⟩
 |i::is,σ,h=>by
  obtain⟨h1,h2,h3,h4⟩:=aO.dp (m:=m) (S:=is) (h.fR (ia ρ m i))
  refine⟨h1,fun j hj=>h2 j (hj.fR _),fun j hj=> ?_,h4.trans (by simp[St.fR])⟩
  rcases List.mem_cons.1 hj with rfl|hj
  · exact h2 _ (zh σ _)
  · exact h3 j hj
theorem vd{m:Nat}: ∀{S:List Nat},oq Γ ρ m S=true-> ∀i∈S,Γ.fix (ia ρ m i)=false
 | [],_,i,hi=>by simp at hi
 |j::js,h,i,hi=>by
  simp only[oq,Bool.and_eq_true,Bool.not_eq_true']at h;rcases List.mem_cons.1 hi with rfl|hi
  · exact h.1
  · exact vd h.2 i hi
theorem aO.turned(h:aO N0 w0 nt σ φ a w)(uT:w0.fix=Γ.fix)(pq:ρ.Nodup){cr:List Obj}(hH:pH ρ σ.H ρ=some cr){FM:List dj}{H':List Obj}{S:List Nat}{w':World}{r:A}{v:Value}
 (iy:oE (kb N0 φ ρ) FM H' w') (hT:M_ (fT φ ρ) w S FM w') (hlen:cr.length<=H'.length) (hmv:oq Γ ρ σ.H.length S=true)
 (hr:aJ (aB (kb N0 φ ρ) FM w') r v) {d:Option Tmp} (hd: ∀t,d=some t->t<nt):
 ∃eT,aO N0 w0 nt (BY σ d ρ (r,H',S)) eT (a.put d v) w'/\ ∀m,m∉ρ->m<φ.length->eT[m]? =φ[m]? :=by
 obtain⟨aw,F5⟩:=h.loc pq hH;obtain⟨g1,g2,g3⟩:=Cx hH;obtain⟨hs,_,jV,pW⟩:=aO.dp (ρ:=ρ) (m:=σ.H.length) (S:=S) h;have rX:φ.length=σ.H.length:=h.len;have hle:ρ.length<=FM.length:=by rw[iy.len];omega
 have hle':ρ.length<=H'.length:=by omega
 have nk: ∀i,(er ρ FM φ)[ia ρ σ.H.length i]? =FM[i]? :=fun i=>by rw[<-rX];exact kc hle pq aw i
 have hold: ∀j,j∉ρ->j<φ.length->(er ρ FM φ)[j]? =φ[j]? :=fun j h1 h2=>nJ hle h1 h2;have mg: ∀(j:Nat) (p:dj),(er ρ FM φ)[j]? =some p->(∃i,j=ia ρ σ.H.length i/\FM[i]? =some p)\/(j∉ρ/\j<φ.length/\φ[j]? =some p):=fun j p hj=>by rw[<-rX];exact zj hle pq aw hj
 have QC: ∀(i:Nat) (p:dj),FM[i]? =some p->(er ρ FM φ)[ia ρ σ.H.length i]? =some p:=fun i p hp=>by rw[nk];exact hp
 have hN: ∀b,¬(aB (kb N0 φ ρ) FM w').N b-> ¬(aB N0 (er ρ FM φ) w').N b:=fun b hb=>by
  rintro(h0|⟨j,k,hj⟩)
  · exact hb (.inl (.inl h0))
  · rcases mg j _ hj with⟨i,_,hi⟩|⟨h1,h2,h3⟩
    · exact hb (.inr ⟨i,k,hi⟩)
    · exact hb (.inl (.inr ⟨j,k,h3,h1⟩))
 have MA: ∀(j b k:Nat),j∉ρ->φ[j]? =some (dj.loc b k)->w'.heap[b]? =w.heap[b]? :=fun j b k hj hb=>by refine hT.block b (h.own j b k hb).2 fun i k' hi=> ?_;obtain⟨n,_,hm,hn⟩:=ep aw hi;exact hj ((h.inj n j b k' k hn hb)▸hm)
 have dL:Ext (fun n=> ∀i∈S,ia ρ σ.H.length i≠n) (aB N0 φ w) (aB N0 (er ρ FM φ) w'):={
  size:=hT.size
  MI:=fun b hb hn=>⟨by
   rintro(h0|⟨j,k,hj⟩)
   · exact hn (.inl h0)
   · rcases mg j _ hj with⟨i,_,hi⟩|⟨h1,h2,h3⟩
     · rcases hT.own i b k hi with h'|⟨i',k',fB⟩
       · have:b<w.heap.size:=hb
         omega
       · obtain⟨n,_,_,ka⟩:=ep aw fB
         exact hn (.inr ⟨n,k',ka⟩)
     · exact hn (.inr ⟨j,k,h3⟩),hT.block b hb fun i k hi=>by
   obtain⟨n,_,_,ka⟩:=ep aw hi;exact hn (.inr ⟨n,k,ka⟩)⟩
  refs:=fun n p hk hp hf=>by
   show(er ρ FM φ)[n]? =some p;have tb:φ[n]? =some p:=hp;by_cases hn:n∈ρ
   · obtain⟨i,hi⟩:=List.getElem?_of_mem hn
     have e:=Cv (m:=σ.H.length) hi;have hiS:i∉S:=fun hS=>hk i hS e;rw[<-e]
     exact QC i p (hT.stay i p hiS (by rw[lV aw hi];exact tb))
   · rw[hold n hn (List.getElem?_eq_some_iff.1 tb).1];exact tb
  own:=fun n b k c e fr _ hn hc=>hT.shape b c e fr hc}
 have hconc:aO N0 w0 nt ⟨(Go.bo.dp ρ σ.H.length σ S).s,mP ρ σ.H.length ρ H' (Go.bo.dp ρ σ.H.length σ S).H⟩ (er ρ FM φ) a w':={
  cW:=fun t=>aJ.mono dL _ _ (hs.cW t) fun n hn i hi e=>by have:=(jV i hi).1 t;rw[e]at this;have ka:(look (Go.bo.dp ρ σ.H.length σ S).s t).mem n=true:=hn;rw[this]at ka;cases ka
  size:=h.size
  defers:=h.defers
  len:=by rw[qp,lW hle,lW (by simpa using hle'),pW,rX,iy.len];simp
  c7:=fun j o p ho hp=>by
   rw[bH,qp]at ho;have hltS: ∀n∈ρ,n<(Go.bo.dp ρ σ.H.length σ S).H.length:=fun n hn=>by rw[pW,<-rX];exact aw n hn
   rcases mg j p hp with⟨i,rfl,hi⟩|⟨h1,h2,h3⟩
   · have:=kc (os:=H'.map (Obj.back ρ σ.H.length)) (by simpa using hle') pq hltS i
     rw[pW]at this;rw[this,List.getElem?_map]at ho;obtain⟨o',xc,rfl⟩:=Option.map_eq_some_iff.1 ho;exact zk (El:=aB (kb N0 φ ρ) FM w') (E:=aB N0 (er ρ FM φ) w') rfl hN QC (iy.c7 i o' p (by rw[bH];exact xc) hi)
   · rw[nJ (by simpa using hle') h1 (by rw[pW,<-rX];exact h2)]at ho
     refine aL.mono dL (hs.c7 j o p (by rw[bH];exact ho) h3) (fun b k hb c e fr hh=> ?_) (fun cs Bv n hn i hi e=> ?_)
     · subst hb
       show w'.heap[b]? =_;rw[MA j b k h1 h3];exact hh
     · subst Bv;subst e
       have:=(jV i hi).2 j cs (by rw[bH];exact ho)
       rw[this]at hn;cases hn
  own:=fun j b k hj=>by
   rcases mg j _ hj with⟨i,_,hi⟩|⟨h1,h2,h3⟩
   · refine⟨?_,(iy.own i b k hi).1⟩
     rcases hT.own i b k hi with h'|⟨i',k',fB⟩
     · exact .inl (Nat.le_trans h.below.size h')
     · obtain⟨n,_,_,ka⟩:=ep aw fB
       exact(h.own n b k' ka).1
   · exact⟨(h.own j b k h3).1,Nat.lt_of_lt_of_le (h.own j b k h3).2 hT.size⟩
  inj:=fun j j' b k k' hj wS=>by
   rcases mg j _ hj with⟨i,e,hi⟩|⟨h1,h2,h3⟩<;>rcases mg j' _ wS with⟨i',e',fB⟩|⟨nj,nI,h3'⟩
   · rw[e,e',iy.inj i i' b k k' hi fB]
   · exact absurd (.inr ⟨j',k',h3',nj⟩) (iy.own i b k hi).2
   · exact absurd (.inr ⟨j,k,h3,h1⟩) (iy.own i' b k' fB).2
   · exact h.inj j j' b k k' h3 h3'
  n0:=h.n0
  lD:=fun n p hf hp bI=>by have tb:=h.lD n p hf hp bI;refine dL.refs n p (fun i hi e=> ?_) tb bI;have:=vd hmv i hi;rw[e,<-uT,hf]at this;cases this
  below:={
   os:=hT.os.trans h.below.os
   tape:=hT.tape.trans h.below.tape
   output:=hT.output.trans h.below.output
   drawn:=Nat.le_trans h.below.drawn hT.drawn
   size:=Nat.le_trans h.below.size hT.size
   block:=fun b hb hM=>by
    rw[hT.block b (Nat.lt_of_lt_of_le hb h.below.size) fun i k hi=>by
     obtain⟨n,_,_,ka⟩:=ep aw hi;rcases(h.own n b k ka).1 with h'|h'
     · omega
     · exact hM h']
    exact h.below.block b hb hM
   shape:=fun b c e fr hc=>by obtain⟨c',Qj,k1,k2⟩:=h.below.shape b c e fr hc;obtain⟨c'',fr'',k3,k4⟩:=hT.shape b c' e Qj k1;exact⟨c'',fr'',k3,k4.trans k2⟩}}
 refine⟨er ρ FM φ,hconc.put hd ?_,fun m h1 h2=>hold m h1 h2⟩
 exact vc (El:=aB (kb N0 φ ρ) FM w') (E:=aB N0 (er ρ FM φ) w') rfl hN QC r v hr
theorem Nc: ∀(ns:List Nat) (H:List Obj),(nB ρ ns H).length=H.length/\(∀j,j∉ns->(nB ρ ns H)[j]? =H[j]?)/\(∀j,j∈ns->j<H.length->(nB ρ ns H)[j]? =some (.row 0 []))
 | [],H=>⟨rfl,fun _ _=>rfl,fun j h=>by simp at h⟩
 |n::ns,H=>by
  obtain⟨h1,h2,h3⟩:=Nc ns (kQ H n (.row 0 []))
  simp only[nB]
  rw[dU]at h1 h2 h3⊢;refine⟨by simpa using h1,fun j hj=> ?_,fun j hj hl=> ?_⟩
  · rw[h2 j (fun h=>hj (by simp[h])),List.getElem?_set_ne (fun e=>hj (by simp[e]))]
  · by_cases hjn:j∈ns
    · exact h3 j hjn (by simpa using hl)
    · rcases List.mem_cons.1 hj with rfl|hj
      · rw[h2 _ hjn];simp[hl]
      · exact absurd hj hjn
def jJ:List Nat->List dj->List dj
 | [],φ=>φ
 |n::ns,φ=>jJ ns (φ.set n .free)
theorem xk: ∀(ns:List Nat) (φ:List dj),(jJ ns φ).length=φ.length/\(∀j,j∉ns->(jJ ns φ)[j]? =φ[j]?)/\(∀j,j∈ns->j<φ.length->(jJ ns φ)[j]? =some .free)
 | [],φ=>⟨rfl,fun _ _=>rfl,fun j h=>by simp at h⟩
 |n::ns,φ=>by
  obtain⟨h1,h2,h3⟩:=xk ns (φ.set n .free)
  simp only[jJ]
  refine⟨by simpa using h1,fun j hj=> ?_,fun j hj hl=> ?_⟩
  · rw[h2 j (fun h=>hj (by simp[h])),List.getElem?_set_ne (fun e=>hj (by simp[e]))]
  · by_cases hjn:j∈ns
    · exact h3 j hjn (by simpa using hl)
    · rcases List.mem_cons.1 hj with rfl|hj
      · rw[h2 _ hjn];simp[hl]
      · exact absurd hj hjn
theorem ve{cr:List Obj}: ∀(s:List (Nat×A)) (d:Nat),look (s.map fun p=>(p.1,mI ρ cr p.2)) d=mI ρ cr (look s d)
 | [],d=>by
  have:A.meets ρ .any=false:=by simp[A.meets,A.mem]
  simp[look,mI,this]
 |(i,v)::s,d=>by
  simp only[List.map_cons,look]
  split
  · rfl
  · exact ve s d
theorem Nd(h:aO N0 w0 nt σ φ a w)(pq:ρ.Nodup){cr:List Obj}(hH:pH ρ σ.H ρ=some cr){x y:A}{v:Value}(hr:aJ (aB (kb N0 φ ρ) (fT φ ρ) w) x v)(hv:view cr x=some y):
 aJ ⟨kb N0 φ ρ,[],w⟩ y v/\y.pure=true:=by
 obtain⟨aw,F5⟩:=h.loc pq hH
 have hc:aO (kb N0 φ ρ) {toWorld:=w,M:=fun b=> ∃n k:Nat,(fT φ ρ)[n]? =some (dj.loc b k),fix:=fun _=>false,Vr:=[]} a.tmps.size {s:=[],H:=cr} (fT φ ρ) ⟨a.tmps,[]⟩ w:={
  cW:=fun d=>by simp only[look,aJ]
  size:=rfl
  defers:=rfl
  len:=F5.len
  c7:=F5.c7
  own:=fun n b k hn=>⟨.inr ⟨n,k,hn⟩,(F5.own n b k hn).1⟩
  inj:=F5.inj
  n0:=fun b hb=>⟨by
   rcases hb with h0|⟨n,k,hn,_⟩
   · exact Nat.lt_of_lt_of_le (h.n0 b h0).1 h.below.size
   · exact(h.own n b k hn).2,by
   rintro⟨n,k,hn⟩
   exact(F5.own n b k hn).2 hb⟩
  lD:=fun n p hf=>by cases hf
  below:=Kept.refl _}
 exact mf hc hv hr (N':=kb N0 φ ρ) ⟨fun b hb=> .inl hb,.inr fun n b k hn=>(F5.own n b k hn).2⟩
theorem aO.frozen(h:aO N0 w0 nt σ φ a w)(pq:ρ.Nodup){cr:List Obj}(hH:pH ρ σ.H ρ=some cr)(uT: ∀n∈ρ,w0.fix n=true->w0.Vr.length<=n):
 aO N0 w0 nt ⟨σ.s.map (fun p=>(p.1,mI ρ cr p.2)),nB ρ ρ (σ.H.map (Jn ρ cr))⟩ (jJ ρ φ) a w/\(∀b,kb N0 φ ρ b ↔ (aB N0 (jJ ρ φ) w).N b):=by
 obtain⟨aw,F5⟩:=h.loc pq hH;obtain⟨f1,f2,f3⟩:=xk ρ φ;obtain⟨d1,d2,d3⟩:=Nc (ρ:=ρ) ρ (σ.H.map (Jn ρ cr))
 have zi: ∀m b k:Nat,(jJ ρ φ)[m]? =some (dj.loc b k)->m∉ρ/\φ[m]? =some (.loc b k):=fun m b k hm=>by
  by_cases tH:m∈ρ
  · rw[f3 m tH (aw m tH)]at hm;simp at hm
  · rw[f2 m tH]at hm;exact⟨tH,hm⟩
 have hN: ∀b,kb N0 φ ρ b ↔ (aB N0 (jJ ρ φ) w).N b:=fun b=>by
  constructor
  · rintro(h0|⟨n,k,hn,tH⟩)
    · exact .inl h0
    · exact .inr ⟨n,k,by rw[f2 n tH];exact hn⟩
  · rintro(h0|⟨n,k,hn⟩)
    · exact .inl h0
    · obtain⟨h1,h2⟩:=zi n b k hn
      exact .inr ⟨n,k,h2,h1⟩
 have dL:Ext (fun n=>n∉ρ) (aB N0 φ w) (aB N0 (jJ ρ φ) w):={
  size:=Nat.le_refl _
  MI:=fun b _ hn=>⟨by
   rintro(h0|⟨m,k,hm⟩)
   · exact hn (.inl h0)
   · exact hn (.inr ⟨m,k,(zi m b k hm).2⟩),rfl⟩
  refs:=fun m p hk hm _=>by show(jJ ρ φ)[m]? =some p;rw[f2 m hk];exact hm
  own:=fun m b k c e fr _ _ hc=>⟨c,fr,hc,rfl⟩}
 have one: ∀(x:A) (v:Value),aJ (aB N0 φ w) x v->aJ (aB N0 (jJ ρ φ) w) (mI ρ cr x) v:=fun x v hx=>by
  unfold mI;split
  · cases hren:x.jD ρ with
    |none=>simp only[aJ]
    |some x'=>
     simp only;have hl:=JB aw x v x' hx hren;cases hv:view cr x' with
     |none=>simp only[Option.getD_none,aJ]
     |some y=>
      simp only[Option.getD_some]
      obtain⟨hy,hp⟩:=Nd h pq hH hl hv;exact aJ.pure_mono (E:=⟨kb N0 φ ρ,[],w⟩) (E':=aB N0 (jJ ρ φ) w) rfl (fun b hb h'=>hb ((hN b).2 h')) hp hy
  · rename_i hm
    refine aJ.mono dL x v hx fun n hn tH=> ?_;simp only[A.meets,List.any_eq_true,not_exists,not_and]at hm;exact hm n tH hn
 refine⟨{
  cW:=fun d=>by
   show aJ _ (look (σ.s.map fun p=>(p.1,mI ρ cr p.2)) d) _;rw[ve]
   exact one _ _ (h.cW d)
  size:=h.size
  defers:=h.defers
  len:=by rw[f1,d1];simp[h.len]
  c7:=fun m o p ho hp=> ?_
  own:=fun m b k hm=>h.own m b k (zi m b k hm).2
  inj:=fun m m' b k k' hm jz=>h.inj m m' b k k' (zi m b k hm).2 (zi m' b k' jz).2
  n0:=h.n0
  lD:=fun n p hf hp bI=>by
   have hn:n∉ρ:=fun tH=>by have h1:=uT n tH hf;have h2:=(List.getElem?_eq_some_iff.1 hp).1;omega
   rw[f2 n hn];exact h.lD n p hf hp bI
  below:=h.below},hN⟩
 rw[bH]at ho;by_cases tH:m∈ρ
 · rw[d3 m tH (by simpa[<-h.len]using aw m tH)]at ho
   rw[f3 m tH (aw m tH)]at hp;obtain rfl:=Option.some.inj ho;obtain rfl:=Option.some.inj hp;simp[aL]
 · rw[d2 m tH,List.getElem?_map]at ho
   rw[f2 m tH]at hp;obtain⟨o',xc,rfl⟩:=Option.map_eq_some_iff.1 ho;have fC:=h.c7 m o' p (by rw[bH];exact xc) hp;cases o' with
   |row k es=>
    exact aL.mono dL fC (fun b k _ c e fr hh=>hh) (fun cs Bv=>by cases Bv)
   |box cs=>
    cases p with
    |loc b k=>
     simp only[Jn,aL]at fC⊢;refine⟨fC.1,bg.2 fun i y hy=> ?_⟩
     rw[List.getElem?_map]at hy;obtain⟨x,hx,rfl⟩:=Option.map_eq_some_iff.1 hy;obtain⟨v,hv,h1,hr⟩:=bg.1 fC.2 i x hx;exact⟨v,hv,h1,one x v hr⟩
    |nil=>simp[aL]at fC
    |free=>simp[aL]at fC
theorem VH(h:aO N0 w0 nt σ φ a w)(pq:ρ.Nodup){cr:List Obj}(hH:pH ρ σ.H ρ=some cr){xs ys:List A}{vs:List Value}(hv:iG cr xs=some ys)(hr:aQ (aB (kb N0 φ ρ) (fT φ ρ) w) xs vs):
 aQ ⟨kb N0 φ ρ,[],w⟩ ys vs:=by
 obtain⟨h1,h2⟩:=xf hv;obtain⟨g1,g2⟩:=bf.1 hr;refine bf.2 ⟨by rw[<-h1,g1],fun i c u hc hu=> ?_⟩
 have hi:i<xs.length:=by rw[h1];exact(List.getElem?_eq_some_iff.1 hc).1
 exact(Nd h pq hH (g2 i _ u (List.getElem?_eq_getElem hi) hu) (h2 i _ c (List.getElem?_eq_getElem hi) hc)).1
theorem Nf(tK:ag P Γ)(h:aO N0 w0 nt σ φ a w)(uT:w0.fix=Γ.fix){d:Option Tmp}{f:Operand}{xs:List Operand}{us:Array TypeId}{t:TypeId}{p:String}{af:Array Edge}{g:Option (Nat×Bool)}(hd: ∀t,d=some t->t<nt){n:Nat}{eF:St}
 (hr:p_ Γ σ d (σ.ev f) (σ.mF xs)=some eF):Yo P ⟨d,.call ⟨.value f,⟨xs⟩,us⟩,t,p,af,g⟩ a w N0 w0 nt φ n eF:=by
 have hf:=h.ev f;cases hc:σ.ev f<;>simp only[hc,p_]at hr<;>try(simp at hr;done)
 rename_i q jW;rw[hc]at hf;simp only[aJ]at hf;obtain⟨cvs,hfv,hcr⟩:=hf;have u':=jm (JA h xs) hcr;unfold MM tG at hr;have pq:=qo σ.H 64 (A.names.gq (σ.mF xs++jW)) [] (by simp)
 have TB:=QB h u' 64;generalize tH:reach σ.H 64 (A.names.gq (σ.mF xs++jW)) []=ρ at hr pq TB;obtain⟨as',h1,hr⟩:=Option.bind_eq_some_iff.1 hr;obtain⟨cr,h2,hr⟩:=Option.bind_eq_some_iff.1 hr;obtain⟨aw,F5⟩:=h.loc pq h2;have hla:=qn aw _ _ as' u' h1
 have hlocn: ∀b,kb N0 φ ρ b->b<w.heap.size:=by
  rintro b (h0|⟨m,k,hm,_⟩)
  · exact Nat.lt_of_lt_of_le (h.n0 b h0).1 h.below.size
  · exact(h.own m b k hm).2
 have gZ: ∀{q:FuncId},jI P q->a.eval f= .func (.func q) #[] cvs.toArray->(Go.execOp a.eval ⟨d,.call ⟨.value f,⟨xs⟩,us⟩,t,p,af,g⟩).run P w= .ok (.enter q (xs.map a.eval++cvs).toArray) w:=by
  intro q hq hfv
  have:(Go.execOp a.eval ⟨d,.call ⟨.value f,⟨xs⟩,us⟩,t,p,af,g⟩).run P w=(callFunc q (xs.map a.eval++cvs).toArray).run P w:=by
   simp only[Go.execOp,resolve,hfv,Deferred.ofValue,Sem.run_bind,Sem.run_pure,Result.andThen_ok,invoke]
   congr 2
   apply Array.ext';simp
  rw[this]
  exact lE hq _ w
 split at hr
 · rename_i hfz
   split at hr
   · rename_i Yp
     obtain⟨bs,hb,hr⟩:=Option.bind_eq_some_iff.1 hr;obtain⟨r,hg,rfl⟩:=Option.map_eq_some_iff.1 hr;obtain⟨qm,hA⟩:=tK.f q bs r hg;right;refine⟨q,_,gZ qm hfv, ?_⟩
     obtain⟨MA,hN⟩:=h.frozen pq h2 (fun m hm hf=>by rw[List.all_eq_true]at Yp;have:=Yp m hm;rw[uT]at hf;simp[hf]at this)
     have td:=VH h pq h2 hb hla;refine Calls.mono (hA (kb N0 φ ρ) w _ hlocn td) ?_;rintro e w' ⟨v,r',rfl,rfl,cS,Yj⟩
     refine⟨v,jJ ρ φ,rfl,(MA.Vt Yj).put hd ?_,fun m _ hm=> ?_⟩
     · refine aJ.mono (K:=fun _=>True) (E:=⟨kb N0 φ ρ,[],w'⟩) ?_ _ _ cS (fun _ _=>trivial)
       exact{
        size:=Nat.le_refl _
        MI:=fun b _ hn=>⟨fun h'=>hn ((hN b).2 h'),rfl⟩
        refs:=fun m o _ hm=>by simp at hm
        own:=fun m b k c e fr _ hm=>by simp at hm}
     · rw[(xk ρ φ).2.1 m (fun tH=>TB m tH hm)];exact hm
   · simp at hr
 · obtain⟨⟨r,H',S⟩,hg,hr⟩:=Option.bind_eq_some_iff.1 hr
   split at hr
   · rename_i hmv
     obtain rfl:=Option.some.inj hr;obtain⟨qm,hA⟩:=tK.hp q as' cr r H' S hg;right;refine⟨q,_,gZ qm hfv, ?_⟩
     refine Calls.mono (hA (kb N0 φ ρ) (fT φ ρ) w _ hlocn F5 (fun i hi=> ?_) hla) ?_
     · obtain⟨m,_,hm,fA⟩:=ep aw hi
       exact TB m hm fA
     · rintro e w' ⟨v,FM,rfl,cS,iy,hT,hlen⟩
       obtain⟨eT,wQ,hk⟩:=h.turned uT pq h2 iy hT hlen hmv cS hd;exact⟨v,eT,rfl,wQ,fun m _ hm=>by rw[hk m (fun tH=>TB m tH hm) (List.getElem?_eq_some_iff.1 hm).1];exact hm⟩
   · simp at hr
end
end Go.bo
namespace Go.bo
open Go.RowKit
section
variable{P:Program}{Γ:an}{N0:Nat->Prop}{w0:kD}{nt:Nat}{σ:St}{φ:List dj}{a:Act}{w:World}
theorem JC(tK:ag P Γ)(h:aO N0 w0 nt σ φ a w){o:Oper}(hd: ∀t,o.dst=some t->t<nt){n:Nat}(uT:w0.fix=Γ.fix)(bI:bW P o.op=true->φ[n]? =some .free){eF:St}
 (hr:execOp P Γ n o.dst o.op σ=some eF):Yo P o a w N0 w0 nt φ n eF:=by
 obtain⟨d,op,t,p,af,g⟩:=o;simp only at hd bI hr;unfold execOp at hr;split at hr
 · exact .inl (M5 h hd (bI rfl) hr)
 · exact .inl (M4 h hd (bI rfl) hr)
 · exact .inl (M6 h hd hr)
 · exact .inl (Qx h hd (fun hb=>bI (by simpa[bW]using hb)) hr)
 · exact .inl (Jy h hd (bI rfl) uT hr)
 · exact .inl (M9 h hd hr)
 · split at hr
   · exact Nf tK h uT hd hr
   · exact Qy tK h hd hr
 · cases he:pk P σ op with
   |none=>simp[he]at hr
   |some r=>
    simp[he]at hr;subst hr;exact .inl (tc h hd (o:=⟨d,op,t,p,af,g⟩) (M3 h he))
theorem JD: ∀(os:List Oper) (j:Nat),BZ (dstsOf os) j=(os[j]?).bind (·.dst)
 | [],j=>by simp[dstsOf,BZ]
 |o::os,0=>by simp[dstsOf,BZ]
 |o::os,j+1=>by simp[dstsOf,BZ,JD os j]
theorem JE(h:aO N0 w0 nt σ φ a w){ops:Array Oper}{o:Oper}{b:Bool}(hw:jE (dstsOf ops.toList) σ o.guard=some b):Region.wanted o (yielded ops a.tmps)=b:=by
 unfold jE at hw;unfold Region.wanted;split at hw
 · rename_i hg
   simp only[hg]
   simpa using hw
 · rename_i j want hg
   simp only[hg]
   rw[JD]at hw;unfold yielded;have oF:ops.toList[j]? =ops[j]? :=by simp
   rw[oF]at hw;cases hj:(ops[j]?).bind (·.dst)with
   |none=>simp[hj]at hw⊢;exact hw
   |some t=>
    rw[hj]at hw;simp only[Option.bind_some]at hw⊢;have hs:=h.cW t;have nk:a.tmps.getD t undef=(a.tmps[t]?).getD undef:=by simp
    rw[nk]at hs;cases ht:look σ.s t<;>rw[ht]at hw hs<;>simp only at hw<;>try(simp at hw;done)
    case bool c=>
     simp only[aJ]at hs;cases hq:a.tmps[t]? with
     |none=>simp[hq,undef]at hs
     |some v=>
      simp[hq]at hs;subst hs;simp at hw⊢;exact hw
    all_goals
     have hb:=Option.some.inj hw;subst hb;cases hq:a.tmps[t]? with
     |none=>rfl
     |some v=>
      simp only[hq,Option.getD_some]at hs
      cases v<;>first
       |rfl
       |(exfalso
         simp only[aJ]at hs
         first
          |(simp at hs;done)
          |(rcases hs with⟨_,_,_,_,_,_,hs⟩|⟨_,_,_,_,_,_,hs,_⟩<;>simp at hs;done)
          |(obtain⟨_,hs,_⟩:=hs;simp at hs;done)
          |(obtain⟨_,_,hs,_⟩:=hs;simp at hs;done)
          |(obtain⟨_,_,_,hs,_⟩:=hs;simp at hs;done)
          |(obtain⟨_,_,_,hs⟩:=hs;simp at hs;done))
theorem zl(tK:ag P Γ)(h:aO N0 w0 nt σ φ a w){ops:Array Oper}{i:Nat}{o:Oper}(ho:ops[i]? =some o)(hd: ∀t,o.dst=some t->t<nt){n:Nat}(uT:w0.fix=Γ.fix)(bI:bW P o.op=true->φ[n]? =some .free){eF:St}
 (hr:bS P Γ (dstsOf ops.toList) n o σ=some eF) {Q:Exit->Act->World->Prop} {K:Act->World->Prop}
 (hK: ∀eT a' w',aO N0 w0 nt eF eT a' w'->(∀m,m≠n->φ[m]? =some .free->eT[m]? =some .free)->K a' w'):wpOp P ops Q i K a w:=by
 unfold bS at hr;unfold wpOp;simp only[ho]
 cases hw:jE (dstsOf ops.toList) σ o.guard with
 |none=>simp[hw]at hr
 |some b=>
  rw[JE h hw]
  simp only[hw]at hr;cases b with
  |false=>
   simp at hr;subst hr;simp only[Bool.false_eq_true,if_false]
   exact hK φ _ _ (h.put hd (xa _)) (fun _ _ h=>h)
  |true=>
   simp only[if_true]at hr⊢;left;unfold Oper.wp;rcases JC tK h hd uT bI hr with⟨v,w',eT,gZ,hc,hf⟩|⟨f,args,gZ,hcalls⟩
   · rcases gZ with gZ|⟨gZ,rfl⟩
     · rw[gZ];exact hK eT _ _ hc hf
     · rw[gZ];exact hK eT _ _ hc hf
   · rw[gZ]
     simp only[Oper.upon]
     refine Calls.mono hcalls ?_;rintro e w' ⟨v,eT,rfl,hc,hf⟩
     exact hK eT _ _ hc hf
end
end Go.bo
namespace Go.bo
open Go.RowKit
def FN(P:Program):Nat->Nat->List Oper->List (Nat×Nat×Oper)
 |_,_,[]=>[]
 |n,i,o::os=>(n,i,o)::FN P (dP P o.op n) (i+1) os
def oG(P:Program)(Γ:an)(ds:List (Option Tmp)):List (Nat×Nat×Oper)->St->Option St
 | [],σ=>some σ
 |x::xs,σ=>(bS P Γ ds x.1 x.2.2 σ).bind (oG P Γ ds xs)
theorem zm(P:Program)(Γ:an)(ds:List (Option Tmp)): ∀(os:List Oper) (n i:Nat) (σ:St),jF P Γ ds os n σ=oG P Γ ds (FN P n i os) σ
 | [],_,_,_=>rfl
 |o::os,n,i,σ=>by
  simp only[jF,FN,oG]
  congr 1
  funext τ
  exact zm P Γ ds os _ (i+1) τ
theorem Yq(P:Program)(op:Op)(n:Nat):n<=dP P op n:=by unfold dP;split<;>omega
theorem JF(P:Program): ∀(os:List Oper) (n i:Nat) (x:Nat×Nat×Oper),x∈FN P n i os->n<=x.1/\i<=x.2.1/\os[x.2.1-i]? =some x.2.2
 | [],_,_,x,h=>by simp[FN]at h
 |o::os,n,i,x,h=>by
  simp only[FN,List.mem_cons]at h;rcases h with rfl|h
  · simp
  · obtain⟨h1,h2,h3⟩:=JF P os _ _ x h
    have:=Yq P o.op n;refine⟨by omega,by omega, ?_⟩
    rw[show x.2.1-i=(x.2.1-(i+1))+1 by omega]
    simpa using h3
theorem Ng(P:Program): ∀(os:List Oper) (n i:Nat),(FN P n i os).Pairwise (fun x y=>x.2.1<y.2.1/\(bW P x.2.2.op=true->x.1<y.1))
 | [],_,_=>by simp[FN]
 |o::os,n,i=>by
  simp only[FN,List.pairwise_cons]
  refine⟨fun y hy=> ?_,Ng P os _ _⟩
  obtain⟨h1,h2,_⟩:=JF P os _ _ y hy;refine⟨by show i<y.2.1;omega,fun ha=> ?_⟩
  have JG:bW P o.op=true:=ha;simp only[dP,JG,if_true]at h1;show n<y.1;omega
theorem TD(P:Program): ∀(os:List Oper) (n i:Nat),(FN P n i os).map (·.2.1)=(List.range os.length).map (i+ ·)
 | [],_,_=>by simp[FN]
 |o::os,n,i=>by
  simp only[FN,List.map_cons,List.length_cons,List.range_succ_eq_map,List.map_map]
  rw[TD P os]
  simp;intro a _;omega
def dF(σ τ:St):Prop:=(∀d,look σ.s d=look τ.s d)/\σ.H=τ.H
theorem dF.refl(σ:St):dF σ σ:=⟨fun _=>rfl,rfl⟩
theorem dF.symm{σ τ:St}(h:dF σ τ):dF τ σ:=⟨fun d=>(h.1 d).symm,h.2.symm⟩
theorem dF.trans{σ τ ρ:St}(h:dF σ τ)(h':dF τ ρ):dF σ ρ:=⟨fun d=>(h.1 d).trans (h'.1 d),h.2.trans h'.2⟩
theorem dF.put{σ τ:St}(h:dF σ τ)(d:Option Tmp)(v:A):dF (σ.put d v) (τ.put d v):=by
 cases d with
 |none=>exact h
 |some d=>exact⟨fun t=>by simp only[St.put,look];split<;>first|rfl|exact h.1 t,h.2⟩
theorem dF.dc{σ τ:St}(h:dF σ τ)(n:Nat)(o:Obj):dF (σ.dc n o) (τ.dc n o):=⟨h.1,by simp only[St.dc,h.2]⟩
theorem dF.fR{σ τ:St}(h:dF σ τ)(n:Nat):dF (σ.fR n) (τ.fR n):=
 ⟨fun d=>by show look (σ.s.map fun p=>(p.1,eo n p.2)) d=look (τ.s.map fun p=>(p.1,eo n p.2)) d;rw[nG,nG,h.1 d],by simp only[St.fR,h.2]⟩
theorem dF.ev{σ τ:St}(h:dF σ τ)(x:Operand):σ.ev x=τ.ev x:=by
 cases x<;>simp only[St.ev]
 exact h.1 _
section
variable{P:Program}{Γ:an}{σ τ:St}
theorem iz: ∀{xs:List Operand},(∀x∈xs,σ.ev x=τ.ev x)->σ.mF xs=τ.mF xs
 | [],_=>rfl
 |x::xs,h=>by simp only[St.mF];rw[h x (by simp),iz (xs:=xs) fun y hy=>h y (by simp[hy])]
theorem qt{o:Option Operand}(h: ∀x,o=some x->σ.ev x=τ.ev x):σ.bd o=τ.bd o:=by
 cases o with
 |none=>rfl
 |some x=>simp only[St.bd];rw[h x rfl]
theorem mQ{t:TypeId}: ∀{ps:List (Nat×Operand)} {zs:List A},(∀p∈ps,σ.ev p.2=τ.ev p.2)->kB P t σ ps zs=kB P t τ ps zs
 | [],_,_=>rfl
 |(i,x)::ps,zs,h=>by
  simp only[kB]
  rw[show σ.ev x=τ.ev x from h (i,x) (by simp)]
  split
  · congr 1
    funext H_
    exact mQ fun p hp=>h p (by simp[hp])
  · rfl
theorem mR{t:TypeId}: ∀{ps:List (Nat×Operand)} {zs:List A},(∀p∈ps,σ.ev p.2=τ.ev p.2)->kC P t σ ps zs=kC P t τ ps zs
 | [],_,_=>rfl
 |(i,x)::ps,zs,h=>by
  simp only[kC]
  rw[show σ.ev x=τ.ev x from h (i,x) (by simp)]
  split
  · congr 1
    funext H_
    exact mR fun p hp=>h p (by simp[hp])
  · rfl
theorem mS{k:Nat}: ∀{ps:List (Nat×Operand)} {zs:List A},(∀p∈ps,σ.ev p.2=τ.ev p.2)->jk k σ ps zs=jk k τ ps zs
 | [],_,_=>rfl
 |(i,x)::ps,zs,h=>by
  simp only[jk]
  rw[show σ.ev x=τ.ev x from h (i,x) (by simp)]
  split
  · exact mS fun p hp=>h p (by simp[hp])
  · rfl
theorem zn{op:Op}(hH:σ.H=τ.H)(h: ∀x∈op.operands,σ.ev x=τ.ev x):pk P σ op=pk P τ op:=by
 unfold pk;split<;>simp only[Op.operands]at h
 · rw[h _ (by simp)]
 · rw[h _ (by simp)]
 · rw[h _ (by simp),h _ (by simp),h _ (by simp)]
 · rename_i t ps
   have hp: ∀p∈ps.toList,σ.ev p.2=τ.ev p.2:=fun p hp=>h p.2 (by simp only[List.mem_toArray,List.mem_map];exact⟨p,hp,rfl⟩)
   unfold pX;split
   · split
     · rw[mR hp]
     · rw[mQ hp]
   · rfl
 · rename_i t len ps
   have hp: ∀p∈ps.toList,σ.ev p.2=τ.ev p.2:=fun p hp=>h p.2 (by simp only[List.mem_toArray,List.mem_map];exact⟨p,hp,rfl⟩)
   unfold fD;split
   · split
     · rw[mS hp]
     · rfl
   · rfl
 · rw[hH,h _ (by simp)]
 · rw[h _ (by simp)]
 · rw[h _ (by simp),h _ (by simp)]
 · rw[h _ (by simp)]
 · rw[hH,h _ (by simp)]
 · rename_i fn first captured
   rw[iz (xs:=first.toList) fun x hx=>h x (by simp at hx;simp[hx]),iz (xs:=captured.toList) fun x hx=>h x (by simp at hx;simp[hx])]
 · rename_i t x lo hi mx
   rw[h x (by simp),qt (o:=lo) fun y hy=>h y (by subst hy;simp),qt (o:=hi) fun y hy=>h y (by subst hy;simp),qt (o:=mx) fun y hy=>h y (by subst hy;simp)]
 · rw[h _ (by simp)]
 · rw[h _ (by simp)]
 · rw[h _ (by simp),h _ (by simp)]
 · rw[h _ (by simp),h _ (by simp)]
 · rw[h _ (by simp)]
 · rw[h _ (by simp[Call.operands])]
 · rw[iz fun x hx=>h x (by simp[Call.operands,hx])]
 · rw[iz fun x hx=>h x (by simp[Call.operands,hx])]
 · rfl
def cp(P:Program)(Γ:an):Op->Bool
 | .alloc _=>false
 | .box _ _=>false
 | .store _ _ _=>false
 | .convert src dst _=> !uZ P src dst
 | .call ⟨.builtin .append,_,_⟩=>false
 | .call ⟨.builtin .clear,_,_⟩=>false
 | .call ⟨.value f,_,_⟩=> !BW Γ f
 |_=>true
def TE(Γ:an)(H:List Obj)(f:A)(aq:List A):Option A:=
 match f with
 | .fn g jW=>(iG H (aq++jW)).bind fun bs=>(Γ.f g bs).bind fun r=>if(A.pure.a_ (aq++jW)||r.flat)=true then some r else none
 |_=>none
def sJ(P:Program)(Γ:an)(σ:St)(op:Op):Option A:=
 match op with
 | .call ⟨.value f,⟨xs⟩,_⟩=>TE Γ σ.H (σ.ev f) (σ.mF xs)
 |op=>pk P σ op
theorem Yr{d:Option Tmp}{f:A}{aq:List A}:BX Γ σ d f aq=(TE Γ σ.H f aq).map (σ.put d):=by
 cases f<;>simp only[BX,TE,ML,Option.map_none]
 rename_i g jW;cases iG σ.H (aq++jW)with
 |none=>rfl
 |some bs=>
  simp only[Option.bind_some]
  cases Γ.f g bs with
  |none=>rfl
  |some r=>simp only[Option.bind_some];split<;>rfl
theorem vf{n:Nat}{d:Option Tmp}{op:Op}(h:cp P Γ op=true):execOp P Γ n d op σ=(sJ P Γ σ op).map (σ.put d):=by
 unfold execOp;split
 · simp[cp]at h
 · simp[cp]at h
 · simp[cp]at h
 · rename_i src dst x
   simp only[cp,Bool.not_eq_true']at h;simp only[yV,h,Bool.false_eq_true,if_false,sJ,pk]
 · simp[cp]at h
 · simp[cp]at h
 · rename_i f xs us
   have hf:BW Γ f=false:=by simpa[cp]using h
   rw[if_neg (by simp[hf])]
   exact Yr
 · rename_i h1 h2 h3 h4 h5 h5' h6
   unfold sJ;split
   · rename_i f xs us
     exact absurd rfl (h6 f xs us)
   · rfl
theorem tL{op:Op}(hH:σ.H=τ.H)(h: ∀x∈op.operands,σ.ev x=τ.ev x):sJ P Γ σ op=sJ P Γ τ op:=by
 unfold sJ;split
 · simp only[Op.operands]at h
   rw[hH,h _ (by simp[Call.operands]),iz fun x hx=>h x (by simp[Call.operands,hx])]
 · exact zn hH h
theorem jq{ops:Array Oper}{o:Oper}(h: ∀t∈o.looksAt ops,look σ.s t=look τ.s t):jE (dstsOf ops.toList) σ o.guard=jE (dstsOf ops.toList) τ o.guard:=by
 unfold jE;split
 · rfl
 · rename_i j want hg
   rw[JD]
   have oF:ops.toList[j]? =ops[j]? :=by simp
   rw[oF]
   cases hj:(ops[j]?).bind (·.dst)with
   |none=>rfl
   |some t=>
    simp only;rw[h t (by simp[Oper.looksAt,hg,hj])]
theorem qu{ops:Array Oper}{o:Oper}(h: ∀t∈o.looksAt ops,look σ.s t=look τ.s t): ∀x∈o.op.operands,σ.ev x=τ.ev x:=fun x hx=>by
 cases x<;>simp only[St.ev]
 rename_i t;exact h t (List.mem_append_left _ (List.mem_filterMap.2 ⟨.tmp t,by simpa using hx,rfl⟩))
def pL(P:Program)(Γ:an)(ds:List (Option Tmp))(o:Oper)(σ:St):Option A:=
 match jE ds σ o.guard with
 |none=>none
 |some true=>sJ P Γ σ o.op
 |some false=>some (.cD [])
theorem cO{ds:List (Option Tmp)}{n:Nat}{o:Oper}(h:cp P Γ o.op=true):bS P Γ ds n o σ=(pL P Γ ds o σ).map (σ.put o.dst):=by
 unfold bS pL;cases jE ds σ o.guard with
 |none=>rfl
 |some b=>
  cases b with
  |true=>simp only[if_true];exact vf h
  |false=>rfl
theorem tN{ops:Array Oper}{o:Oper}(hH:σ.H=τ.H)(h: ∀t∈o.looksAt ops,look σ.s t=look τ.s t):pL P Γ (dstsOf ops.toList) o σ=pL P Γ (dstsOf ops.toList) o τ:=by unfold pL;rw[jq h,tL hH (qu h)]
theorem te(d:Option Tmp)(v:A):(σ.put d v).H=σ.H:=by cases d<;>rfl
theorem kF{d:Option Tmp}{v:A}{t:Tmp}(h: ∀e,d=some e->e≠t):look (σ.put d v).s t=look σ.s t:=by
 cases d with
 |none=>rfl
 |some e=>simp only[St.put,look];rw[if_neg (h e rfl)]
theorem put_comm{x y:Option Tmp}{v u:A}(h: ∀d,x=some d->y≠some d):dF ((σ.put x v).put y u) ((σ.put y u).put x v):=by
 cases x with
 |none=>exact dF.refl _
 |some d=>
  cases y with
  |none=>exact dF.refl _
  |some e=>
   have cg:d≠e:=fun he=>h d rfl (he▸rfl)
   refine⟨fun t=> ?_,rfl⟩
   simp only[St.put,look]
   by_cases h1:e=t
   · subst h1;simp[cg]
   · simp[h1]
theorem swap1{ops:Array Oper}{n m:Nat}{y x:Oper}(hy:cp P Γ y.op=true)(hx:cp P Γ x.op=true)(Ys:y.apart ops x=true){tO VI:St}
 (h1:bS P Γ (dstsOf ops.toList) n y σ=some tO) (h2:bS P Γ (dstsOf ops.toList) m x tO=some VI):
 ∃nn nK,bS P Γ (dstsOf ops.toList) m x σ=some nn/\bS P Γ (dstsOf ops.toList) n y nn=some nK/\dF VI nK:=by
 obtain⟨a1,a2,a3⟩:=Oper.apart_spec Ys;rw[cO hy]at h1;rw[cO hx]at h2;cases hv:pL P Γ (dstsOf ops.toList) y σ with
 |none=>simp[hv]at h1
 |some v=>
  simp[hv]at h1;subst h1;cases hu:pL P Γ (dstsOf ops.toList) x (σ.put y.dst v)with
  |none=>simp[hu]at h2
  |some u=>
   simp[hu]at h2;subst h2
   have hu':pL P Γ (dstsOf ops.toList) x σ=some u:=by
    rw[<-hu]
    exact tN (te _ _).symm fun t ht=>(kF fun e he e'=>a1 e he (e'▸ht)).symm
   have xb:pL P Γ (dstsOf ops.toList) y (σ.put x.dst u)=some v:=by
    rw[<-hv]
    exact tN (te _ _) fun t ht=>kF fun e he e'=>a3 e he (e'▸ht)
   refine⟨σ.put x.dst u,(σ.put x.dst u).put y.dst v,by rw[cO hx,hu'];rfl,by rw[cO hy,xb];rfl, ?_⟩
   exact put_comm a2
theorem Cy{ρ:List Nat}{m:Nat}: ∀{S:List Nat} {σ τ:St},dF σ τ->dF (dp ρ m σ S) (dp ρ m τ S)
 | [],_,_,h=>h
 |i::is,_,_,h=>by simp only[dp];exact Cy (h.fR _)
theorem QD(hs:dF σ τ){d:Option Tmp}{f:A}{aq:List A}{eF:St}(h:p_ Γ σ d f aq=some eF): ∃qv,p_ Γ τ d f aq=some qv/\dF eF qv:=by
 cases f<;>simp only[p_]at h⊢ <;>try(simp at h;done)
 unfold MM tG at h⊢;rw[<-hs.2]
 generalize reach σ.H 64 _ []=ρ at h⊢;obtain⟨as',h1,h⟩:=Option.bind_eq_some_iff.1 h;obtain⟨cr,h2,h⟩:=Option.bind_eq_some_iff.1 h;simp only[h1,h2,Option.bind_some]
 split at h
 · rename_i hfz
   rw[if_pos hfz]
   split at h
   · rename_i uT
     rw[if_pos uT]
     obtain⟨bs,h3,h⟩:=Option.bind_eq_some_iff.1 h;obtain⟨r,h4,rfl⟩:=Option.map_eq_some_iff.1 h;simp only[h3,Option.bind_some,h4,Option.map_some,Option.some.injEq]
     refine⟨_,rfl, ?_⟩
     unfold Jo;refine dF.put ⟨fun t=> ?_,by simp only[hs.2]⟩ d r;show look (σ.s.map fun p=>(p.1,mI ρ cr p.2)) t=look (τ.s.map fun p=>(p.1,mI ρ cr p.2)) t;rw[ve,ve,hs.1 t]
   · simp at h
 · rename_i hfz
   rw[if_neg hfz]
   obtain⟨⟨r,H',S⟩,h3,h⟩:=Option.bind_eq_some_iff.1 h;simp only[h3,Option.bind_some]
   split at h
   · rename_i hm
     rw[if_pos hm]
     obtain rfl:=Option.some.inj h;refine⟨_,rfl, ?_⟩
     unfold BY;have e:=Cy (ρ:=ρ) (m:=σ.H.length) (S:=S) hs
     show dF (St.put ⟨(dp ρ σ.H.length σ S).s,mP ρ σ.H.length ρ H' (dp ρ σ.H.length σ S).H⟩ d (r.back ρ σ.H.length))
      (St.put ⟨(dp ρ τ.H.length τ S).s,mP ρ τ.H.length ρ H' (dp ρ τ.H.length τ S).H⟩ d (r.back ρ τ.H.length))
     rw[show r.back ρ τ.H.length=r.back ρ σ.H.length by rw[hs.2]]
     refine dF.put ⟨fun t=> ?_, ?_⟩ d _
     · show look (dp ρ σ.H.length σ S).s t=look (dp ρ τ.H.length τ S).s t
       rw[<-hs.2];exact e.1 t
     · show mP ρ σ.H.length ρ H' (dp ρ σ.H.length σ S).H=mP ρ τ.H.length ρ H' (dp ρ τ.H.length τ S).H
       rw[<-hs.2,e.2]
   · simp at h
def cH:Op->Bool
 | .alloc _=>true
 | .box _ _=>true
 |_=>false
def qw(P:Program)(ds:List (Option Tmp))(n:Nat)(o:Oper)(σ:St):Option (Option Obj×A):=
 match jE ds σ o.guard with
 |none=>none
 |some false=>some (none,.cD [])
 |some true=>
  match o.op with
  | .alloc t=>(dQ P t).bind fun z=>if z.val=true then some (some (.box z.cells),.ref n 0)else none
  | .box _ x=>if(σ.ev x).val=true then some (some (.box (σ.ev x).cells),.ref n 0)else none
  |_=>none
def pM(σ:St)(n:Nat):Option Obj->St
 |some o=>σ.dc n o
 |none=>σ
theorem fJ{ds:List (Option Tmp)}{n:Nat}{o:Oper}(h:cH o.op=true):bS P Γ ds n o σ=(qw P ds n o σ).map fun x=>(pM σ n x.1).put o.dst x.2:=by
 unfold bS qw;cases jE ds σ o.guard with
 |none=>rfl
 |some b=>
  cases b with
  |false=>rfl
  |true=>
   simp only[if_true]
   cases ho:o.op<;>rw[ho]at h<;>simp[cH]at h
   · simp only[execOp]
     cases dQ P _ with
     |none=>rfl
     |some z=>simp only[om,wZ,Option.bind_some];split<;>rfl
   · simp only[execOp,wZ];split<;>rfl
theorem oH{ops:Array Oper}{n:Nat}{o:Oper}(h: ∀t∈o.looksAt ops,look σ.s t=look τ.s t):qw P (dstsOf ops.toList) n o σ=qw P (dstsOf ops.toList) n o τ:=by
 unfold qw;rw[jq h]
 cases jE (dstsOf ops.toList) τ o.guard with
 |none=>rfl
 |some b=>
  cases b with
  |false=>rfl
  |true=>
   simp only;cases ho:o.op<;>try rfl
   rename_i t x;have:=qu h x (by rw[ho];simp[Op.operands])
   simp only[this]
def tP(H H':List Obj)(n:Nat):Prop:=cn H n=some (.row 0 [])/\ ∀m,m≠n->cn H' m=cn H m
theorem tP.lay{H:List Obj}{n:Nat}(h:cn H n=some (.row 0 []))(o:Obj):tP H (kQ H n o) n:=
 ⟨h,fun m hm=>by rw[dU,bH,bH,List.getElem?_set_ne (Ne.symm hm)]⟩
section
variable{H H':List Obj}{n:Nat}
theorem JH(h:tP H H' n){m off k len:Nat}{y:A}(hv:gO H m off k len=some y):gO H' m off k len=some y:=by
 by_cases hm:m=n
 · subst hm
   unfold gO at hv;rw[h.1]at hv;simp only at hv;split at hv
   · rename_i hc;omega
   · cases hv
 · unfold gO at hv⊢
   rw[h.2 m hm];exact hv
theorem Cz(h:tP H H' n){x y:A}(hv:j4 H x=some y):j4 H' x=some y:=by cases x<;>simp only[j4]at hv⊢ <;>first|exact hv|exact JH h hv
theorem qx(h:tP H H' n): ∀{xs ys:List A},eK H xs=some ys->eK H' xs=some ys
 | [],_,hv=>by simpa only[eK]using hv
 |x::xs,ys,hv=>by simp only[eK]at hv⊢;obtain⟨y,h1,hv⟩:=Option.bind_eq_some_iff.1 hv;obtain⟨zs,h2,rfl⟩:=Option.map_eq_some_iff.1 hv;rw[Cz h h1,qx h h2];rfl
theorem CA(h:tP H H' n){x y:A}(hv:l6 H x=some y):l6 H' x=some y:=by
 cases x<;>simp only[l6]at hv⊢ <;>try exact Cz h hv
 · obtain⟨zs,h2,rfl⟩:=Option.map_eq_some_iff.1 hv
   rw[qx h h2];rfl
 · rename_i m off
   by_cases hm:m=n
   · subst hm;rw[h.1]at hv;cases hv
   · rw[h.2 m hm]
     split at hv
     · obtain⟨zs,h2,rfl⟩:=Option.map_eq_some_iff.1 hv
       simp only[qx h h2];rfl
     · cases hv
 · rename_i m i off
   by_cases hm:m=n
   · subst hm;rw[h.1]at hv;simp at hv
   · rw[h.2 m hm];exact hv
theorem zo(h:tP H H' n): ∀{xs ys:List A},iY H xs=some ys->iY H' xs=some ys
 | [],_,hv=>by simpa only[iY]using hv
 |x::xs,ys,hv=>by simp only[iY]at hv⊢;obtain⟨y,h1,hv⟩:=Option.bind_eq_some_iff.1 hv;obtain⟨zs,h2,rfl⟩:=Option.map_eq_some_iff.1 hv;rw[CA h h1,zo h h2];rfl
theorem Ih(h:tP H H' n){x y:A}(hv:view H x=some y):view H' x=some y:=by
 cases x<;>simp only[view]at hv⊢ <;>try exact CA h hv
 obtain⟨zs,h2,rfl⟩:=Option.map_eq_some_iff.1 hv;rw[zo h h2];rfl
theorem CB(h:tP H H' n): ∀{xs ys:List A},iG H xs=some ys->iG H' xs=some ys
 | [],_,hv=>by simpa only[iG]using hv
 |x::xs,ys,hv=>by simp only[iG]at hv⊢;obtain⟨y,h1,hv⟩:=Option.bind_eq_some_iff.1 hv;obtain⟨zs,h2,rfl⟩:=Option.map_eq_some_iff.1 hv;rw[Ih h h1,CB h h2];rfl
theorem QE(h:tP H H' n){t:TypeId}{x y:A}(hv:s8 P t H x=some y):s8 P t H' x=some y:=by
 unfold s8 at hv⊢;split at hv
 · exact hv
 · rename_i m off
   by_cases hm:m=n
   · subst hm;rw[h.1]at hv;simp at hv
   · simp only[h.2 m hm];exact hv
 · rename_i m i off
   by_cases hm:m=n
   · subst hm;rw[h.1]at hv;simp at hv
   · simp only[h.2 m hm];exact hv
 · cases hv
theorem QF(h:tP H H' n){b:Bool}{x y:A}(hv:l7 b (view H x)=some y):l7 b (view H' x)=some y:=by
 cases hx:view H x with
 |none=>rw[hx]at hv;cases b<;>simp[l7]at hv
 |some z=>rw[hx]at hv;rw[Ih h hx];exact hv
theorem QG(h:tP H H' n){s d:TypeId}{x y:A}(hv:nz P s d H x=some y):nz P s d H' x=some y:=by cases x<;>simp only[nz]at hv⊢ <;>first|exact hv|exact QF h hv
theorem VJ(h:tP H H' n){s:List (Nat×A)}{op:Op}{y:A}(hv:sJ P Γ ⟨s,H⟩ op=some y):sJ P Γ ⟨s,H'⟩ op=some y:=by
 have Ac: ∀x:Operand,(St.mk s H').ev x=(St.mk s H).ev x:=fun x=>by cases x<;>rfl
 have hevL: ∀xs:List Operand,(St.mk s H').mF xs=(St.mk s H).mF xs:=fun xs=>iz fun x _=>Ac x;have hbd: ∀x:Option Operand,(St.mk s H').bd x=(St.mk s H).bd x:=fun x=>qt fun y _=>Ac y;have hfS: ∀(t:TypeId) (ps:List (Nat×Operand)) (zs:List A),kB P t ⟨s,H'⟩ ps zs=kB P t ⟨s,H⟩ ps zs:=fun t ps zs=>mQ fun p _=>Ac p.2;have hfA: ∀(t:TypeId) (ps:List (Nat×Operand)) (zs:List A),kC P t ⟨s,H'⟩ ps zs=kC P t ⟨s,H⟩ ps zs:=fun t ps zs=>mR fun p _=>Ac p.2;have hfE: ∀(k:Nat) (ps:List (Nat×Operand)) (zs:List A),jk k ⟨s,H'⟩ ps zs=jk k ⟨s,H⟩ ps zs:=fun k ps zs=>mS fun p _=>Ac p.2;unfold sJ at hv⊢;split at hv
 · simp only[Ac,hevL]
   unfold TE at hv⊢;split at hv
   · rename_i g jW hf
     obtain⟨bs,h1,hv⟩:=Option.bind_eq_some_iff.1 hv;simp only[CB h h1,Option.bind_some]
     exact hv
   · cases hv
 · unfold pk at hv⊢
   split at hv<;>(try simp only[Ac,hevL,hbd,pX,fD,hfS,hfA,hfE]at hv⊢)<;>first
    |exact hv
    |exact QE h hv
    |exact QG h hv
end
theorem VK{n:Nat}{H':List Obj}(h:tP σ.H H' n){ops:Array Oper}{o:Oper}{y:A}(hv:pL P Γ (dstsOf ops.toList) o σ=some y):pL P Γ (dstsOf ops.toList) o ⟨σ.s,H'⟩=some y:=by
 unfold pL at hv⊢;rw[jq (σ:=⟨σ.s,H'⟩) (τ:=σ) (ops:=ops) (o:=o) fun t _=>rfl]
 cases hw:jE (dstsOf ops.toList) σ o.guard with
 |none=>rw[hw]at hv;cases hv
 |some b=>
  rw[hw]at hv;cases b with
  |false=>exact hv
  |true=>exact VJ (P:=P) (Γ:=Γ) h (s:=σ.s) hv
theorem Yt(n:Nat)(o:Option Obj):(pM σ n o).s=σ.s:=by cases o<;>rfl
theorem Nh(n:Nat)(o:Option Obj)(d:Option Tmp)(v:A):pM (σ.put d v) n o=(pM σ n o).put d v:=by cases o<;>cases d<;>rfl
theorem swapA{ops:Array Oper}{n m:Nat}{y x:Oper}(hy:cp P Γ y.op=true)(hx:cH x.op=true)(Ys:y.apart ops x=true)(hn:cn σ.H m=some (.row 0 [])){tO VI:St}
 (h1:bS P Γ (dstsOf ops.toList) n y σ=some tO) (h2:bS P Γ (dstsOf ops.toList) m x tO=some VI):
 ∃nn nK,bS P Γ (dstsOf ops.toList) m x σ=some nn/\bS P Γ (dstsOf ops.toList) n y nn=some nK/\dF VI nK:=by
 obtain⟨a1,a2,a3⟩:=Oper.apart_spec Ys;rw[cO hy]at h1;rw[fJ hx]at h2;obtain⟨v,hv,rfl⟩:=Option.map_eq_some_iff.1 h1;obtain⟨⟨o,u⟩,hu,rfl⟩:=Option.map_eq_some_iff.1 h2
 have hu':qw P (dstsOf ops.toList) m x σ=some (o,u):=by
  rw[<-hu]
  exact oH fun t ht=>(kF fun e he e'=>a1 e he (e'▸ht)).symm
 have Yh:pL P Γ (dstsOf ops.toList) y (pM σ m o)=some v:=by
  cases o with
  |none=>exact hv
  |some o=>exact VK (P:=P) (Γ:=Γ) (n:=m) (tP.lay hn o) hv
 have xb:pL P Γ (dstsOf ops.toList) y ((pM σ m o).put x.dst u)=some v:=by
  rw[<-Yh]
  exact tN (te _ _) fun t ht=>kF fun e he e'=>a3 e he (e'▸ht)
 refine⟨(pM σ m o).put x.dst u,((pM σ m o).put x.dst u).put y.dst v,by rw[fJ hx,hu'];rfl,by rw[cO hy,xb];rfl, ?_⟩
 simp only[Nh]
 exact put_comm a2
theorem swapAA{ops:Array Oper}{n m:Nat}{y x:Oper}(hy:cH y.op=true)(hx:cH x.op=true)(Ys:y.apart ops x=true)(cg:n≠m){tO VI:St}
 (h1:bS P Γ (dstsOf ops.toList) n y σ=some tO) (h2:bS P Γ (dstsOf ops.toList) m x tO=some VI):
 ∃nn nK,bS P Γ (dstsOf ops.toList) m x σ=some nn/\bS P Γ (dstsOf ops.toList) n y nn=some nK/\dF VI nK:=by
 obtain⟨a1,a2,a3⟩:=Oper.apart_spec Ys;rw[fJ hy]at h1;rw[fJ hx]at h2;obtain⟨⟨p,v⟩,hv,rfl⟩:=Option.map_eq_some_iff.1 h1;obtain⟨⟨o,u⟩,hu,rfl⟩:=Option.map_eq_some_iff.1 h2
 have hu':qw P (dstsOf ops.toList) m x σ=some (o,u):=by
  rw[<-hu]
  refine oH fun t ht=> ?_;rw[kF fun e he e'=>a1 e he (e'▸ht),Yt]
 have xb:qw P (dstsOf ops.toList) n y ((pM σ m o).put x.dst u)=some (p,v):=by
  rw[<-hv]
  refine oH fun t ht=> ?_;rw[kF fun e he e'=>a3 e he (e'▸ht),Yt]
 refine⟨(pM σ m o).put x.dst u,(pM ((pM σ m o).put x.dst u) n p).put y.dst v,by rw[fJ hx,hu'];rfl,by rw[fJ hy,xb];rfl, ?_⟩
 simp only[Nh]
 have hc:pM (pM σ m o) n p=pM (pM σ n p) m o:=by
  cases o<;>cases p<;>try rfl
  simp only[pM,St.dc,dU]
  rw[List.set_comm _ _ (Ne.symm cg)]
 rw[hc]
 exact put_comm a2
theorem vg{ds:List (Option Tmp)}{n m:Nat}{o:Oper}(h:cH o.op=true)(cg:n≠m){eF:St}(hr:bS P Γ ds n o σ=some eF):cn eF.H m=cn σ.H m:=by
 rw[fJ h]at hr;obtain⟨⟨p,v⟩,_,rfl⟩:=Option.map_eq_some_iff.1 hr;rw[te]
 cases p with
 |none=>rfl
 |some p=>simp only[pM,St.dc,dU,bH];rw[List.getElem?_set_ne cg]
def qy:Op->Bool
 | .alloc _=>false
 | .box _ _=>false
 | .store _ _ _=>false
 | .convert _ _ _=>false
 | .load _ _=>false
 | .call ⟨.builtin .append,_,_⟩=>false
 | .call ⟨.builtin .clear,_,_⟩=>false
 | .call ⟨.value _,_,_⟩=>false
 |_=>true
theorem qz{op:Op}(h:qy op=true):cp P Γ op=true:=by unfold qy at h;unfold cp;split at h<;>simp_all
theorem QH{op:Op}(hl:qy op=true)(h: ∀x∈op.operands,σ.ev x=τ.ev x):sJ P Γ σ op=sJ P Γ τ op:=by
 have h1:sJ P Γ ⟨σ.s,τ.H⟩ op=sJ P Γ τ op:=tL rfl fun x hx=>by rw[<-h x hx];cases x<;>rfl
 rw[<-h1]
 unfold sJ;split
 · simp[qy]at hl
 · unfold pk
   have Ac: ∀x:Operand,(St.mk σ.s τ.H).ev x=σ.ev x:=fun x=>by cases x<;>rfl
   have hevL: ∀xs:List Operand,(St.mk σ.s τ.H).mF xs=σ.mF xs:=fun xs=>iz fun x _=>Ac x;have hbd: ∀x:Option Operand,(St.mk σ.s τ.H).bd x=σ.bd x:=fun x=>qt fun y _=>Ac y;have hfS: ∀(t:TypeId) (ps:List (Nat×Operand)) (zs:List A),kB P t ⟨σ.s,τ.H⟩ ps zs=kB P t σ ps zs:=fun t ps zs=>mQ fun p _=>Ac p.2;have hfA: ∀(t:TypeId) (ps:List (Nat×Operand)) (zs:List A),kC P t ⟨σ.s,τ.H⟩ ps zs=kC P t σ ps zs:=fun t ps zs=>mR fun p _=>Ac p.2;have hfE: ∀(k:Nat) (ps:List (Nat×Operand)) (zs:List A),jk k ⟨σ.s,τ.H⟩ ps zs=jk k σ ps zs:=fun k ps zs=>mS fun p _=>Ac p.2
   split<;>first
    |rfl
    |(simp[qy]at hl;done)
    |simp only[Ac,hevL,hbd,pX,fD,hfS,hfA,hfE]
theorem QI{ops:Array Oper}{o:Oper}(hl:qy o.op=true)(h: ∀t∈o.looksAt ops,look σ.s t=look τ.s t):pL P Γ (dstsOf ops.toList) o σ=pL P Γ (dstsOf ops.toList) o τ:=by unfold pL;rw[jq h,QH hl (qu h)]
def mT:Op->Bool
 | .store _ _ _=>true
 |_=>false
def CC(H:List Obj)(size:Option Nat)(a v:A):Option (Nat×Obj):=
 match a with
 | .ref n off=>
  match cn H n with
  |some (.box cs)=>if size=some v.cells.length/\off+v.cells.length<=cs.length/\v.val=true then some (n,.box (eB cs off v.cells))else none
  |_=>none
 | .h_ n i off=>
  match cn H n with
  |some (.row k es)=>(es[i]?).bind fun e=>if size=some v.cells.length/\off+v.cells.length<=e.cells.length/\v.cells.length≠0/\v.val=true/\v.pure=true then some (n,.row k (cC es i (l_ e off v)))else none
  |_=>none
 |_=>none
theorem VL{d:Option Tmp}{size:Option Nat}{a v:A}:oo σ d size a v=(CC σ.H size a v).map fun x=>(σ.dc x.1 x.2).put d (.cD []):=by
 cases a<;>simp only[oo,CC,Option.map_none]
 · rename_i n off
   cases cn σ.H n with
   |none=>rfl
   |some o=>cases o<;>simp only[Option.map_none]<;>split<;>rfl
 · rename_i n i off
   cases cn σ.H n with
   |none=>rfl
   |some o=>
    cases o<;>simp only[Option.map_none]
    rename_i k es;cases es[i]? with
    |none=>rfl
    |some e=>simp only[Option.bind_some];split<;>rfl
def tQ(P:Program)(ds:List (Option Tmp))(o:Oper)(σ:St):Option (Option (Nat×Obj)):=
 match jE ds σ o.guard with
 |none=>none
 |some false=>some none
 |some true=>
  match o.op with
  | .store t a x=>(CC σ.H (ba P t) (σ.ev a) (σ.ev x)).map some
  |_=>none
def CD(σ:St):Option (Nat×Obj)->St
 |some x=>σ.dc x.1 x.2
 |none=>σ
theorem oI{ds:List (Option Tmp)}{n:Nat}{o:Oper}(h:mT o.op=true):bS P Γ ds n o σ=(tQ P ds o σ).map fun x=>(CD σ x).put o.dst (.cD []):=by
 unfold bS tQ;cases jE ds σ o.guard with
 |none=>rfl
 |some b=>
  cases b with
  |false=>rfl
  |true=>
   simp only[if_true]
   cases ho:o.op<;>rw[ho]at h<;>simp[mT]at h
   simp only[execOp,VL]
   cases CC σ.H _ _ _<;>rfl
theorem JI{ops:Array Oper}{o:Oper}(hH:σ.H=τ.H)(h: ∀t∈o.looksAt ops,look σ.s t=look τ.s t):tQ P (dstsOf ops.toList) o σ=tQ P (dstsOf ops.toList) o τ:=by
 unfold tQ;rw[jq h]
 cases jE (dstsOf ops.toList) τ o.guard with
 |none=>rfl
 |some b=>
  cases b with
  |false=>rfl
  |true=>
   simp only;cases ho:o.op<;>try rfl
   rename_i t x y;have h1:=qu h x (by rw[ho];simp[Op.operands])
   have h2:=qu h y (by rw[ho];simp[Op.operands])
   simp only[h1,h2,hH]
theorem setO1_s(o:Option (Nat×Obj)):(CD σ o).s=σ.s:=by cases o<;>rfl
theorem VM(o:Option (Nat×Obj))(d:Option Tmp)(v:A):CD (σ.put d v) o=(CD σ o).put d v:=by cases o<;>cases d<;>rfl
theorem swapS{ops:Array Oper}{n m:Nat}{y x:Oper}(hy:qy y.op=true)(hx:mT x.op=true)(Ys:y.apart ops x=true){tO VI:St}
 (h1:bS P Γ (dstsOf ops.toList) n y σ=some tO) (h2:bS P Γ (dstsOf ops.toList) m x tO=some VI):
 ∃nn nK,bS P Γ (dstsOf ops.toList) m x σ=some nn/\bS P Γ (dstsOf ops.toList) n y nn=some nK/\dF VI nK:=by
 obtain⟨a1,a2,a3⟩:=Oper.apart_spec Ys;rw[cO (qz hy)]at h1;rw[oI hx]at h2;obtain⟨v,hv,rfl⟩:=Option.map_eq_some_iff.1 h1;obtain⟨o,hu,rfl⟩:=Option.map_eq_some_iff.1 h2
 have hu':tQ P (dstsOf ops.toList) x σ=some o:=by
  rw[<-hu]
  exact JI (te _ _).symm fun t ht=>(kF fun e he e'=>a1 e he (e'▸ht)).symm
 have xb:pL P Γ (dstsOf ops.toList) y ((CD σ o).put x.dst (.cD []))=some v:=by
  rw[<-hv]
  refine QI hy fun t ht=> ?_;rw[kF fun e he e'=>a3 e he (e'▸ht),setO1_s]
 refine⟨(CD σ o).put x.dst (.cD []),((CD σ o).put x.dst (.cD [])).put y.dst v,by rw[oI hx,hu'];rfl,by rw[cO (qz hy),xb];rfl, ?_⟩
 simp only[VM]
 exact put_comm a2
theorem QJ{n:Nat}{d:Option Tmp}{op:Op}(hs:dF σ τ){eF:St}(h:execOp P Γ n d op σ=some eF): ∃qv,execOp P Γ n d op τ=some qv/\dF eF qv:=by
 by_cases hp:cp P Γ op=true
 · rw[vf hp]at h⊢
   rw[<-tL hs.2 (fun x _=>hs.ev x)]
   cases hv:sJ P Γ σ op with
   |none=>simp[hv]at h
   |some v=>
    simp[hv]at h;subst h;exact⟨_,rfl,hs.put d v⟩
 · have hbox: ∀x:A,wZ σ n d x=some eF-> ∃qv,wZ τ n d x=some qv/\dF eF qv:=fun x h=>by
    unfold wZ at h⊢;split at h
    · rename_i hv
      obtain rfl:=Option.some.inj h;rw[if_pos hv]
      exact⟨_,rfl,(hs.dc n _).put d _⟩
    · simp at h
   unfold execOp at h⊢;split at h
   · cases hz:dQ P _ with
     |none=>rw[hz]at h;simp[om]at h
     |some z=>rw[hz]at h;simp only[om]at h⊢;exact hbox z h
   · simp only[<-hs.ev];exact hbox _ h
   · simp only[<-hs.ev]
     unfold oo at h⊢;split at h
     · simp only[<-hs.2]
       split at h
       · split at h
         · rename_i hc
           obtain rfl:=Option.some.inj h;rw[if_pos hc]
           exact⟨_,rfl,(hs.dc _ _).put d _⟩
         · simp at h
       · simp at h
     · simp only[<-hs.2]
       split at h
       · rename_i k es ho
         obtain⟨e,he,h⟩:=Option.bind_eq_some_iff.1 h;simp only[he,Option.bind_some]
         split at h
         · rename_i hc
           obtain rfl:=Option.some.inj h;rw[if_pos hc]
           exact⟨_,rfl,(hs.dc _ _).put d _⟩
         · simp at h
       · simp at h
     · simp at h
   · simp only[<-hs.ev]
     unfold yV at h⊢;split at h
     · rename_i hb
       rw[if_pos hb]
       split at h
       · obtain rfl:=Option.some.inj h
         exact⟨_,rfl,(hs.dc _ _).put d _⟩
       · simp at h
     · rename_i hb
       rw[if_neg hb,<-hs.2]
       cases hv:nz P _ _ σ.H (σ.ev _)with
       |none=>simp[hv]at h
       |some v=>
        simp[hv]at h;subst h;exact⟨_,rfl,hs.put d v⟩
   · simp only[<-hs.ev]
     unfold rR at h⊢;split at h
     · split at h
       · split at h
         · simp at h
         · rename_i hc
           rw[if_neg hc]
           have Ab: ∀e tx k x,zY P σ e tx k x=zY P τ e tx k x:=fun e tx k x=>by unfold zY;rw[hs.2]
           rw[<-Ab]
           cases hv:zY P σ _ _ _ (σ.ev _)with
           |none=>simp[hv]at h
           |some src=>
            simp only[hv,Option.bind_some]at h⊢;unfold oh at h⊢;split at h
            · split at h
              · rename_i hq
                obtain rfl:=Option.some.inj h;rw[if_pos hq]
                exact⟨_,rfl,(hs.dc _ _).put d _⟩
              · simp at h
            · split at h
              · rename_i hq
                obtain rfl:=Option.some.inj h;rw[if_pos hq]
                exact⟨_,rfl,(hs.dc _ _).put d _⟩
              · simp at h
            · simp only[<-hs.2]
              split at h
              · split at h
                · rename_i hq
                  rw[if_pos hq]
                  split at h
                  · rename_i jV
                    rw[if_pos jV]
                    split at h
                    · simp at h
                    · rename_i cg
                      obtain rfl:=Option.some.inj h;rw[if_neg cg]
                      exact⟨_,rfl,(hs.dc _ _).put d _⟩
                  · rename_i jV
                    rw[if_neg jV]
                    split at h
                    · simp at h
                    · rename_i My
                      obtain rfl:=Option.some.inj h;rw[if_neg My]
                      exact⟨_,rfl,((hs.fR _).dc _ _).put d _⟩
                · simp at h
              · simp at h
            · simp at h
       · simp at h
     · simp at h
   · simp only[<-hs.ev]
     unfold w3 at h⊢;simp only[<-hs.2]
     split at h
     · split at h
       · split at h
         · split at h
           · split at h
             · rename_i hc
               obtain rfl:=Option.some.inj h;rw[if_pos hc]
               exact⟨_,rfl,(hs.dc _ _).put d _⟩
             · simp at h
           · simp at h
         · simp at h
       · simp at h
     · simp at h
   · rename_i f xs us
     have hf:BW Γ f=true:=by simpa[cp]using hp
     rw[if_pos hf]at h⊢;simp only[<-hs.ev,<-iz (σ:=σ) (τ:=τ) (fun x _=>hs.ev x)]
     exact QD hs h
   · rw[<-zn hs.2 (fun x _=>hs.ev x)]
     cases hv:pk P σ op with
     |none=>simp[hv]at h
     |some v=>
      simp[hv]at h;subst h;exact⟨_,rfl,hs.put d v⟩
theorem Ii{ops:Array Oper}{n:Nat}{o:Oper}(hs:dF σ τ){eF:St}(h:bS P Γ (dstsOf ops.toList) n o σ=some eF): ∃qv,bS P Γ (dstsOf ops.toList) n o τ=some qv/\dF eF qv:=by
 unfold bS at h⊢;rw[<-jq (σ:=σ) (τ:=τ) (ops:=ops) (o:=o) fun t _=>hs.1 t]
 cases hw:jE (dstsOf ops.toList) σ o.guard with
 |none=>simp[hw]at h
 |some b=>
  simp only[hw]at h⊢;cases b with
  |true=>simp only[if_true]at h⊢;exact QJ hs h
  |false=>
   simp at h⊢;subst h;exact hs.put _ _
theorem Ni{ops:Array Oper}: ∀{L:List (Nat×Nat×Oper)} {σ τ eF:St},dF σ τ->oG P Γ (dstsOf ops.toList) L σ=some eF-> ∃qv,oG P Γ (dstsOf ops.toList) L τ=some qv/\dF eF qv
 | [],σ,τ,eF,hs,h=>by simp only[oG,Option.some.injEq]at h;subst h;exact⟨τ,rfl,hs⟩
 |x::L,σ,τ,eF,hs,h=>by
  simp only[oG]at h;cases h1:bS P Γ (dstsOf ops.toList) x.1 x.2.2 σ with
  |none=>simp[h1]at h
  |some tO=>
   simp only[h1,Option.bind_some]at h;obtain⟨τ1,h2,hs1⟩:=Ii hs h1;obtain⟨qv,h3,Qk⟩:=Ni hs1 h;exact⟨qv,by simp only[oG,h2,Option.bind_some];exact h3,Qk⟩
theorem Ij{ops:Array Oper}{x:Nat×Nat×Oper}{L2:List (Nat×Nat×Oper)}: ∀{L1:List (Nat×Nat×Oper)} {σ τ:St},
 (∀y∈L1,(cp P Γ y.2.2.op=true/\cp P Γ x.2.2.op=true\/cp P Γ y.2.2.op=true/\cH x.2.2.op=true\/cH y.2.2.op=true/\cH x.2.2.op=true/\y.1≠x.1\/qy y.2.2.op=true/\mT x.2.2.op=true)/\y.2.2.apart ops x.2.2=true)->
 (cH x.2.2.op=true->cn σ.H x.1=some (.row 0 []))->
 oG P Γ (dstsOf ops.toList) (L1++x::L2) σ=some τ-> ∃tO qv,bS P Γ (dstsOf ops.toList) x.1 x.2.2 σ=some tO/\oG P Γ (dstsOf ops.toList) (L1++L2) tO=some qv/\dF τ qv
 | [],σ,τ,_,_,h=>by
  simp only[List.nil_append,oG]at h⊢;cases h1:bS P Γ (dstsOf ops.toList) x.1 x.2.2 σ with
  |none=>simp[h1]at h
  |some tO=>
   simp only[h1,Option.bind_some]at h;exact⟨tO,τ,rfl,h,dF.refl τ⟩
 |y::L1,σ,τ,hi,Yu,h=>by
  simp only[List.cons_append,oG]at h;cases h1:bS P Γ (dstsOf ops.toList) y.1 y.2.2 σ with
  |none=>simp[h1]at h
  |some σa=>
   simp only[h1,Option.bind_some]at h;obtain⟨i1,i3⟩:=hi y (by simp)
   obtain⟨σb,qv,h2,h3,hs⟩:=Ij (L1:=L1) (fun z hz=>hi z (by simp[hz])) (fun ha=>by
    rcases i1 with⟨j1,j2⟩|⟨j1,_⟩|⟨j1,_,j3⟩|⟨j1,_⟩
    · rw[cO j1]at h1
      obtain⟨v,_,rfl⟩:=Option.map_eq_some_iff.1 h1;rw[te];exact Yu ha
    · rw[cO j1]at h1
      obtain⟨v,_,rfl⟩:=Option.map_eq_some_iff.1 h1;rw[te];exact Yu ha
    · rw[vg j1 j3 h1];exact Yu ha
    · rw[cO (qz j1)]at h1
      obtain⟨v,_,rfl⟩:=Option.map_eq_some_iff.1 h1;rw[te];exact Yu ha) h
   have hsw: ∃nn nK,bS P Γ (dstsOf ops.toList) x.1 x.2.2 σ=some nn/\bS P Γ (dstsOf ops.toList) y.1 y.2.2 nn=some nK/\dF σb nK:=by
    rcases i1 with⟨j1,j2⟩|⟨j1,j2⟩|⟨j1,j2,j3⟩|⟨j1,j2⟩
    · exact swap1 j1 j2 i3 h1 h2
    · exact swapA j1 j2 i3 (Yu j2) h1 h2
    · exact swapAA j1 j2 i3 j3 h1 h2
    · exact swapS j1 j2 i3 h1 h2
   obtain⟨nn,nK,g1,g2,gs⟩:=hsw;obtain⟨τ'',g3,gs'⟩:=Ni gs h3;exact⟨nn,τ'',g1,by simp only[List.cons_append,oG,g2,Option.bind_some];exact g3,hs.trans gs'⟩
end
end Go.bo
namespace Go.bo
open Go.RowKit
def Nj(aq:List Nat)(o:Oper):Nat:=o.after.toList.foldl (fun x e=>if Region.binds .any e=true then x|||2^e.on|||aq.getD e.on 0 else x) 0
def Nk:List Oper->List Nat->List Nat
 | [],aq=>aq
 |o::os,aq=>Nk os (aq++[Nj aq o])
def Yv(P:Program)(Γ:an)(ops:Array Oper)(m:Nat)(oi:Oper)(j:Nat):Bool:=
 match ops[j]? with
 |some oj=>m.testBit j||((cp P Γ oj.op&&cp P Γ oi.op||cp P Γ oj.op&&cH oi.op||cH oj.op&&cH oi.op||qy oj.op&&mT oi.op)&&oj.apart ops oi)
 |none=>true
def Nl(P:Program)(Γ:an)(ops:Array Oper)(aq:List Nat):Bool:=
 (List.range ops.size).all fun i=>
  match ops[i]? with
  |some oi=>(oi.after.toList.all fun e=> !Region.binds .any e||decide (e.on<i))&&(List.range i).all (Yv P Γ ops (aq.getD i 0) oi)
  |none=>true
def vh(P:Program)(Γ:an)(ops:Array Oper):Bool:=Nl P Γ ops (Nk ops.toList [])
def ke(ops:Array Oper)(L:List Nat)(i:Nat):Bool:=
 match ops[i]? with
 |some o=>o.after.toList.all fun e=> !Region.binds .any e|| !L.contains e.on
 |none=>false
def vi(P:Program)(Γ:an)(o:Op):Bool:=cp P Γ o||cH o||mT o
def rY(P:Program)(Γ:an)(ops:Array Oper):Bool:=ops.toList.all fun o=>vi P Γ o.op
def TF(P:Program)(Γ:an)(ops:Array Oper)(i y:Nat):Bool:=
 match ops[i]?,ops[y]? with
 |some a,some b=>((cp P Γ a.op&&cp P Γ b.op)||(qy a.op&&mT b.op)||(rY P Γ ops&&cp P Γ a.op&&cH b.op))&&a.apart ops b
 |_,_=>false
def cov(P:Program)(Γ:an)(ops:Array Oper)(aq:List Nat):Nat->List Nat->List (List Nat)->Bool
 |0,L,rs=>L.isEmpty&& !rs.isEmpty&&rs.all List.isEmpty
 |f+1,L,rs=>
  match rs with
  | []=>false
  | []::_=>false
  |(i::_)::_=>
   if(rs.all (fun r=>r.head? ==some i)&&L.contains i&&ke ops L i&&L.all (fun y=>y==i||(aq.getD y 0).testBit i||TF P Γ ops i y))=true then cov P Γ ops aq f (L.erase i) (rs.map List.tail)
   else L.all fun j=> !ke ops L j||cov P Γ ops aq f (L.erase j) (rs.filterMap fun r=>if r.head? =some j then some r.tail else none)
def QK(P:Program)(Γ:an)(ops:Array Oper)(os:List (List Nat)):Bool:=
 ((List.range ops.size).all fun i=>match ops[i]? with|some o=>o.after.toList.all fun e=> !Region.binds .any e||decide (e.on<i)|none=>true)&&
 cov P Γ ops (Nk ops.toList []) ops.size (List.range ops.size) os
def vj(nt:Nat)(ops:Array Oper):Bool:=ops.toList.all fun o=>match o.dst with|some d=>decide (d<nt)|none=>true
def frzOK(Γ:an)(os:List (List Nat)):Bool:=
 match H6 os with
 |none=>true
 |some ρ=>decide ρ.Nodup&&ρ.all fun n=>decide (Γ.nf<=n)
def ah(P:Program)(Γ:an)(nt:Nat):Code->Bool
 | .seq a b=>ah P Γ nt a&&ah P Γ nt b
 | .cond _ a b=>ah P Γ nt a&&ah P Γ nt b
 | .block _ c=>ah P Γ nt c
 | .loop c=>ah P Γ nt c
 | .region id ops d=>(vj nt ops&&frzOK Γ (Γ.c6 id))&&(if(B4 (Γ.c6 id)).isEmpty=true then(!d||vh P Γ ops)else(d&&QK P Γ ops (B4 (Γ.c6 id))))
 |_=>true
section
variable{P:Program}{Γ:an}{N0:Nat->Prop}{w0:kD}{nt:Nat}{σ τ:St}{φ:List dj}{a:Act}{w:World}
theorem CE{ops:Array Oper}(h:vj nt ops=true){i:Nat}{o:Oper}(ho:ops[i]? =some o): ∀t,o.dst=some t->t<nt:=fun t ht=>by
 unfold vj at h;rw[List.all_eq_true]at h;have:=h o (by simpa using Array.mem_of_getElem? ho)
 simp only[ht,decide_eq_true_eq]at this;exact this
theorem aO.sim(h:aO N0 w0 nt σ φ a w)(hs:dF σ τ):aO N0 w0 nt τ φ a w:=
 {h with
  cW:=fun d=>by rw[<-hs.1 d];exact h.cW d
  len:=by rw[<-hs.2];exact h.len
  c7:=fun n o p ho hp=>h.c7 n o p (by rw[hs.2];exact ho) hp}
theorem QL{ds:List (Option Tmp)}{n n':Nat}{o:Oper}(h:bW P o.op=false):bS P Γ ds n o σ=bS P Γ ds n' o σ:=by
 unfold bS;split
 · rfl
 · rename_i b hb
   cases b with
   |false=>rfl
   |true=>
    simp only[if_true]
    unfold execOp;split
    · rename_i h';rw[h']at h;simp[bW]at h
    · rename_i h';rw[h']at h;simp[bW]at h
    · rfl
    · rename_i h'
      rw[h']at h;simp only[bW]at h;simp only[yV,h,Bool.false_eq_true,if_false]
    · rename_i h';rw[h']at h;simp[bW]at h
    · rfl
    · rfl
    · rfl
theorem tR(tK:ag P Γ)(sL:w0.fix=Γ.fix)(h:aO N0 w0 nt σ φ a w){ops:Array Oper}(g_:vj nt ops=true){x:Nat×Nat×Oper}(ho:ops[x.2.1]? =some x.2.2){L:List (Nat×Nat×Oper)}
 (uT:bW P x.2.2.op=true->φ[x.1]? =some .free) (hfL: ∀y∈L,bW P y.2.2.op=true->φ[y.1]? =some .free) (cg: ∀y∈L,bW P x.2.2.op=true->bW P y.2.2.op=true->y.1≠x.1) {eF:St}
 (hr:bS P Γ (dstsOf ops.toList) x.1 x.2.2 σ=some eF) {Q:Exit->Act->World->Prop} {K:Act->World->Prop}
 (hK: ∀eT a' w',aO N0 w0 nt eF eT a' w'->(∀y∈L,bW P y.2.2.op=true->eT[y.1]? =some .free)->K a' w'):wpOp P ops Q x.2.1 K a w:=by
 by_cases Yw:bW P x.2.2.op=true
 · exact zl tK h ho (CE g_ ho) sL (fun _=>uT Yw) hr fun eT a' w' hc hf=>hK eT a' w' hc fun y hy ha=>hf y.1 (cg y hy Yw ha) (hfL y hy ha)
 · have hal':bW P x.2.2.op=false:=by simpa using Yw
   rw[QL (n':=φ.length) hal']at hr;refine zl tK h ho (CE g_ ho) sL (fun ha=>absurd ha Yw) hr fun eT a' w' hc hf=>hK eT a' w' hc fun y hy ha=>hf y.1 (fun e=> ?_) (hfL y hy ha)
   have:=(List.getElem?_eq_some_iff.1 (hfL y hy ha)).1;omega
theorem CF(tK:ag P Γ)(sL:w0.fix=Γ.fix){ops:Array Oper}(g_:vj nt ops=true){Q:Exit->Act->World->Prop}{τ:St}: ∀{L:List (Nat×Nat×Oper)} {σ:St} {φ:List dj} {a:Act} {w:World},
 aO N0 w0 nt σ φ a w->(∀x∈L,ops[x.2.1]? =some x.2.2)->L.Pairwise (fun x y=>x.2.1<y.2.1/\(bW P x.2.2.op=true->x.1<y.1))->
 (∀y∈L,bW P y.2.2.op=true->φ[y.1]? =some .free)->oG P Γ (dstsOf ops.toList) L σ=some τ->(∀eT a' w',aO N0 w0 nt τ eT a' w'->Q .normal a' w')->wpOps P ops Q (L.map (·.2.1)) a w
 | [],σ,φ,a,w,h,_,_,_,hr,hQ=>by simp only[oG,Option.some.injEq]at hr;subst hr;exact hQ φ a w h
 |x::L,σ,φ,a,w,h,oF,hp,hf,hr,hQ=>by
  rw[List.map_cons,wpOps_cons]
  simp only[oG]at hr;rw[List.pairwise_cons]at hp;cases h1:bS P Γ (dstsOf ops.toList) x.1 x.2.2 σ with
  |none=>simp[h1]at hr
  |some tO=>
   simp only[h1,Option.bind_some]at hr;refine tR tK sL h g_ (oF x (by simp)) (L:=L) (hf x (by simp)) (fun y hy=>hf y (by simp[hy])) (fun y hy ha _ e=> ?_) h1 fun eT a' w' hc MY=> ?_
   · have:=(hp.1 y hy).2 ha
     omega
   · exact CF tK sL g_ hc (fun y hy=>oF y (by simp[hy])) hp.2 MY hr hQ
theorem CG{aq:List Nat}{j:Nat}: ∀{es:List Edge} {x:Nat},(es.foldl (fun x e=>if Region.binds .any e=true then x|||2^e.on|||aq.getD e.on 0 else x) x).testBit j=true->
 x.testBit j=true\/ ∃e∈es,Region.binds .any e=true/\(e.on=j\/(aq.getD e.on 0).testBit j=true)
 | [],x,h=> .inl h
 |e::es,x,h=>by
  rw[List.foldl_cons]at h;rcases CG h with h|⟨e',wR,h'⟩
  · split at h
    · rename_i hb
      rw[Nat.testBit_or,Nat.testBit_or,Bool.or_eq_true,Bool.or_eq_true,Nat.testBit_two_pow]at h;rcases h with(h|h)|h
      · exact .inl h
      · exact .inr ⟨e,by simp,hb,.inl (by simpa using h)⟩
      · exact .inr ⟨e,by simp,hb,.inr h⟩
    · exact .inl h
  · exact .inr ⟨e',by simp[wR],h'⟩
theorem xm{ops:Array Oper}{D:Nat->Prop}(hD: ∀(m:Nat) (o:Oper),ops[m]? =some o->D m-> ∀e∈o.after,Region.binds .any e=true->D e.on): ∀{os ps:List Oper} {aq:List Nat},ops.toList=ps++os->aq.length=ps.length->
 (∀(m:Nat) (o:Oper),m<aq.length->ops[m]? =some o->(∀e∈o.after,Region.binds .any e=true->D e.on)-> ∀j,(aq.getD m 0).testBit j=true->D j)->
 ∀(m:Nat) (o:Oper),ops[m]? =some o->(∀e∈o.after,Region.binds .any e=true->D e.on)-> ∀j,((Nk os aq).getD m 0).testBit j=true->D j
 | [],ps,aq,hp,hl,h,m,o,ho,hd,j,hj=>by
  have hm:m<aq.length:=by
   have h1:=(Array.getElem?_eq_some_iff.1 ho).1;have h2:ops.toList.length=ps.length:=by rw[hp];simp
   rw[Array.length_toList]at h2;omega
  exact h m o hm ho hd j hj
 |q::os,ps,aq,hp,hl,h,m,o,ho,hd,j,hj=>by
  simp only[Nk]at hj;refine xm (os:=os) (ps:=ps++[q]) (aq:=aq++[Nj aq q]) hD (by rw[hp];simp) (by simp[hl]) ?_ m o ho hd j hj;intro m' o' jz xc hd' j' wS;by_cases aw:m'<aq.length
  · rw[show(aq++[Nj aq q]).getD m' 0=aq.getD m' 0 by simp[List.getD,List.getElem?_append_left aw]]at wS
    exact h m' o' aw xc hd' j' wS
  · have hme:m'=aq.length:=by rw[List.length_append]at jz;simp at jz;omega
    subst hme;have hq:ops[aq.length]? =some q:=by rw[<-Array.getElem?_toList,hp,hl];simp
    rw[xc]at hq;obtain rfl:=Option.some.inj hq;have e1:(aq++[Nj aq o']).getD aq.length 0=Nj aq o':=by simp[List.getD]
    rw[e1]at wS;rcases CG wS with h0|⟨e,he,hb,h1⟩
    · simp at h0
    · have wR:e∈o'.after:=by simpa using he
      rcases h1 with rfl|h1
      · exact hd' e wR hb
      · by_cases ae:e.on<aq.length
        · have lF:e.on<ops.size:=by
           have:=congrArg List.length hp;simp at this;omega
          exact h e.on ops[e.on] ae (Array.getElem?_eq_getElem lF) (hD e.on _ (Array.getElem?_eq_getElem lF) (hd' e wR hb)) j' h1
        · rw[show aq.getD e.on 0=0 by simp[List.getD,List.getElem?_eq_none (Nat.le_of_not_lt ae)]]at h1
          simp at h1
theorem lG{ops:Array Oper}(h:vh P Γ ops=true){i:Nat}{oi:Oper}(hi:ops[i]? =some oi):
 (∀e∈oi.after,Region.binds .any e=true->e.on<i)/\ ∀(j:Nat) (oj:Oper),j<i->ops[j]? =some oj->((Nk ops.toList []).getD i 0).testBit j=true\/((cp P Γ oj.op=true/\cp P Γ oi.op=true\/cp P Γ oj.op=true/\cH oi.op=true\/cH oj.op=true/\cH oi.op=true\/qy oj.op=true/\mT oi.op=true)/\oj.apart ops oi=true):=by
 unfold vh Nl at h;rw[List.all_eq_true]at h;have h1:=h i (by simpa using(Array.getElem?_eq_some_iff.1 hi).1)
 simp only[hi,Bool.and_eq_true]at h1;obtain⟨h2,h3⟩:=h1;rw[List.all_eq_true]at h2 h3;refine⟨fun e he hb=> ?_,fun j oj hj hoj=> ?_⟩
 · have:=h2 e (by simpa using he)
   simpa[hb]using this
 · have:=h3 j (by simpa using hj)
   unfold Yv at this;simp only[hoj,Bool.or_eq_true,Bool.and_eq_true]at this;rcases this with h|⟨((h4|h4)|h4)|h4,h6⟩
   · exact .inl h
   · exact .inr ⟨.inl h4,h6⟩
   · exact .inr ⟨.inr (.inl h4),h6⟩
   · exact .inr ⟨.inr (.inr (.inl h4)),h6⟩
   · exact .inr ⟨.inr (.inr (.inr h4)),h6⟩
theorem Ik{op:Op}(h:cH op=true):bW P op=true:=by cases op<;>simp[cH]at h<;>rfl
theorem Nn(h:aO N0 w0 nt σ φ a w){n:Nat}(hn:φ[n]? =some .free):cn σ.H n=some (.row 0 []):=by
 have aw:n<σ.H.length:=by rw[<-h.len];exact(List.getElem?_eq_some_iff.1 hn).1
 have ho:cn σ.H n=some σ.H[n]:=by rw[bH];exact List.getElem?_eq_getElem aw
 have:=h.c7 n _ _ ho hn;rw[ho]
 cases hh:σ.H[n]with
 |box cs=>rw[hh]at this;simp[aL]at this
 |row k es=>rw[hh]at this;simp only[aL]at this;rw[this.1,this.2]
theorem VN(tK:ag P Γ)(sL:w0.fix=Γ.fix){ops:Array Oper}(g_:vj nt ops=true)(F6:vh P Γ ops=true){Q:Exit->Act->World->Prop}: ∀(fuel:Nat) (cu:Array Bool) {L:List (Nat×Nat×Oper)} {σ τ:St} {φ:List dj} {a:Act} {w:World},
 L.length<=fuel->(∀i,cu.getD i true=false ↔∃x∈L,x.2.1=i)->
 aO N0 w0 nt σ φ a w->(∀x∈L,ops[x.2.1]? =some x.2.2)->L.Pairwise (fun x y=>x.2.1<y.2.1/\(bW P x.2.2.op=true->x.1<y.1))->
 (∀y∈L,bW P y.2.2.op=true->φ[y.1]? =some .free)->oG P Γ (dstsOf ops.toList) L σ=some τ->(∀eT a' w',aO N0 w0 nt τ eT a' w'->Q .normal a' w')->cu.size=ops.size->(∀(m:Nat) (o:Oper),ops[m]? =some o->cu.getD m true=true-> ∀e∈o.after,Region.binds .any e=true->cu.getD e.on true=true)->wpAny P .any ops Q fuel cu a w:=by
 intro fuel
 -- the first of those that are left is ready
 have first: ∀(cu:Array Bool) (x:Nat×Nat×Oper) (L:List (Nat×Nat×Oper)),(∀i,cu.getD i true=false ↔∃y∈x::L,y.2.1=i)->(∀y∈x::L,ops[y.2.1]? =some y.2.2)->
  (x::L).Pairwise (fun x y=>x.2.1<y.2.1/\(bW P x.2.2.op=true->x.1<y.1))->cu.size=ops.size->x.2.1∈Region.ready .any ops cu:=by
  intro cu x L hl oF hp lT;rw[mem_ready]
  refine⟨(hl x.2.1).2 ⟨x,by simp,rfl⟩,x.2.2,oF x (by simp),fun e he hb=> ?_⟩
  have aw:=(lG F6 (oF x (by simp))).1 e he hb;have Tx:x.2.1<ops.size:=(Array.getElem?_eq_some_iff.1 (oF x (by simp))).1;cases hg:cu.getD e.on true with
  |false=>
   obtain⟨y,hy,hye⟩:=(hl e.on).1 hg;rcases List.mem_cons.1 hy with rfl|hy
   · omega
   · have:=((List.pairwise_cons.1 hp).1 y hy).1
     omega
  |true=>
   have he:e.on<cu.size:=by omega
   simpa[he]using hg
 induction fuel with
 |zero=>
  intro cu L σ τ φ a w hlen hl hc oF hp hf hr hQ lT jV;have hL:L=[]:=List.length_eq_zero_iff.1 (by omega)
  subst hL;simp only[oG,Option.some.injEq]at hr;subst hr;refine⟨?_,hQ φ a w hc⟩
  rw[List.eq_nil_iff_forall_not_mem]
  intro i hi;obtain⟨x,hx,_⟩:=(hl i).1 (mem_ready.1 hi).1;cases hx
 |succ fuel ih=>
  intro cu L σ τ φ a w hlen hl hc oF hp hf hr hQ lT jV;refine⟨fun JJ=> ?_,fun i hi=> ?_⟩
  · cases L with
    |nil=>
     simp only[oG,Option.some.injEq]at hr;subst hr;exact hQ φ a w hc
    |cons x L=>
     have:=first cu x L hl oF hp lT
     rw[JJ]at this;cases this
  · obtain⟨hun,oi,No,iO⟩:=mem_ready.1 hi
    obtain⟨x,hx,rfl⟩:=(hl i).1 hun;have QM:=oF x hx;rw[No]at QM;obtain rfl:=Option.some.inj QM;obtain⟨L1,L2,rfl⟩:=List.append_of_mem hx;have Mz:=List.pairwise_append.1 hp;have hp2:=List.pairwise_cons.1 Mz.2.1
    obtain⟨tO,qv,g1,g2,gs⟩:=Ij (fun y hy=>by
     have aw:=(Mz.2.2 y hy x (by simp)).1;have hyo:=oF y (by simp[hy])
     rcases(lG F6 No).2 y.2.1 y.2.2 aw hyo with hdep|hind
     · exfalso
       have h2:=(hl y.2.1).2 ⟨y,by simp[hy],rfl⟩
       have h1:=xm (ops:=ops) (D:=fun m=>cu.getD m true=true) jV (os:=ops.toList) (ps:=[]) (aq:=[]) rfl rfl (fun m o hm=>absurd hm (by simp)) x.2.1 x.2.2 No (fun e he hb=>by
        have h3:=iO e he hb;have h4:=(lG F6 No).1 e he hb;have h5:e.on<cu.size:=by rw[lT];have:=(Array.getElem?_eq_some_iff.1 No).1;omega
        simpa[h5]using h3) y.2.1 hdep
       rw[h1]at h2;cases h2
     · refine⟨?_,hind.2⟩
       rcases hind.1 with h'|h'|⟨h1,h2⟩|h'
       · exact .inl h'
       · exact .inr (.inl h')
       · have cg:=(Mz.2.2 y hy x (by simp)).2 (Ik h1)
         exact .inr (.inr (.inl ⟨h1,h2,by omega⟩))
       · exact .inr (.inr (.inr h'))) (fun ha=>Nn hc (hf x hx (Ik ha))) hr
    refine tR tK sL hc g_ No (L:=L1++L2) (hf x hx) (fun y hy=>hf y (by
     rcases List.mem_append.1 hy with hy|hy
     · simp[hy]
     · simp[hy])) (fun y hy ha hb e=> ?_) g1 fun eT a' w' wQ MY=> ?_
    · rcases List.mem_append.1 hy with hy|hy
      · have:=(Mz.2.2 y hy x (by simp)).2 hb
        omega
      · have:=(hp2.1 y hy).2 ha
        omega
    · refine ih (cu.setIfInBounds x.2.1 true) (L:=L1++L2) (τ:=qv) ?_ ?_ wQ ?_ ?_ MY g2 ?_ (by simp[lT]) ?_
      · simp at hlen⊢;omega
      · intro i
        have Tx:x.2.1<cu.size:=by rw[lT];exact(Array.getElem?_eq_some_iff.1 No).1
        by_cases hxi:x.2.1=i
        · subst hxi
          constructor
          · intro h;simp[Tx]at h
          · rintro⟨y,hy,hye⟩
            exfalso;rcases List.mem_append.1 hy with hy|hy
            · have:=(Mz.2.2 y hy x (by simp)).1
              omega
            · have:=(hp2.1 y hy).1
              omega
        · rw[getD_set_ne true hxi,hl i]
          constructor
          · rintro⟨y,hy,hye⟩
            refine⟨y, ?_,hye⟩
            rcases List.mem_append.1 hy with hy|hy
            · simp[hy]
            · rcases List.mem_cons.1 hy with rfl|hy
              · exact absurd hye hxi
              · simp[hy]
          · rintro⟨y,hy,hye⟩
            refine⟨y, ?_,hye⟩
            rcases List.mem_append.1 hy with hy|hy
            · simp[hy]
            · simp[hy]
      · intro y hy
        refine oF y ?_;rcases List.mem_append.1 hy with hy|hy
        · simp[hy]
        · simp[hy]
      · rw[List.pairwise_append]
        exact⟨Mz.1,hp2.2,fun y hy z hz=>Mz.2.2 y hy z (by simp[hz])⟩
      · exact fun φ'' a'' w'' hc''=>hQ φ'' a'' w'' (hc''.sim gs.symm)
      · intro m o ho hm e he hb
        have Tx:x.2.1<cu.size:=by rw[lT];exact(Array.getElem?_eq_some_iff.1 No).1
        have key:cu.getD e.on true=true:=by
         by_cases hxm:x.2.1=m
         · subst hxm
           rw[No]at ho;obtain rfl:=Option.some.inj ho;have h3:=iO e he hb;have h4:=(lG F6 No).1 e he hb;have h5:e.on<cu.size:=by rw[lT];have:=(Array.getElem?_eq_some_iff.1 No).1;omega
           simpa[h5]using h3
         · rw[getD_set_ne true hxm]at hm
           exact jV m o ho hm e he hb
        by_cases tS:x.2.1=e.on
        · rw[<-tS];simp[Tx]
        · rw[getD_set_ne true tS];exact key
theorem aO.TG(h:aO N0 w0 nt σ φ a w):aO N0 w0 nt {σ with H:=σ.H++[.row 0 []]} (φ++[.free]) a w:=by
 have nk: ∀m:Nat,(φ++[dj.free])[m]? =if m=φ.length then some .free else φ[m]? :=fun m=>by
  rw[List.getElem?_append]
  split
  · rw[if_neg (by omega)]
  · split
    · rename_i h1 h2;subst h2;simp
    · rename_i h1 h2
      rw[List.getElem?_eq_none (by simp;omega),List.getElem?_eq_none (by omega)]
 have zi: ∀m b k:Nat,(φ++[dj.free])[m]? =some (dj.loc b k)->φ[m]? =some (.loc b k):=fun m b k hm=>by
  rw[nk]at hm;split at hm
  · simp at hm
  · exact hm
 have dL:Ext (fun _=>True) (aB N0 φ w) (aB N0 (φ++[.free]) w):={
  size:=Nat.le_refl _
  MI:=fun b _ hn=>⟨by
   rintro(h0|⟨m,k,hm⟩)
   · exact hn (.inl h0)
   · exact hn (.inr ⟨m,k,zi m b k hm⟩),rfl⟩
  refs:=fun m o _ hm _=>by have aw:m<φ.length:=(List.getElem?_eq_some_iff.1 hm).1;show(φ++[dj.free])[m]? =some o;rw[nk,if_neg (by omega)];exact hm
  own:=fun m b k c e fr _ hm hc=>⟨c,fr,hc,rfl⟩}
 exact{
  cW:=fun d=>aJ.mono dL _ _ (h.cW d) (fun _ _=>trivial)
  size:=h.size
  defers:=h.defers
  len:=by simp[h.len]
  c7:=fun m o p hm hp=>by
   rw[nk]at hp;rw[bH,List.getElem?_append]at hm;split at hp
   · rename_i e
     simp at hp;subst hp;rw[if_neg (by rw[<-h.len];omega),show m-σ.H.length=0 by rw[<-h.len];omega]at hm;simp at hm;subst hm;simp[aL]
   · rename_i e
     have aw:m<φ.length:=(List.getElem?_eq_some_iff.1 hp).1;rw[if_pos (by rw[<-h.len];exact aw)]at hm;exact aL.mono dL (h.c7 m o p (by rw[bH];exact hm) hp) (fun b k _ c e fr hh=>hh) (fun _ _ _ _=>trivial)
  own:=fun m b k hm=>h.own m b k (zi m b k hm)
  inj:=fun m m' b k k' hm jz=>h.inj m m' b k k' (zi m b k hm) (zi m' b k' jz)
  n0:=h.n0
  lD:=fun m p hf hp bI=>by have:=h.lD m p hf hp bI;have aw:m<φ.length:=(List.getElem?_eq_some_iff.1 this).1;rw[List.getElem?_append_left aw];exact this
  below:=h.below}
theorem VO(op:Op):(grow P op σ).H.length=dP P op σ.H.length:=by unfold grow dP;split<;>simp
theorem rZ: ∀(os:List Oper) (i:Nat) {σ:St} {φ:List dj},aO N0 w0 nt σ φ a w-> ∃eT,aO N0 w0 nt (pre P os σ) eT a w/\(∀y∈FN P σ.H.length i os,bW P y.2.2.op=true->eT[y.1]? =some .free)/\
 ∀m:Nat,φ[m]? =some dj.free->eT[m]? =some dj.free
 | [],i,σ,φ,h=>⟨φ,h,by simp[FN],fun _ h=>h⟩
 |o::os,i,σ,φ,h=>by
  have hg: ∃φ1,aO N0 w0 nt (grow P o.op σ) φ1 a w/\(bW P o.op=true->φ1[σ.H.length]? =some .free)/\ ∀m:Nat,φ[m]? =some dj.free->φ1[m]? =some dj.free:=by
   unfold grow;split
   · refine⟨φ++[.free],h.TG,fun _=>by rw[<-h.len];simp,fun m hm=> ?_⟩
     have aw:m<φ.length:=(List.getElem?_eq_some_iff.1 hm).1;rw[List.getElem?_append_left aw]
     exact hm
   · rename_i ha
     exact⟨φ,h,fun h=>absurd h ha,fun _ h=>h⟩
  obtain⟨φ1,h1,hf,hk⟩:=hg;obtain⟨eT,h2,Xw,VP⟩:=rZ os (i+1) h1;refine⟨eT,h2,fun y hy ha=> ?_,fun m hm=>VP m (hk m hm)⟩
  simp only[FN,List.mem_cons]at hy;rcases hy with rfl|hy
  · exact VP _ (hf ha)
  · rw[VO]at Xw
    exact Xw y hy ha
theorem JK(tK:ag P Γ)(sL:w0.fix=Γ.fix)(hm:P.follows .mixedOrders=true)(h:aO N0 w0 nt σ φ a w){id:Nat}{ops:Array Oper}{d:Bool}(g_:vj nt ops=true)(F6:d=true->vh P Γ ops=true){τ:St}
 (hr:jF P Γ (dstsOf ops.toList) ops.toList σ.H.length (pre P ops.toList σ)=some τ) {Q:Exit->Act->World->Prop} (hQ: ∀eT a' w',aO N0 w0 nt τ eT a' w'->Q .normal a' w'):(Code.region id ops d).wp P Q a w:=by
 rw[zm P Γ _ _ _ 0]at hr;have oF: ∀x∈FN P σ.H.length 0 ops.toList,ops[x.2.1]? =some x.2.2:=fun x hx=>by have:=(JF P _ _ _ x hx).2.2;simpa using this
 have hp:=Ng P ops.toList σ.H.length 0;have VA:=TD P ops.toList σ.H.length 0;simp only[Nat.zero_add,Array.length_toList]at VA;have Yx:(FN P σ.H.length 0 ops.toList).map (·.2.1)=List.range ops.size:=by rw[VA];simp
 cases d with
 |false=>
  obtain⟨eT,hc,hf,_⟩:=rZ (P:=P) ops.toList 0 h;refine wp_region ?_;rw[<-Yx]
  exact CF tK sL g_ hc oF hp hf hr hQ
 |true=>
  have Yj:eL w {w with drawn:=w.drawn+1}:=eL.drew w;obtain⟨eT,hc,hf,_⟩:=rZ (P:=P) ops.toList 0 (h.Vt Yj)
  refine wp_region_any hm ?_;refine VN tK sL g_ (F6 rfl) ops.size _ (L:=FN P σ.H.length 0 ops.toList) ?_ ?_ hc oF hp hf hr hQ (by simp) (fun m o ho hm=>by have:=(Array.getElem?_eq_some_iff.1 ho).1;simp[this]at hm)
  · have:=congrArg List.length Yx
    simp at this;omega
  · intro i
    have j_:(∃x∈FN P σ.H.length 0 ops.toList,x.2.1=i) ↔ i<ops.size:=by rw[<-List.mem_range,<-Yx,List.mem_map]
    rw[j_]
    by_cases hi:i<ops.size<;>simp[hi]
def CH(P:Program)(Γ:an)(ops:Array Oper)(B:List (Nat×Oper))(q:St->Prop):Nat->List Nat->St->Prop
 |0,L,σ=>L=[]/\q σ
 |f+1,L,σ=> ∀i∈L,ke ops L i=true-> ∃x eF,e_ B i=some x/\bS P Γ (dstsOf ops.toList) x.1 x.2 σ=some eF/\CH P Γ ops B q f (L.erase i) eF
theorem Np{ops:Array Oper}{B:List (Nat×Oper)}{q:St->Prop}(hq: ∀{σ τ:St},dF σ τ->q σ->q τ): ∀{f:Nat} {L:List Nat} {σ τ:St},dF σ τ->CH P Γ ops B q f L σ->CH P Γ ops B q f L τ
 |0,L,σ,τ,hs,h=>⟨h.1,hq hs h.2⟩
 |f+1,L,σ,τ,hs,h=>fun i hi hr=>by obtain⟨x,eF,h1,h2,h3⟩:=h i hi hr;obtain⟨qv,h4,h5⟩:=Ii hs h2;exact⟨x,qv,h1,h4,Np hq h5 h3⟩
theorem kf{ops:Array Oper}{L:List Nat}{i:Nat}(h:ke ops L i=true): ∃o,ops[i]? =some o/\ ∀e∈o.after,Region.binds .any e=true->e.on∉L:=by
 unfold ke at h;cases ho:ops[i]? with
 |none=>rw[ho]at h;cases h
 |some o=>
  rw[ho]at h;simp only[List.all_eq_true]at h;refine⟨o,rfl,fun e he hb hm=> ?_⟩
  have:=h e (by simpa using he)
  simp[hb,hm]at this
theorem CI{ops:Array Oper}{L:List Nat}{i:Nat}{o:Oper}(ho:ops[i]? =some o)(h: ∀e∈o.after,Region.binds .any e=true->e.on∉L):ke ops L i=true:=by
 unfold ke;rw[ho]
 simp only[List.all_eq_true]
 intro e he;have:=h e (by simpa using he)
 cases hb:Region.binds .any e with
 |false=>rfl
 |true=>simp[this hb]
theorem zp{ops:Array Oper}{L:List Nat}{i j:Nat}(h:ke ops L i=true):ke ops (L.erase j) i=true:=by obtain⟨o,ho,h1⟩:=kf h;exact CI ho fun e he hb hm=>h1 e he hb (List.mem_of_mem_erase hm)
def JL(ops:Array Oper)(L:List Nat):Prop:= ∀(m:Nat) (o:Oper),ops[m]? =some o->m∉L-> ∀e∈o.after,Region.binds .any e=true->e.on∉L
theorem oJ{ops:Array Oper}{L:List Nat}{i:Nat}(hn:L.Nodup)(hc:JL ops L)(hr:ke ops L i=true):JL ops (L.erase i):=fun m o ho hm e he hb hme=>by
 obtain⟨o',xc,h1⟩:=kf hr;have hL:=List.mem_of_mem_erase hme;by_cases hmi:m=i
 · subst hmi
   rw[ho]at xc;obtain rfl:=Option.some.inj xc;exact h1 e he hb hL
 · exact hc m o ho (fun hmL=>hm ((List.mem_erase_of_ne hmi).2 hmL)) e he hb hL
theorem Nq{ops:Array Oper}{B:List (Nat×Oper)}(hB: ∀(i:Nat) (x:Nat×Oper),e_ B i=some x->ops[i]? =some x.2){i:Nat}{x:Nat×Oper}{o:Oper}(h:e_ B i=some x)(ho:ops[i]? =some o):x.2=o:=by have:=hB i x h;rw[ho]at this;exact(Option.some.inj this).symm
def zq(B:List (Nat×Oper))(L:List Nat)(σ:St):Prop:= ∀i∈L,∀x,e_ B i=some x->cH x.2.op=true->cn σ.H x.1=some (.row 0 [])
theorem QN{ds:List (Option Tmp)}{n m:Nat}{o:Oper}(hs:vi P Γ o.op=true)(cg:cH o.op=true->n≠m){eF:St}(hr:bS P Γ ds n o σ=some eF)(hf:cn σ.H m=some (.row 0 [])):cn eF.H m=some (.row 0 []):=by
 unfold vi at hs;simp only[Bool.or_eq_true]at hs;rcases hs with(hs|hs)|hs
 · rw[cO hs]at hr
   obtain⟨v,_,rfl⟩:=Option.map_eq_some_iff.1 hr;rw[te];exact hf
 · rw[vg hs (cg hs) hr];exact hf
 · rw[oI hs]at hr
   obtain⟨v,hv,rfl⟩:=Option.map_eq_some_iff.1 hr;rw[te]
   cases v with
   |none=>exact hf
   |some v=>
    have hvm:v.1≠m:=fun e=>by
     unfold tQ at hv;split at hv
     · cases hv
     · cases hv
     · split at hv
       · obtain⟨z,hz,hzv⟩:=Option.map_eq_some_iff.1 hv
         obtain rfl:=Option.some.inj hzv;unfold CC at hz;split at hz
         · split at hz
           · rename_i hn
             split at hz
             · obtain rfl:=Option.some.inj hz
               simp only at e;subst e;rw[hf]at hn;cases hn
             · cases hz
           · cases hz
         · split at hz
           · rename_i k es hn
             obtain⟨e',wR,hz⟩:=Option.bind_eq_some_iff.1 hz;split at hz
             · obtain rfl:=Option.some.inj hz
               simp only at e;subst e;rw[hf]at hn;cases hn;simp at wR
             · cases hz
           · cases hz
         · cases hz
       · cases hv
    show cn (kQ σ.H v.1 v.2) m=_;rw[dU,bH,List.getElem?_set_ne hvm,<-bH];exact hf
theorem VQ{ops:Array Oper}(h:rY P Γ ops=true){i:Nat}{o:Oper}(ho:ops[i]? =some o):vi P Γ o.op=true:=by unfold rY at h;rw[List.all_eq_true]at h;exact h o (by simpa using Array.mem_of_getElem? ho)
theorem zq.step{ops:Array Oper}{B:List (Nat×Oper)}{L:List Nat}(hS:rY P Γ ops=true)(hB: ∀(i:Nat) (x:Nat×Oper),e_ B i=some x->ops[i]? =some x.2)
 (hBa: ∀(i j:Nat) (x y:Nat×Oper),e_ B i=some x->e_ B j=some y->i≠j->bW P x.2.op=true->bW P y.2.op=true->x.1≠y.1)
 (hn:L.Nodup) {j:Nat} {y:Nat×Oper} (hy:e_ B j=some y) {ds:List (Option Tmp)} {eF:St} (hr:bS P Γ ds y.1 y.2 σ=some eF) (hf:zq B L σ):zq B (L.erase j) eF:=fun i hi x hx ha=>by
 have xo:i≠j:=fun e=>by subst e;exact absurd hi (List.Nodup.not_mem_erase hn)
 have al: ∀op:Op,cH op=true->bW P op=true:=fun op h=>by cases op<;>simp[cH]at h<;>rfl
 exact QN (VQ hS (hB j y hy)) (fun hb=>hBa j i y x hy hx (Ne.symm xo) (al _ hb) (al _ ha)) hr (hf i (List.mem_of_mem_erase hi) x hx ha)
theorem QO{ops:Array Oper}{B:List (Nat×Oper)}{q:St->Prop}(hq: ∀{σ τ:St},dF σ τ->q σ->q τ)(hB: ∀(i:Nat) (x:Nat×Oper),e_ B i=some x->ops[i]? =some x.2)
 (hBa: ∀(i j:Nat) (x y:Nat×Oper),e_ B i=some x->e_ B j=some y->i≠j->bW P x.2.op=true->bW P y.2.op=true->x.1≠y.1):
 ∀{f:Nat} {L:List Nat} {i:Nat} {x:Nat×Oper} {σ tO:St},L.Nodup->(rY P Γ ops=true->zq B L σ)->JL ops L->i∈L->ke ops L i=true->(∀y∈L,y≠i->((Nk ops.toList []).getD y 0).testBit i=true\/TF P Γ ops i y=true)->
 e_ B i=some x->bS P Γ (dstsOf ops.toList) x.1 x.2 σ=some tO->CH P Γ ops B q f (L.erase i) tO->CH P Γ ops B q (f+1) L σ:=by
 intro f;induction f with
 |zero=>
  intro L i x σ tO hn MA hc hi hr hcom hx h1 hg j hj hrj;have hL:L.erase i=[]:=hg.1;by_cases VD:j=i
  · subst VD;exact⟨x,tO,hx,h1,hg⟩
  · have:=(List.mem_erase_of_ne VD).2 hj
    rw[hL]at this;cases this
 |succ f ih=>
  intro L i x σ tO hn MA hc hi hr hcom hx h1 hg j hj hrj;by_cases VD:j=i
  · subst VD;exact⟨x,tO,hx,h1,hg⟩
  · have hje:=(List.mem_erase_of_ne VD).2 hj
    obtain⟨y,VI,hy,h2,hg2⟩:=hg j hje (zp hrj)
    have MB:TF P Γ ops i j=true:=by
     rcases hcom j hj VD with h|h
     · exfalso
       obtain⟨o,ho,hdone⟩:=kf hrj;exact xm (ops:=ops) (D:=fun m=>m∉L) (fun m o ho hm e he hb=>hc m o ho hm e he hb) (os:=ops.toList) (ps:=[]) (aq:=[]) rfl rfl (fun m o hm=>absurd hm (by simp)) j o ho hdone i h hi
     · exact h
    obtain⟨oi,No,_⟩:=kf hr;obtain⟨oj,hoj,_⟩:=kf hrj;have e1:=Nq hB hx No;have e2:=Nq hB hy hoj;unfold TF at MB;rw[No,hoj]at MB;simp only[Bool.and_eq_true,Bool.or_eq_true]at MB;obtain⟨hk,Ys⟩:=MB;rw[e1]at h1;rw[e2]at h2
    have hsw: ∃nn nK,bS P Γ (dstsOf ops.toList) y.1 oj σ=some nn/\bS P Γ (dstsOf ops.toList) x.1 oi nn=some nK/\dF VI nK:=by
     rcases hk with(⟨k1,k2⟩|⟨k1,k2⟩)|⟨⟨k0,k1⟩,k2⟩
     · exact swap1 k1 k2 Ys h1 h2
     · exact swapS k1 k2 Ys h1 h2
     · exact swapA k1 k2 Ys (MA k0 j hj y hy (by rw[e2];exact k2)) h1 h2
    obtain⟨nn,nK,g1,g2,gs⟩:=hsw;refine⟨y,nn,hy,by rw[e2];exact g1, ?_⟩
    refine ih (L:=L.erase j) (i:=i) (x:=x) (tO:=nK) (hn.erase j) (fun hS=>zq.step hS hB hBa hn hy (by rw[e2];exact g1) (MA hS)) (oJ hn hc hrj) ((List.mem_erase_of_ne (Ne.symm VD)).2 hi) (zp hr) (fun z hz hzi=>hcom z (List.mem_of_mem_erase hz) hzi) hx (by rw[e1];exact g2) ?_;rw[List.erase_comm]
    exact Np hq gs hg2
theorem VR{ops:Array Oper}{B:List (Nat×Oper)}{q:St->Prop}(hq: ∀{σ τ:St},dF σ τ->q σ->q τ)(hB: ∀(i:Nat) (x:Nat×Oper),e_ B i=some x->ops[i]? =some x.2)
 (hBa: ∀(i j:Nat) (x y:Nat×Oper),e_ B i=some x->e_ B j=some y->i≠j->bW P x.2.op=true->bW P y.2.op=true->x.1≠y.1):
 ∀{f:Nat} {L:List Nat} {rs:List (List Nat)} {σ:St},L.Nodup->(rY P Γ ops=true->zq B L σ)->JL ops L->cov P Γ ops (Nk ops.toList []) f L rs=true->(∀r∈rs,∃τ,pI P Γ (dstsOf ops.toList) B r σ=some τ/\q τ)->CH P Γ ops B q f L σ:=by
 intro f;induction f with
 |zero=>
  intro L rs σ hn MA hc h hr;simp only[cov,Bool.and_eq_true]at h;obtain⟨⟨h1,h2⟩,h3⟩:=h;cases rs with
  |nil=>simp at h2
  |cons r rs=>
   obtain⟨τ,MC,hqτ⟩:=hr r (by simp)
   have hre:r=[]:=by
    have:=(List.all_eq_true.1 h3) r (by simp)
    simpa using this
   subst hre;simp only[pI,Option.some.injEq]at MC;subst MC;exact⟨by simpa using h1,hqτ⟩
 |succ f ih=>
  intro L rs σ hn MA hc h hr;cases rs with
  |nil=>simp[cov]at h
  |cons r0 rs=>
   cases r0 with
   |nil=>simp[cov]at h
   |cons i r0=>
    simp only[cov]at h;split at h
    · rename_i hs
      simp only[Bool.and_eq_true,List.all_eq_true]at hs;obtain⟨⟨⟨s1,s2⟩,s3⟩,s4⟩:=hs;obtain⟨τ,MC,_⟩:=hr (i::r0) (by simp)
      simp only[pI]at MC;cases hx:e_ B i with
      |none=>rw[hx]at MC;simp at MC
      |some x=>
       rw[hx]at MC;simp only[Option.bind_some]at MC;cases h1:bS P Γ (dstsOf ops.toList) x.1 x.2 σ with
       |none=>rw[h1]at MC;simp at MC
       |some tO=>
        refine QO hq hB hBa hn MA hc (by simpa using s2) s3 (fun y hy cg=> ?_) hx h1 (ih (hn.erase i) (fun hS=>zq.step hS hB hBa hn hx h1 (MA hS)) (oJ hn hc s3) h fun r' Cf=> ?_)
        · have:=s4 y hy
          simp only[Bool.or_eq_true,beq_iff_eq]at this;rcases this with(h|h)|h
          · exact absurd h cg
          · exact .inl h
          · exact .inr h
        · obtain⟨r,hrm,rfl⟩:=List.mem_map.1 Cf
          obtain⟨qv,Yy,MD⟩:=hr r hrm;have hh:=s1 r hrm;cases r with
          |nil=>simp at hh
          |cons k r=>
           have:k=i:=by simpa using hh
           subst this;simp only[pI,hx,Option.bind_some,h1]at Yy;exact⟨qv,Yy,MD⟩
    · rename_i hs
      rw[List.all_eq_true]at h;intro j hj hrj;have hcj:=h j hj;rw[hrj]at hcj;simp only[Bool.not_true,Bool.false_or]at hcj
      -- some order begins with j
      have cg: ∃r,r∈(List.filterMap (fun r:List Nat=>if r.head? =some j then some r.tail else none) ((i::r0)::rs)):=by
       cases hf:(List.filterMap (fun r:List Nat=>if r.head? =some j then some r.tail else none) ((i::r0)::rs))with
       |nil=>
        rw[hf]at hcj;cases f<;>simp[cov]at hcj
       |cons a aq=>exact⟨a,by simp⟩
      have back: ∀r',r'∈(List.filterMap (fun r:List Nat=>if r.head? =some j then some r.tail else none) ((i::r0)::rs))-> ∃τ,pI P Γ (dstsOf ops.toList) B (j::r') σ=some τ/\q τ:=fun r' Cf=>by
       obtain⟨r,hrm,hh⟩:=List.mem_filterMap.1 Cf;split at hh
       · rename_i hd
         obtain rfl:=Option.some.inj hh;cases r with
         |nil=>simp at hd
         |cons k r=>
          have:k=j:=by simpa using hd
          subst this;exact hr _ hrm
       · cases hh
      obtain⟨r1,hr1⟩:=cg;obtain⟨τ,MC,_⟩:=back r1 hr1;simp only[pI]at MC;cases hx:e_ B j with
      |none=>rw[hx]at MC;simp at MC
      |some x=>
       rw[hx]at MC;simp only[Option.bind_some]at MC;cases h1:bS P Γ (dstsOf ops.toList) x.1 x.2 σ with
       |none=>rw[h1]at MC;simp at MC
       |some tO=>
        refine⟨x,tO,rfl,h1,ih (hn.erase j) (fun hS=>zq.step hS hB hBa hn hx h1 (MA hS)) (oJ hn hc hrj) hcj fun r' Cf=> ?_⟩
        obtain⟨qv,Yy,MD⟩:=back r' Cf;simp only[pI,hx,Option.bind_some,h1]at Yy;exact⟨qv,Yy,MD⟩
theorem r_: ∀(os:List Oper) (n i:Nat) (x:Nat×Oper),e_ (j9 P n os) i=some x->os[i]? =some x.2/\n<=x.1
 | [],_,_,_,h=>by simp[j9,e_]at h
 |o::os,n,0,x,h=>by simp only[j9,e_,Option.some.injEq]at h;subst h;exact⟨rfl,Nat.le_refl _⟩
 |o::os,n,i+1,x,h=>by simp only[j9,e_]at h;obtain⟨h1,h2⟩:=r_ os _ i x h;exact⟨by simpa using h1,Nat.le_trans (Yq P o.op n) h2⟩
theorem tT: ∀(os:List Oper) (n i j:Nat) (x y:Nat×Oper),e_ (j9 P n os) i=some x->e_ (j9 P n os) j=some y->i≠j->bW P x.2.op=true->bW P y.2.op=true->x.1≠y.1
 | [],_,_,_,_,_,h,_,_,_,_=>by simp[j9,e_]at h
 |o::os,n,0,0,x,y,_,_,h,_,_=>absurd rfl h
 |o::os,n,0,j+1,x,y,h,h',_,ha,_=>by
  simp only[j9,e_,Option.some.injEq]at h h';subst h;have:=(r_ os _ j y h').2;have h2:dP P o.op n=n+1:=by unfold dP;rw[if_pos ha]
  show n≠y.1;omega
 |o::os,n,i+1,0,x,y,h,h',_,_,ha=>by
  simp only[j9,e_,Option.some.injEq]at h h';subst h';have:=(r_ os _ i x h).2;have h2:dP P o.op n=n+1:=by unfold dP;rw[if_pos ha]
  show x.1≠n;omega
 |o::os,n,i+1,j+1,x,y,h,h',cg,ha,hb=>by simp only[j9,e_]at h h';exact tT os _ i j x y h h' (by omega) ha hb
theorem CJ: ∀(os:List Oper) (n k i:Nat) (x:Nat×Oper),e_ (j9 P n os) i=some x->(x.1,k+i,x.2)∈FN P n k os
 | [],_,_,_,_,h=>by simp[j9,e_]at h
 |o::os,n,k,0,x,h=>by simp only[j9,e_,Option.some.injEq]at h;subst h;simp[FN]
 |o::os,n,k,i+1,x,h=>by
  simp only[j9,e_]at h;have:=CJ os _ (k+1) i x h;simp only[FN,List.mem_cons]
  right
  rwa [show k+1+i=k+(i+1) by omega]at this
theorem QP(tK:ag P Γ)(sL:w0.fix=Γ.fix){ops:Array Oper}(g_:vj nt ops=true){B:List (Nat×Oper)}(hB: ∀(i:Nat) (x:Nat×Oper),e_ B i=some x->ops[i]? =some x.2)
 (hBa: ∀(i j:Nat) (x y:Nat×Oper),e_ B i=some x->e_ B j=some y->i≠j->bW P x.2.op=true->bW P y.2.op=true->x.1≠y.1)
 (nL: ∀(i:Nat) (o:Oper),ops[i]? =some o-> ∀e∈o.after,Region.binds .any e=true->e.on<i) {q:St->Prop} {Q:Exit->Act->World->Prop} (hQ: ∀τ eT a' w',q τ->aO N0 w0 nt τ eT a' w'->Q .normal a' w'):
 ∀(f fuel:Nat) (cu:Array Bool) {L:List Nat} {σ:St} {φ:List dj} {a:Act} {w:World},L.length=f->f<=fuel->L.Nodup->(∀i,cu.getD i true=false ↔ i∈L)->(∀i∈L,i<ops.size)->
 aO N0 w0 nt σ φ a w->(∀i∈L,∀x,e_ B i=some x->bW P x.2.op=true->φ[x.1]? =some .free)->CH P Γ ops B q f L σ->cu.size=ops.size->wpAny P .any ops Q fuel cu a w:=by
 intro f;induction f with
 |zero=>
  intro fuel cu L σ φ a w hlen hfu hn hl lT hc hf hg hls
  have Il:Region.ready .any ops cu=[]:=by
   rw[List.eq_nil_iff_forall_not_mem]
   intro i hi;have:=(hl i).1 (mem_ready.1 hi).1;rw[hg.1]at this;cases this
  cases fuel with
  |zero=>exact⟨Il,hQ _ _ _ _ hg.2 hc⟩
  |succ fuel=>exact⟨fun _=>hQ _ _ _ _ hg.2 hc,fun i hi=>by rw[Il]at hi;cases hi⟩
 |succ f ih=>
  intro fuel cu L σ φ a w hlen hfu hn hl lT hc hf hg hls;cases fuel with
  |zero=>omega
  |succ fuel=>
   have toReady: ∀i∈L,ke ops L i=true->i∈Region.ready .any ops cu:=fun i hi hr=>by
    obtain⟨o,ho,h1⟩:=kf hr;rw[mem_ready]
    refine⟨(hl i).2 hi,o,ho,fun e he hb=> ?_⟩
    have h2:=h1 e he hb
    have h3:cu.getD e.on true=true:=by
     cases hg:cu.getD e.on true
     · exact absurd ((hl e.on).1 hg) h2
     · rfl
    have h4:=nL i o ho e he hb;have h5:e.on<cu.size:=by rw[hls];have:=lT i hi;omega
    simpa[h5]using h3
   refine⟨fun JJ=> ?_,fun i hi=> ?_⟩
   · exfalso
     -- the least of those that are left is ready
     have cg:L≠ []:=fun e=>by rw[e]at hlen;simp at hlen
     obtain⟨m,hm,Ad⟩: ∃m∈L,∀y∈L,m<=y:=by
      clear hg hf hl hn hlen hfu toReady lT;induction L with
      |nil=>exact absurd rfl cg
      |cons x L ih2=>
       cases L with
       |nil=>exact⟨x,by simp,fun y hy=>by simp at hy;omega⟩
       |cons z L=>
        obtain⟨m,hm,Ad⟩:=ih2 (by simp)
        by_cases hxm:x<=m
        · exact⟨x,by simp,fun y hy=>by
           rcases List.mem_cons.1 hy with rfl|hy
           · exact Nat.le_refl _
           · have:=Ad y hy;omega⟩
        · exact⟨m,by simp[hm],fun y hy=>by
           rcases List.mem_cons.1 hy with rfl|hy
           · omega
           · exact Ad y hy⟩
     have hms:=lT m hm;have:=toReady m hm (CI (Array.getElem?_eq_getElem hms) fun e he hb j_=>by have h1:=nL m _ (Array.getElem?_eq_getElem hms) e he hb;have h2:=Ad _ j_;omega)
     rw[JJ]at this;cases this
   · obtain⟨hun,oi,No,iO⟩:=mem_ready.1 hi
     have hiL:=(hl i).1 hun
     have hri:ke ops L i=true:=CI No fun e he hb j_=>by
      have h1:=iO e he hb;have h2:=(hl e.on).2 j_;have h4:=nL i oi No e he hb;have h5:e.on<cu.size:=by rw[hls];have:=lT i hiL;omega
      simp[h5]at h1 h2;rw[h1]at h2;cases h2
     obtain⟨x,tO,hx,h1,hg1⟩:=hg i hiL hri;have QM:ops[i]? =some x.2:=hB i x hx;refine tR tK sL hc g_ (x:=(x.1,i,x.2)) QM (L:=((L.erase i).filterMap fun j=>(e_ B j).map fun y=>(y.1,j,y.2))) (fun ha=>hf i hiL x hx ha) (fun y hy ha=> ?_) (fun y hy ha hb=> ?_) h1 fun eT a' w' wQ MY=> ?_
     · obtain⟨j,hj,xe⟩:=List.mem_filterMap.1 hy
       obtain⟨y',Bw,rfl⟩:=Option.map_eq_some_iff.1 xe;exact hf j (List.mem_of_mem_erase hj) y' Bw ha
     · obtain⟨j,hj,xe⟩:=List.mem_filterMap.1 hy
       obtain⟨y',Bw,rfl⟩:=Option.map_eq_some_iff.1 xe;have VD:j≠i:=fun e=>by subst e;exact absurd hj (List.Nodup.not_mem_erase hn)
       exact hBa j i y' x Bw hx VD hb ha
     · refine ih fuel (cu.setIfInBounds i true) (L:=L.erase i) (by rw[List.length_erase_of_mem hiL];omega) (by omega) (hn.erase i) ?_ (fun j hj=>lT j (List.mem_of_mem_erase hj)) wQ (fun j hj y hy ha=>MY (y.1,j,y.2) (List.mem_filterMap.2 ⟨j,hj,by rw[hy];rfl⟩) ha) hg1 (by simp[hls])
       intro j;have his:i<cu.size:=by rw[hls];exact lT i hiL
       by_cases xo:i=j
       · subst xo
         constructor
         · intro h;simp[his]at h
         · intro h;exact absurd h (List.Nodup.not_mem_erase hn)
       · rw[getD_set_ne true xo,hl j,List.mem_erase_of_ne (Ne.symm xo)]
theorem Im{ds:List (Option Tmp)}{B:List (Nat×Oper)}{q:St->Prop}: ∀{os:List (List Nat)},pn P Γ ds B σ q os-> ∀r∈os,∃τ,pI P Γ ds B r σ=some τ/\q τ
 | [],_,r,hr=>by cases hr
 |o::os,h,r,hr=>by
  obtain⟨⟨τ,h1,h2⟩,h3⟩:=h;rcases List.mem_cons.1 hr with rfl|hr
  · exact⟨τ,h1,h2⟩
  · exact Im h3 r hr
theorem vk(tK:ag P Γ)(sL:w0.fix=Γ.fix)(hm:P.follows .mixedOrders=true)(h:aO N0 w0 nt σ φ a w){id:Nat}{ops:Array Oper}(g_:vj nt ops=true){os:List (List Nat)}(F6:QK P Γ ops os=true){q:St->Prop}
 (hr:pn P Γ (dstsOf ops.toList) (j9 P σ.H.length ops.toList) (pre P ops.toList σ) q os) {Q:Exit->Act->World->Prop} (hQ: ∀τ eT a' w',q τ->aO N0 w0 nt τ eT a' w'->Q .normal a' w'):(Code.region id ops true).wp P Q a w:=by
 have Yj:eL w {w with drawn:=w.drawn+1}:=eL.drew w;obtain⟨eT,hc,hf,_⟩:=rZ (P:=P) ops.toList 0 (h.Vt Yj)
 refine wp_region_any hm ?_;unfold QK at F6;rw[Bool.and_eq_true]at F6;obtain⟨nL,hcov⟩:=F6;rw[List.all_eq_true]at nL;have hB: ∀(i:Nat) (x:Nat×Oper),e_ (j9 P σ.H.length ops.toList) i=some x->ops[i]? =some x.2:=fun i x hx=>by have:=(r_ _ _ _ _ hx).1;simpa using this
 -- whatever the slots' history, all that is asked is asked of what the state says
 have hg:=VR (q:=fun τ=> ∃qv,dF qv τ/\q qv) (B:=j9 P σ.H.length ops.toList) (fun hs ⟨qv,h1,h2⟩=>⟨qv,h1.trans hs,h2⟩) hB (fun i j x y h1 h2 h3 h4 h5=>tT _ _ i j x y h1 h2 h3 h4 h5) (List.nodup_range) (fun _ i _ x hx ha=>by
  have h1:=CJ ops.toList σ.H.length 0 i x hx;exact Nn hc (hf _ h1 (by have:cH x.2.op=true:=ha;revert this;cases x.2.op<;>simp[cH,bW]))) (fun m o ho hm=>by
  have:=(Array.getElem?_eq_some_iff.1 ho).1;exact absurd (List.mem_range.2 this) hm) hcov (fun r Cf=>by obtain⟨τ,h1,h2⟩:=Im hr r Cf;exact⟨τ,h1,τ,dF.refl τ,h2⟩)
 refine QP tK sL g_ hB (fun i j x y h1 h2 h3 h4 h5=>tT _ _ i j x y h1 h2 h3 h4 h5) (fun i o ho e he hb=>by
  have h1:=nL i (by simpa using(Array.getElem?_eq_some_iff.1 ho).1)
  rw[ho]at h1;simp only[List.all_eq_true]at h1;have h2:=h1 e (by simpa using he)
  simpa[hb]using h2) (fun τ φ'' a'' w'' ⟨qv,h1,h2⟩ wQ=>hQ qv φ'' a'' w'' h2 (wQ.sim h1.symm)) ops.size ops.size _ (by simp) (Nat.le_refl _) List.nodup_range ?_ (fun i hi=>List.mem_range.1 hi) hc (fun i hi x hx ha=> ?_) hg (by simp)
 · intro i
   by_cases hi:i<ops.size<;>simp[hi]
 · have:=CJ ops.toList σ.H.length 0 i x hx
   exact hf _ this ha
end
end Go.bo
