/- What the laws of this claim rest on: the abstract executor, its soundness, and what the functions compute on pure data. No condition. -/
import Derived.Test.YtihgnfmoafjakaaGreatU2
noncomputable section
set_option linter.unusedVariables false
set_option linter.unusedSimpArgs false
namespace Go.bJ
open Go.RowKit
def iW(P:Program)(f:FuncId):Prop:= ∃fn,P.funcs[f]? =some fn/\fn.body.isNone=false/\(fn.name== "runtime.NumGoroutine")=false
def az(P:Program)(f:FuncId)(args:List A)(oI:A->Prop):Prop:=
 ∀(N:Nat->Prop) (w:World) (vs:List Value),(∀b,N b->b<w.heap.size)->aP ⟨N,[],w⟩ args vs->
  Calls P f vs.toArray w fun e w'=> ∃v r,e= .returned v/\oI r/\aF ⟨N,[],w'⟩ r v/\ew w w'
structure nw(N:Nat->Prop)(φ:List cZ)(H:List Obj)(w:World):Prop where
 len:φ.length=H.length
 cN: ∀(n:Nat) (o:Obj) (p:cZ),bX H n=some o->φ[n]? =some p->aH (aA N φ w) o p
 own: ∀n b k:Nat,φ[n]? =some (cZ.loc b k)->b<w.heap.size/\ ¬N b
 inj: ∀n m b k k':Nat,φ[n]? =some (cZ.loc b k)->φ[m]? =some (cZ.loc b k')->n=m
structure KW(φ:List cZ)(w:World)(S:List Nat)(eG:List cZ)(w':World):Prop where
 os:w'.os=w.os
 tape:w'.tape=w.tape
 output:w'.output=w.output
 drawn:w.drawn<=w'.drawn
 size:w.heap.size<=w'.heap.size
 block: ∀b,b<w.heap.size->(∀n k:Nat,φ[n]? ≠some (cZ.loc b k))->w'.heap[b]? =w.heap[b]?
 shape: ∀(b:Nat) (c:Array Value) (e:TypeId) (fr:Nat×Nat),w.heap[b]? =some (.cells c e fr)-> ∃c' N_,w'.heap[b]? =some (.cells c' e N_)/\c'.size=c.size
 own: ∀n b k:Nat,eG[n]? =some (cZ.loc b k)->w.heap.size<=b\/ ∃m k':Nat,φ[m]? =some (cZ.loc b k')
 stay: ∀(n:Nat) (p:cZ),n∉S->φ[n]? =some p->eG[n]? =some p
def dG(P:Program)(f:FuncId)(args:List A)(H:List Obj)(r:A)(H':List Obj)(S:List Nat):Prop:=
 ∀(N:Nat->Prop) (φ:List cZ) (w:World) (vs:List Value),(∀b,N b->b<w.heap.size)->nw N φ H w->(∀n:Nat,φ[n]? ≠some cZ.free)->aP (aA N φ w) args vs->
  Calls P f vs.toArray w fun e w'=> ∃v eG,e= .returned v/\aF (aA N eG w') r v/\nw N eG H' w'/\KW φ w S eG w'/\H.length<=H'.length
structure ag(P:Program)(Γ:aj):Prop where
 f: ∀f args r,Γ.f f args=some r->iW P f/\az P f args (· =r)
 hp: ∀f args H r H' S,Γ.hp f args H=some (r,H',S)->iW P f/\dG P f args H r H' S
theorem kg{P:Program}{f:FuncId}(h:iW P f)(args:Array Value)(w:World):(callFunc f args).run P w= .ok (.enter f args) w:=by
 obtain⟨fn,h1,h2,h3⟩:=h;have mB:fn.body≠none:=fun e=>by rw[e]at h2;simp at h2
 have h3':fn.name≠ "runtime.NumGoroutine" :=by simpa using h3
 simp[callFunc,h1,mB,h3']
mutual
theorem KX{E E':Env}: ∀(x:A) (v:Value),x.flat=true->aF E x v->aF E' x v
 | .any,_,h,_=>by simp[A.flat]at h
 | .int _ _,v,_,hr=>by simpa only[aF]using hr
 | .bool _,v,_,hr=>by simpa only[aF]using hr
 | .str _,v,_,hr=>by simpa only[aF]using hr
 | .bK,v,_,hr=>by simpa only[aF]using hr
 | .ta,v,_,hr=>by simpa only[aF]using hr
 | .emp _,v,_,hr=>by simpa only[aF]using hr
 | .agg cs,v,h,hr=>by simp only[aF]at hr⊢;obtain⟨vs,hv,hl,h1⟩:=hr;exact⟨vs,hv,vq cs vs (by simpa only[A.flat]using h) hl,h1⟩
 | .cx cs,v,h,hr=>by simp only[aF]at hr⊢;obtain⟨vs,hv,hl⟩:=hr;exact⟨vs,hv,vq cs vs (by simpa only[A.flat]using h) hl⟩
 | .ad _,_,h,_=>by simp[A.flat]at h
 | .clip _,_,h,_=>by simp[A.flat]at h
 | .dz _,_,h,_=>by simp[A.flat]at h
 | .ref _ _,_,h,_=>by simp[A.flat]at h
 | .fT _ _ _,_,h,_=>by simp[A.flat]at h
 | .row _ _ _ _ _,_,h,_=>by simp[A.flat]at h
 | .fn _ _,_,h,_=>by simp[A.flat]at h
theorem vq{E E':Env}: ∀(cs:List A) (vs:List Value),A.flat.Kw cs=true->aP E cs vs->aP E' cs vs
 | [],_,_,hr=>by simpa only[aP]using hr
 |c::cs,vs,h,hr=>by simp only[A.flat.Kw,Bool.and_eq_true]at h;simp only[aP]at hr⊢;obtain⟨v,kc,hv,hc,hl⟩:=hr;exact⟨v,kc,hv,KX c v h.1 hc,vq cs kc h.2 hl⟩
end
section
variable{P:Program}{Γ:aj}{N0:Nat->Prop}{w0:jO}{nt:Nat}{σ:St}{φ:List cZ}{a:Act}{w:World}
def V7(P:Program)(o:Oper)(a:Act)(w:World)(N0:Nat->Prop)(w0:jO)(nt:Nat)(φ:List cZ)(n:Nat)(ed:St):Prop:=
 oo P o a w N0 w0 nt φ n ed\/ ∃f args,(Go.execOp a.eval o).run P w= .ok (.enter f args) w/\
  Calls P f args w fun e w'=> ∃v eG,e= .returned v/\aJ N0 w0 nt ed eG (a.put o.dst v) w'/\ ∀m,m≠n->φ[m]? =some .free->eG[m]? =some .free
theorem Ht(h:aJ N0 w0 nt σ φ a w): ∀xs:List Operand,aP (aA N0 φ w) (σ.lJ xs) (xs.map a.eval)
 | []=>by simp[St.lJ,aP]
 |x::xs=>by
  simp only[St.lJ,List.map_cons,aP]
  exact⟨_,_,rfl,h.ev x,Ht h xs⟩
theorem Oo(sa:ag P Γ)(h:aJ N0 w0 nt σ φ a w){d:Option Tmp}{f:Operand}{xs:List Operand}{us:Array TypeId}{t:TypeId}{p:String}{af:Array Edge}{g:Option (Nat×Bool)}(hd: ∀t,d=some t->t<nt){n:Nat}{ed:St}
 (hr:zX Γ σ d (σ.ev f) (σ.lJ xs)=some ed):V7 P ⟨d,.call ⟨.value f,⟨xs⟩,us⟩,t,p,af,g⟩ a w N0 w0 nt φ n ed:=by
 have hf:=h.ev f;cases hc:σ.ev f<;>simp only[hc,zX]at hr<;>try(simp at hr;done)
 rename_i q ji;rw[hc]at hf;simp only[aF]at hf;obtain⟨cvs,hfv,hcr⟩:=hf;have AD:=iG (Ht h xs) hcr;unfold Kz at hr;cases hv:gO σ.H (σ.lJ xs++ji)with
 |none=>simp[hv]at hr
 |some bs=>
  simp only[hv,Option.bind_some]at hr;cases hg:Γ.f q bs with
  |none=>simp[hg]at hr
  |some r=>
   simp only[hg,Option.bind_some]at hr;split at hr
   · rename_i hpf
     obtain rfl:=Option.some.inj hr;obtain⟨pe,hA⟩:=sa.f q bs r hg
     have aw: ∀b,(aA N0 φ w).N b->b<w.heap.size:=by
      rintro b (h0|⟨m,k,hm⟩)
      · exact Nat.lt_of_lt_of_le (h.n0 b h0).1 h.below.size
      · exact(h.own m b k hm).2
     right;refine⟨q,(xs.map a.eval++cvs).toArray, ?_, ?_⟩
     · have:(Go.execOp a.eval ⟨d,.call ⟨.value f,⟨xs⟩,us⟩,t,p,af,g⟩).run P w=(callFunc q (xs.map a.eval++cvs).toArray).run P w:=by
        simp only[Go.execOp,resolve,hfv,Deferred.ofValue,Sem.run_bind,Sem.run_pure,Result.andThen_ok,invoke]
        congr 2
        apply Array.ext';simp
       rw[this]
       exact kg pe _ w
     · by_cases hp:A.pure.aY (σ.lJ xs++ji)=true
       · obtain⟨rE,_⟩:=xb h hv AD (N':=(aA N0 φ w).N) (fun _ hb=>hb) (.inl hp)
         refine Calls.mono (hA (aA N0 φ w).N w _ aw rE) ?_;rintro e w' ⟨v,r',rfl,rfl,cF,hbel⟩
         have g:=hbel;refine⟨v,φ,rfl,(h.S7 g).put hd ?_,fun _ _ h=>h⟩
         refine aF.mono (K:=fun _=>True) (E:=⟨(aA N0 φ w).N,[],w'⟩) ?_ _ _ cF (fun _ _=>trivial)
         exact{
          size:=Nat.le_refl _
          Kv:=fun b _ hn=>⟨hn,rfl⟩
          refs:=fun m o _ hm=>by simp at hm
          own:=fun m b k c e fr _ hm=>by simp at hm}
       · have tu:r.flat=true:=by simpa[hp]using hpf
         obtain⟨rE,_⟩:=xb h hv AD (N':=N0) (fun _ hb=> .inl hb) (.inr (nu h))
         refine Calls.mono (hA N0 w _ (fun b hb=>aw b (.inl hb)) rE) ?_;rintro e w' ⟨v,r',rfl,rfl,cF,hbel⟩
         have g:=hbel;exact⟨v,φ,rfl,(h.S7 g).put hd (KX _ _ tu cF),fun _ _ h=>h⟩
   · simp at hr
end
end Go.bJ
namespace Go.bJ
open Go.RowKit
def jx(N0:Nat->Prop)(φ:List cZ)(ρ:List Nat)(b:Nat):Prop:=N0 b\/ ∃n k:Nat,φ[n]? =some (cZ.loc b k)/\n∉ρ
def fq(φ:List cZ)(ρ:List Nat):List cZ:=ρ.map fun n=>φ.getD n .free
theorem kG{φ:List cZ}{ρ:List Nat}(aw: ∀n∈ρ,n<φ.length){i n:Nat}(h:ρ[i]? =some n):(fq φ ρ)[i]? =φ[n]? :=by
 have hn:=aw n (List.mem_of_getElem? h)
 simp[fq,List.getElem?_map,h,hn]
theorem dU{φ:List cZ}{ρ:List Nat}(aw: ∀n∈ρ,n<φ.length){i:Nat}{p:cZ}(h:(fq φ ρ)[i]? =some p): ∃n,ρ[i]? =some n/\n∈ρ/\φ[n]? =some p:=by
 cases hi:ρ[i]? with
 |none=>simp[fq,List.getElem?_map,hi]at h
 |some n=>exact⟨n,rfl,List.mem_of_getElem? hi,by rw[<-kG aw hi];exact h⟩
theorem zC: ∀{ρ:List Nat} {n i:Nat},idx ρ n=some i->ρ[i]? =some n
 | [],_,_,h=>by simp[idx]at h
 |m::ms,n,i,h=>by
  simp only[idx]at h;split at h
  · rename_i e;subst e;obtain rfl:=Option.some.inj h;rfl
  · cases hm:idx ms n with
    |none=>simp[hm]at h
    |some j=>
     simp[hm]at h;subst h;simpa using zC hm
theorem AE: ∀{ρ:List Nat} {m i n:Nat},ρ[i]? =some n->fW ρ m i=n
 | [],_,_,_,h=>by simp at h
 |k::ks,m,0,n,h=>by simpa[fW]using h
 |k::ks,m,i+1,n,h=>by simp only[fW];exact AE (by simpa using h)
theorem AF: ∀{ρ:List Nat} {m i:Nat},fW ρ m (ρ.length+i)=m+i
 | [],m,i=>by simp[fW]
 |k::ks,m,i=>by
  rw[show(k::ks).length+i=(ks.length+i)+1 by simp;omega]
  simp only[fW];exact AF
section
variable{N0:Nat->Prop}{φ:List cZ}{ρ:List Nat}{w:World}
theorem tv(aw: ∀n∈ρ,n<φ.length)(b:Nat):(aA (jx N0 φ ρ) (fq φ ρ) w).N b ↔ (aA N0 φ w).N b:=by
 constructor
 · rintro((h0|⟨n,k,hn,_⟩)|⟨i,k,hi⟩)
   · exact .inl h0
   · exact .inr ⟨n,k,hn⟩
   · obtain⟨n,_,_,hn⟩:=dU aw hi
     exact .inr ⟨n,k,hn⟩
 · rintro(h0|⟨n,k,hn⟩)
   · exact .inl (.inl h0)
   · by_cases rY:n∈ρ
     · obtain⟨i,hi⟩:=List.getElem?_of_mem rY
       exact .inr ⟨i,k,by rw[kG aw hi];exact hn⟩
     · exact .inl (.inr ⟨n,k,hn,rY⟩)
mutual
theorem Hu(aw: ∀n∈ρ,n<φ.length): ∀(x:A) (v:Value) (x':A),aF (aA N0 φ w) x v->x.iQ ρ=some x'->aF (aA (jx N0 φ ρ) (fq φ ρ) w) x' v
 | .any,v,x',h,hx=>by simp only[A.iQ,Option.some.injEq]at hx;subst hx;simp only[aF]
 | .int _ _,v,x',h,hx=>by simp only[A.iQ,Option.some.injEq]at hx;subst hx;simpa only[aF]using h
 | .bool _,v,x',h,hx=>by simp only[A.iQ,Option.some.injEq]at hx;subst hx;simpa only[aF]using h
 | .str _,v,x',h,hx=>by simp only[A.iQ,Option.some.injEq]at hx;subst hx;simpa only[aF]using h
 | .bK,v,x',h,hx=>by simp only[A.iQ,Option.some.injEq]at hx;subst hx;simpa only[aF]using h
 | .ta,v,x',h,hx=>by simp only[A.iQ,Option.some.injEq]at hx;subst hx;simpa only[aF]using h
 | .emp _,v,x',h,hx=>by simp only[A.iQ,Option.some.injEq]at hx;subst hx;simpa only[aF]using h
 | .ad es,v,x',h,hx=>by simp only[A.iQ,Option.some.injEq]at hx;subst hx;exact aF.pure_mono (E:=aA N0 φ w) (E':=aA (jx N0 φ ρ) (fq φ ρ) w) rfl (fun b hb h'=>hb ((tv aw b).1 h')) (by simp[A.pure]) h
 | .clip es,v,x',h,hx=>by simp only[A.iQ,Option.some.injEq]at hx;subst hx;exact aF.pure_mono (E:=aA N0 φ w) (E':=aA (jx N0 φ ρ) (fq φ ρ) w) rfl (fun b hb h'=>hb ((tv aw b).1 h')) (by simp[A.pure]) h
 | .dz es,v,x',h,hx=>by simp only[A.iQ,Option.some.injEq]at hx;subst hx;exact aF.pure_mono (E:=aA N0 φ w) (E':=aA (jx N0 φ ρ) (fq φ ρ) w) rfl (fun b hb h'=>hb ((tv aw b).1 h')) (by simp[A.pure]) h
 | .agg cs,v,x',h,hx=>by simp only[A.iQ]at hx;obtain⟨KY,h1,rfl⟩:=Option.map_eq_some_iff.1 hx;simp only[aF]at h⊢;obtain⟨vs,hv,hl,ho⟩:=h;exact⟨vs,hv,pf aw cs vs KY hl h1,ho⟩
 | .fn f cs,v,x',h,hx=>by simp only[A.iQ]at hx;obtain⟨KY,h1,rfl⟩:=Option.map_eq_some_iff.1 hx;simp only[aF]at h⊢;obtain⟨vs,hv,hl⟩:=h;exact⟨vs,hv,pf aw cs vs KY hl h1⟩
 | .cx cs,v,x',h,hx=>by simp only[A.iQ]at hx;obtain⟨KY,h1,rfl⟩:=Option.map_eq_some_iff.1 hx;simp only[aF]at h⊢;obtain⟨vs,hv,hl⟩:=h;exact⟨vs,hv,pf aw cs vs KY hl h1⟩
 | .ref n o,v,x',h,hx=>by simp only[A.iQ]at hx;obtain⟨i,h1,rfl⟩:=Option.map_eq_some_iff.1 hx;simp only[aF]at h⊢;obtain⟨b,k,hb,hv⟩:=h;exact⟨b,k,by show(fq φ ρ)[i]? =_;rw[kG aw (zC h1)];exact hb,hv⟩
 | .fT n j o,v,x',h,hx=>by simp only[A.iQ]at hx;obtain⟨i,h1,rfl⟩:=Option.map_eq_some_iff.1 hx;simp only[aF]at h⊢;obtain⟨b,k,hb,hv⟩:=h;exact⟨b,k,by show(fq φ ρ)[i]? =_;rw[kG aw (zC h1)];exact hb,hv⟩
 | .row n o k l c,v,x',h,hx=>by
  simp only[A.iQ]at hx;obtain⟨i,h1,rfl⟩:=Option.map_eq_some_iff.1 hx;simp only[aF]at h⊢;have e:(fq φ ρ)[i]? =φ[n]? :=kG aw (zC h1)
  rcases h with⟨p,hp,r⟩|⟨b,cap,c',e',fr,hp,r⟩
  · exact .inl ⟨p,by show(fq φ ρ)[i]? =_;rw[e];exact hp,r⟩
  · exact .inr ⟨b,cap,c',e',fr,by show(fq φ ρ)[i]? =_;rw[e];exact hp,r⟩
theorem pf(aw: ∀n∈ρ,n<φ.length): ∀(cs:List A) (vs:List Value) (KY:List A),aP (aA N0 φ w) cs vs->A.iQ.oF ρ cs=some KY->aP (aA (jx N0 φ ρ) (fq φ ρ) w) KY vs
 | [],vs,KY,h,hx=>by simp only[A.iQ.oF,Option.some.injEq]at hx;subst hx;simpa only[aP]using h
 |c::cs,vs,KY,h,hx=>by simp only[A.iQ.oF]at hx;obtain⟨c',h1,hx⟩:=Option.bind_eq_some_iff.1 hx;obtain⟨ds,h2,rfl⟩:=Option.map_eq_some_iff.1 hx;simp only[aP]at h⊢;obtain⟨v,kc,hv,hc,hl⟩:=h;exact⟨v,kc,hv,Hu aw c v c' hc h1,pf aw cs kc ds hl h2⟩
end
theorem KZ: ∀{cs ds:List A},A.iQ.oF ρ cs=some ds->cs.length=ds.length/\ ∀(i:Nat) (c d:A),cs[i]? =some c->ds[i]? =some d->c.iQ ρ=some d
 | [],ds,h=>by simp only[A.iQ.oF,Option.some.injEq]at h;subst h;exact⟨rfl,fun i c d h=>by simp at h⟩
 |c::cs,ds,h=>by
  simp only[A.iQ.oF]at h;obtain⟨c',h1,hx⟩:=Option.bind_eq_some_iff.1 h;obtain⟨es,h2,rfl⟩:=Option.map_eq_some_iff.1 hx;obtain⟨g1,g2⟩:=KZ h2;refine⟨by simp[g1],fun i x y hx hy=> ?_⟩
  cases i with
  |zero=>simp at hx hy;subst hx;subst hy;exact h1
  |succ i=>exact g2 i x y (by simpa using hx) (by simpa using hy)
theorem Oq(aw: ∀n∈ρ,n<φ.length){o o':Obj}{p:cZ}(h:aH (aA N0 φ w) o p)(ho:o.iQ ρ=some o'):aH (aA (jx N0 φ ρ) (fq φ ρ) w) o' p:=by
 cases o with
 |box cs=>
  simp only[Obj.iQ]at ho;obtain⟨KY,h1,rfl⟩:=Option.map_eq_some_iff.1 ho;obtain⟨g1,g2⟩:=KZ h1;cases p with
  |loc b k=>
   simp only[aH]at h⊢;refine⟨h.1,bc.2 fun i y hy=> ?_⟩
   have hi:i<cs.length:=by rw[g1];exact(List.getElem?_eq_some_iff.1 hy).1
   obtain⟨v,hv,mb,hr⟩:=bc.1 h.2 i _ (List.getElem?_eq_getElem hi)
   exact⟨v,hv,mb,Hu aw _ v y hr (g2 i _ y (List.getElem?_eq_getElem hi) hy)⟩
  |nil=>simp[aH]at h
  |free=>simp[aH]at h
 |row k es=>
  simp only[Obj.iQ,Option.some.injEq]at ho;subst ho;cases p with
  |loc b k'=>
   simp only[aH]at h⊢;exact⟨h.1,h.2.1,h.2.2.1,eo.pure_mono (E:=aA N0 φ w) (E':=aA (jx N0 φ ρ) (fq φ ρ) w) rfl (fun b hb h'=>hb ((tv aw b).1 h')) h.2.1 h.2.2.2⟩
  |nil=>simpa only[aH]using h
  |free=>simpa only[aH]using h
theorem AG{H:List Obj}: ∀{ns:List Nat} {ch:List Obj},oG ρ H ns=some ch->ns.length=ch.length/\(∀n∈ns,n<H.length)/\ ∀(i n:Nat) (o:Obj),ns[i]? =some n->ch[i]? =some o-> ∃o',H[n]? =some o'/\o'.iQ ρ=some o
 | [],ch,h=>by simp only[oG,Option.some.injEq]at h;subst h;exact⟨rfl,by simp,fun i n o h=>by simp at h⟩
 |m::ns,ch,h=>by
  simp only[oG]at h;obtain⟨o',h1,hx⟩:=Option.bind_eq_some_iff.1 h;obtain⟨H₁,h2,rfl⟩:=Option.map_eq_some_iff.1 hx;obtain⟨g1,g2,g3⟩:=AG h2;rw[bu]at h1;cases hm:H[m]? with
  |none=>simp[hm,VC]at h1
  |some p=>
   rw[hm]at h1;simp only[VC]at h1;refine⟨by simp[g1],fun n hn=> ?_,fun i n o hi ho=> ?_⟩
   · rcases List.mem_cons.1 hn with rfl|hn
     · exact(List.getElem?_eq_some_iff.1 hm).1
     · exact g2 n hn
   · cases i with
     |zero=>simp at hi ho;subst hi;subst ho;exact⟨p,hm,h1⟩
     |succ i=>exact g3 i n o (by simpa using hi) (by simpa using ho)
end
theorem pg(H:List Obj): ∀(fuel:Nat) (todo acc:List Nat),acc.Nodup->(reach H fuel todo acc).Nodup
 |0,_,acc,h=>by simpa only[reach]using h
 |_+1,[],acc,h=>by simpa only[reach]using h
 |fuel+1,n::todo,acc,h=>by
  simp only[reach]
  split
  · exact pg H fuel todo acc h
  · rename_i hn
    refine pg H fuel _ _ ?_;rw[List.nodup_append]
    refine⟨h,by simp,fun x hx y hy=> ?_⟩
    simp at hy;subst hy;intro e;subst e;simp at hn;exact hn hx
theorem vr(H:List Obj)(p:Nat->Prop)(hs: ∀m,p m-> ∀n∈rW (bX H m),p n): ∀(fuel:Nat) (todo acc:List Nat),(∀n∈todo,p n)->(∀n∈acc,p n)-> ∀n∈reach H fuel todo acc,p n
 |0,_,acc,_,h=>by simpa only[reach]using h
 |_+1,[],acc,_,h=>by simpa only[reach]using h
 |fuel+1,n::todo,acc,ht,h=>by
  simp only[reach]
  split
  · exact vr H p hs fuel todo acc (fun m hm=>ht m (by simp[hm])) h
  · refine vr H p hs fuel _ _ (fun m hm=> ?_) (fun m hm=> ?_)
    · rcases List.mem_append.1 hm with hm|hm
      · exact hs n (ht n (by simp)) m hm
      · exact ht m (by simp[hm])
    · rcases List.mem_append.1 hm with hm|hm
      · exact h m hm
      · simp at hm;subst hm;exact ht m (by simp)
mutual
theorem Ot{E:Env}: ∀(x:A) (v:Value),aF E x v-> ∀n∈x.names,E.φ[n]? ≠some cZ.free
 | .any,v,h,n,hn=>by simp[A.names]at hn
 | .int _ _,v,h,n,hn=>by simp[A.names]at hn
 | .bool _,v,h,n,hn=>by simp[A.names]at hn
 | .str _,v,h,n,hn=>by simp[A.names]at hn
 | .bK,v,h,n,hn=>by simp[A.names]at hn
 | .ta,v,h,n,hn=>by simp[A.names]at hn
 | .emp _,v,h,n,hn=>by simp[A.names]at hn
 | .ad _,v,h,n,hn=>by simp[A.names]at hn
 | .clip _,v,h,n,hn=>by simp[A.names]at hn
 | .dz _,v,h,n,hn=>by simp[A.names]at hn
 | .agg cs,v,h,n,hn=>by simp only[aF]at h;obtain⟨vs,_,hl,_⟩:=h;exact iI cs vs hl n (by simpa only[A.names]using hn)
 | .fn _ cs,v,h,n,hn=>by simp only[aF]at h;obtain⟨vs,_,hl⟩:=h;exact iI cs vs hl n (by simpa only[A.names]using hn)
 | .cx cs,v,h,n,hn=>by simp only[aF]at h;obtain⟨vs,_,hl⟩:=h;exact iI cs vs hl n (by simpa only[A.names]using hn)
 | .ref m o,v,h,n,hn=>by simp only[A.names,List.mem_singleton]at hn;subst hn;simp only[aF]at h;obtain⟨b,k,hb,_⟩:=h;rw[hb];simp
 | .fT m j o,v,h,n,hn=>by simp only[A.names,List.mem_singleton]at hn;subst hn;simp only[aF]at h;obtain⟨b,k,hb,_⟩:=h;rw[hb];simp
 | .row m o k l c,v,h,n,hn=>by
  simp only[A.names,List.mem_singleton]at hn;subst hn;simp only[aF]at h;rcases h with⟨p,hp,hf,_⟩|⟨b,cap,c',e',fr,hp,_⟩
  · rw[hp];intro e;exact hf (Option.some.inj e)
  · rw[hp];simp
theorem iI{E:Env}: ∀(cs:List A) (vs:List Value),aP E cs vs-> ∀n∈A.names.fK cs,E.φ[n]? ≠some cZ.free
 | [],vs,h,n,hn=>by simp[A.names.fK]at hn
 |c::cs,vs,h,n,hn=>by
  simp only[aP]at h;obtain⟨v,kc,_,hc,hl⟩:=h;simp only[A.names.fK,List.mem_append]at hn;rcases hn with hn|hn
  · exact Ot c v hc n hn
  · exact iI cs kc hl n hn
end
section
variable{P:Program}{Γ:aj}{N0:Nat->Prop}{w0:jO}{nt:Nat}{σ:St}{φ:List cZ}{a:Act}{w:World}{ρ:List Nat}
theorem Ou(h:aJ N0 w0 nt σ φ a w){aq:List A}{vs:List Value}(hr:aP (aA N0 φ w) aq vs)(fuel:Nat): ∀n∈reach σ.H fuel (A.names.fK aq) [],φ[n]? ≠some cZ.free:=by
 refine vr σ.H (fun n=>φ[n]? ≠some cZ.free) (fun m hm n hn=> ?_) fuel _ _ (fun n hn=>iI (E:=aA N0 φ w) aq vs hr n hn) (by simp)
 cases ho:bX σ.H m with
 |none=>rw[ho]at hn;simp[rW]at hn
 |some o=>
  rw[ho]at hn;cases o with
  |row k es=>simp[rW,Obj.names]at hn
  |box cs=>
   simp only[rW,Obj.names]at hn;have aw:m<φ.length:=by rw[h.len];rw[bu]at ho;exact(List.getElem?_eq_some_iff.1 ho).1
   have eZ:=h.cN m _ _ ho (List.getElem?_eq_getElem aw)
   cases hp:φ[m]with
   |loc b k=>
    rw[hp]at eZ;simp only[aH]at eZ;obtain⟨us,_,hL,_⟩:=qt eZ.2;exact iI (E:=aA N0 φ w) cs us hL n hn
   |nil=>rw[hp]at eZ;simp[aH]at eZ
   |free=>rw[hp]at eZ;simp[aH]at eZ
theorem aJ.loc(h:aJ N0 w0 nt σ φ a w)(oQ:ρ.Nodup){ch:List Obj}(hH:oG ρ σ.H ρ=some ch):(∀n∈ρ,n<φ.length)/\nw (jx N0 φ ρ) (fq φ ρ) ch w:=by
 obtain⟨g1,g2,g3⟩:=AG hH;have aw: ∀n∈ρ,n<φ.length:=fun n hn=>by rw[h.len];exact g2 n hn
 refine⟨aw,{
  len:=by simp[fq,g1]
  cN:=fun i o p ho hp=> ?_
  own:=fun i b k hi=> ?_
  inj:=fun i j b k k' hi hj=> ?_}⟩
 · obtain⟨n,hn,_,eV⟩:=dU aw hp
   rw[bu]at ho;obtain⟨o',vm,hren⟩:=g3 i n o hn ho;exact Oq aw (h.cN n o' p (by rw[bu];exact vm) eV) hren
 · obtain⟨n,hn,hm,eV⟩:=dU aw hi
   refine⟨(h.own n b k eV).2, ?_⟩
   rintro(h0|⟨n',k',jw,rY⟩)
   · rcases(h.own n b k eV).1 with h1|h1
     · have:=(h.n0 b h0).1;omega
     · exact(h.n0 b h0).2 h1
   · exact rY ((h.inj n n' b k k' eV jw)▸hm)
 · obtain⟨n,hn,_,eV⟩:=dU aw hi
   obtain⟨n',jw,_,Hq⟩:=dU aw hj;obtain rfl:=h.inj n n' b k k' eV Hq;have hi1:=(List.getElem?_eq_some_iff.1 hn).1;have hj1:=(List.getElem?_eq_some_iff.1 jw).1;exact(List.getElem_inj oQ).1 (by rw[(List.getElem?_eq_some_iff.1 hn).2,(List.getElem?_eq_some_iff.1 jw).2])
def dV{α:Type}:List Nat->List α->List α->List α
 | [],os,xs=>xs++os
 |n::ns,o::os,xs=>dV ns os (xs.set n o)
 |_::_,[],xs=>xs
theorem ph(ρ':List Nat)(m:Nat): ∀(ns:List Nat) (os H:List Obj),lR ρ' m ns os H=dV ns (os.map (Obj.back ρ' m)) H
 | [],os,H=>rfl
 |n::ns,o::os,H=>by simp only[lR,List.map_cons,dV,dI];exact ph ρ' m ns os _
 |_::_,[],H=>rfl
theorem mC{α:Type}: ∀{ns:List Nat} {os xs:List α},ns.length<=os.length-> ∀{j:Nat},j∉ns->j<xs.length->(dV ns os xs)[j]? =xs[j]?
 | [],os,xs,_,j,_,hj=>by simp only[dV];exact List.getElem?_append_left hj
 |n::ns,[],xs,h,_,_,_=>by simp at h
 |n::ns,o::os,xs,h,j,hn,hj=>by
  simp only[dV]
  rw[mC (by simpa using h) (fun h'=>hn (by simp[h'])) (by simpa using hj),List.getElem?_set_ne (fun e=>hn (by simp[e]))]
theorem jy{α:Type}: ∀{ns:List Nat} {os xs:List α},ns.length<=os.length->ns.Nodup->(∀n∈ns,n<xs.length)-> ∀i,(dV ns os xs)[fW ns xs.length i]? =os[i]?
 | [],os,xs,_,_,_,i=>by
  simp only[dV,fW]
  rw[List.getElem?_append_right (by omega),Nat.add_sub_cancel_left]
 |n::ns,[],xs,h,_,_,_=>by simp at h
 |n::ns,o::os,xs,h,oQ,aw,i=>by
  simp only[dV]
  rw[List.nodup_cons]at oQ;cases i with
  |zero=>
   simp only[fW]
   rw[mC (by simpa using h) oQ.1 (by simpa using aw n (by simp))]
   simp[aw n (by simp)]
  |succ i=>
   simp only[fW]
   have:=jy (ns:=ns) (os:=os) (xs:=xs.set n o) (by simpa using h) oQ.2 (fun m hm=>by simpa using aw m (by simp[hm])) i;simpa using this
theorem kH{α:Type}: ∀{ns:List Nat} {os xs:List α},ns.length<=os.length->(dV ns os xs).length=xs.length+(os.length-ns.length)
 | [],os,xs,_=>by simp[dV]
 |n::ns,[],xs,h=>by simp at h
 |n::ns,o::os,xs,h=>by
  simp only[dV]
  rw[kH (by simpa using h)]
  simp
theorem xo{α:Type}{ns:List Nat}{os xs:List α}(h:ns.length<=os.length)(oQ:ns.Nodup)(aw: ∀n∈ns,n<xs.length){j:Nat}{x:α}(hj:(dV ns os xs)[j]? =some x):
 (∃i,j=fW ns xs.length i/\os[i]? =some x)\/(j∉ns/\j<xs.length/\xs[j]? =some x):=by
 have hl:=(List.getElem?_eq_some_iff.1 hj).1;rw[kH h]at hl;by_cases h1:j<xs.length
 · by_cases h2:j∈ns
   · obtain⟨i,hi⟩:=List.getElem?_of_mem h2
     have:=AE (m:=xs.length) hi;refine .inl ⟨i,this.symm, ?_⟩
     rw[<-jy h oQ aw i,this];exact hj
   · exact .inr ⟨h2,h1,by rw[<-mC h h2 h1];exact hj⟩
 · refine .inl ⟨ns.length+(j-xs.length),by rw[AF];omega, ?_⟩
   rw[<-jy h oQ aw,AF,show xs.length+(j-xs.length)=j by omega];exact hj
mutual
theorem tw{El E:Env}{m:Nat}(hw:El.w=E.w)(hN: ∀b,¬El.N b-> ¬E.N b)(eV: ∀(i:Nat) (p:cZ),El.φ[i]? =some p->E.φ[fW ρ m i]? =some p): ∀(x:A) (v:Value),aF El x v->aF E (x.back ρ m) v
 | .any,v,h=>by simp only[A.back,aF]
 | .int _ _,v,h=>by simpa only[A.back,aF]using h
 | .bool _,v,h=>by simpa only[A.back,aF]using h
 | .str _,v,h=>by simpa only[A.back,aF]using h
 | .bK,v,h=>by simpa only[A.back,aF]using h
 | .ta,v,h=>by simpa only[A.back,aF]using h
 | .emp _,v,h=>by simpa only[A.back,aF]using h
 | .ad es,v,h=>by simp only[A.back];exact aF.pure_mono hw.symm hN (by simp[A.pure]) h
 | .clip es,v,h=>by simp only[A.back];exact aF.pure_mono hw.symm hN (by simp[A.pure]) h
 | .dz es,v,h=>by simp only[A.back];exact aF.pure_mono hw.symm hN (by simp[A.pure]) h
 | .agg cs,v,h=>by simp only[A.back,aF]at h⊢;obtain⟨vs,hv,hl,ho⟩:=h;exact⟨vs,hv,qw hw hN eV cs vs hl,ho⟩
 | .fn f cs,v,h=>by simp only[A.back,aF]at h⊢;obtain⟨vs,hv,hl⟩:=h;exact⟨vs,hv,qw hw hN eV cs vs hl⟩
 | .cx cs,v,h=>by simp only[A.back,aF]at h⊢;obtain⟨vs,hv,hl⟩:=h;exact⟨vs,hv,qw hw hN eV cs vs hl⟩
 | .ref n o,v,h=>by simp only[A.back,aF]at h⊢;obtain⟨b,k,hb,hv⟩:=h;exact⟨b,k,eV n _ hb,hv⟩
 | .fT n j o,v,h=>by simp only[A.back,aF]at h⊢;obtain⟨b,k,hb,hv⟩:=h;exact⟨b,k,eV n _ hb,hv⟩
 | .row n o k l c,v,h=>by
  simp only[A.back,aF]at h⊢;rcases h with⟨p,hp,r⟩|⟨b,cap,c',e',fr,hp,r⟩
  · exact .inl ⟨p,eV n _ hp,r⟩
  · exact .inr ⟨b,cap,c',e',fr,eV n _ hp,by rw[<-hw];exact r⟩
theorem qw{El E:Env}{m:Nat}(hw:El.w=E.w)(hN: ∀b,¬El.N b-> ¬E.N b)(eV: ∀(i:Nat) (p:cZ),El.φ[i]? =some p->E.φ[fW ρ m i]? =some p): ∀(cs:List A) (vs:List Value),aP El cs vs->aP E (A.back.lQ ρ m cs) vs
 | [],vs,h=>by simpa only[A.back.lQ,aP]using h
 |c::cs,vs,h=>by simp only[A.back.lQ,aP]at h⊢;obtain⟨v,kc,hv,hc,hl⟩:=h;exact⟨v,kc,hv,tw hw hN eV c v hc,qw hw hN eV cs kc hl⟩
end
theorem F9{m:Nat}: ∀{cs:List A} {i:Nat},(A.back.lQ ρ m cs)[i]? =(cs[i]?).map (A.back ρ m)
 | [],i=>by simp[A.back.lQ]
 |c::cs,0=>by simp[A.back.lQ]
 |c::cs,i+1=>by simpa[A.back.lQ]using F9 (cs:=cs) (i:=i)
theorem xp{El E:Env}{m:Nat}(hw:El.w=E.w)(hN: ∀b,¬El.N b-> ¬E.N b)(eV: ∀(i:Nat) (p:cZ),El.φ[i]? =some p->E.φ[fW ρ m i]? =some p){o:Obj}{p:cZ}(h:aH El o p):aH E (o.back ρ m) p:=by
 cases o with
 |box cs=>
  cases p with
  |loc b k=>
   simp only[Obj.back,aH]at h⊢;refine⟨by rw[<-hw];exact h.1,bc.2 fun i y hy=> ?_⟩
   rw[F9]at hy;obtain⟨x,hx,rfl⟩:=Option.map_eq_some_iff.1 hy;obtain⟨v,hv,h1,hr⟩:=bc.1 h.2 i x hx;exact⟨v,by rw[<-hw];exact hv,h1,tw hw hN eV x v hr⟩
  |nil=>simp[aH]at h
  |free=>simp[aH]at h
 |row k es=>
  cases p with
  |loc b k'=>
   simp only[Obj.back,aH]at h⊢;exact⟨h.1,h.2.1,by rw[<-hw];exact h.2.2.1,eo.pure_mono hw.symm hN h.2.1 h.2.2.2⟩
  |nil=>simpa only[Obj.back,aH]using h
  |free=>simpa only[Obj.back,aH]using h
theorem Clear.fp{m:Nat}(h:Clear σ m)(n:Nat):Clear (σ.fp n) m:=by
 have one: ∀x:A,x.mem m=false->(dT n x).mem m=false:=fun x hx=>by
  unfold dT;split
  · rfl
  · exact hx
 refine⟨fun d=> ?_,fun j cs hj=> ?_⟩
 · show(look (σ.s.map fun p=>(p.1,dT n p.2)) d).mem m=false
   rw[mz];exact one _ (h.1 d)
 · simp only[St.fp]at hj
   rw[Az]at hj;cases ho:bX σ.H j with
   |none=>simp[ho]at hj
   |some o=>
    simp[ho]at hj;cases o with
    |row k es=>simp[ng]at hj
    |box ds=>
     simp[ng]at hj;subst hj;have hd:=h.2 j ds ho;clear ho;induction ds with
     |nil=>rfl
     |cons y ys ih=>
      simp only[A.mem.fI,Bool.or_eq_false_iff]at hd;simp only[List.map_cons,A.mem.fI,Bool.or_eq_false_iff]
      exact⟨one y hd.1,ih hd.2⟩
theorem aJ.c7{m:Nat}: ∀{S:List Nat} {σ:St},aJ N0 w0 nt σ φ a w->aJ N0 w0 nt (Go.bJ.c7 ρ m σ S) φ a w/\(∀j,Clear σ j->Clear (Go.bJ.c7 ρ m σ S) j)/\(∀i∈S,Clear (Go.bJ.c7 ρ m σ S) (fW ρ m i))/\(Go.bJ.c7 ρ m σ S).H.length=σ.H.length
 | [],σ,h=>⟨h,fun _ h=>h,by simp,rfl⟩
 |i::is,σ,h=>by
  obtain⟨h1,h2,h3,h4⟩:=aJ.c7 (m:=m) (S:=is) (h.fp (fW ρ m i))
  refine⟨h1,fun j hj=>h2 j (hj.fp _),fun j hj=> ?_,h4.trans (by simp[St.fp])⟩
  rcases List.mem_cons.1 hj with rfl|hj
  · exact h2 _ (xm σ _)
  · exact h3 j hj
theorem tz{m:Nat}: ∀{S:List Nat},nk Γ ρ m S=true-> ∀i∈S,Γ.fix (fW ρ m i)=false
 | [],_,i,hi=>by simp at hi
 |j::js,h,i,hi=>by
  simp only[nk,Bool.and_eq_true,Bool.not_eq_true']at h;rcases List.mem_cons.1 hi with rfl|hi
  · exact h.1
  · exact tz h.2 i hi
theorem aJ.turned(h:aJ N0 w0 nt σ φ a w)(s8:w0.fix=Γ.fix)(oQ:ρ.Nodup){ch:List Obj}(hH:oG ρ σ.H ρ=some ch){DC:List cZ}{H':List Obj}{S:List Nat}{w':World}{r:A}{v:Value}
 (gq:nw (jx N0 φ ρ) DC H' w') (hT:KW (fq φ ρ) w S DC w') (hlen:ch.length<=H'.length) (hmv:nk Γ ρ σ.H.length S=true)
 (hr:aF (aA (jx N0 φ ρ) DC w') r v) {d:Option Tmp} (hd: ∀t,d=some t->t<nt):
 ∃eG,aJ N0 w0 nt (zY σ d ρ (r,H',S)) eG (a.put d v) w'/\ ∀m,m∉ρ->m<φ.length->eG[m]? =φ[m]? :=by
 obtain⟨aw,DR⟩:=h.loc oQ hH;obtain⟨g1,g2,g3⟩:=AG hH;obtain⟨hs,_,jg,oP⟩:=aJ.c7 (ρ:=ρ) (m:=σ.H.length) (S:=S) h;have qx:φ.length=σ.H.length:=h.len;have hle:ρ.length<=DC.length:=by rw[gq.len];omega
 have hle':ρ.length<=H'.length:=by omega
 have ny: ∀i,(dV ρ DC φ)[fW ρ σ.H.length i]? =DC[i]? :=fun i=>by rw[<-qx];exact jy hle oQ aw i
 have hold: ∀j,j∉ρ->j<φ.length->(dV ρ DC φ)[j]? =φ[j]? :=fun j h1 h2=>mC hle h1 h2;have lg: ∀(j:Nat) (p:cZ),(dV ρ DC φ)[j]? =some p->(∃i,j=fW ρ σ.H.length i/\DC[i]? =some p)\/(j∉ρ/\j<φ.length/\φ[j]? =some p):=fun j p hj=>by rw[<-qx];exact xo hle oQ aw hj
 have Ov: ∀(i:Nat) (p:cZ),DC[i]? =some p->(dV ρ DC φ)[fW ρ σ.H.length i]? =some p:=fun i p hp=>by rw[ny];exact hp
 have hN: ∀b,¬(aA (jx N0 φ ρ) DC w').N b-> ¬(aA N0 (dV ρ DC φ) w').N b:=fun b hb=>by
  rintro(h0|⟨j,k,hj⟩)
  · exact hb (.inl (.inl h0))
  · rcases lg j _ hj with⟨i,_,hi⟩|⟨h1,h2,h3⟩
    · exact hb (.inr ⟨i,k,hi⟩)
    · exact hb (.inl (.inr ⟨j,k,h3,h1⟩))
 have Kl: ∀(j b k:Nat),j∉ρ->φ[j]? =some (cZ.loc b k)->w'.heap[b]? =w.heap[b]? :=fun j b k hj hb=>by refine hT.block b (h.own j b k hb).2 fun i k' hi=> ?_;obtain⟨n,_,hm,hn⟩:=dU aw hi;exact hj ((h.inj n j b k' k hn hb)▸hm)
 have dA:Ext (fun n=> ∀i∈S,fW ρ σ.H.length i≠n) (aA N0 φ w) (aA N0 (dV ρ DC φ) w'):={
  size:=hT.size
  Kv:=fun b hb hn=>⟨by
   rintro(h0|⟨j,k,hj⟩)
   · exact hn (.inl h0)
   · rcases lg j _ hj with⟨i,_,hi⟩|⟨h1,h2,h3⟩
     · rcases hT.own i b k hi with h'|⟨i',k',eW⟩
       · have:b<w.heap.size:=hb
         omega
       · obtain⟨n,_,_,jw⟩:=dU aw eW
         exact hn (.inr ⟨n,k',jw⟩)
     · exact hn (.inr ⟨j,k,h3⟩),hT.block b hb fun i k hi=>by
   obtain⟨n,_,_,jw⟩:=dU aw hi;exact hn (.inr ⟨n,k,jw⟩)⟩
  refs:=fun n p hk hp hf=>by
   show(dV ρ DC φ)[n]? =some p;have rC:φ[n]? =some p:=hp;by_cases hn:n∈ρ
   · obtain⟨i,hi⟩:=List.getElem?_of_mem hn
     have e:=AE (m:=σ.H.length) hi;have hiS:i∉S:=fun hS=>hk i hS e;rw[<-e]
     exact Ov i p (hT.stay i p hiS (by rw[kG aw hi];exact rC))
   · rw[hold n hn (List.getElem?_eq_some_iff.1 rC).1];exact rC
  own:=fun n b k c e fr _ hn hc=>hT.shape b c e fr hc}
 have hconc:aJ N0 w0 nt ⟨(Go.bJ.c7 ρ σ.H.length σ S).s,lR ρ σ.H.length ρ H' (Go.bJ.c7 ρ σ.H.length σ S).H⟩ (dV ρ DC φ) a w':={
  cI:=fun t=>aF.mono dA _ _ (hs.cI t) fun n hn i hi e=>by have:=(jg i hi).1 t;rw[e]at this;have jw:(look (Go.bJ.c7 ρ σ.H.length σ S).s t).mem n=true:=hn;rw[this]at jw;cases jw
  size:=h.size
  defers:=h.defers
  len:=by rw[ph,kH hle,kH (by simpa using hle'),oP,qx,gq.len];simp
  cN:=fun j o p ho hp=>by
   rw[bu,ph]at ho;have hltS: ∀n∈ρ,n<(Go.bJ.c7 ρ σ.H.length σ S).H.length:=fun n hn=>by rw[oP,<-qx];exact aw n hn
   rcases lg j p hp with⟨i,rfl,hi⟩|⟨h1,h2,h3⟩
   · have:=jy (os:=H'.map (Obj.back ρ σ.H.length)) (by simpa using hle') oQ hltS i
     rw[oP]at this;rw[this,List.getElem?_map]at ho;obtain⟨o',vm,rfl⟩:=Option.map_eq_some_iff.1 ho;exact xp (El:=aA (jx N0 φ ρ) DC w') (E:=aA N0 (dV ρ DC φ) w') rfl hN Ov (gq.cN i o' p (by rw[bu];exact vm) hi)
   · rw[mC (by simpa using hle') h1 (by rw[oP,<-qx];exact h2)]at ho
     refine aH.mono dA (hs.cN j o p (by rw[bu];exact ho) h3) (fun b k hb c e fr hh=> ?_) (fun cs zw n hn i hi e=> ?_)
     · subst hb
       show w'.heap[b]? =_;rw[Kl j b k h1 h3];exact hh
     · subst zw;subst e
       have:=(jg i hi).2 j cs (by rw[bu];exact ho)
       rw[this]at hn;cases hn
  own:=fun j b k hj=>by
   rcases lg j _ hj with⟨i,_,hi⟩|⟨h1,h2,h3⟩
   · refine⟨?_,(gq.own i b k hi).1⟩
     rcases hT.own i b k hi with h'|⟨i',k',eW⟩
     · exact .inl (Nat.le_trans h.below.size h')
     · obtain⟨n,_,_,jw⟩:=dU aw eW
       exact(h.own n b k' jw).1
   · exact⟨(h.own j b k h3).1,Nat.lt_of_lt_of_le (h.own j b k h3).2 hT.size⟩
  inj:=fun j j' b k k' hj u6=>by
   rcases lg j _ hj with⟨i,e,hi⟩|⟨h1,h2,h3⟩<;>rcases lg j' _ u6 with⟨i',e',eW⟩|⟨mb,mB,h3'⟩
   · rw[e,e',gq.inj i i' b k k' hi eW]
   · exact absurd (.inr ⟨j',k',h3',mb⟩) (gq.own i b k hi).2
   · exact absurd (.inr ⟨j,k,h3,h1⟩) (gq.own i' b k' eW).2
   · exact h.inj j j' b k k' h3 h3'
  n0:=h.n0
  kf:=fun n p hf hp bw=>by have rC:=h.kf n p hf hp bw;refine dA.refs n p (fun i hi e=> ?_) rC bw;have:=tz hmv i hi;rw[e,<-s8,hf]at this;cases this
  below:={
   os:=hT.os.trans h.below.os
   tape:=hT.tape.trans h.below.tape
   output:=hT.output.trans h.below.output
   drawn:=Nat.le_trans h.below.drawn hT.drawn
   size:=Nat.le_trans h.below.size hT.size
   block:=fun b hb hM=>by
    rw[hT.block b (Nat.lt_of_lt_of_le hb h.below.size) fun i k hi=>by
     obtain⟨n,_,_,jw⟩:=dU aw hi;rcases(h.own n b k jw).1 with h'|h'
     · omega
     · exact hM h']
    exact h.below.block b hb hM
   shape:=fun b c e fr hc=>by obtain⟨c',N_,k1,k2⟩:=h.below.shape b c e fr hc;obtain⟨c'',fr'',k3,k4⟩:=hT.shape b c' e N_ k1;exact⟨c'',fr'',k3,k4.trans k2⟩}}
 refine⟨dV ρ DC φ,hconc.put hd ?_,fun m h1 h2=>hold m h1 h2⟩
 exact tw (El:=aA (jx N0 φ ρ) DC w') (E:=aA N0 (dV ρ DC φ) w') rfl hN Ov r v hr
theorem K0: ∀(ns:List Nat) (H:List Obj),(mr ρ ns H).length=H.length/\(∀j,j∉ns->(mr ρ ns H)[j]? =H[j]?)/\(∀j,j∈ns->j<H.length->(mr ρ ns H)[j]? =some (.row 0 []))
 | [],H=>⟨rfl,fun _ _=>rfl,fun j h=>by simp at h⟩
 |n::ns,H=>by
  obtain⟨h1,h2,h3⟩:=K0 ns (jY H n (.row 0 []))
  simp only[mr]
  rw[dI]at h1 h2 h3⊢;refine⟨by simpa using h1,fun j hj=> ?_,fun j hj hl=> ?_⟩
  · rw[h2 j (fun h=>hj (by simp[h])),List.getElem?_set_ne (fun e=>hj (by simp[e]))]
  · by_cases hjn:j∈ns
    · exact h3 j hjn (by simpa using hl)
    · rcases List.mem_cons.1 hj with rfl|hj
      · rw[h2 _ hjn];simp[hl]
      · exact absurd hj hjn
def iX:List Nat->List cZ->List cZ
 | [],φ=>φ
 |n::ns,φ=>iX ns (φ.set n .free)
theorem vu: ∀(ns:List Nat) (φ:List cZ),(iX ns φ).length=φ.length/\(∀j,j∉ns->(iX ns φ)[j]? =φ[j]?)/\(∀j,j∈ns->j<φ.length->(iX ns φ)[j]? =some .free)
 | [],φ=>⟨rfl,fun _ _=>rfl,fun j h=>by simp at h⟩
 |n::ns,φ=>by
  obtain⟨h1,h2,h3⟩:=vu ns (φ.set n .free)
  simp only[iX]
  refine⟨by simpa using h1,fun j hj=> ?_,fun j hj hl=> ?_⟩
  · rw[h2 j (fun h=>hj (by simp[h])),List.getElem?_set_ne (fun e=>hj (by simp[e]))]
  · by_cases hjn:j∈ns
    · exact h3 j hjn (by simpa using hl)
    · rcases List.mem_cons.1 hj with rfl|hj
      · rw[h2 _ hjn];simp[hl]
      · exact absurd hj hjn
theorem tC{ch:List Obj}: ∀(s:List (Nat×A)) (d:Nat),look (s.map fun p=>(p.1,lL ρ ch p.2)) d=lL ρ ch (look s d)
 | [],d=>by
  have:A.meets ρ .any=false:=by simp[A.meets,A.mem]
  simp[look,lL,this]
 |(i,v)::s,d=>by
  simp only[List.map_cons,look]
  split
  · rfl
  · exact tC s d
theorem K7(h:aJ N0 w0 nt σ φ a w)(oQ:ρ.Nodup){ch:List Obj}(hH:oG ρ σ.H ρ=some ch){x y:A}{v:Value}(hr:aF (aA (jx N0 φ ρ) (fq φ ρ) w) x v)(hv:view ch x=some y):
 aF ⟨jx N0 φ ρ,[],w⟩ y v/\y.pure=true:=by
 obtain⟨aw,DR⟩:=h.loc oQ hH
 have hc:aJ (jx N0 φ ρ) {toWorld:=w,M:=fun b=> ∃n k:Nat,(fq φ ρ)[n]? =some (cZ.loc b k),fix:=fun _=>false,S5:=[]} a.tmps.size {s:=[],H:=ch} (fq φ ρ) ⟨a.tmps,[]⟩ w:={
  cI:=fun d=>by simp only[look,aF]
  size:=rfl
  defers:=rfl
  len:=DR.len
  cN:=DR.cN
  own:=fun n b k hn=>⟨.inr ⟨n,k,hn⟩,(DR.own n b k hn).1⟩
  inj:=DR.inj
  n0:=fun b hb=>⟨by
   rcases hb with h0|⟨n,k,hn,_⟩
   · exact Nat.lt_of_lt_of_le (h.n0 b h0).1 h.below.size
   · exact(h.own n b k hn).2,by
   rintro⟨n,k,hn⟩
   exact(DR.own n b k hn).2 hb⟩
  kf:=fun n p hf=>by cases hf
  below:=Kept.refl _}
 exact lf hc hv hr (N':=jx N0 φ ρ) ⟨fun b hb=> .inl hb,.inr fun n b k hn=>(DR.own n b k hn).2⟩
theorem aJ.frozen(h:aJ N0 w0 nt σ φ a w)(oQ:ρ.Nodup){ch:List Obj}(hH:oG ρ σ.H ρ=some ch)(s8: ∀n∈ρ,w0.fix n=true->w0.S5.length<=n):
 aJ N0 w0 nt ⟨σ.s.map (fun p=>(p.1,lL ρ ch p.2)),mr ρ ρ (σ.H.map (Hh ρ ch))⟩ (iX ρ φ) a w/\(∀b,jx N0 φ ρ b ↔ (aA N0 (iX ρ φ) w).N b):=by
 obtain⟨aw,DR⟩:=h.loc oQ hH;obtain⟨f1,f2,f3⟩:=vu ρ φ;obtain⟨d1,d2,d3⟩:=K0 (ρ:=ρ) ρ (σ.H.map (Hh ρ ch))
 have AA: ∀m b k:Nat,(iX ρ φ)[m]? =some (cZ.loc b k)->m∉ρ/\φ[m]? =some (.loc b k):=fun m b k hm=>by
  by_cases rY:m∈ρ
  · rw[f3 m rY (aw m rY)]at hm;simp at hm
  · rw[f2 m rY]at hm;exact⟨rY,hm⟩
 have hN: ∀b,jx N0 φ ρ b ↔ (aA N0 (iX ρ φ) w).N b:=fun b=>by
  constructor
  · rintro(h0|⟨n,k,hn,rY⟩)
    · exact .inl h0
    · exact .inr ⟨n,k,by rw[f2 n rY];exact hn⟩
  · rintro(h0|⟨n,k,hn⟩)
    · exact .inl h0
    · obtain⟨h1,h2⟩:=AA n b k hn
      exact .inr ⟨n,k,h2,h1⟩
 have dA:Ext (fun n=>n∉ρ) (aA N0 φ w) (aA N0 (iX ρ φ) w):={
  size:=Nat.le_refl _
  Kv:=fun b _ hn=>⟨by
   rintro(h0|⟨m,k,hm⟩)
   · exact hn (.inl h0)
   · exact hn (.inr ⟨m,k,(AA m b k hm).2⟩),rfl⟩
  refs:=fun m p hk hm _=>by show(iX ρ φ)[m]? =some p;rw[f2 m hk];exact hm
  own:=fun m b k c e fr _ _ hc=>⟨c,fr,hc,rfl⟩}
 have one: ∀(x:A) (v:Value),aF (aA N0 φ w) x v->aF (aA N0 (iX ρ φ) w) (lL ρ ch x) v:=fun x v hx=>by
  unfold lL;split
  · cases hren:x.iQ ρ with
    |none=>simp only[aF]
    |some x'=>
     simp only;have hl:=Hu aw x v x' hx hren;cases hv:view ch x' with
     |none=>simp only[Option.getD_none,aF]
     |some y=>
      simp only[Option.getD_some]
      obtain⟨hy,hp⟩:=K7 h oQ hH hl hv;exact aF.pure_mono (E:=⟨jx N0 φ ρ,[],w⟩) (E':=aA N0 (iX ρ φ) w) rfl (fun b hb h'=>hb ((hN b).2 h')) hp hy
  · rename_i hm
    refine aF.mono dA x v hx fun n hn rY=> ?_;simp only[A.meets,List.any_eq_true,not_exists,not_and]at hm;exact hm n rY hn
 refine⟨{
  cI:=fun d=>by
   show aF _ (look (σ.s.map fun p=>(p.1,lL ρ ch p.2)) d) _;rw[tC]
   exact one _ _ (h.cI d)
  size:=h.size
  defers:=h.defers
  len:=by rw[f1,d1];simp[h.len]
  cN:=fun m o p ho hp=> ?_
  own:=fun m b k hm=>h.own m b k (AA m b k hm).2
  inj:=fun m m' b k k' hm jh=>h.inj m m' b k k' (AA m b k hm).2 (AA m' b k' jh).2
  n0:=h.n0
  kf:=fun n p hf hp bw=>by
   have hn:n∉ρ:=fun rY=>by have h1:=s8 n rY hf;have h2:=(List.getElem?_eq_some_iff.1 hp).1;omega
   rw[f2 n hn];exact h.kf n p hf hp bw
  below:=h.below},hN⟩
 rw[bu]at ho;by_cases rY:m∈ρ
 · rw[d3 m rY (by simpa[<-h.len]using aw m rY)]at ho
   rw[f3 m rY (aw m rY)]at hp;obtain rfl:=Option.some.inj ho;obtain rfl:=Option.some.inj hp;simp[aH]
 · rw[d2 m rY,List.getElem?_map]at ho
   rw[f2 m rY]at hp;obtain⟨o',vm,rfl⟩:=Option.map_eq_some_iff.1 ho;have eZ:=h.cN m o' p (by rw[bu];exact vm) hp;cases o' with
   |row k es=>
    exact aH.mono dA eZ (fun b k _ c e fr hh=>hh) (fun cs zw=>by cases zw)
   |box cs=>
    cases p with
    |loc b k=>
     simp only[Hh,aH]at eZ⊢;refine⟨eZ.1,bc.2 fun i y hy=> ?_⟩
     rw[List.getElem?_map]at hy;obtain⟨x,hx,rfl⟩:=Option.map_eq_some_iff.1 hy;obtain⟨v,hv,h1,hr⟩:=bc.1 eZ.2 i x hx;exact⟨v,hv,h1,one x v hr⟩
    |nil=>simp[aH]at eZ
    |free=>simp[aH]at eZ
theorem Tl(h:aJ N0 w0 nt σ φ a w)(oQ:ρ.Nodup){ch:List Obj}(hH:oG ρ σ.H ρ=some ch){xs ys:List A}{vs:List Value}(hv:gO ch xs=some ys)(hr:aP (aA (jx N0 φ ρ) (fq φ ρ) w) xs vs):
 aP ⟨jx N0 φ ρ,[],w⟩ ys vs:=by
 obtain⟨h1,h2⟩:=vo hv;obtain⟨g1,g2⟩:=ba.1 hr;refine ba.2 ⟨by rw[<-h1,g1],fun i c u hc hu=> ?_⟩
 have hi:i<xs.length:=by rw[h1];exact(List.getElem?_eq_some_iff.1 hc).1
 exact(K7 h oQ hH (g2 i _ u (List.getElem?_eq_getElem hi) hu) (h2 i _ c (List.getElem?_eq_getElem hi) hc)).1
theorem K8(sa:ag P Γ)(h:aJ N0 w0 nt σ φ a w)(s8:w0.fix=Γ.fix){d:Option Tmp}{f:Operand}{xs:List Operand}{us:Array TypeId}{t:TypeId}{p:String}{af:Array Edge}{g:Option (Nat×Bool)}(hd: ∀t,d=some t->t<nt){n:Nat}{ed:St}
 (hr:oU Γ σ d (σ.ev f) (σ.lJ xs)=some ed):V7 P ⟨d,.call ⟨.value f,⟨xs⟩,us⟩,t,p,af,g⟩ a w N0 w0 nt φ n ed:=by
 have hf:=h.ev f;cases hc:σ.ev f<;>simp only[hc,oU]at hr<;>try(simp at hr;done)
 rename_i q ji;rw[hc]at hf;simp only[aF]at hf;obtain⟨cvs,hfv,hcr⟩:=hf;have AD:=iG (Ht h xs) hcr;unfold KA rX at hr;have oQ:=pg σ.H 64 (A.names.fK (σ.lJ xs++ji)) [] (by simp)
 have Q5:=Ou h AD 64;generalize rY:reach σ.H 64 (A.names.fK (σ.lJ xs++ji)) []=ρ at hr oQ Q5;obtain⟨ZK,h1,hr⟩:=Option.bind_eq_some_iff.1 hr;obtain⟨ch,h2,hr⟩:=Option.bind_eq_some_iff.1 hr;obtain⟨aw,DR⟩:=h.loc oQ h2;have hla:=pf aw _ _ ZK AD h1
 have hlocn: ∀b,jx N0 φ ρ b->b<w.heap.size:=by
  rintro b (h0|⟨m,k,hm,_⟩)
  · exact Nat.lt_of_lt_of_le (h.n0 b h0).1 h.below.size
  · exact(h.own m b k hm).2
 have fR: ∀{q:FuncId},iW P q->a.eval f= .func (.func q) #[] cvs.toArray->(Go.execOp a.eval ⟨d,.call ⟨.value f,⟨xs⟩,us⟩,t,p,af,g⟩).run P w= .ok (.enter q (xs.map a.eval++cvs).toArray) w:=by
  intro q hq hfv
  have:(Go.execOp a.eval ⟨d,.call ⟨.value f,⟨xs⟩,us⟩,t,p,af,g⟩).run P w=(callFunc q (xs.map a.eval++cvs).toArray).run P w:=by
   simp only[Go.execOp,resolve,hfv,Deferred.ofValue,Sem.run_bind,Sem.run_pure,Result.andThen_ok,invoke]
   congr 2
   apply Array.ext';simp
  rw[this]
  exact kg hq _ w
 split at hr
 · rename_i hfz
   split at hr
   · rename_i V8
     obtain⟨bs,hb,hr⟩:=Option.bind_eq_some_iff.1 hr;obtain⟨r,hg,rfl⟩:=Option.map_eq_some_iff.1 hr;obtain⟨pe,hA⟩:=sa.f q bs r hg;right;refine⟨q,_,fR pe hfv, ?_⟩
     obtain⟨Kl,hN⟩:=h.frozen oQ h2 (fun m hm hf=>by rw[List.all_eq_true]at V8;have:=V8 m hm;rw[s8]at hf;simp[hf]at this)
     have rE:=Tl h oQ h2 hb hla;refine Calls.mono (hA (jx N0 φ ρ) w _ hlocn rE) ?_;rintro e w' ⟨v,r',rfl,rfl,cF,V0⟩
     refine⟨v,iX ρ φ,rfl,(Kl.S7 V0).put hd ?_,fun m _ hm=> ?_⟩
     · refine aF.mono (K:=fun _=>True) (E:=⟨jx N0 φ ρ,[],w'⟩) ?_ _ _ cF (fun _ _=>trivial)
       exact{
        size:=Nat.le_refl _
        Kv:=fun b _ hn=>⟨fun h'=>hn ((hN b).2 h'),rfl⟩
        refs:=fun m o _ hm=>by simp at hm
        own:=fun m b k c e fr _ hm=>by simp at hm}
     · rw[(vu ρ φ).2.1 m (fun rY=>Q5 m rY hm)];exact hm
   · simp at hr
 · obtain⟨⟨r,H',S⟩,hg,hr⟩:=Option.bind_eq_some_iff.1 hr
   split at hr
   · rename_i hmv
     obtain rfl:=Option.some.inj hr;obtain⟨pe,hA⟩:=sa.hp q ZK ch r H' S hg;right;refine⟨q,_,fR pe hfv, ?_⟩
     refine Calls.mono (hA (jx N0 φ ρ) (fq φ ρ) w _ hlocn DR (fun i hi=> ?_) hla) ?_
     · obtain⟨m,_,hm,eV⟩:=dU aw hi
       exact Q5 m hm eV
     · rintro e w' ⟨v,DC,rfl,cF,gq,hT,hlen⟩
       obtain⟨eG,u4,hk⟩:=h.turned s8 oQ h2 gq hT hlen hmv cF hd;exact⟨v,eG,rfl,u4,fun m _ hm=>by rw[hk m (fun rY=>Q5 m rY hm) (List.getElem?_eq_some_iff.1 hm).1];exact hm⟩
   · simp at hr
end
end Go.bJ
namespace Go.bJ
open Go.RowKit
section
variable{P:Program}{Γ:aj}{N0:Nat->Prop}{w0:jO}{nt:Nat}{σ:St}{φ:List cZ}{a:Act}{w:World}
theorem Hv(sa:ag P Γ)(h:aJ N0 w0 nt σ φ a w){o:Oper}(hd: ∀t,o.dst=some t->t<nt){n:Nat}(s8:w0.fix=Γ.fix)(bw:bN P o.op=true->φ[n]? =some .free){ed:St}
 (hr:execOp P Γ n o.dst o.op σ=some ed):V7 P o a w N0 w0 nt φ n ed:=by
 obtain⟨d,op,t,p,af,g⟩:=o;simp only at hd bw hr;unfold execOp at hr;split at hr
 · exact .inl (KR h hd (bw rfl) hr)
 · exact .inl (KQ h hd (bw rfl) hr)
 · exact .inl (KS h hd hr)
 · exact .inl (On h hd (fun hb=>bw (by simpa[bN]using hb)) hr)
 · exact .inl (Hr h hd (bw rfl) s8 hr)
 · exact .inl (KV h hd hr)
 · split at hr
   · exact K8 sa h s8 hd hr
   · exact Oo sa h hd hr
 · cases he:om P σ op with
   |none=>simp[he]at hr
   |some r=>
    simp[he]at hr;subst hr;exact .inl (rD h hd (o:=⟨d,op,t,p,af,g⟩) (KP h he))
theorem Hw: ∀(os:List Oper) (j:Nat),zZ (dstsOf os) j=(os[j]?).bind (·.dst)
 | [],j=>by simp[dstsOf,zZ]
 |o::os,0=>by simp[dstsOf,zZ]
 |o::os,j+1=>by simp[dstsOf,zZ,Hw os j]
theorem Hx(h:aJ N0 w0 nt σ φ a w){ops:Array Oper}{o:Oper}{b:Bool}(hw:iR (dstsOf ops.toList) σ o.guard=some b):Region.wanted o (yielded ops a.tmps)=b:=by
 unfold iR at hw;unfold Region.wanted;split at hw
 · rename_i hg
   simp only[hg]
   simpa using hw
 · rename_i j want hg
   simp only[hg]
   rw[Hw]at hw;unfold yielded;have nz:ops.toList[j]? =ops[j]? :=by simp
   rw[nz]at hw;cases hj:(ops[j]?).bind (·.dst)with
   |none=>simp[hj]at hw⊢;exact hw
   |some t=>
    rw[hj]at hw;simp only[Option.bind_some]at hw⊢;have hs:=h.cI t;have ny:a.tmps.getD t undef=(a.tmps[t]?).getD undef:=by simp
    rw[ny]at hs;cases ht:look σ.s t<;>rw[ht]at hw hs<;>simp only at hw<;>try(simp at hw;done)
    case bool c=>
     simp only[aF]at hs;cases hq:a.tmps[t]? with
     |none=>simp[hq,undef]at hs
     |some v=>
      simp[hq]at hs;subst hs;simp at hw⊢;exact hw
    all_goals
     have hb:=Option.some.inj hw;subst hb;cases hq:a.tmps[t]? with
     |none=>rfl
     |some v=>
      simp only[hq,Option.getD_some]at hs
      cases v<;>first
       |rfl
       |(exfalso
         simp only[aF]at hs
         first
          |(simp at hs;done)
          |(rcases hs with⟨_,_,_,_,_,_,hs⟩|⟨_,_,_,_,_,_,hs,_⟩<;>simp at hs;done)
          |(obtain⟨_,hs,_⟩:=hs;simp at hs;done)
          |(obtain⟨_,_,hs,_⟩:=hs;simp at hs;done)
          |(obtain⟨_,_,_,hs,_⟩:=hs;simp at hs;done)
          |(obtain⟨_,_,_,hs⟩:=hs;simp at hs;done))
theorem xq(sa:ag P Γ)(h:aJ N0 w0 nt σ φ a w){ops:Array Oper}{i:Nat}{o:Oper}(ho:ops[i]? =some o)(hd: ∀t,o.dst=some t->t<nt){n:Nat}(s8:w0.fix=Γ.fix)(bw:bN P o.op=true->φ[n]? =some .free){ed:St}
 (hr:bH P Γ (dstsOf ops.toList) n o σ=some ed) {Q:Exit->Act->World->Prop} {K:Act->World->Prop}
 (hK: ∀eG a' w',aJ N0 w0 nt ed eG a' w'->(∀m,m≠n->φ[m]? =some .free->eG[m]? =some .free)->K a' w'):wpOp P ops Q i K a w:=by
 unfold bH at hr;unfold wpOp;simp only[ho]
 cases hw:iR (dstsOf ops.toList) σ o.guard with
 |none=>simp[hw]at hr
 |some b=>
  rw[Hx h hw]
  simp only[hw]at hr;cases b with
  |false=>
   simp at hr;subst hr;simp only[Bool.false_eq_true,if_false]
   exact hK φ _ _ (h.put hd (vk _)) (fun _ _ h=>h)
  |true=>
   simp only[if_true]at hr⊢;left;unfold Oper.wp;rcases Hv sa h hd s8 bw hr with⟨v,w',eG,fR,hc,hf⟩|⟨f,args,fR,hcalls⟩
   · rcases fR with fR|⟨fR,rfl⟩
     · rw[fR];exact hK eG _ _ hc hf
     · rw[fR];exact hK eG _ _ hc hf
   · rw[fR]
     simp only[Oper.upon]
     refine Calls.mono hcalls ?_;rintro e w' ⟨v,eG,rfl,hc,hf⟩
     exact hK eG _ _ hc hf
end
end Go.bJ
namespace Go.bJ
open Go.RowKit
def DD(P:Program):Nat->Nat->List Oper->List (Nat×Nat×Oper)
 |_,_,[]=>[]
 |n,i,o::os=>(n,i,o)::DD P (iS P o.op n) (i+1) os
def nA(P:Program)(Γ:aj)(ds:List (Option Tmp)):List (Nat×Nat×Oper)->St->Option St
 | [],σ=>some σ
 |x::xs,σ=>(bH P Γ ds x.1 x.2.2 σ).bind (nA P Γ ds xs)
theorem xr(P:Program)(Γ:aj)(ds:List (Option Tmp)): ∀(os:List Oper) (n i:Nat) (σ:St),iT P Γ ds os n σ=nA P Γ ds (DD P n i os) σ
 | [],_,_,_=>rfl
 |o::os,n,i,σ=>by
  simp only[iT,DD,nA]
  congr 1
  funext τ
  exact xr P Γ ds os _ (i+1) τ
theorem V9(P:Program)(op:Op)(n:Nat):n<=iS P op n:=by unfold iS;split<;>omega
theorem Hy(P:Program): ∀(os:List Oper) (n i:Nat) (x:Nat×Nat×Oper),x∈DD P n i os->n<=x.1/\i<=x.2.1/\os[x.2.1-i]? =some x.2.2
 | [],_,_,x,h=>by simp[DD]at h
 |o::os,n,i,x,h=>by
  simp only[DD,List.mem_cons]at h;rcases h with rfl|h
  · simp
  · obtain⟨h1,h2,h3⟩:=Hy P os _ _ x h
    have:=V9 P o.op n;refine⟨by omega,by omega, ?_⟩
    rw[show x.2.1-i=(x.2.1-(i+1))+1 by omega]
    simpa using h3
theorem K9(P:Program): ∀(os:List Oper) (n i:Nat),(DD P n i os).Pairwise (fun x y=>x.2.1<y.2.1/\(bN P x.2.2.op=true->x.1<y.1))
 | [],_,_=>by simp[DD]
 |o::os,n,i=>by
  simp only[DD,List.pairwise_cons]
  refine⟨fun y hy=> ?_,K9 P os _ _⟩
  obtain⟨h1,h2,_⟩:=Hy P os _ _ y hy;refine⟨by show i<y.2.1;omega,fun ha=> ?_⟩
  have Hz:bN P o.op=true:=ha;simp only[iS,Hz,if_true]at h1;show n<y.1;omega
theorem Q6(P:Program): ∀(os:List Oper) (n i:Nat),(DD P n i os).map (·.2.1)=(List.range os.length).map (i+ ·)
 | [],_,_=>by simp[DD]
 |o::os,n,i=>by
  simp only[DD,List.map_cons,List.length_cons,List.range_succ_eq_map,List.map_map]
  rw[Q6 P os]
  simp;intro a _;omega
def dq(σ τ:St):Prop:=(∀d,look σ.s d=look τ.s d)/\σ.H=τ.H
theorem dq.refl(σ:St):dq σ σ:=⟨fun _=>rfl,rfl⟩
theorem dq.symm{σ τ:St}(h:dq σ τ):dq τ σ:=⟨fun d=>(h.1 d).symm,h.2.symm⟩
theorem dq.trans{σ τ ρ:St}(h:dq σ τ)(h':dq τ ρ):dq σ ρ:=⟨fun d=>(h.1 d).trans (h'.1 d),h.2.trans h'.2⟩
theorem dq.put{σ τ:St}(h:dq σ τ)(d:Option Tmp)(v:A):dq (σ.put d v) (τ.put d v):=by
 cases d with
 |none=>exact h
 |some d=>exact⟨fun t=>by simp only[St.put,look];split<;>first|rfl|exact h.1 t,h.2⟩
theorem dq.cT{σ τ:St}(h:dq σ τ)(n:Nat)(o:Obj):dq (σ.cT n o) (τ.cT n o):=⟨h.1,by simp only[St.cT,h.2]⟩
theorem dq.fp{σ τ:St}(h:dq σ τ)(n:Nat):dq (σ.fp n) (τ.fp n):=
 ⟨fun d=>by show look (σ.s.map fun p=>(p.1,dT n p.2)) d=look (τ.s.map fun p=>(p.1,dT n p.2)) d;rw[mz,mz,h.1 d],by simp only[St.fp,h.2]⟩
theorem dq.ev{σ τ:St}(h:dq σ τ)(x:Operand):σ.ev x=τ.ev x:=by
 cases x<;>simp only[St.ev]
 exact h.1 _
section
variable{P:Program}{Γ:aj}{σ τ:St}
theorem gw: ∀{xs:List Operand},(∀x∈xs,σ.ev x=τ.ev x)->σ.lJ xs=τ.lJ xs
 | [],_=>rfl
 |x::xs,h=>by simp only[St.lJ];rw[h x (by simp),gw (xs:=xs) fun y hy=>h y (by simp[hy])]
theorem pn{o:Option Operand}(h: ∀x,o=some x->σ.ev x=τ.ev x):σ.bd o=τ.bd o:=by
 cases o with
 |none=>rfl
 |some x=>simp only[St.bd];rw[h x rfl]
theorem lS{t:TypeId}: ∀{ps:List (Nat×Operand)} {zs:List A},(∀p∈ps,σ.ev p.2=τ.ev p.2)->jM P t σ ps zs=jM P t τ ps zs
 | [],_,_=>rfl
 |(i,x)::ps,zs,h=>by
  simp only[jM]
  rw[show σ.ev x=τ.ev x from h (i,x) (by simp)]
  split
  · congr 1
    funext F4
    exact lS fun p hp=>h p (by simp[hp])
  · rfl
theorem lT{t:TypeId}: ∀{ps:List (Nat×Operand)} {zs:List A},(∀p∈ps,σ.ev p.2=τ.ev p.2)->jN P t σ ps zs=jN P t τ ps zs
 | [],_,_=>rfl
 |(i,x)::ps,zs,h=>by
  simp only[jN]
  rw[show σ.ev x=τ.ev x from h (i,x) (by simp)]
  split
  · congr 1
    funext F4
    exact lT fun p hp=>h p (by simp[hp])
  · rfl
theorem lU{k:Nat}: ∀{ps:List (Nat×Operand)} {zs:List A},(∀p∈ps,σ.ev p.2=τ.ev p.2)->iE k σ ps zs=iE k τ ps zs
 | [],_,_=>rfl
 |(i,x)::ps,zs,h=>by
  simp only[iE]
  rw[show σ.ev x=τ.ev x from h (i,x) (by simp)]
  split
  · exact lU fun p hp=>h p (by simp[hp])
  · rfl
theorem xt{op:Op}(hH:σ.H=τ.H)(h: ∀x∈op.operands,σ.ev x=τ.ev x):om P σ op=om P τ op:=by
 unfold om;split<;>simp only[Op.operands]at h
 · rw[h _ (by simp)]
 · rw[h _ (by simp)]
 · rw[h _ (by simp),h _ (by simp),h _ (by simp)]
 · rename_i t ps
   have hp: ∀p∈ps.toList,σ.ev p.2=τ.ev p.2:=fun p hp=>h p.2 (by simp only[List.mem_toArray,List.mem_map];exact⟨p,hp,rfl⟩)
   unfold oS;split
   · split
     · rw[lT hp]
     · rw[lS hp]
   · rfl
 · rename_i t len ps
   have hp: ∀p∈ps.toList,σ.ev p.2=τ.ev p.2:=fun p hp=>h p.2 (by simp only[List.mem_toArray,List.mem_map];exact⟨p,hp,rfl⟩)
   unfold e9;split
   · split
     · rw[lU hp]
     · rfl
   · rfl
 · rw[hH,h _ (by simp)]
 · rw[h _ (by simp)]
 · rw[h _ (by simp),h _ (by simp)]
 · rw[h _ (by simp)]
 · rw[hH,h _ (by simp)]
 · rename_i fn first captured
   rw[gw (xs:=first.toList) fun x hx=>h x (by simp at hx;simp[hx]),gw (xs:=captured.toList) fun x hx=>h x (by simp at hx;simp[hx])]
 · rename_i t x lo hi mx
   rw[h x (by simp),pn (o:=lo) fun y hy=>h y (by subst hy;simp),pn (o:=hi) fun y hy=>h y (by subst hy;simp),pn (o:=mx) fun y hy=>h y (by subst hy;simp)]
 · rw[h _ (by simp)]
 · rw[h _ (by simp)]
 · rw[h _ (by simp),h _ (by simp)]
 · rw[h _ (by simp),h _ (by simp)]
 · rw[h _ (by simp)]
 · rw[h _ (by simp[Call.operands])]
 · rw[gw fun x hx=>h x (by simp[Call.operands,hx])]
 · rw[gw fun x hx=>h x (by simp[Call.operands,hx])]
 · rfl
def bY(P:Program)(Γ:aj):Op->Bool
 | .alloc _=>false
 | .box _ _=>false
 | .store _ _ _=>false
 | .convert src dst _=> !te P src dst
 | .call ⟨.builtin .append,_,_⟩=>false
 | .call ⟨.builtin .clear,_,_⟩=>false
 | .call ⟨.value f,_,_⟩=> !zW Γ f
 |_=>true
def Q7(Γ:aj)(H:List Obj)(f:A)(aq:List A):Option A:=
 match f with
 | .fn g ji=>(gO H (aq++ji)).bind fun bs=>(Γ.f g bs).bind fun r=>if(A.pure.aY (aq++ji)||r.flat)=true then some r else none
 |_=>none
def qW(P:Program)(Γ:aj)(σ:St)(op:Op):Option A:=
 match op with
 | .call ⟨.value f,⟨xs⟩,_⟩=>Q7 Γ σ.H (σ.ev f) (σ.lJ xs)
 |op=>om P σ op
theorem V_{d:Option Tmp}{f:A}{aq:List A}:zX Γ σ d f aq=(Q7 Γ σ.H f aq).map (σ.put d):=by
 cases f<;>simp only[zX,Q7,Kz,Option.map_none]
 rename_i g ji;cases gO σ.H (aq++ji)with
 |none=>rfl
 |some bs=>
  simp only[Option.bind_some]
  cases Γ.f g bs with
  |none=>rfl
  |some r=>simp only[Option.bind_some];split<;>rfl
theorem tD{n:Nat}{d:Option Tmp}{op:Op}(h:bY P Γ op=true):execOp P Γ n d op σ=(qW P Γ σ op).map (σ.put d):=by
 unfold execOp;split
 · simp[bY]at h
 · simp[bY]at h
 · simp[bY]at h
 · rename_i src dst x
   simp only[bY,Bool.not_eq_true']at h;simp only[w6,h,Bool.false_eq_true,if_false,qW,om]
 · simp[bY]at h
 · simp[bY]at h
 · rename_i f xs us
   have hf:zW Γ f=false:=by simpa[bY]using h
   rw[if_neg (by simp[hf])]
   exact V_
 · rename_i h1 h2 h3 h4 h5 h5' h6
   unfold qW;split
   · rename_i f xs us
     exact absurd rfl (h6 f xs us)
   · rfl
theorem sb{op:Op}(hH:σ.H=τ.H)(h: ∀x∈op.operands,σ.ev x=τ.ev x):qW P Γ σ op=qW P Γ τ op:=by
 unfold qW;split
 · simp only[Op.operands]at h
   rw[hH,h _ (by simp[Call.operands]),gw fun x hx=>h x (by simp[Call.operands,hx])]
 · exact xt hH h
theorem iJ{ops:Array Oper}{o:Oper}(h: ∀t∈o.looksAt ops,look σ.s t=look τ.s t):iR (dstsOf ops.toList) σ o.guard=iR (dstsOf ops.toList) τ o.guard:=by
 unfold iR;split
 · rfl
 · rename_i j want hg
   rw[Hw]
   have nz:ops.toList[j]? =ops[j]? :=by simp
   rw[nz]
   cases hj:(ops[j]?).bind (·.dst)with
   |none=>rfl
   |some t=>
    simp only;rw[h t (by simp[Oper.looksAt,hg,hj])]
theorem po{ops:Array Oper}{o:Oper}(h: ∀t∈o.looksAt ops,look σ.s t=look τ.s t): ∀x∈o.op.operands,σ.ev x=τ.ev x:=fun x hx=>by
 cases x<;>simp only[St.ev]
 rename_i t;exact h t (List.mem_append_left _ (List.mem_filterMap.2 ⟨.tmp t,by simpa using hx,rfl⟩))
def oJ(P:Program)(Γ:aj)(ds:List (Option Tmp))(o:Oper)(σ:St):Option A:=
 match iR ds σ o.guard with
 |none=>none
 |some true=>qW P Γ σ o.op
 |some false=>some (.cx [])
theorem cA{ds:List (Option Tmp)}{n:Nat}{o:Oper}(h:bY P Γ o.op=true):bH P Γ ds n o σ=(oJ P Γ ds o σ).map (σ.put o.dst):=by
 unfold bH oJ;cases iR ds σ o.guard with
 |none=>rfl
 |some b=>
  cases b with
  |true=>simp only[if_true];exact tD h
  |false=>rfl
theorem sc{ops:Array Oper}{o:Oper}(hH:σ.H=τ.H)(h: ∀t∈o.looksAt ops,look σ.s t=look τ.s t):oJ P Γ (dstsOf ops.toList) o σ=oJ P Γ (dstsOf ops.toList) o τ:=by unfold oJ;rw[iJ h,sb hH (po h)]
theorem rF(d:Option Tmp)(v:A):(σ.put d v).H=σ.H:=by cases d<;>rfl
theorem jQ{d:Option Tmp}{v:A}{t:Tmp}(h: ∀e,d=some e->e≠t):look (σ.put d v).s t=look σ.s t:=by
 cases d with
 |none=>rfl
 |some e=>simp only[St.put,look];rw[if_neg (h e rfl)]
theorem put_comm{x y:Option Tmp}{v u:A}(h: ∀d,x=some d->y≠some d):dq ((σ.put x v).put y u) ((σ.put y u).put x v):=by
 cases x with
 |none=>exact dq.refl _
 |some d=>
  cases y with
  |none=>exact dq.refl _
  |some e=>
   have bU:d≠e:=fun he=>h d rfl (he▸rfl)
   refine⟨fun t=> ?_,rfl⟩
   simp only[St.put,look]
   by_cases h1:e=t
   · subst h1;simp[bU]
   · simp[h1]
theorem swap1{ops:Array Oper}{n m:Nat}{y x:Oper}(hy:bY P Γ y.op=true)(hx:bY P Γ x.op=true)(V':y.apart ops x=true){sd Tm:St}
 (h1:bH P Γ (dstsOf ops.toList) n y σ=some sd) (h2:bH P Γ (dstsOf ops.toList) m x sd=some Tm):
 ∃mc mD,bH P Γ (dstsOf ops.toList) m x σ=some mc/\bH P Γ (dstsOf ops.toList) n y mc=some mD/\dq Tm mD:=by
 obtain⟨a1,a2,a3⟩:=Oper.apart_spec V';rw[cA hy]at h1;rw[cA hx]at h2;cases hv:oJ P Γ (dstsOf ops.toList) y σ with
 |none=>simp[hv]at h1
 |some v=>
  simp[hv]at h1;subst h1;cases hu:oJ P Γ (dstsOf ops.toList) x (σ.put y.dst v)with
  |none=>simp[hu]at h2
  |some u=>
   simp[hu]at h2;subst h2
   have Zs:oJ P Γ (dstsOf ops.toList) x σ=some u:=by
    rw[<-hu]
    exact sc (rF _ _).symm fun t ht=>(jQ fun e he e'=>a1 e he (e'▸ht)).symm
   have vl:oJ P Γ (dstsOf ops.toList) y (σ.put x.dst u)=some v:=by
    rw[<-hv]
    exact sc (rF _ _) fun t ht=>jQ fun e he e'=>a3 e he (e'▸ht)
   refine⟨σ.put x.dst u,(σ.put x.dst u).put y.dst v,by rw[cA hx,Zs];rfl,by rw[cA hy,vl];rfl, ?_⟩
   exact put_comm a2
theorem AH{ρ:List Nat}{m:Nat}: ∀{S:List Nat} {σ τ:St},dq σ τ->dq (c7 ρ m σ S) (c7 ρ m τ S)
 | [],_,_,h=>h
 |i::is,_,_,h=>by simp only[c7];exact AH (h.fp _)
theorem Ow(hs:dq σ τ){d:Option Tmp}{f:A}{aq:List A}{ed:St}(h:oU Γ σ d f aq=some ed): ∃pq,oU Γ τ d f aq=some pq/\dq ed pq:=by
 cases f<;>simp only[oU]at h⊢ <;>try(simp at h;done)
 unfold KA rX at h⊢;rw[<-hs.2]
 generalize reach σ.H 64 _ []=ρ at h⊢;obtain⟨ZK,h1,h⟩:=Option.bind_eq_some_iff.1 h;obtain⟨ch,h2,h⟩:=Option.bind_eq_some_iff.1 h;simp only[h1,h2,Option.bind_some]
 split at h
 · rename_i hfz
   rw[if_pos hfz]
   split at h
   · rename_i s8
     rw[if_pos s8]
     obtain⟨bs,h3,h⟩:=Option.bind_eq_some_iff.1 h;obtain⟨r,h4,rfl⟩:=Option.map_eq_some_iff.1 h;simp only[h3,Option.bind_some,h4,Option.map_some,Option.some.injEq]
     refine⟨_,rfl, ?_⟩
     unfold Hi;refine dq.put ⟨fun t=> ?_,by simp only[hs.2]⟩ d r;show look (σ.s.map fun p=>(p.1,lL ρ ch p.2)) t=look (τ.s.map fun p=>(p.1,lL ρ ch p.2)) t;rw[tC,tC,hs.1 t]
   · simp at h
 · rename_i hfz
   rw[if_neg hfz]
   obtain⟨⟨r,H',S⟩,h3,h⟩:=Option.bind_eq_some_iff.1 h;simp only[h3,Option.bind_some]
   split at h
   · rename_i hm
     rw[if_pos hm]
     obtain rfl:=Option.some.inj h;refine⟨_,rfl, ?_⟩
     unfold zY;have e:=AH (ρ:=ρ) (m:=σ.H.length) (S:=S) hs
     show dq (St.put ⟨(c7 ρ σ.H.length σ S).s,lR ρ σ.H.length ρ H' (c7 ρ σ.H.length σ S).H⟩ d (r.back ρ σ.H.length))
      (St.put ⟨(c7 ρ τ.H.length τ S).s,lR ρ τ.H.length ρ H' (c7 ρ τ.H.length τ S).H⟩ d (r.back ρ τ.H.length))
     rw[show r.back ρ τ.H.length=r.back ρ σ.H.length by rw[hs.2]]
     refine dq.put ⟨fun t=> ?_, ?_⟩ d _
     · show look (c7 ρ σ.H.length σ S).s t=look (c7 ρ τ.H.length τ S).s t
       rw[<-hs.2];exact e.1 t
     · show lR ρ σ.H.length ρ H' (c7 ρ σ.H.length σ S).H=lR ρ τ.H.length ρ H' (c7 ρ τ.H.length τ S).H
       rw[<-hs.2,e.2]
   · simp at h
def cv:Op->Bool
 | .alloc _=>true
 | .box _ _=>true
 |_=>false
def pr(P:Program)(ds:List (Option Tmp))(n:Nat)(o:Oper)(σ:St):Option (Option Obj×A):=
 match iR ds σ o.guard with
 |none=>none
 |some false=>some (none,.cx [])
 |some true=>
  match o.op with
  | .alloc t=>(dt P t).bind fun z=>if z.val=true then some (some (.box z.cells),.ref n 0)else none
  | .box _ x=>if(σ.ev x).val=true then some (some (.box (σ.ev x).cells),.ref n 0)else none
  |_=>none
def oK(σ:St)(n:Nat):Option Obj->St
 |some o=>σ.cT n o
 |none=>σ
theorem fe{ds:List (Option Tmp)}{n:Nat}{o:Oper}(h:cv o.op=true):bH P Γ ds n o σ=(pr P ds n o σ).map fun x=>(oK σ n x.1).put o.dst x.2:=by
 unfold bH pr;cases iR ds σ o.guard with
 |none=>rfl
 |some b=>
  cases b with
  |false=>rfl
  |true=>
   simp only[if_true]
   cases ho:o.op<;>rw[ho]at h<;>simp[cv]at h
   · simp only[execOp]
     cases dt P _ with
     |none=>rfl
     |some z=>simp only[ni,vd,Option.bind_some];split<;>rfl
   · simp only[execOp,vd];split<;>rfl
theorem nB{ops:Array Oper}{n:Nat}{o:Oper}(h: ∀t∈o.looksAt ops,look σ.s t=look τ.s t):pr P (dstsOf ops.toList) n o σ=pr P (dstsOf ops.toList) n o τ:=by
 unfold pr;rw[iJ h]
 cases iR (dstsOf ops.toList) τ o.guard with
 |none=>rfl
 |some b=>
  cases b with
  |false=>rfl
  |true=>
   simp only;cases ho:o.op<;>try rfl
   rename_i t x;have:=po h x (by rw[ho];simp[Op.operands])
   simp only[this]
def se(H H':List Obj)(n:Nat):Prop:=bX H n=some (.row 0 [])/\ ∀m,m≠n->bX H' m=bX H m
theorem se.lay{H:List Obj}{n:Nat}(h:bX H n=some (.row 0 []))(o:Obj):se H (jY H n o) n:=
 ⟨h,fun m hm=>by rw[dI,bu,bu,List.getElem?_set_ne (Ne.symm hm)]⟩
section
variable{H H':List Obj}{n:Nat}
theorem HA(h:se H H' n){m off k len:Nat}{y:A}(hv:fN H m off k len=some y):fN H' m off k len=some y:=by
 by_cases hm:m=n
 · subst hm
   unfold fN at hv;rw[h.1]at hv;simp only at hv;split at hv
   · rename_i hc;omega
   · cases hv
 · unfold fN at hv⊢
   rw[h.2 m hm];exact hv
theorem AI(h:se H H' n){x y:A}(hv:jL H x=some y):jL H' x=some y:=by cases x<;>simp only[jL]at hv⊢ <;>first|exact hv|exact HA h hv
theorem pv(h:se H H' n): ∀{xs ys:List A},ep H xs=some ys->ep H' xs=some ys
 | [],_,hv=>by simpa only[ep]using hv
 |x::xs,ys,hv=>by simp only[ep]at hv⊢;obtain⟨y,h1,hv⟩:=Option.bind_eq_some_iff.1 hv;obtain⟨zs,h2,rfl⟩:=Option.map_eq_some_iff.1 hv;rw[AI h h1,pv h h2];rfl
theorem AJ(h:se H H' n){x y:A}(hv:kO H x=some y):kO H' x=some y:=by
 cases x<;>simp only[kO]at hv⊢ <;>try exact AI h hv
 · obtain⟨zs,h2,rfl⟩:=Option.map_eq_some_iff.1 hv
   rw[pv h h2];rfl
 · rename_i m off
   by_cases hm:m=n
   · subst hm;rw[h.1]at hv;cases hv
   · rw[h.2 m hm]
     split at hv
     · obtain⟨zs,h2,rfl⟩:=Option.map_eq_some_iff.1 hv
       simp only[pv h h2];rfl
     · cases hv
 · rename_i m i off
   by_cases hm:m=n
   · subst hm;rw[h.1]at hv;simp at hv
   · rw[h.2 m hm];exact hv
theorem xw(h:se H H' n): ∀{xs ys:List A},ij H xs=some ys->ij H' xs=some ys
 | [],_,hv=>by simpa only[ij]using hv
 |x::xs,ys,hv=>by simp only[ij]at hv⊢;obtain⟨y,h1,hv⟩:=Option.bind_eq_some_iff.1 hv;obtain⟨zs,h2,rfl⟩:=Option.map_eq_some_iff.1 hv;rw[AJ h h1,xw h h2];rfl
theorem F_(h:se H H' n){x y:A}(hv:view H x=some y):view H' x=some y:=by
 cases x<;>simp only[view]at hv⊢ <;>try exact AJ h hv
 obtain⟨zs,h2,rfl⟩:=Option.map_eq_some_iff.1 hv;rw[xw h h2];rfl
theorem AK(h:se H H' n): ∀{xs ys:List A},gO H xs=some ys->gO H' xs=some ys
 | [],_,hv=>by simpa only[gO]using hv
 |x::xs,ys,hv=>by simp only[gO]at hv⊢;obtain⟨y,h1,hv⟩:=Option.bind_eq_some_iff.1 hv;obtain⟨zs,h2,rfl⟩:=Option.map_eq_some_iff.1 hv;rw[F_ h h1,AK h h2];rfl
theorem Ox(h:se H H' n){t:TypeId}{x y:A}(hv:rp P t H x=some y):rp P t H' x=some y:=by
 unfold rp at hv⊢;split at hv
 · exact hv
 · rename_i m off
   by_cases hm:m=n
   · subst hm;rw[h.1]at hv;simp at hv
   · simp only[h.2 m hm];exact hv
 · rename_i m i off
   by_cases hm:m=n
   · subst hm;rw[h.1]at hv;simp at hv
   · simp only[h.2 m hm];exact hv
 · cases hv
theorem Oy(h:se H H' n){b:Bool}{x y:A}(hv:kP b (view H x)=some y):kP b (view H' x)=some y:=by
 cases hx:view H x with
 |none=>rw[hx]at hv;cases b<;>simp[kP]at hv
 |some z=>rw[hx]at hv;rw[F_ h hx];exact hv
theorem Oz(h:se H H' n){s d:TypeId}{x y:A}(hv:mo P s d H x=some y):mo P s d H' x=some y:=by cases x<;>simp only[mo]at hv⊢ <;>first|exact hv|exact Oy h hv
theorem Tn(h:se H H' n){s:List (Nat×A)}{op:Op}{y:A}(hv:qW P Γ ⟨s,H⟩ op=some y):qW P Γ ⟨s,H'⟩ op=some y:=by
 have yh: ∀x:Operand,(St.mk s H').ev x=(St.mk s H).ev x:=fun x=>by cases x<;>rfl
 have Z3: ∀xs:List Operand,(St.mk s H').lJ xs=(St.mk s H).lJ xs:=fun xs=>gw fun x _=>yh x;have hbd: ∀x:Option Operand,(St.mk s H').bd x=(St.mk s H).bd x:=fun x=>pn fun y _=>yh y;have hfS: ∀(t:TypeId) (ps:List (Nat×Operand)) (zs:List A),jM P t ⟨s,H'⟩ ps zs=jM P t ⟨s,H⟩ ps zs:=fun t ps zs=>lS fun p _=>yh p.2;have hfA: ∀(t:TypeId) (ps:List (Nat×Operand)) (zs:List A),jN P t ⟨s,H'⟩ ps zs=jN P t ⟨s,H⟩ ps zs:=fun t ps zs=>lT fun p _=>yh p.2;have hfE: ∀(k:Nat) (ps:List (Nat×Operand)) (zs:List A),iE k ⟨s,H'⟩ ps zs=iE k ⟨s,H⟩ ps zs:=fun k ps zs=>lU fun p _=>yh p.2;unfold qW at hv⊢;split at hv
 · simp only[yh,Z3]
   unfold Q7 at hv⊢;split at hv
   · rename_i g ji hf
     obtain⟨bs,h1,hv⟩:=Option.bind_eq_some_iff.1 hv;simp only[AK h h1,Option.bind_some]
     exact hv
   · cases hv
 · unfold om at hv⊢
   split at hv<;>(try simp only[yh,Z3,hbd,oS,e9,hfS,hfA,hfE]at hv⊢)<;>first
    |exact hv
    |exact Ox h hv
    |exact Oz h hv
end
theorem To{n:Nat}{H':List Obj}(h:se σ.H H' n){ops:Array Oper}{o:Oper}{y:A}(hv:oJ P Γ (dstsOf ops.toList) o σ=some y):oJ P Γ (dstsOf ops.toList) o ⟨σ.s,H'⟩=some y:=by
 unfold oJ at hv⊢;rw[iJ (σ:=⟨σ.s,H'⟩) (τ:=σ) (ops:=ops) (o:=o) fun t _=>rfl]
 cases hw:iR (dstsOf ops.toList) σ o.guard with
 |none=>rw[hw]at hv;cases hv
 |some b=>
  rw[hw]at hv;cases b with
  |false=>exact hv
  |true=>exact Tn (P:=P) (Γ:=Γ) h (s:=σ.s) hv
theorem Wa(n:Nat)(o:Option Obj):(oK σ n o).s=σ.s:=by cases o<;>rfl
theorem K_(n:Nat)(o:Option Obj)(d:Option Tmp)(v:A):oK (σ.put d v) n o=(oK σ n o).put d v:=by cases o<;>cases d<;>rfl
theorem swapA{ops:Array Oper}{n m:Nat}{y x:Oper}(hy:bY P Γ y.op=true)(hx:cv x.op=true)(V':y.apart ops x=true)(hn:bX σ.H m=some (.row 0 [])){sd Tm:St}
 (h1:bH P Γ (dstsOf ops.toList) n y σ=some sd) (h2:bH P Γ (dstsOf ops.toList) m x sd=some Tm):
 ∃mc mD,bH P Γ (dstsOf ops.toList) m x σ=some mc/\bH P Γ (dstsOf ops.toList) n y mc=some mD/\dq Tm mD:=by
 obtain⟨a1,a2,a3⟩:=Oper.apart_spec V';rw[cA hy]at h1;rw[fe hx]at h2;obtain⟨v,hv,rfl⟩:=Option.map_eq_some_iff.1 h1;obtain⟨⟨o,u⟩,hu,rfl⟩:=Option.map_eq_some_iff.1 h2
 have Zs:pr P (dstsOf ops.toList) m x σ=some (o,u):=by
  rw[<-hu]
  exact nB fun t ht=>(jQ fun e he e'=>a1 e he (e'▸ht)).symm
 have hv1:oJ P Γ (dstsOf ops.toList) y (oK σ m o)=some v:=by
  cases o with
  |none=>exact hv
  |some o=>exact To (P:=P) (Γ:=Γ) (n:=m) (se.lay hn o) hv
 have vl:oJ P Γ (dstsOf ops.toList) y ((oK σ m o).put x.dst u)=some v:=by
  rw[<-hv1]
  exact sc (rF _ _) fun t ht=>jQ fun e he e'=>a3 e he (e'▸ht)
 refine⟨(oK σ m o).put x.dst u,((oK σ m o).put x.dst u).put y.dst v,by rw[fe hx,Zs];rfl,by rw[cA hy,vl];rfl, ?_⟩
 simp only[K_]
 exact put_comm a2
theorem swapAA{ops:Array Oper}{n m:Nat}{y x:Oper}(hy:cv y.op=true)(hx:cv x.op=true)(V':y.apart ops x=true)(bU:n≠m){sd Tm:St}
 (h1:bH P Γ (dstsOf ops.toList) n y σ=some sd) (h2:bH P Γ (dstsOf ops.toList) m x sd=some Tm):
 ∃mc mD,bH P Γ (dstsOf ops.toList) m x σ=some mc/\bH P Γ (dstsOf ops.toList) n y mc=some mD/\dq Tm mD:=by
 obtain⟨a1,a2,a3⟩:=Oper.apart_spec V';rw[fe hy]at h1;rw[fe hx]at h2;obtain⟨⟨p,v⟩,hv,rfl⟩:=Option.map_eq_some_iff.1 h1;obtain⟨⟨o,u⟩,hu,rfl⟩:=Option.map_eq_some_iff.1 h2
 have Zs:pr P (dstsOf ops.toList) m x σ=some (o,u):=by
  rw[<-hu]
  refine nB fun t ht=> ?_;rw[jQ fun e he e'=>a1 e he (e'▸ht),Wa]
 have vl:pr P (dstsOf ops.toList) n y ((oK σ m o).put x.dst u)=some (p,v):=by
  rw[<-hv]
  refine nB fun t ht=> ?_;rw[jQ fun e he e'=>a3 e he (e'▸ht),Wa]
 refine⟨(oK σ m o).put x.dst u,(oK ((oK σ m o).put x.dst u) n p).put y.dst v,by rw[fe hx,Zs];rfl,by rw[fe hy,vl];rfl, ?_⟩
 simp only[K_]
 have hc:oK (oK σ m o) n p=oK (oK σ n p) m o:=by
  cases o<;>cases p<;>try rfl
  simp only[oK,St.cT,dI]
  rw[List.set_comm _ _ (Ne.symm bU)]
 rw[hc]
 exact put_comm a2
theorem tE{ds:List (Option Tmp)}{n m:Nat}{o:Oper}(h:cv o.op=true)(bU:n≠m){ed:St}(hr:bH P Γ ds n o σ=some ed):bX ed.H m=bX σ.H m:=by
 rw[fe h]at hr;obtain⟨⟨p,v⟩,_,rfl⟩:=Option.map_eq_some_iff.1 hr;rw[rF]
 cases p with
 |none=>rfl
 |some p=>simp only[oK,St.cT,dI,bu];rw[List.getElem?_set_ne bU]
def pw:Op->Bool
 | .alloc _=>false
 | .box _ _=>false
 | .store _ _ _=>false
 | .convert _ _ _=>false
 | .load _ _=>false
 | .call ⟨.builtin .append,_,_⟩=>false
 | .call ⟨.builtin .clear,_,_⟩=>false
 | .call ⟨.value _,_,_⟩=>false
 |_=>true
theorem px{op:Op}(h:pw op=true):bY P Γ op=true:=by unfold pw at h;unfold bY;split at h<;>simp_all
theorem OA{op:Op}(hl:pw op=true)(h: ∀x∈op.operands,σ.ev x=τ.ev x):qW P Γ σ op=qW P Γ τ op:=by
 have h1:qW P Γ ⟨σ.s,τ.H⟩ op=qW P Γ τ op:=sb rfl fun x hx=>by rw[<-h x hx];cases x<;>rfl
 rw[<-h1]
 unfold qW;split
 · simp[pw]at hl
 · unfold om
   have yh: ∀x:Operand,(St.mk σ.s τ.H).ev x=σ.ev x:=fun x=>by cases x<;>rfl
   have Z3: ∀xs:List Operand,(St.mk σ.s τ.H).lJ xs=σ.lJ xs:=fun xs=>gw fun x _=>yh x;have hbd: ∀x:Option Operand,(St.mk σ.s τ.H).bd x=σ.bd x:=fun x=>pn fun y _=>yh y;have hfS: ∀(t:TypeId) (ps:List (Nat×Operand)) (zs:List A),jM P t ⟨σ.s,τ.H⟩ ps zs=jM P t σ ps zs:=fun t ps zs=>lS fun p _=>yh p.2;have hfA: ∀(t:TypeId) (ps:List (Nat×Operand)) (zs:List A),jN P t ⟨σ.s,τ.H⟩ ps zs=jN P t σ ps zs:=fun t ps zs=>lT fun p _=>yh p.2;have hfE: ∀(k:Nat) (ps:List (Nat×Operand)) (zs:List A),iE k ⟨σ.s,τ.H⟩ ps zs=iE k σ ps zs:=fun k ps zs=>lU fun p _=>yh p.2
   split<;>first
    |rfl
    |(simp[pw]at hl;done)
    |simp only[yh,Z3,hbd,oS,e9,hfS,hfA,hfE]
theorem OB{ops:Array Oper}{o:Oper}(hl:pw o.op=true)(h: ∀t∈o.looksAt ops,look σ.s t=look τ.s t):oJ P Γ (dstsOf ops.toList) o σ=oJ P Γ (dstsOf ops.toList) o τ:=by unfold oJ;rw[iJ h,OA hl (po h)]
def lV:Op->Bool
 | .store _ _ _=>true
 |_=>false
def AL(H:List Obj)(size:Option Nat)(a v:A):Option (Nat×Obj):=
 match a with
 | .ref n off=>
  match bX H n with
  |some (.box cs)=>if size=some v.cells.length/\off+v.cells.length<=cs.length/\v.val=true then some (n,.box (dY cs off v.cells))else none
  |_=>none
 | .fT n i off=>
  match bX H n with
  |some (.row k es)=>(es[i]?).bind fun e=>if size=some v.cells.length/\off+v.cells.length<=e.cells.length/\v.cells.length≠0/\v.val=true/\v.pure=true then some (n,.row k (cn es i (kT e off v)))else none
  |_=>none
 |_=>none
theorem Tp{d:Option Tmp}{size:Option Nat}{a v:A}:nj σ d size a v=(AL σ.H size a v).map fun x=>(σ.cT x.1 x.2).put d (.cx []):=by
 cases a<;>simp only[nj,AL,Option.map_none]
 · rename_i n off
   cases bX σ.H n with
   |none=>rfl
   |some o=>cases o<;>simp only[Option.map_none]<;>split<;>rfl
 · rename_i n i off
   cases bX σ.H n with
   |none=>rfl
   |some o=>
    cases o<;>simp only[Option.map_none]
    rename_i k es;cases es[i]? with
    |none=>rfl
    |some e=>simp only[Option.bind_some];split<;>rfl
def sf(P:Program)(ds:List (Option Tmp))(o:Oper)(σ:St):Option (Option (Nat×Obj)):=
 match iR ds σ o.guard with
 |none=>none
 |some false=>some none
 |some true=>
  match o.op with
  | .store t a x=>(AL σ.H (aX P t) (σ.ev a) (σ.ev x)).map some
  |_=>none
def AM(σ:St):Option (Nat×Obj)->St
 |some x=>σ.cT x.1 x.2
 |none=>σ
theorem nC{ds:List (Option Tmp)}{n:Nat}{o:Oper}(h:lV o.op=true):bH P Γ ds n o σ=(sf P ds o σ).map fun x=>(AM σ x).put o.dst (.cx []):=by
 unfold bH sf;cases iR ds σ o.guard with
 |none=>rfl
 |some b=>
  cases b with
  |false=>rfl
  |true=>
   simp only[if_true]
   cases ho:o.op<;>rw[ho]at h<;>simp[lV]at h
   simp only[execOp,Tp]
   cases AL σ.H _ _ _<;>rfl
theorem HB{ops:Array Oper}{o:Oper}(hH:σ.H=τ.H)(h: ∀t∈o.looksAt ops,look σ.s t=look τ.s t):sf P (dstsOf ops.toList) o σ=sf P (dstsOf ops.toList) o τ:=by
 unfold sf;rw[iJ h]
 cases iR (dstsOf ops.toList) τ o.guard with
 |none=>rfl
 |some b=>
  cases b with
  |false=>rfl
  |true=>
   simp only;cases ho:o.op<;>try rfl
   rename_i t x y;have h1:=po h x (by rw[ho];simp[Op.operands])
   have h2:=po h y (by rw[ho];simp[Op.operands])
   simp only[h1,h2,hH]
theorem Z4(o:Option (Nat×Obj)):(AM σ o).s=σ.s:=by cases o<;>rfl
theorem Tq(o:Option (Nat×Obj))(d:Option Tmp)(v:A):AM (σ.put d v) o=(AM σ o).put d v:=by cases o<;>cases d<;>rfl
theorem swapS{ops:Array Oper}{n m:Nat}{y x:Oper}(hy:pw y.op=true)(hx:lV x.op=true)(V':y.apart ops x=true){sd Tm:St}
 (h1:bH P Γ (dstsOf ops.toList) n y σ=some sd) (h2:bH P Γ (dstsOf ops.toList) m x sd=some Tm):
 ∃mc mD,bH P Γ (dstsOf ops.toList) m x σ=some mc/\bH P Γ (dstsOf ops.toList) n y mc=some mD/\dq Tm mD:=by
 obtain⟨a1,a2,a3⟩:=Oper.apart_spec V';rw[cA (px hy)]at h1;rw[nC hx]at h2;obtain⟨v,hv,rfl⟩:=Option.map_eq_some_iff.1 h1;obtain⟨o,hu,rfl⟩:=Option.map_eq_some_iff.1 h2
 have Zs:sf P (dstsOf ops.toList) x σ=some o:=by
  rw[<-hu]
  exact HB (rF _ _).symm fun t ht=>(jQ fun e he e'=>a1 e he (e'▸ht)).symm
 have vl:oJ P Γ (dstsOf ops.toList) y ((AM σ o).put x.dst (.cx []))=some v:=by
  rw[<-hv]
  refine OB hy fun t ht=> ?_;rw[jQ fun e he e'=>a3 e he (e'▸ht),Z4]
 refine⟨(AM σ o).put x.dst (.cx []),((AM σ o).put x.dst (.cx [])).put y.dst v,by rw[nC hx,Zs];rfl,by rw[cA (px hy),vl];rfl, ?_⟩
 simp only[Tq]
 exact put_comm a2
theorem OC{n:Nat}{d:Option Tmp}{op:Op}(hs:dq σ τ){ed:St}(h:execOp P Γ n d op σ=some ed): ∃pq,execOp P Γ n d op τ=some pq/\dq ed pq:=by
 by_cases hp:bY P Γ op=true
 · rw[tD hp]at h⊢
   rw[<-sb hs.2 (fun x _=>hs.ev x)]
   cases hv:qW P Γ σ op with
   |none=>simp[hv]at h
   |some v=>
    simp[hv]at h;subst h;exact⟨_,rfl,hs.put d v⟩
 · have hbox: ∀x:A,vd σ n d x=some ed-> ∃pq,vd τ n d x=some pq/\dq ed pq:=fun x h=>by
    unfold vd at h⊢;split at h
    · rename_i hv
      obtain rfl:=Option.some.inj h;rw[if_pos hv]
      exact⟨_,rfl,(hs.cT n _).put d _⟩
    · simp at h
   unfold execOp at h⊢;split at h
   · cases hz:dt P _ with
     |none=>rw[hz]at h;simp[ni]at h
     |some z=>rw[hz]at h;simp only[ni]at h⊢;exact hbox z h
   · simp only[<-hs.ev];exact hbox _ h
   · simp only[<-hs.ev]
     unfold nj at h⊢;split at h
     · simp only[<-hs.2]
       split at h
       · split at h
         · rename_i hc
           obtain rfl:=Option.some.inj h;rw[if_pos hc]
           exact⟨_,rfl,(hs.cT _ _).put d _⟩
         · simp at h
       · simp at h
     · simp only[<-hs.2]
       split at h
       · rename_i k es ho
         obtain⟨e,he,h⟩:=Option.bind_eq_some_iff.1 h;simp only[he,Option.bind_some]
         split at h
         · rename_i hc
           obtain rfl:=Option.some.inj h;rw[if_pos hc]
           exact⟨_,rfl,(hs.cT _ _).put d _⟩
         · simp at h
       · simp at h
     · simp at h
   · simp only[<-hs.ev]
     unfold w6 at h⊢;split at h
     · rename_i hb
       rw[if_pos hb]
       split at h
       · obtain rfl:=Option.some.inj h
         exact⟨_,rfl,(hs.cT _ _).put d _⟩
       · simp at h
     · rename_i hb
       rw[if_neg hb,<-hs.2]
       cases hv:mo P _ _ σ.H (σ.ev _)with
       |none=>simp[hv]at h
       |some v=>
        simp[hv]at h;subst h;exact⟨_,rfl,hs.put d v⟩
   · simp only[<-hs.ev]
     unfold qo at h⊢;split at h
     · split at h
       · split at h
         · simp at h
         · rename_i hc
           rw[if_neg hc]
           have yg: ∀e tx k x,xZ P σ e tx k x=xZ P τ e tx k x:=fun e tx k x=>by unfold xZ;rw[hs.2]
           rw[<-yg]
           cases hv:xZ P σ _ _ _ (σ.ev _)with
           |none=>simp[hv]at h
           |some src=>
            simp only[hv,Option.bind_some]at h⊢;unfold nh at h⊢;split at h
            · split at h
              · rename_i hq
                obtain rfl:=Option.some.inj h;rw[if_pos hq]
                exact⟨_,rfl,(hs.cT _ _).put d _⟩
              · simp at h
            · split at h
              · rename_i hq
                obtain rfl:=Option.some.inj h;rw[if_pos hq]
                exact⟨_,rfl,(hs.cT _ _).put d _⟩
              · simp at h
            · simp only[<-hs.2]
              split at h
              · split at h
                · rename_i hq
                  rw[if_pos hq]
                  split at h
                  · rename_i jg
                    rw[if_pos jg]
                    split at h
                    · simp at h
                    · rename_i bU
                      obtain rfl:=Option.some.inj h;rw[if_neg bU]
                      exact⟨_,rfl,(hs.cT _ _).put d _⟩
                  · rename_i jg
                    rw[if_neg jg]
                    split at h
                    · simp at h
                    · rename_i Kj
                      obtain rfl:=Option.some.inj h;rw[if_neg Kj]
                      exact⟨_,rfl,((hs.fp _).cT _ _).put d _⟩
                · simp at h
              · simp at h
            · simp at h
       · simp at h
     · simp at h
   · simp only[<-hs.ev]
     unfold ve at h⊢;simp only[<-hs.2]
     split at h
     · split at h
       · split at h
         · split at h
           · split at h
             · rename_i hc
               obtain rfl:=Option.some.inj h;rw[if_pos hc]
               exact⟨_,rfl,(hs.cT _ _).put d _⟩
             · simp at h
           · simp at h
         · simp at h
       · simp at h
     · simp at h
   · rename_i f xs us
     have hf:zW Γ f=true:=by simpa[bY]using hp
     rw[if_pos hf]at h⊢;simp only[<-hs.ev,<-gw (σ:=σ) (τ:=τ) (fun x _=>hs.ev x)]
     exact Ow hs h
   · rw[<-xt hs.2 (fun x _=>hs.ev x)]
     cases hv:om P σ op with
     |none=>simp[hv]at h
     |some v=>
      simp[hv]at h;subst h;exact⟨_,rfl,hs.put d v⟩
theorem F'{ops:Array Oper}{n:Nat}{o:Oper}(hs:dq σ τ){ed:St}(h:bH P Γ (dstsOf ops.toList) n o σ=some ed): ∃pq,bH P Γ (dstsOf ops.toList) n o τ=some pq/\dq ed pq:=by
 unfold bH at h⊢;rw[<-iJ (σ:=σ) (τ:=τ) (ops:=ops) (o:=o) fun t _=>hs.1 t]
 cases hw:iR (dstsOf ops.toList) σ o.guard with
 |none=>simp[hw]at h
 |some b=>
  simp only[hw]at h⊢;cases b with
  |true=>simp only[if_true]at h⊢;exact OC hs h
  |false=>
   simp at h⊢;subst h;exact hs.put _ _
theorem K'{ops:Array Oper}: ∀{L:List (Nat×Nat×Oper)} {σ τ ed:St},dq σ τ->nA P Γ (dstsOf ops.toList) L σ=some ed-> ∃pq,nA P Γ (dstsOf ops.toList) L τ=some pq/\dq ed pq
 | [],σ,τ,ed,hs,h=>by simp only[nA,Option.some.injEq]at h;subst h;exact⟨τ,rfl,hs⟩
 |x::L,σ,τ,ed,hs,h=>by
  simp only[nA]at h;cases h1:bH P Γ (dstsOf ops.toList) x.1 x.2.2 σ with
  |none=>simp[h1]at h
  |some sd=>
   simp only[h1,Option.bind_some]at h;obtain⟨τ1,h2,hs1⟩:=F' hs h1;obtain⟨pq,h3,Vy⟩:=K' hs1 h;exact⟨pq,by simp only[nA,h2,Option.bind_some];exact h3,Vy⟩
theorem Ga{ops:Array Oper}{x:Nat×Nat×Oper}{L2:List (Nat×Nat×Oper)}: ∀{L1:List (Nat×Nat×Oper)} {σ τ:St},
 (∀y∈L1,(bY P Γ y.2.2.op=true/\bY P Γ x.2.2.op=true\/bY P Γ y.2.2.op=true/\cv x.2.2.op=true\/cv y.2.2.op=true/\cv x.2.2.op=true/\y.1≠x.1\/pw y.2.2.op=true/\lV x.2.2.op=true)/\y.2.2.apart ops x.2.2=true)->
 (cv x.2.2.op=true->bX σ.H x.1=some (.row 0 []))->
 nA P Γ (dstsOf ops.toList) (L1++x::L2) σ=some τ-> ∃sd pq,bH P Γ (dstsOf ops.toList) x.1 x.2.2 σ=some sd/\nA P Γ (dstsOf ops.toList) (L1++L2) sd=some pq/\dq τ pq
 | [],σ,τ,_,_,h=>by
  simp only[List.nil_append,nA]at h⊢;cases h1:bH P Γ (dstsOf ops.toList) x.1 x.2.2 σ with
  |none=>simp[h1]at h
  |some sd=>
   simp only[h1,Option.bind_some]at h;exact⟨sd,τ,rfl,h,dq.refl τ⟩
 |y::L1,σ,τ,hi,Wb,h=>by
  simp only[List.cons_append,nA]at h;cases h1:bH P Γ (dstsOf ops.toList) y.1 y.2.2 σ with
  |none=>simp[h1]at h
  |some σa=>
   simp only[h1,Option.bind_some]at h;obtain⟨i1,i3⟩:=hi y (by simp)
   obtain⟨σb,pq,h2,h3,hs⟩:=Ga (L1:=L1) (fun z hz=>hi z (by simp[hz])) (fun ha=>by
    rcases i1 with⟨j1,j2⟩|⟨j1,_⟩|⟨j1,_,j3⟩|⟨j1,_⟩
    · rw[cA j1]at h1
      obtain⟨v,_,rfl⟩:=Option.map_eq_some_iff.1 h1;rw[rF];exact Wb ha
    · rw[cA j1]at h1
      obtain⟨v,_,rfl⟩:=Option.map_eq_some_iff.1 h1;rw[rF];exact Wb ha
    · rw[tE j1 j3 h1];exact Wb ha
    · rw[cA (px j1)]at h1
      obtain⟨v,_,rfl⟩:=Option.map_eq_some_iff.1 h1;rw[rF];exact Wb ha) h
   have hsw: ∃mc mD,bH P Γ (dstsOf ops.toList) x.1 x.2.2 σ=some mc/\bH P Γ (dstsOf ops.toList) y.1 y.2.2 mc=some mD/\dq σb mD:=by
    rcases i1 with⟨j1,j2⟩|⟨j1,j2⟩|⟨j1,j2,j3⟩|⟨j1,j2⟩
    · exact swap1 j1 j2 i3 h1 h2
    · exact swapA j1 j2 i3 (Wb j2) h1 h2
    · exact swapAA j1 j2 i3 j3 h1 h2
    · exact swapS j1 j2 i3 h1 h2
   obtain⟨mc,mD,g1,g2,gs⟩:=hsw;obtain⟨τ'',g3,gs'⟩:=K' gs h3;exact⟨mc,τ'',g1,by simp only[List.cons_append,nA,g2,Option.bind_some];exact g3,hs.trans gs'⟩
end
end Go.bJ
namespace Go.bJ
open Go.RowKit
def La(aq:List Nat)(o:Oper):Nat:=o.after.toList.foldl (fun x e=>if Region.binds .any e=true then x|||2^e.on|||aq.getD e.on 0 else x) 0
def Lb:List Oper->List Nat->List Nat
 | [],aq=>aq
 |o::os,aq=>Lb os (aq++[La aq o])
def Wc(P:Program)(Γ:aj)(ops:Array Oper)(m:Nat)(oi:Oper)(j:Nat):Bool:=
 match ops[j]? with
 |some oj=>m.testBit j||((bY P Γ oj.op&&bY P Γ oi.op||bY P Γ oj.op&&cv oi.op||cv oj.op&&cv oi.op||pw oj.op&&lV oi.op)&&oj.apart ops oi)
 |none=>true
def Lc(P:Program)(Γ:aj)(ops:Array Oper)(aq:List Nat):Bool:=
 (List.range ops.size).all fun i=>
  match ops[i]? with
  |some oi=>(oi.after.toList.all fun e=> !Region.binds .any e||decide (e.on<i))&&(List.range i).all (Wc P Γ ops (aq.getD i 0) oi)
  |none=>true
def tF(P:Program)(Γ:aj)(ops:Array Oper):Bool:=Lc P Γ ops (Lb ops.toList [])
def jz(ops:Array Oper)(L:List Nat)(i:Nat):Bool:=
 match ops[i]? with
 |some o=>o.after.toList.all fun e=> !Region.binds .any e|| !L.contains e.on
 |none=>false
def tG(P:Program)(Γ:aj)(o:Op):Bool:=bY P Γ o||cv o||lV o
def qy(P:Program)(Γ:aj)(ops:Array Oper):Bool:=ops.toList.all fun o=>tG P Γ o.op
def Q8(P:Program)(Γ:aj)(ops:Array Oper)(i y:Nat):Bool:=
 match ops[i]?,ops[y]? with
 |some a,some b=>((bY P Γ a.op&&bY P Γ b.op)||(pw a.op&&lV b.op)||(qy P Γ ops&&bY P Γ a.op&&cv b.op))&&a.apart ops b
 |_,_=>false
def Z5(P:Program)(Γ:aj)(ops:Array Oper)(aq:List Nat):Nat->List Nat->List (List Nat)->Bool
 |0,L,rs=>L.isEmpty&& !rs.isEmpty&&rs.all List.isEmpty
 |f+1,L,rs=>
  match rs with
  | []=>false
  | []::_=>false
  |(i::_)::_=>
   if(rs.all (fun r=>r.head? ==some i)&&L.contains i&&jz ops L i&&L.all (fun y=>y==i||(aq.getD y 0).testBit i||Q8 P Γ ops i y))=true then Z5 P Γ ops aq f (L.erase i) (rs.map List.tail)
   else L.all fun j=> !jz ops L j||Z5 P Γ ops aq f (L.erase j) (rs.filterMap fun r=>if r.head? =some j then some r.tail else none)
def OD(P:Program)(Γ:aj)(ops:Array Oper)(os:List (List Nat)):Bool:=
 ((List.range ops.size).all fun i=>match ops[i]? with|some o=>o.after.toList.all fun e=> !Region.binds .any e||decide (e.on<i)|none=>true)&&
 Z5 P Γ ops (Lb ops.toList []) ops.size (List.range ops.size) os
def tH(nt:Nat)(ops:Array Oper):Bool:=ops.toList.all fun o=>match o.dst with|some d=>decide (d<nt)|none=>true
def frzOK(Γ:aj)(os:List (List Nat)):Bool:=
 match KC os with
 |none=>true
 |some ρ=>decide ρ.Nodup&&ρ.all fun n=>decide (Γ.nf<=n)
def ai(P:Program)(Γ:aj)(nt:Nat):Code->Bool
 | .seq a b=>ai P Γ nt a&&ai P Γ nt b
 | .cond _ a b=>ai P Γ nt a&&ai P Γ nt b
 | .block _ c=>ai P Γ nt c
 | .loop c=>ai P Γ nt c
 | .region id ops d=>(tH nt ops&&frzOK Γ (Γ.c6 id))&&(if(z_ (Γ.c6 id)).isEmpty=true then(!d||tF P Γ ops)else(d&&OD P Γ ops (z_ (Γ.c6 id))))
 |_=>true
section
variable{P:Program}{Γ:aj}{N0:Nat->Prop}{w0:jO}{nt:Nat}{σ τ:St}{φ:List cZ}{a:Act}{w:World}
theorem AN{ops:Array Oper}(h:tH nt ops=true){i:Nat}{o:Oper}(ho:ops[i]? =some o): ∀t,o.dst=some t->t<nt:=fun t ht=>by
 unfold tH at h;rw[List.all_eq_true]at h;have:=h o (by simpa using Array.mem_of_getElem? ho)
 simp only[ht,decide_eq_true_eq]at this;exact this
theorem aJ.sim(h:aJ N0 w0 nt σ φ a w)(hs:dq σ τ):aJ N0 w0 nt τ φ a w:=
 {h with
  cI:=fun d=>by rw[<-hs.1 d];exact h.cI d
  len:=by rw[<-hs.2];exact h.len
  cN:=fun n o p ho hp=>h.cN n o p (by rw[hs.2];exact ho) hp}
theorem OE{ds:List (Option Tmp)}{n n':Nat}{o:Oper}(h:bN P o.op=false):bH P Γ ds n o σ=bH P Γ ds n' o σ:=by
 unfold bH;split
 · rfl
 · rename_i b hb
   cases b with
   |false=>rfl
   |true=>
    simp only[if_true]
    unfold execOp;split
    · rename_i h';rw[h']at h;simp[bN]at h
    · rename_i h';rw[h']at h;simp[bN]at h
    · rfl
    · rename_i h'
      rw[h']at h;simp only[bN]at h;simp only[w6,h,Bool.false_eq_true,if_false]
    · rename_i h';rw[h']at h;simp[bN]at h
    · rfl
    · rfl
    · rfl
theorem sg(sa:ag P Γ)(qX:w0.fix=Γ.fix)(h:aJ N0 w0 nt σ φ a w){ops:Array Oper}(fF:tH nt ops=true){x:Nat×Nat×Oper}(ho:ops[x.2.1]? =some x.2.2){L:List (Nat×Nat×Oper)}
 (s8:bN P x.2.2.op=true->φ[x.1]? =some .free) (hfL: ∀y∈L,bN P y.2.2.op=true->φ[y.1]? =some .free) (bU: ∀y∈L,bN P x.2.2.op=true->bN P y.2.2.op=true->y.1≠x.1) {ed:St}
 (hr:bH P Γ (dstsOf ops.toList) x.1 x.2.2 σ=some ed) {Q:Exit->Act->World->Prop} {K:Act->World->Prop}
 (hK: ∀eG a' w',aJ N0 w0 nt ed eG a' w'->(∀y∈L,bN P y.2.2.op=true->eG[y.1]? =some .free)->K a' w'):wpOp P ops Q x.2.1 K a w:=by
 by_cases Wd:bN P x.2.2.op=true
 · exact xq sa h ho (AN fF ho) qX (fun _=>s8 Wd) hr fun eG a' w' hc hf=>hK eG a' w' hc fun y hy ha=>hf y.1 (bU y hy Wd ha) (hfL y hy ha)
 · have hal':bN P x.2.2.op=false:=by simpa using Wd
   rw[OE (n':=φ.length) hal']at hr;refine xq sa h ho (AN fF ho) qX (fun ha=>absurd ha Wd) hr fun eG a' w' hc hf=>hK eG a' w' hc fun y hy ha=>hf y.1 (fun e=> ?_) (hfL y hy ha)
   have:=(List.getElem?_eq_some_iff.1 (hfL y hy ha)).1;omega
theorem AO(sa:ag P Γ)(qX:w0.fix=Γ.fix){ops:Array Oper}(fF:tH nt ops=true){Q:Exit->Act->World->Prop}{τ:St}: ∀{L:List (Nat×Nat×Oper)} {σ:St} {φ:List cZ} {a:Act} {w:World},
 aJ N0 w0 nt σ φ a w->(∀x∈L,ops[x.2.1]? =some x.2.2)->L.Pairwise (fun x y=>x.2.1<y.2.1/\(bN P x.2.2.op=true->x.1<y.1))->
 (∀y∈L,bN P y.2.2.op=true->φ[y.1]? =some .free)->nA P Γ (dstsOf ops.toList) L σ=some τ->(∀eG a' w',aJ N0 w0 nt τ eG a' w'->Q .normal a' w')->wpOps P ops Q (L.map (·.2.1)) a w
 | [],σ,φ,a,w,h,_,_,_,hr,hQ=>by simp only[nA,Option.some.injEq]at hr;subst hr;exact hQ φ a w h
 |x::L,σ,φ,a,w,h,nz,hp,hf,hr,hQ=>by
  rw[List.map_cons,wpOps_cons]
  simp only[nA]at hr;rw[List.pairwise_cons]at hp;cases h1:bH P Γ (dstsOf ops.toList) x.1 x.2.2 σ with
  |none=>simp[h1]at hr
  |some sd=>
   simp only[h1,Option.bind_some]at hr;refine sg sa qX h fF (nz x (by simp)) (L:=L) (hf x (by simp)) (fun y hy=>hf y (by simp[hy])) (fun y hy ha _ e=> ?_) h1 fun eG a' w' hc Q1=> ?_
   · have:=(hp.1 y hy).2 ha
     omega
   · exact AO sa qX fF hc (fun y hy=>nz y (by simp[hy])) hp.2 Q1 hr hQ
theorem AP{aq:List Nat}{j:Nat}: ∀{es:List Edge} {x:Nat},(es.foldl (fun x e=>if Region.binds .any e=true then x|||2^e.on|||aq.getD e.on 0 else x) x).testBit j=true->
 x.testBit j=true\/ ∃e∈es,Region.binds .any e=true/\(e.on=j\/(aq.getD e.on 0).testBit j=true)
 | [],x,h=> .inl h
 |e::es,x,h=>by
  rw[List.foldl_cons]at h;rcases AP h with h|⟨e',u5,h'⟩
  · split at h
    · rename_i hb
      rw[Nat.testBit_or,Nat.testBit_or,Bool.or_eq_true,Bool.or_eq_true,Nat.testBit_two_pow]at h;rcases h with(h|h)|h
      · exact .inl h
      · exact .inr ⟨e,by simp,hb,.inl (by simpa using h)⟩
      · exact .inr ⟨e,by simp,hb,.inr h⟩
    · exact .inl h
  · exact .inr ⟨e',by simp[u5],h'⟩
theorem vv{ops:Array Oper}{D:Nat->Prop}(hD: ∀(m:Nat) (o:Oper),ops[m]? =some o->D m-> ∀e∈o.after,Region.binds .any e=true->D e.on): ∀{os ps:List Oper} {aq:List Nat},ops.toList=ps++os->aq.length=ps.length->
 (∀(m:Nat) (o:Oper),m<aq.length->ops[m]? =some o->(∀e∈o.after,Region.binds .any e=true->D e.on)-> ∀j,(aq.getD m 0).testBit j=true->D j)->
 ∀(m:Nat) (o:Oper),ops[m]? =some o->(∀e∈o.after,Region.binds .any e=true->D e.on)-> ∀j,((Lb os aq).getD m 0).testBit j=true->D j
 | [],ps,aq,hp,hl,h,m,o,ho,hd,j,hj=>by
  have hm:m<aq.length:=by
   have h1:=(Array.getElem?_eq_some_iff.1 ho).1;have h2:ops.toList.length=ps.length:=by rw[hp];simp
   rw[Array.length_toList]at h2;omega
  exact h m o hm ho hd j hj
 |q::os,ps,aq,hp,hl,h,m,o,ho,hd,j,hj=>by
  simp only[Lb]at hj;refine vv (os:=os) (ps:=ps++[q]) (aq:=aq++[La aq q]) hD (by rw[hp];simp) (by simp[hl]) ?_ m o ho hd j hj;intro m' o' jh vm hd' j' u6;by_cases aw:m'<aq.length
  · rw[show(aq++[La aq q]).getD m' 0=aq.getD m' 0 by simp[List.getD,List.getElem?_append_left aw]]at u6
    exact h m' o' aw vm hd' j' u6
  · have hme:m'=aq.length:=by rw[List.length_append]at jh;simp at jh;omega
    subst hme;have hq:ops[aq.length]? =some q:=by rw[<-Array.getElem?_toList,hp,hl];simp
    rw[vm]at hq;obtain rfl:=Option.some.inj hq;have e1:(aq++[La aq o']).getD aq.length 0=La aq o':=by simp[List.getD]
    rw[e1]at u6;rcases AP u6 with h0|⟨e,he,hb,h1⟩
    · simp at h0
    · have u5:e∈o'.after:=by simpa using he
      rcases h1 with rfl|h1
      · exact hd' e u5 hb
      · by_cases ae:e.on<aq.length
        · have kh:e.on<ops.size:=by
           have:=congrArg List.length hp;simp at this;omega
          exact h e.on ops[e.on] ae (Array.getElem?_eq_getElem kh) (hD e.on _ (Array.getElem?_eq_getElem kh) (hd' e u5 hb)) j' h1
        · rw[show aq.getD e.on 0=0 by simp[List.getD,List.getElem?_eq_none (Nat.le_of_not_lt ae)]]at h1
          simp at h1
theorem ki{ops:Array Oper}(h:tF P Γ ops=true){i:Nat}{oi:Oper}(hi:ops[i]? =some oi):
 (∀e∈oi.after,Region.binds .any e=true->e.on<i)/\ ∀(j:Nat) (oj:Oper),j<i->ops[j]? =some oj->((Lb ops.toList []).getD i 0).testBit j=true\/((bY P Γ oj.op=true/\bY P Γ oi.op=true\/bY P Γ oj.op=true/\cv oi.op=true\/cv oj.op=true/\cv oi.op=true\/pw oj.op=true/\lV oi.op=true)/\oj.apart ops oi=true):=by
 unfold tF Lc at h;rw[List.all_eq_true]at h;have h1:=h i (by simpa using(Array.getElem?_eq_some_iff.1 hi).1)
 simp only[hi,Bool.and_eq_true]at h1;obtain⟨h2,h3⟩:=h1;rw[List.all_eq_true]at h2 h3;refine⟨fun e he hb=> ?_,fun j oj hj hoj=> ?_⟩
 · have:=h2 e (by simpa using he)
   simpa[hb]using this
 · have:=h3 j (by simpa using hj)
   unfold Wc at this;simp only[hoj,Bool.or_eq_true,Bool.and_eq_true]at this;rcases this with h|⟨((h4|h4)|h4)|h4,h6⟩
   · exact .inl h
   · exact .inr ⟨.inl h4,h6⟩
   · exact .inr ⟨.inr (.inl h4),h6⟩
   · exact .inr ⟨.inr (.inr (.inl h4)),h6⟩
   · exact .inr ⟨.inr (.inr (.inr h4)),h6⟩
theorem Gb{op:Op}(h:cv op=true):bN P op=true:=by cases op<;>simp[cv]at h<;>rfl
theorem Ld(h:aJ N0 w0 nt σ φ a w){n:Nat}(hn:φ[n]? =some .free):bX σ.H n=some (.row 0 []):=by
 have aw:n<σ.H.length:=by rw[<-h.len];exact(List.getElem?_eq_some_iff.1 hn).1
 have ho:bX σ.H n=some σ.H[n]:=by rw[bu];exact List.getElem?_eq_getElem aw
 have:=h.cN n _ _ ho hn;rw[ho]
 cases hh:σ.H[n]with
 |box cs=>rw[hh]at this;simp[aH]at this
 |row k es=>rw[hh]at this;simp only[aH]at this;rw[this.1,this.2]
theorem Tr(sa:ag P Γ)(qX:w0.fix=Γ.fix){ops:Array Oper}(fF:tH nt ops=true)(DS:tF P Γ ops=true){Q:Exit->Act->World->Prop}: ∀(fuel:Nat) (ca:Array Bool) {L:List (Nat×Nat×Oper)} {σ τ:St} {φ:List cZ} {a:Act} {w:World},
 L.length<=fuel->(∀i,ca.getD i true=false ↔∃x∈L,x.2.1=i)->
 aJ N0 w0 nt σ φ a w->(∀x∈L,ops[x.2.1]? =some x.2.2)->L.Pairwise (fun x y=>x.2.1<y.2.1/\(bN P x.2.2.op=true->x.1<y.1))->
 (∀y∈L,bN P y.2.2.op=true->φ[y.1]? =some .free)->nA P Γ (dstsOf ops.toList) L σ=some τ->(∀eG a' w',aJ N0 w0 nt τ eG a' w'->Q .normal a' w')->ca.size=ops.size->(∀(m:Nat) (o:Oper),ops[m]? =some o->ca.getD m true=true-> ∀e∈o.after,Region.binds .any e=true->ca.getD e.on true=true)->wpAny P .any ops Q fuel ca a w:=by
 intro fuel
 -- the first of those that are left is ready
 have first: ∀(ca:Array Bool) (x:Nat×Nat×Oper) (L:List (Nat×Nat×Oper)),(∀i,ca.getD i true=false ↔∃y∈x::L,y.2.1=i)->(∀y∈x::L,ops[y.2.1]? =some y.2.2)->
  (x::L).Pairwise (fun x y=>x.2.1<y.2.1/\(bN P x.2.2.op=true->x.1<y.1))->ca.size=ops.size->x.2.1∈Region.ready .any ops ca:=by
  intro ca x L hl nz hp kE;rw[mem_ready]
  refine⟨(hl x.2.1).2 ⟨x,by simp,rfl⟩,x.2.2,nz x (by simp),fun e he hb=> ?_⟩
  have aw:=(ki DS (nz x (by simp))).1 e he hb;have QZ:x.2.1<ops.size:=(Array.getElem?_eq_some_iff.1 (nz x (by simp))).1;cases hg:ca.getD e.on true with
  |false=>
   obtain⟨y,hy,hye⟩:=(hl e.on).1 hg;rcases List.mem_cons.1 hy with rfl|hy
   · omega
   · have:=((List.pairwise_cons.1 hp).1 y hy).1
     omega
  |true=>
   have he:e.on<ca.size:=by omega
   simpa[he]using hg
 induction fuel with
 |zero=>
  intro ca L σ τ φ a w hlen hl hc nz hp hf hr hQ kE jg;have hL:L=[]:=List.length_eq_zero_iff.1 (by omega)
  subst hL;simp only[nA,Option.some.injEq]at hr;subst hr;refine⟨?_,hQ φ a w hc⟩
  rw[List.eq_nil_iff_forall_not_mem]
  intro i hi;obtain⟨x,hx,_⟩:=(hl i).1 (mem_ready.1 hi).1;cases hx
 |succ fuel ih=>
  intro ca L σ τ φ a w hlen hl hc nz hp hf hr hQ kE jg;refine⟨fun HC=> ?_,fun i hi=> ?_⟩
  · cases L with
    |nil=>
     simp only[nA,Option.some.injEq]at hr;subst hr;exact hQ φ a w hc
    |cons x L=>
     have:=first ca x L hl nz hp kE
     rw[HC]at this;cases this
  · obtain⟨hun,oi,Le,gZ⟩:=mem_ready.1 hi
    obtain⟨x,hx,rfl⟩:=(hl i).1 hun;have We:=nz x hx;rw[Le]at We;obtain rfl:=Option.some.inj We;obtain⟨L1,L2,rfl⟩:=List.append_of_mem hx;have Kk:=List.pairwise_append.1 hp;have hp2:=List.pairwise_cons.1 Kk.2.1
    obtain⟨sd,pq,g1,g2,gs⟩:=Ga (fun y hy=>by
     have aw:=(Kk.2.2 y hy x (by simp)).1;have hyo:=nz y (by simp[hy])
     rcases(ki DS Le).2 y.2.1 y.2.2 aw hyo with hdep|hind
     · exfalso
       have h2:=(hl y.2.1).2 ⟨y,by simp[hy],rfl⟩
       have h1:=vv (ops:=ops) (D:=fun m=>ca.getD m true=true) jg (os:=ops.toList) (ps:=[]) (aq:=[]) rfl rfl (fun m o hm=>absurd hm (by simp)) x.2.1 x.2.2 Le (fun e he hb=>by
        have h3:=gZ e he hb;have h4:=(ki DS Le).1 e he hb;have h5:e.on<ca.size:=by rw[kE];have:=(Array.getElem?_eq_some_iff.1 Le).1;omega
        simpa[h5]using h3) y.2.1 hdep
       rw[h1]at h2;cases h2
     · refine⟨?_,hind.2⟩
       rcases hind.1 with h'|h'|⟨h1,h2⟩|h'
       · exact .inl h'
       · exact .inr (.inl h')
       · have bU:=(Kk.2.2 y hy x (by simp)).2 (Gb h1)
         exact .inr (.inr (.inl ⟨h1,h2,by omega⟩))
       · exact .inr (.inr (.inr h'))) (fun ha=>Ld hc (hf x hx (Gb ha))) hr
    refine sg sa qX hc fF Le (L:=L1++L2) (hf x hx) (fun y hy=>hf y (by
     rcases List.mem_append.1 hy with hy|hy
     · simp[hy]
     · simp[hy])) (fun y hy ha hb e=> ?_) g1 fun eG a' w' u4 Q1=> ?_
    · rcases List.mem_append.1 hy with hy|hy
      · have:=(Kk.2.2 y hy x (by simp)).2 hb
        omega
      · have:=(hp2.1 y hy).2 ha
        omega
    · refine ih (ca.setIfInBounds x.2.1 true) (L:=L1++L2) (τ:=pq) ?_ ?_ u4 ?_ ?_ Q1 g2 ?_ (by simp[kE]) ?_
      · simp at hlen⊢;omega
      · intro i
        have QZ:x.2.1<ca.size:=by rw[kE];exact(Array.getElem?_eq_some_iff.1 Le).1
        by_cases Z6:x.2.1=i
        · subst Z6
          constructor
          · intro h;simp[QZ]at h
          · rintro⟨y,hy,hye⟩
            exfalso;rcases List.mem_append.1 hy with hy|hy
            · have:=(Kk.2.2 y hy x (by simp)).1
              omega
            · have:=(hp2.1 y hy).1
              omega
        · rw[getD_set_ne true Z6,hl i]
          constructor
          · rintro⟨y,hy,hye⟩
            refine⟨y, ?_,hye⟩
            rcases List.mem_append.1 hy with hy|hy
            · simp[hy]
            · rcases List.mem_cons.1 hy with rfl|hy
              · exact absurd hye Z6
              · simp[hy]
          · rintro⟨y,hy,hye⟩
            refine⟨y, ?_,hye⟩
            rcases List.mem_append.1 hy with hy|hy
            · simp[hy]
            · simp[hy]
      · intro y hy
        refine nz y ?_;rcases List.mem_append.1 hy with hy|hy
        · simp[hy]
        · simp[hy]
      · rw[List.pairwise_append]
        exact⟨Kk.1,hp2.2,fun y hy z hz=>Kk.2.2 y hy z (by simp[hz])⟩
      · exact fun φ'' a'' w'' hc''=>hQ φ'' a'' w'' (hc''.sim gs.symm)
      · intro m o ho hm e he hb
        have QZ:x.2.1<ca.size:=by rw[kE];exact(Array.getElem?_eq_some_iff.1 Le).1
        have key:ca.getD e.on true=true:=by
         by_cases hxm:x.2.1=m
         · subst hxm
           rw[Le]at ho;obtain rfl:=Option.some.inj ho;have h3:=gZ e he hb;have h4:=(ki DS Le).1 e he hb;have h5:e.on<ca.size:=by rw[kE];have:=(Array.getElem?_eq_some_iff.1 Le).1;omega
           simpa[h5]using h3
         · rw[getD_set_ne true hxm]at hm
           exact jg m o ho hm e he hb
        by_cases sh:x.2.1=e.on
        · rw[<-sh];simp[QZ]
        · rw[getD_set_ne true sh];exact key
theorem aJ.Q9(h:aJ N0 w0 nt σ φ a w):aJ N0 w0 nt {σ with H:=σ.H++[.row 0 []]} (φ++[.free]) a w:=by
 have ny: ∀m:Nat,(φ++[cZ.free])[m]? =if m=φ.length then some .free else φ[m]? :=fun m=>by
  rw[List.getElem?_append]
  split
  · rw[if_neg (by omega)]
  · split
    · rename_i h1 h2;subst h2;simp
    · rename_i h1 h2
      rw[List.getElem?_eq_none (by simp;omega),List.getElem?_eq_none (by omega)]
 have AA: ∀m b k:Nat,(φ++[cZ.free])[m]? =some (cZ.loc b k)->φ[m]? =some (.loc b k):=fun m b k hm=>by
  rw[ny]at hm;split at hm
  · simp at hm
  · exact hm
 have dA:Ext (fun _=>True) (aA N0 φ w) (aA N0 (φ++[.free]) w):={
  size:=Nat.le_refl _
  Kv:=fun b _ hn=>⟨by
   rintro(h0|⟨m,k,hm⟩)
   · exact hn (.inl h0)
   · exact hn (.inr ⟨m,k,AA m b k hm⟩),rfl⟩
  refs:=fun m o _ hm _=>by have aw:m<φ.length:=(List.getElem?_eq_some_iff.1 hm).1;show(φ++[cZ.free])[m]? =some o;rw[ny,if_neg (by omega)];exact hm
  own:=fun m b k c e fr _ hm hc=>⟨c,fr,hc,rfl⟩}
 exact{
  cI:=fun d=>aF.mono dA _ _ (h.cI d) (fun _ _=>trivial)
  size:=h.size
  defers:=h.defers
  len:=by simp[h.len]
  cN:=fun m o p hm hp=>by
   rw[ny]at hp;rw[bu,List.getElem?_append]at hm;split at hp
   · rename_i e
     simp at hp;subst hp;rw[if_neg (by rw[<-h.len];omega),show m-σ.H.length=0 by rw[<-h.len];omega]at hm;simp at hm;subst hm;simp[aH]
   · rename_i e
     have aw:m<φ.length:=(List.getElem?_eq_some_iff.1 hp).1;rw[if_pos (by rw[<-h.len];exact aw)]at hm;exact aH.mono dA (h.cN m o p (by rw[bu];exact hm) hp) (fun b k _ c e fr hh=>hh) (fun _ _ _ _=>trivial)
  own:=fun m b k hm=>h.own m b k (AA m b k hm)
  inj:=fun m m' b k k' hm jh=>h.inj m m' b k k' (AA m b k hm) (AA m' b k' jh)
  n0:=h.n0
  kf:=fun m p hf hp bw=>by have:=h.kf m p hf hp bw;have aw:m<φ.length:=(List.getElem?_eq_some_iff.1 this).1;rw[List.getElem?_append_left aw];exact this
  below:=h.below}
theorem Ts(op:Op):(grow P op σ).H.length=iS P op σ.H.length:=by unfold grow iS;split<;>simp
theorem qz: ∀(os:List Oper) (i:Nat) {σ:St} {φ:List cZ},aJ N0 w0 nt σ φ a w-> ∃eG,aJ N0 w0 nt (pre P os σ) eG a w/\(∀y∈DD P σ.H.length i os,bN P y.2.2.op=true->eG[y.1]? =some .free)/\
 ∀m:Nat,φ[m]? =some cZ.free->eG[m]? =some cZ.free
 | [],i,σ,φ,h=>⟨φ,h,by simp[DD],fun _ h=>h⟩
 |o::os,i,σ,φ,h=>by
  have hg: ∃φ1,aJ N0 w0 nt (grow P o.op σ) φ1 a w/\(bN P o.op=true->φ1[σ.H.length]? =some .free)/\ ∀m:Nat,φ[m]? =some cZ.free->φ1[m]? =some cZ.free:=by
   unfold grow;split
   · refine⟨φ++[.free],h.Q9,fun _=>by rw[<-h.len];simp,fun m hm=> ?_⟩
     have aw:m<φ.length:=(List.getElem?_eq_some_iff.1 hm).1;rw[List.getElem?_append_left aw]
     exact hm
   · rename_i ha
     exact⟨φ,h,fun h=>absurd h ha,fun _ h=>h⟩
  obtain⟨φ1,h1,hf,hk⟩:=hg;obtain⟨eG,h2,Vf,OF⟩:=qz os (i+1) h1;refine⟨eG,h2,fun y hy ha=> ?_,fun m hm=>OF m (hk m hm)⟩
  simp only[DD,List.mem_cons]at hy;rcases hy with rfl|hy
  · exact OF _ (hf ha)
  · rw[Ts]at Vf
    exact Vf y hy ha
theorem HD(sa:ag P Γ)(qX:w0.fix=Γ.fix)(hm:P.follows .mixedOrders=true)(h:aJ N0 w0 nt σ φ a w){id:Nat}{ops:Array Oper}{d:Bool}(fF:tH nt ops=true)(DS:d=true->tF P Γ ops=true){τ:St}
 (hr:iT P Γ (dstsOf ops.toList) ops.toList σ.H.length (pre P ops.toList σ)=some τ) {Q:Exit->Act->World->Prop} (hQ: ∀eG a' w',aJ N0 w0 nt τ eG a' w'->Q .normal a' w'):(Code.region id ops d).wp P Q a w:=by
 rw[xr P Γ _ _ _ 0]at hr;have nz: ∀x∈DD P σ.H.length 0 ops.toList,ops[x.2.1]? =some x.2.2:=fun x hx=>by have:=(Hy P _ _ _ x hx).2.2;simpa using this
 have hp:=K9 P ops.toList σ.H.length 0;have Td:=Q6 P ops.toList σ.H.length 0;simp only[Nat.zero_add,Array.length_toList]at Td;have Wf:(DD P σ.H.length 0 ops.toList).map (·.2.1)=List.range ops.size:=by rw[Td];simp
 cases d with
 |false=>
  obtain⟨eG,hc,hf,_⟩:=qz (P:=P) ops.toList 0 h;refine wp_region ?_;rw[<-Wf]
  exact AO sa qX fF hc nz hp hf hr hQ
 |true=>
  have V0:ew w {w with drawn:=w.drawn+1}:=ew.drew w;obtain⟨eG,hc,hf,_⟩:=qz (P:=P) ops.toList 0 (h.S7 V0)
  refine wp_region_any hm ?_;refine Tr sa qX fF (DS rfl) ops.size _ (L:=DD P σ.H.length 0 ops.toList) ?_ ?_ hc nz hp hf hr hQ (by simp) (fun m o ho hm=>by have:=(Array.getElem?_eq_some_iff.1 ho).1;simp[this]at hm)
  · have:=congrArg List.length Wf
    simp at this;omega
  · intro i
    have gW:(∃x∈DD P σ.H.length 0 ops.toList,x.2.1=i) ↔ i<ops.size:=by rw[<-List.mem_range,<-Wf,List.mem_map]
    rw[gW]
    by_cases hi:i<ops.size<;>simp[hi]
def AQ(P:Program)(Γ:aj)(ops:Array Oper)(B:List (Nat×Oper))(q:St->Prop):Nat->List Nat->St->Prop
 |0,L,σ=>L=[]/\q σ
 |f+1,L,σ=> ∀i∈L,jz ops L i=true-> ∃x ed,eJ B i=some x/\bH P Γ (dstsOf ops.toList) x.1 x.2 σ=some ed/\AQ P Γ ops B q f (L.erase i) ed
theorem Lf{ops:Array Oper}{B:List (Nat×Oper)}{q:St->Prop}(hq: ∀{σ τ:St},dq σ τ->q σ->q τ): ∀{f:Nat} {L:List Nat} {σ τ:St},dq σ τ->AQ P Γ ops B q f L σ->AQ P Γ ops B q f L τ
 |0,L,σ,τ,hs,h=>⟨h.1,hq hs h.2⟩
 |f+1,L,σ,τ,hs,h=>fun i hi hr=>by obtain⟨x,ed,h1,h2,h3⟩:=h i hi hr;obtain⟨pq,h4,h5⟩:=F' hs h2;exact⟨x,pq,h1,h4,Lf hq h5 h3⟩
theorem jA{ops:Array Oper}{L:List Nat}{i:Nat}(h:jz ops L i=true): ∃o,ops[i]? =some o/\ ∀e∈o.after,Region.binds .any e=true->e.on∉L:=by
 unfold jz at h;cases ho:ops[i]? with
 |none=>rw[ho]at h;cases h
 |some o=>
  rw[ho]at h;simp only[List.all_eq_true]at h;refine⟨o,rfl,fun e he hb hm=> ?_⟩
  have:=h e (by simpa using he)
  simp[hb,hm]at this
theorem AR{ops:Array Oper}{L:List Nat}{i:Nat}{o:Oper}(ho:ops[i]? =some o)(h: ∀e∈o.after,Region.binds .any e=true->e.on∉L):jz ops L i=true:=by
 unfold jz;rw[ho]
 simp only[List.all_eq_true]
 intro e he;have:=h e (by simpa using he)
 cases hb:Region.binds .any e with
 |false=>rfl
 |true=>simp[this hb]
theorem xx{ops:Array Oper}{L:List Nat}{i j:Nat}(h:jz ops L i=true):jz ops (L.erase j) i=true:=by obtain⟨o,ho,h1⟩:=jA h;exact AR ho fun e he hb hm=>h1 e he hb (List.mem_of_mem_erase hm)
def HE(ops:Array Oper)(L:List Nat):Prop:= ∀(m:Nat) (o:Oper),ops[m]? =some o->m∉L-> ∀e∈o.after,Region.binds .any e=true->e.on∉L
theorem nD{ops:Array Oper}{L:List Nat}{i:Nat}(hn:L.Nodup)(hc:HE ops L)(hr:jz ops L i=true):HE ops (L.erase i):=fun m o ho hm e he hb hme=>by
 obtain⟨o',vm,h1⟩:=jA hr;have hL:=List.mem_of_mem_erase hme;by_cases hmi:m=i
 · subst hmi
   rw[ho]at vm;obtain rfl:=Option.some.inj vm;exact h1 e he hb hL
 · exact hc m o ho (fun hmL=>hm ((List.mem_erase_of_ne hmi).2 hmL)) e he hb hL
theorem Lg{ops:Array Oper}{B:List (Nat×Oper)}(hB: ∀(i:Nat) (x:Nat×Oper),eJ B i=some x->ops[i]? =some x.2){i:Nat}{x:Nat×Oper}{o:Oper}(h:eJ B i=some x)(ho:ops[i]? =some o):x.2=o:=by have:=hB i x h;rw[ho]at this;exact(Option.some.inj this).symm
def xy(B:List (Nat×Oper))(L:List Nat)(σ:St):Prop:= ∀i∈L,∀x,eJ B i=some x->cv x.2.op=true->bX σ.H x.1=some (.row 0 [])
theorem OG{ds:List (Option Tmp)}{n m:Nat}{o:Oper}(hs:tG P Γ o.op=true)(bU:cv o.op=true->n≠m){ed:St}(hr:bH P Γ ds n o σ=some ed)(hf:bX σ.H m=some (.row 0 [])):bX ed.H m=some (.row 0 []):=by
 unfold tG at hs;simp only[Bool.or_eq_true]at hs;rcases hs with(hs|hs)|hs
 · rw[cA hs]at hr
   obtain⟨v,_,rfl⟩:=Option.map_eq_some_iff.1 hr;rw[rF];exact hf
 · rw[tE hs (bU hs) hr];exact hf
 · rw[nC hs]at hr
   obtain⟨v,hv,rfl⟩:=Option.map_eq_some_iff.1 hr;rw[rF]
   cases v with
   |none=>exact hf
   |some v=>
    have hvm:v.1≠m:=fun e=>by
     unfold sf at hv;split at hv
     · cases hv
     · cases hv
     · split at hv
       · obtain⟨z,hz,hzv⟩:=Option.map_eq_some_iff.1 hv
         obtain rfl:=Option.some.inj hzv;unfold AL at hz;split at hz
         · split at hz
           · rename_i hn
             split at hz
             · obtain rfl:=Option.some.inj hz
               simp only at e;subst e;rw[hf]at hn;cases hn
             · cases hz
           · cases hz
         · split at hz
           · rename_i k es hn
             obtain⟨e',u5,hz⟩:=Option.bind_eq_some_iff.1 hz;split at hz
             · obtain rfl:=Option.some.inj hz
               simp only at e;subst e;rw[hf]at hn;cases hn;simp at u5
             · cases hz
           · cases hz
         · cases hz
       · cases hv
    show bX (jY σ.H v.1 v.2) m=_;rw[dI,bu,List.getElem?_set_ne hvm,<-bu];exact hf
theorem Tt{ops:Array Oper}(h:qy P Γ ops=true){i:Nat}{o:Oper}(ho:ops[i]? =some o):tG P Γ o.op=true:=by unfold qy at h;rw[List.all_eq_true]at h;exact h o (by simpa using Array.mem_of_getElem? ho)
theorem xy.step{ops:Array Oper}{B:List (Nat×Oper)}{L:List Nat}(hS:qy P Γ ops=true)(hB: ∀(i:Nat) (x:Nat×Oper),eJ B i=some x->ops[i]? =some x.2)
 (Z7: ∀(i j:Nat) (x y:Nat×Oper),eJ B i=some x->eJ B j=some y->i≠j->bN P x.2.op=true->bN P y.2.op=true->x.1≠y.1)
 (hn:L.Nodup) {j:Nat} {y:Nat×Oper} (hy:eJ B j=some y) {ds:List (Option Tmp)} {ed:St} (hr:bH P Γ ds y.1 y.2 σ=some ed) (hf:xy B L σ):xy B (L.erase j) ed:=fun i hi x hx ha=>by
 have vw:i≠j:=fun e=>by subst e;exact absurd hi (List.Nodup.not_mem_erase hn)
 have al: ∀op:Op,cv op=true->bN P op=true:=fun op h=>by cases op<;>simp[cv]at h<;>rfl
 exact OG (Tt hS (hB j y hy)) (fun hb=>Z7 j i y x hy hx (Ne.symm vw) (al _ hb) (al _ ha)) hr (hf i (List.mem_of_mem_erase hi) x hx ha)
theorem OH{ops:Array Oper}{B:List (Nat×Oper)}{q:St->Prop}(hq: ∀{σ τ:St},dq σ τ->q σ->q τ)(hB: ∀(i:Nat) (x:Nat×Oper),eJ B i=some x->ops[i]? =some x.2)
 (Z7: ∀(i j:Nat) (x y:Nat×Oper),eJ B i=some x->eJ B j=some y->i≠j->bN P x.2.op=true->bN P y.2.op=true->x.1≠y.1):
 ∀{f:Nat} {L:List Nat} {i:Nat} {x:Nat×Oper} {σ sd:St},L.Nodup->(qy P Γ ops=true->xy B L σ)->HE ops L->i∈L->jz ops L i=true->(∀y∈L,y≠i->((Lb ops.toList []).getD y 0).testBit i=true\/Q8 P Γ ops i y=true)->
 eJ B i=some x->bH P Γ (dstsOf ops.toList) x.1 x.2 σ=some sd->AQ P Γ ops B q f (L.erase i) sd->AQ P Γ ops B q (f+1) L σ:=by
 intro f;induction f with
 |zero=>
  intro L i x σ sd hn Kl hc hi hr hcom hx h1 hg j hj Zv;have hL:L.erase i=[]:=hg.1;by_cases Th:j=i
  · subst Th;exact⟨x,sd,hx,h1,hg⟩
  · have:=(List.mem_erase_of_ne Th).2 hj
    rw[hL]at this;cases this
 |succ f ih=>
  intro L i x σ sd hn Kl hc hi hr hcom hx h1 hg j hj Zv;by_cases Th:j=i
  · subst Th;exact⟨x,sd,hx,h1,hg⟩
  · have hje:=(List.mem_erase_of_ne Th).2 hj
    obtain⟨y,Tm,hy,h2,hg2⟩:=hg j hje (xx Zv)
    have Km:Q8 P Γ ops i j=true:=by
     rcases hcom j hj Th with h|h
     · exfalso
       obtain⟨o,ho,hdone⟩:=jA Zv;exact vv (ops:=ops) (D:=fun m=>m∉L) (fun m o ho hm e he hb=>hc m o ho hm e he hb) (os:=ops.toList) (ps:=[]) (aq:=[]) rfl rfl (fun m o hm=>absurd hm (by simp)) j o ho hdone i h hi
     · exact h
    obtain⟨oi,Le,_⟩:=jA hr;obtain⟨oj,hoj,_⟩:=jA Zv;have e1:=Lg hB hx Le;have e2:=Lg hB hy hoj;unfold Q8 at Km;rw[Le,hoj]at Km;simp only[Bool.and_eq_true,Bool.or_eq_true]at Km;obtain⟨hk,V'⟩:=Km;rw[e1]at h1;rw[e2]at h2
    have hsw: ∃mc mD,bH P Γ (dstsOf ops.toList) y.1 oj σ=some mc/\bH P Γ (dstsOf ops.toList) x.1 oi mc=some mD/\dq Tm mD:=by
     rcases hk with(⟨k1,k2⟩|⟨k1,k2⟩)|⟨⟨k0,k1⟩,k2⟩
     · exact swap1 k1 k2 V' h1 h2
     · exact swapS k1 k2 V' h1 h2
     · exact swapA k1 k2 V' (Kl k0 j hj y hy (by rw[e2];exact k2)) h1 h2
    obtain⟨mc,mD,g1,g2,gs⟩:=hsw;refine⟨y,mc,hy,by rw[e2];exact g1, ?_⟩
    refine ih (L:=L.erase j) (i:=i) (x:=x) (sd:=mD) (hn.erase j) (fun hS=>xy.step hS hB Z7 hn hy (by rw[e2];exact g1) (Kl hS)) (nD hn hc Zv) ((List.mem_erase_of_ne (Ne.symm Th)).2 hi) (xx hr) (fun z hz hzi=>hcom z (List.mem_of_mem_erase hz) hzi) hx (by rw[e1];exact g2) ?_;rw[List.erase_comm]
    exact Lf hq gs hg2
theorem Tu{ops:Array Oper}{B:List (Nat×Oper)}{q:St->Prop}(hq: ∀{σ τ:St},dq σ τ->q σ->q τ)(hB: ∀(i:Nat) (x:Nat×Oper),eJ B i=some x->ops[i]? =some x.2)
 (Z7: ∀(i j:Nat) (x y:Nat×Oper),eJ B i=some x->eJ B j=some y->i≠j->bN P x.2.op=true->bN P y.2.op=true->x.1≠y.1):
 ∀{f:Nat} {L:List Nat} {rs:List (List Nat)} {σ:St},L.Nodup->(qy P Γ ops=true->xy B L σ)->HE ops L->Z5 P Γ ops (Lb ops.toList []) f L rs=true->(∀r∈rs,∃τ,oH P Γ (dstsOf ops.toList) B r σ=some τ/\q τ)->AQ P Γ ops B q f L σ:=by
 intro f;induction f with
 |zero=>
  intro L rs σ hn Kl hc h hr;simp only[Z5,Bool.and_eq_true]at h;obtain⟨⟨h1,h2⟩,h3⟩:=h;cases rs with
  |nil=>simp at h2
  |cons r rs=>
   obtain⟨τ,Kn,hqτ⟩:=hr r (by simp)
   have hre:r=[]:=by
    have:=(List.all_eq_true.1 h3) r (by simp)
    simpa using this
   subst hre;simp only[oH,Option.some.injEq]at Kn;subst Kn;exact⟨by simpa using h1,hqτ⟩
 |succ f ih=>
  intro L rs σ hn Kl hc h hr;cases rs with
  |nil=>simp[Z5]at h
  |cons r0 rs=>
   cases r0 with
   |nil=>simp[Z5]at h
   |cons i r0=>
    simp only[Z5]at h;split at h
    · rename_i hs
      simp only[Bool.and_eq_true,List.all_eq_true]at hs;obtain⟨⟨⟨s1,s2⟩,s3⟩,s4⟩:=hs;obtain⟨τ,Kn,_⟩:=hr (i::r0) (by simp)
      simp only[oH]at Kn;cases hx:eJ B i with
      |none=>rw[hx]at Kn;simp at Kn
      |some x=>
       rw[hx]at Kn;simp only[Option.bind_some]at Kn;cases h1:bH P Γ (dstsOf ops.toList) x.1 x.2 σ with
       |none=>rw[h1]at Kn;simp at Kn
       |some sd=>
        refine OH hq hB Z7 hn Kl hc (by simpa using s2) s3 (fun y hy bU=> ?_) hx h1 (ih (hn.erase i) (fun hS=>xy.step hS hB Z7 hn hx h1 (Kl hS)) (nD hn hc s3) h fun r' Ak=> ?_)
        · have:=s4 y hy
          simp only[Bool.or_eq_true,beq_iff_eq]at this;rcases this with(h|h)|h
          · exact absurd h bU
          · exact .inl h
          · exact .inr h
        · obtain⟨r,hrm,rfl⟩:=List.mem_map.1 Ak
          obtain⟨pq,Wg,Ko⟩:=hr r hrm;have hh:=s1 r hrm;cases r with
          |nil=>simp at hh
          |cons k r=>
           have:k=i:=by simpa using hh
           subst this;simp only[oH,hx,Option.bind_some,h1]at Wg;exact⟨pq,Wg,Ko⟩
    · rename_i hs
      rw[List.all_eq_true]at h;intro j hj Zv;have hcj:=h j hj;rw[Zv]at hcj;simp only[Bool.not_true,Bool.false_or]at hcj
      -- some order begins with j
      have bU: ∃r,r∈(List.filterMap (fun r:List Nat=>if r.head? =some j then some r.tail else none) ((i::r0)::rs)):=by
       cases hf:(List.filterMap (fun r:List Nat=>if r.head? =some j then some r.tail else none) ((i::r0)::rs))with
       |nil=>
        rw[hf]at hcj;cases f<;>simp[Z5]at hcj
       |cons a aq=>exact⟨a,by simp⟩
      have back: ∀r',r'∈(List.filterMap (fun r:List Nat=>if r.head? =some j then some r.tail else none) ((i::r0)::rs))-> ∃τ,oH P Γ (dstsOf ops.toList) B (j::r') σ=some τ/\q τ:=fun r' Ak=>by
       obtain⟨r,hrm,hh⟩:=List.mem_filterMap.1 Ak;split at hh
       · rename_i hd
         obtain rfl:=Option.some.inj hh;cases r with
         |nil=>simp at hd
         |cons k r=>
          have:k=j:=by simpa using hd
          subst this;exact hr _ hrm
       · cases hh
      obtain⟨r1,hr1⟩:=bU;obtain⟨τ,Kn,_⟩:=back r1 hr1;simp only[oH]at Kn;cases hx:eJ B j with
      |none=>rw[hx]at Kn;simp at Kn
      |some x=>
       rw[hx]at Kn;simp only[Option.bind_some]at Kn;cases h1:bH P Γ (dstsOf ops.toList) x.1 x.2 σ with
       |none=>rw[h1]at Kn;simp at Kn
       |some sd=>
        refine⟨x,sd,rfl,h1,ih (hn.erase j) (fun hS=>xy.step hS hB Z7 hn hx h1 (Kl hS)) (nD hn hc Zv) hcj fun r' Ak=> ?_⟩
        obtain⟨pq,Wg,Ko⟩:=back r' Ak;simp only[oH,hx,Option.bind_some,h1]at Wg;exact⟨pq,Wg,Ko⟩
theorem qA: ∀(os:List Oper) (n i:Nat) (x:Nat×Oper),eJ (jZ P n os) i=some x->os[i]? =some x.2/\n<=x.1
 | [],_,_,_,h=>by simp[jZ,eJ]at h
 |o::os,n,0,x,h=>by simp only[jZ,eJ,Option.some.injEq]at h;subst h;exact⟨rfl,Nat.le_refl _⟩
 |o::os,n,i+1,x,h=>by simp only[jZ,eJ]at h;obtain⟨h1,h2⟩:=qA os _ i x h;exact⟨by simpa using h1,Nat.le_trans (V9 P o.op n) h2⟩
theorem si: ∀(os:List Oper) (n i j:Nat) (x y:Nat×Oper),eJ (jZ P n os) i=some x->eJ (jZ P n os) j=some y->i≠j->bN P x.2.op=true->bN P y.2.op=true->x.1≠y.1
 | [],_,_,_,_,_,h,_,_,_,_=>by simp[jZ,eJ]at h
 |o::os,n,0,0,x,y,_,_,h,_,_=>absurd rfl h
 |o::os,n,0,j+1,x,y,h,h',_,ha,_=>by
  simp only[jZ,eJ,Option.some.injEq]at h h';subst h;have:=(qA os _ j y h').2;have h2:iS P o.op n=n+1:=by unfold iS;rw[if_pos ha]
  show n≠y.1;omega
 |o::os,n,i+1,0,x,y,h,h',_,_,ha=>by
  simp only[jZ,eJ,Option.some.injEq]at h h';subst h';have:=(qA os _ i x h).2;have h2:iS P o.op n=n+1:=by unfold iS;rw[if_pos ha]
  show x.1≠n;omega
 |o::os,n,i+1,j+1,x,y,h,h',bU,ha,hb=>by simp only[jZ,eJ]at h h';exact si os _ i j x y h h' (by omega) ha hb
theorem AS: ∀(os:List Oper) (n k i:Nat) (x:Nat×Oper),eJ (jZ P n os) i=some x->(x.1,k+i,x.2)∈DD P n k os
 | [],_,_,_,_,h=>by simp[jZ,eJ]at h
 |o::os,n,k,0,x,h=>by simp only[jZ,eJ,Option.some.injEq]at h;subst h;simp[DD]
 |o::os,n,k,i+1,x,h=>by
  simp only[jZ,eJ]at h;have:=AS os _ (k+1) i x h;simp only[DD,List.mem_cons]
  right
  rwa [show k+1+i=k+(i+1) by omega]at this
theorem OI(sa:ag P Γ)(qX:w0.fix=Γ.fix){ops:Array Oper}(fF:tH nt ops=true){B:List (Nat×Oper)}(hB: ∀(i:Nat) (x:Nat×Oper),eJ B i=some x->ops[i]? =some x.2)
 (Z7: ∀(i j:Nat) (x y:Nat×Oper),eJ B i=some x->eJ B j=some y->i≠j->bN P x.2.op=true->bN P y.2.op=true->x.1≠y.1)
 (mE: ∀(i:Nat) (o:Oper),ops[i]? =some o-> ∀e∈o.after,Region.binds .any e=true->e.on<i) {q:St->Prop} {Q:Exit->Act->World->Prop} (hQ: ∀τ eG a' w',q τ->aJ N0 w0 nt τ eG a' w'->Q .normal a' w'):
 ∀(f fuel:Nat) (ca:Array Bool) {L:List Nat} {σ:St} {φ:List cZ} {a:Act} {w:World},L.length=f->f<=fuel->L.Nodup->(∀i,ca.getD i true=false ↔ i∈L)->(∀i∈L,i<ops.size)->
 aJ N0 w0 nt σ φ a w->(∀i∈L,∀x,eJ B i=some x->bN P x.2.op=true->φ[x.1]? =some .free)->AQ P Γ ops B q f L σ->ca.size=ops.size->wpAny P .any ops Q fuel ca a w:=by
 intro f;induction f with
 |zero=>
  intro fuel ca L σ φ a w hlen hfu hn hl kE hc hf hg hls
  have Gc:Region.ready .any ops ca=[]:=by
   rw[List.eq_nil_iff_forall_not_mem]
   intro i hi;have:=(hl i).1 (mem_ready.1 hi).1;rw[hg.1]at this;cases this
  cases fuel with
  |zero=>exact⟨Gc,hQ _ _ _ _ hg.2 hc⟩
  |succ fuel=>exact⟨fun _=>hQ _ _ _ _ hg.2 hc,fun i hi=>by rw[Gc]at hi;cases hi⟩
 |succ f ih=>
  intro fuel ca L σ φ a w hlen hfu hn hl kE hc hf hg hls;cases fuel with
  |zero=>omega
  |succ fuel=>
   have toReady: ∀i∈L,jz ops L i=true->i∈Region.ready .any ops ca:=fun i hi hr=>by
    obtain⟨o,ho,h1⟩:=jA hr;rw[mem_ready]
    refine⟨(hl i).2 hi,o,ho,fun e he hb=> ?_⟩
    have h2:=h1 e he hb
    have h3:ca.getD e.on true=true:=by
     cases hg:ca.getD e.on true
     · exact absurd ((hl e.on).1 hg) h2
     · rfl
    have h4:=mE i o ho e he hb;have h5:e.on<ca.size:=by rw[hls];have:=kE i hi;omega
    simpa[h5]using h3
   refine⟨fun HC=> ?_,fun i hi=> ?_⟩
   · exfalso
     -- the least of those that are left is ready
     have bU:L≠ []:=fun e=>by rw[e]at hlen;simp at hlen
     obtain⟨m,hm,yi⟩: ∃m∈L,∀y∈L,m<=y:=by
      clear hg hf hl hn hlen hfu toReady kE;induction L with
      |nil=>exact absurd rfl bU
      |cons x L ih2=>
       cases L with
       |nil=>exact⟨x,by simp,fun y hy=>by simp at hy;omega⟩
       |cons z L=>
        obtain⟨m,hm,yi⟩:=ih2 (by simp)
        by_cases hxm:x<=m
        · exact⟨x,by simp,fun y hy=>by
           rcases List.mem_cons.1 hy with rfl|hy
           · exact Nat.le_refl _
           · have:=yi y hy;omega⟩
        · exact⟨m,by simp[hm],fun y hy=>by
           rcases List.mem_cons.1 hy with rfl|hy
           · omega
           · exact yi y hy⟩
     have hms:=kE m hm;have:=toReady m hm (AR (Array.getElem?_eq_getElem hms) fun e he hb gW=>by have h1:=mE m _ (Array.getElem?_eq_getElem hms) e he hb;have h2:=yi _ gW;omega)
     rw[HC]at this;cases this
   · obtain⟨hun,oi,Le,gZ⟩:=mem_ready.1 hi
     have hiL:=(hl i).1 hun
     have hri:jz ops L i=true:=AR Le fun e he hb gW=>by
      have h1:=gZ e he hb;have h2:=(hl e.on).2 gW;have h4:=mE i oi Le e he hb;have h5:e.on<ca.size:=by rw[hls];have:=kE i hiL;omega
      simp[h5]at h1 h2;rw[h1]at h2;cases h2
     obtain⟨x,sd,hx,h1,hg1⟩:=hg i hiL hri;have We:ops[i]? =some x.2:=hB i x hx;refine sg sa qX hc fF (x:=(x.1,i,x.2)) We (L:=((L.erase i).filterMap fun j=>(eJ B j).map fun y=>(y.1,j,y.2))) (fun ha=>hf i hiL x hx ha) (fun y hy ha=> ?_) (fun y hy ha hb=> ?_) h1 fun eG a' w' u4 Q1=> ?_
     · obtain⟨j,hj,zy⟩:=List.mem_filterMap.1 hy
       obtain⟨y',zx,rfl⟩:=Option.map_eq_some_iff.1 zy;exact hf j (List.mem_of_mem_erase hj) y' zx ha
     · obtain⟨j,hj,zy⟩:=List.mem_filterMap.1 hy
       obtain⟨y',zx,rfl⟩:=Option.map_eq_some_iff.1 zy;have Th:j≠i:=fun e=>by subst e;exact absurd hj (List.Nodup.not_mem_erase hn)
       exact Z7 j i y' x zx hx Th hb ha
     · refine ih fuel (ca.setIfInBounds i true) (L:=L.erase i) (by rw[List.length_erase_of_mem hiL];omega) (by omega) (hn.erase i) ?_ (fun j hj=>kE j (List.mem_of_mem_erase hj)) u4 (fun j hj y hy ha=>Q1 (y.1,j,y.2) (List.mem_filterMap.2 ⟨j,hj,by rw[hy];rfl⟩) ha) hg1 (by simp[hls])
       intro j;have his:i<ca.size:=by rw[hls];exact kE i hiL
       by_cases vw:i=j
       · subst vw
         constructor
         · intro h;simp[his]at h
         · intro h;exact absurd h (List.Nodup.not_mem_erase hn)
       · rw[getD_set_ne true vw,hl j,List.mem_erase_of_ne (Ne.symm vw)]
theorem Gd{ds:List (Option Tmp)}{B:List (Nat×Oper)}{q:St->Prop}: ∀{os:List (List Nat)},rr P Γ ds B σ q os-> ∀r∈os,∃τ,oH P Γ ds B r σ=some τ/\q τ
 | [],_,r,hr=>by cases hr
 |o::os,h,r,hr=>by
  obtain⟨⟨τ,h1,h2⟩,h3⟩:=h;rcases List.mem_cons.1 hr with rfl|hr
  · exact⟨τ,h1,h2⟩
  · exact Gd h3 r hr
theorem tI(sa:ag P Γ)(qX:w0.fix=Γ.fix)(hm:P.follows .mixedOrders=true)(h:aJ N0 w0 nt σ φ a w){id:Nat}{ops:Array Oper}(fF:tH nt ops=true){os:List (List Nat)}(DS:OD P Γ ops os=true){q:St->Prop}
 (hr:rr P Γ (dstsOf ops.toList) (jZ P σ.H.length ops.toList) (pre P ops.toList σ) q os) {Q:Exit->Act->World->Prop} (hQ: ∀τ eG a' w',q τ->aJ N0 w0 nt τ eG a' w'->Q .normal a' w'):(Code.region id ops true).wp P Q a w:=by
 have V0:ew w {w with drawn:=w.drawn+1}:=ew.drew w;obtain⟨eG,hc,hf,_⟩:=qz (P:=P) ops.toList 0 (h.S7 V0)
 refine wp_region_any hm ?_;unfold OD at DS;rw[Bool.and_eq_true]at DS;obtain⟨mE,hcov⟩:=DS;rw[List.all_eq_true]at mE;have hB: ∀(i:Nat) (x:Nat×Oper),eJ (jZ P σ.H.length ops.toList) i=some x->ops[i]? =some x.2:=fun i x hx=>by have:=(qA _ _ _ _ hx).1;simpa using this
 -- whatever the slots' history, all that is asked is asked of what the state says
 have hg:=Tu (q:=fun τ=> ∃pq,dq pq τ/\q pq) (B:=jZ P σ.H.length ops.toList) (fun hs ⟨pq,h1,h2⟩=>⟨pq,h1.trans hs,h2⟩) hB (fun i j x y h1 h2 h3 h4 h5=>si _ _ i j x y h1 h2 h3 h4 h5) (List.nodup_range) (fun _ i _ x hx ha=>by
  have h1:=AS ops.toList σ.H.length 0 i x hx;exact Ld hc (hf _ h1 (by have:cv x.2.op=true:=ha;revert this;cases x.2.op<;>simp[cv,bN]))) (fun m o ho hm=>by
  have:=(Array.getElem?_eq_some_iff.1 ho).1;exact absurd (List.mem_range.2 this) hm) hcov (fun r Ak=>by obtain⟨τ,h1,h2⟩:=Gd hr r Ak;exact⟨τ,h1,τ,dq.refl τ,h2⟩)
 refine OI sa qX fF hB (fun i j x y h1 h2 h3 h4 h5=>si _ _ i j x y h1 h2 h3 h4 h5) (fun i o ho e he hb=>by
  have h1:=mE i (by simpa using(Array.getElem?_eq_some_iff.1 ho).1)
  rw[ho]at h1;simp only[List.all_eq_true]at h1;have h2:=h1 e (by simpa using he)
  simpa[hb]using h2) (fun τ φ'' a'' w'' ⟨pq,h1,h2⟩ u4=>hQ pq φ'' a'' w'' h2 (u4.sim h1.symm)) ops.size ops.size _ (by simp) (Nat.le_refl _) List.nodup_range ?_ (fun i hi=>List.mem_range.1 hi) hc (fun i hi x hx ha=> ?_) hg (by simp)
 · intro i
   by_cases hi:i<ops.size<;>simp[hi]
 · have:=AS ops.toList σ.H.length 0 i x hx
   exact hf _ this ha
end
end Go.bJ
