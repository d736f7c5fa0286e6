/- What the laws of this claim rest on: the abstract executor, its soundness, and what the functions compute on pure data. No condition. -/
import Derived.Test.YtfnohjheonlnmaaGreatU3
import Derived.Deep.Slices
import Derived.OpenShut
noncomputable section
set_option linter.unusedVariables false
set_option linter.unusedSimpArgs false
namespace Go.dF
open Go.RowKit
mutual
theorem A.xA{m n:Nat}: ∀x:A,x.under m=true->x.mem n=true->n<m
 | .any,_,h=>by simp[A.mem]at h
 | .int _ _,_,h=>by simp[A.mem]at h
 | .bool _,_,h=>by simp[A.mem]at h
 | .str _,_,h=>by simp[A.mem]at h
 | .ay _,_,h=>by simp[A.mem]at h
 | .clip _,_,h=>by simp[A.mem]at h
 | .iU _,_,h=>by simp[A.mem]at h
 | .d_,_,h=>by simp[A.mem]at h
 | .Ab,_,h=>by simp[A.mem]at h
 | .emp _,_,h=>by simp[A.mem]at h
 | .ref _ _,hu,h=>by simp[A.under]at hu;simp[A.mem]at h;omega
 | .mu _ _ _,hu,h=>by simp[A.under]at hu;simp[A.mem]at h;omega
 | .row _ _ _ _ _,hu,h=>by simp[A.under]at hu;simp[A.mem]at h;omega
 | .agg cs,hu,h=>A.uD cs (by simpa only[A.under]using hu) (by simpa only[A.mem]using h)
 | .fn _ cs,hu,h=>A.uD cs (by simpa only[A.under]using hu) (by simpa only[A.mem]using h)
 | .fq cs,hu,h=>A.uD cs (by simpa only[A.under]using hu) (by simpa only[A.mem]using h)
theorem A.uD{m n:Nat}: ∀cs:List A,A.under.my m cs=true->A.mem.lW n cs=true->n<m
 | [],_,h=>by simp[A.mem.lW]at h
 |c::cs,hu,h=>by
  simp only[A.under.my,ak]at hu;simp only[A.mem.lW,bE]at h;rcases h with h|h
  · exact A.xA c hu.1 h
  · exact A.uD cs hu.2 h
end
section
variable{P:Program}{Γ:aW}{N0:Nat->Prop}{w0:pU}{nt:Nat}{σ τ:St}{φ:List ia}{a:Act}{w:World}
theorem SM{m:Nat}{s:List (Nat×A)}: ∀{r:List (Nat×A)},leS m s r-> ∀d,look r d= .any\/(look r d=look s d/\(look r d).under m=true)
 | [],_,d=> .inl rfl
 |(e,y)::r,h,d=>by
  simp only[leS]at h;simp only[look]
  split
  · rename_i he;subst he;exact .inr ⟨h.1.1.symm,h.1.2⟩
  · exact SM h.2 d
theorem Zc{m:Nat}: ∀{H G:List Obj},yp m H G-> ∀(n:Nat) (y:Obj),G[n]? =some y-> ∃x,H[n]? =some x/\Y4 m x y
 | [],[],_,n,y,h=>by simp at h
 |_::_,[],_,n,y,h=>by simp at h
 | [],_::_,hl,_,_,_=>by simp[yp]at hl
 |x::H,y::G,hl,n,z,h=>by
  simp only[yp]at hl;cases n with
  |zero=>simp at h;subst h;exact⟨x,rfl,hl.1⟩
  |succ n=>simpa using Zc hl.2 n z (by simpa using h)
theorem Zd{m:Nat}: ∀{H G:List Obj},yp m H G->G.length<=H.length
 | [],[],_=>by simp
 |_::_,[],_=>by simp
 | [],_::_,hl=>by simp[yp]at hl
 |x::H,y::G,hl=>by simp only[yp]at hl;have:=Zd hl.2;simp;exact this
theorem Ze{m:Nat}: ∀{xs ys:List A},RI m xs ys-> ∀(i:Nat) (y:A),ys[i]? =some y-> ∃x,xs[i]? =some x/\(y= .any\/(x=y/\y.under m=true))
 | [],[],_,i,y,h=>by simp at h
 | [],_::_,hl,_,_,_=>by simp[RI]at hl
 |_::_,[],hl,_,_,_=>by simp[RI]at hl
 |x::xs,y::ys,hl,i,z,h=>by
  simp only[RI]at hl;cases i with
  |zero=>simp at h;subst h;exact⟨x,rfl,hl.1⟩
  |succ i=>simpa using Ze hl.2 i z (by simpa using h)
theorem cn.le_ext(_h:cn N0 w0 nt σ φ a w)(m:Nat):Ext (fun n=>n<m) (bB N0 φ w) (bB N0 (φ.take m) w):=by
 have ux: ∀n:Nat,(φ.take m)[n]? =if n<m then φ[n]? else none:=fun n=>by rw[eC]
 exact{
  size:=ai _
  RX:=fun b _ hn=>⟨by
   rintro(h0|⟨n,k,hm⟩)
   · exact hn (.inl h0)
   · rw[ux]at hm
     split at hm
     · exact hn (.inr ⟨n,k,hm⟩)
     · simp at hm,rfl⟩
  refs:=fun n o hk hm _=>by show(φ.take m)[n]? =some o;rw[ux,if_pos hk];exact hm
  own:=fun m b k c e fr _ hm hc=>⟨c,fr,hc,rfl⟩}
theorem cn.le(h:cn N0 w0 nt σ φ a w){nf:Nat}(RJ: ∀n:Nat,w0.fix n=true->n<w0.φ0.length->n<nf)(hl:nf<=τ.H.length)(hle:σ.le τ):cn N0 w0 nt τ (φ.take τ.H.length) a w:=by
 obtain⟨hS,hH⟩:=hle;have ux: ∀m:Nat,(φ.take τ.H.length)[m]? =if m<τ.H.length then φ[m]? else none:=fun m=>by rw[eC]
 have DS: ∀m b k:Nat,(φ.take τ.H.length)[m]? =some (ia.loc b k)->φ[m]? =some (.loc b k):=fun m b k hm=>by
  rw[ux]at hm;split at hm
  · exact hm
  · simp at hm
 have iW:Ext (fun m=>m<τ.H.length) (bB N0 φ w) (bB N0 (φ.take τ.H.length) w):={
  size:=ai _
  RX:=fun b _ hn=>⟨by
   rintro(h0|⟨m,k,hm⟩)
   · exact hn (.inl h0)
   · exact hn (.inr ⟨m,k,DS m b k hm⟩),rfl⟩
  refs:=fun m o hk hm _=>by show(φ.take τ.H.length)[m]? =some o;rw[ux,if_pos hk];exact hm
  own:=fun m b k c e fr _ hm hc=>⟨c,fr,hc,rfl⟩}
 exact{
  gj:=fun d=>by
   rcases SM hS d with hd|⟨hd,hu⟩
   · rw[hd];simp only[bU]
   · have:=h.gj d
     rw[<-hd]at this;exact bU.mono iW _ _ this fun n hn=>A.xA _ hu hn
  size:=h.size
  defers:=h.defers
  len:=by
   have:=Zd hH;rw[aK,h.len]
   omega
  gp:=fun m o p hm hp=>by
   rw[dQ]at hm;obtain⟨x,hx,RM⟩:=Zc hH m o hm
   have yu:φ[m]? =some p:=by
    rw[ux]at hp;split at hp
    · exact hp
    · simp at hp
   have kQ:=h.gp m x p (by rw[dQ];exact hx) yu;cases x with
   |row k es=>
    cases o with
    |box ys=>simp[Y4]at RM
    |row k' ys=>
     simp only[Y4]at RM;obtain⟨rfl,rfl⟩:=RM;exact cb.mono iW kQ (fun b k _ c e fr hh=>hh) (fun cs F'=>by cases F')
   |box xs=>
    cases o with
    |row k ys=>simp[Y4]at RM
    |box ys=>
     simp only[Y4]at RM;cases p with
     |nil=>simp[cb]at kQ
     |free=>simp[cb]at kQ
     |loc b k=>
      simp only[cb]at kQ⊢;refine⟨kQ.1,dc.2 fun i y hy=> ?_⟩
      obtain⟨z,hz,hzy⟩:=Ze RM i y hy;obtain⟨v,hv,h1,hr⟩:=dc.1 kQ.2 i z hz;refine⟨v,hv,h1, ?_⟩
      rcases hzy with rfl|⟨rfl,hu⟩
      · simp only[bU]
      · exact bU.mono iW _ _ hr fun n hn=>A.xA _ hu hn
  own:=fun m b k hm=>h.own m b k (DS m b k hm)
  inj:=fun m m' b k k' hm oo=>h.inj m m' b k k' (DS m b k hm) (DS m' b k' oo)
  n0:=h.n0
  qE:=fun n p hf hp dR=>by
   have:=RJ n hf (aA.1 hp).1;rw[ux,if_pos (by omega)]
   exact h.qE n p hf hp dR
  below:=h.below}
theorem cn.reslot(h:cn N0 w0 nt σ φ a w){d:Nat}{x:A}(hx:bU (bB N0 φ w) x (a.tmps.getD d undef)):cn N0 w0 nt ⟨(d,x)::σ.s,σ.H⟩ φ a w:=
 {h with
  gj:=fun t=>by
   simp only[look]
   split
   · rename_i e;subst e;exact hx
   · exact h.gj t}
theorem cn.addNil(h:cn N0 w0 nt σ φ a w)(k:Nat):cn N0 w0 nt ⟨σ.s,σ.H++[.row k []]⟩ (φ++[.nil]) a w:=by
 have h1:=h.Zb;have h2:=h1.newNil (n:=σ.H.length) (k:=k) (by rw[<-h.len];simp)
 have e1:(St.gD {σ with H:=σ.H++[.row 0 []]} σ.H.length (.row k []))=⟨σ.s,σ.H++[.row k []]⟩:=by simp[St.gD,ji]
 have e2:(φ++[ia.free]).set σ.H.length .nil=φ++[.nil]:=by rw[<-h.len];simp
 rw[e1,e2]at h2;exact h2
theorem Nn{ρ:List Nat}{m:Nat}: ∀(s:List (Nat×A)) (d:Nat),look (s.map fun p=>(p.1,p.2.back ρ m)) d=(look s d).back ρ m
 | [],d=>by simp[look,A.back]
 |(e,x)::s,d=>by
  simp only[aS,look]
  split
  · rfl
  · exact Nn s d
theorem cn.perm{nf:Nat}(RJ: ∀n:Nat,w0.fix n=true->n<w0.φ0.length->n<nf)(h:cn N0 w0 nt σ φ a w){ρ:List Nat}(hl:σ.H.length=ρ.length)(vp:ρ.Nodup)(bo: ∀n∈ρ,n<ρ.length)(hon: ∀n,n<ρ.length->n∈ρ)
 (hk: ∀i,i<nf->mw ρ ρ.length i=i):cn N0 w0 nt (GI ρ σ) (jC ρ φ φ) a w:=by
 have xw:φ.length=σ.H.length:=h.len;have hle:ρ.length<=φ.length:=by omega
 have aH: ∀n∈ρ,n<φ.length:=fun n hn=>by have:=bo n hn;omega
 have ux: ∀i,(jC ρ φ φ)[mw ρ σ.H.length i]? =φ[i]? :=fun i=>by rw[<-xw];exact pD hle vp aH i
 have rM: ∀(j:Nat) (p:ia),(jC ρ φ φ)[j]? =some p-> ∃i,j=mw ρ σ.H.length i/\φ[i]? =some p:=fun j p hj=>by
  rcases DU hle vp aH hj with⟨i,h1,h2⟩|⟨h1,h2,_⟩
  · exact⟨i,by rw[<-xw];exact h1,h2⟩
  · exact absurd (hon j (by omega)) h1
 have hN: ∀b,¬(bB N0 φ w).N b-> ¬(bB N0 (jC ρ φ φ) w).N b:=fun b hb=>by
  rintro(h0|⟨j,k,hj⟩)
  · exact hb (.inl h0)
  · obtain⟨i,_,hi⟩:=rM j _ hj
    exact hb (.inr ⟨i,k,hi⟩)
 have Wa: ∀(i:Nat) (p:ia),φ[i]? =some p->(jC ρ φ φ)[mw ρ σ.H.length i]? =some p:=fun i p hp=>by rw[ux];exact hp
 exact{
  gj:=fun d=>by
   simp only[GI]
   rw[Nn]
   exact Aq (El:=bB N0 φ w) (E:=bB N0 (jC ρ φ φ) w) rfl hN Wa _ _ (h.gj d)
  size:=h.size
  defers:=h.defers
  len:=by
   simp only[GI]
   rw[vU,re hle,re (by simp;omega),aa];omega
  gp:=fun j o p ho hp=>by simp only[GI]at ho;rw[dQ,vU]at ho;obtain⟨i,rfl,hi⟩:=rM j p hp;have:=pD (ns:=ρ) (os:=σ.H.map (Obj.back ρ σ.H.length)) (xs:=σ.H) (by simp;omega) vp (fun n hn=>by have:=bo n hn;omega) i;rw[this,aT]at ho;obtain⟨o',B5,rfl⟩:=aM.1 ho;exact DV (El:=bB N0 φ w) (E:=bB N0 (jC ρ φ φ) w) rfl hN Wa (h.gp i o' p (by rw[dQ];exact B5) hi)
  own:=fun n b k hn=>by obtain⟨i,_,hi⟩:=rM n _ hn;exact h.own i b k hi
  inj:=fun n m b k k' hn hm=>by obtain⟨i,rfl,hi⟩:=rM n _ hn;obtain⟨j,rfl,hj⟩:=rM m _ hm;rw[h.inj i j b k k' hi hj]
  n0:=h.n0
  qE:=fun n p hf hp dR=>by
   have h1:=RJ n hf (aA.1 hp).1;have h2:=hk n h1;rw[<-hl]at h2;have h3:=Wa n p (h.qE n p hf hp dR)
   rw[h2]at h3;exact h3
  below:=h.below}
theorem cn.to{nf:Nat}(RJ: ∀n:Nat,w0.fix n=true->n<w0.φ0.length->n<nf){σ τ:St}(ht:St.to nf σ τ): ∀{φ:List ia},cn N0 w0 nt σ φ a w-> ∃j4,cn N0 w0 nt τ j4 a w:=by
 induction ht with
 |le hl hle=>intro φ h;exact⟨_,h.le RJ hl hle⟩
 | @nil σ τ d k hd _ ih=>
  intro φ h;have h1:=h.addNil k;have hs:=h.gj d;rw[hd]at hs;simp only[bU]at hs;refine ih (h1.reslot (d:=d) (x:= .row σ.H.length 0 k 0 false) ?_)
  rw[hs]
  simp only[bU]
  exact .inl ⟨.nil,by show(φ++[ia.nil])[σ.H.length]? =_;rw[<-h.len];simp,by simp,trivial,fun _=>trivial,none,rfl⟩
 | @nilb σ τ m i k cs hm hi _ ih=>
  intro φ h;have h1:=h.addNil k;have hmlt:m<σ.H.length:=by rw[dQ]at hm;exact(aA.1 hm).1
  have hφm:φ[m]? =some (φ[m]'(by rw[h.len];exact hmlt)):=ae _
  have e1:St.gD ⟨σ.s,σ.H++[.row k []]⟩ m (.box (fE cs i (.row σ.H.length 0 k 0 false)))=⟨σ.s,qe σ.H m (.box (fE cs i (.row σ.H.length 0 k 0 false)))++[.row k []]⟩:=by
   simp only[St.gD,ji]
   rw[List.set_append_left _ _ hmlt]
  have h2:=h1.setObj (n:=m) (o:= .box (fE cs i (.row σ.H.length 0 k 0 false))) (fun p hp=>by
   have kQ:=h1.gp m (.box cs) p (by rw[dQ,ck hmlt,<-dQ];exact hm) hp;cases p with
   |nil=>simp[cb]at kQ
   |free=>simp[cb]at kQ
   |loc b k'=>
    simp only[cb]at kQ⊢;refine⟨kQ.1,dc.2 fun j y hy=> ?_⟩
    rw[lT,cY]at hy;split at hy
    · rename_i e
      subst e;split at hy
      · simp at hy
        subst hy;obtain⟨v,hv,sX,hr⟩:=dc.1 kQ.2 i _ hi;refine⟨v,hv,sX, ?_⟩
        simp only[bU]at hr;subst hr;simp only[bU]
        exact .inl ⟨.nil,by show(φ++[ia.nil])[σ.H.length]? =_;rw[<-h.len];simp,by simp,trivial,fun _=>trivial,none,rfl⟩
      · simp at hy
    · exact dc.1 kQ.2 j y hy)
  rw[e1]at h2;exact ih h2
 | @wk σ τ d es hd _ ih=>
  intro φ h;have hs:=h.gj d;rw[hd]at hs;refine ih (h.reslot (d:=d) (x:= .ay es) ?_)
  simp only[bU]at hs⊢;obtain⟨hp,a,hv,hl⟩:=hs;exact⟨hp,a,_,hv,ai _,hl⟩
 | @wkb σ τ m cs hm _ ih=>
  intro φ h
  exact ih (h.setObj (n:=m) (o:= .box (cs.map nQ)) (fun p hp=>by
   have kQ:=h.gp m (.box cs) p hm hp;cases p with
   |nil=>simp[cb]at kQ
   |free=>simp[cb]at kQ
   |loc b k'=>
    simp only[cb]at kQ⊢;refine⟨kQ.1,dc.2 fun j y hy=> ?_⟩
    rw[aT]at hy;obtain⟨x,hx,rfl⟩:=aM.1 hy;obtain⟨v,hv,h1,hr⟩:=dc.1 kQ.2 j x hx;exact⟨v,hv,h1,Na hr⟩))
 | @perm σ τ ρ hl vp bo hon hk _ ih=>
  intro φ h;exact ih (h.perm RJ hl vp bo hon hk)
 | @xk σ τ ρ fc vp hH yR _ ih=>
  intro φ h
  exact ih (h.frozen vp hH (fun n hn hf=>by
   rcases fT n w0.φ0.length with bo|hge
   · have:=RJ n hf bo
     have:=yR n hn;omega
   · exact hge)).1
def SN(N0:Nat->Prop)(w0:pU)(nt:Nat)(Q:Ex->St->Prop):Exit->Act->World->Prop
 | .normal,a,w=> ∃τ φ,Q .normal τ/\cn N0 w0 nt τ φ a w
 | .exit i,a,w=> ∃τ φ,Q (.exit i) τ/\cn N0 w0 nt τ φ a w
 | .ret,a,w=> ∃τ φ,Q .ret τ/\cn N0 w0 nt τ φ a w
 |_,_,_=>False
theorem Np(yU:aN P Γ)(z_:w0.fix=Γ.fix)(RJ: ∀n:Nat,w0.fix n=true->n<w0.φ0.length->n<Γ.nf)(hm:P.follows .mixedOrders=true): ∀(c:Code),aQ P Γ nt c=true-> ∀(Q:Ex->St->Prop) (σ:St) (φ:List ia) (a:Act) (w:World),cn N0 w0 nt σ φ a w->lS P Γ c Q σ->c.wp P (SN N0 w0 nt Q) a w:=by
 intro c;induction c with
 |skip=>intro _ Q σ φ a w h hw;exact wp_skip ⟨σ,φ,by simpa only[lS]using hw,h⟩
 |label l=>intro _ Q σ φ a w h hw;exact wp_label ⟨σ,φ,by simpa only[lS]using hw,h⟩
 |exit id=>intro _ Q σ φ a w h hw;exact wp_exit ⟨σ,φ,by simpa only[lS]using hw,h⟩
 |ret=>intro _ Q σ φ a w h hw;exact wp_ret ⟨σ,φ,by simpa only[lS]using hw,h⟩
 |seq x y ihx ihy=>
  intro mq Q σ φ a w h hw;simp only[aQ,ak]at mq;simp only[lS]at hw;refine wp_seq (wp_mono (ihx mq.1 _ σ φ a w h hw) fun e a' w' hq=> ?_)
  cases e with
  |normal=>
   obtain⟨τ,j4,hq,hc⟩:=hq;exact ihy mq.2 _ τ j4 a' w' hc hq
  |exit i=>exact hq
  |ret=>exact hq
  |goto l=>exact hq
  |panic c=>exact hq
  |outgrown=>exact hq
 |cond c x y ihx ihy=>
  intro mq Q σ φ a w h hw;simp only[aQ,ak]at mq;simp only[lS,qp]at hw;obtain⟨t,ht,h1,h2⟩:=hw;have EB:=h.ev c;rw[ht]at EB;simp only[bU]at EB;exact wp_cond_split EB (fun e=>ihx mq.1 Q σ φ a w h (h1 e)) (fun e=>ihy mq.2 Q σ φ a w h (h2 e))
 |block id x ih=>
  intro mq Q σ φ a w h hw;simp only[aQ]at mq;simp only[lS]at hw;refine wp_block (wp_mono (ih mq _ σ φ a w h hw) fun e a' w' hq=> ?_)
  cases e with
  |normal=>exact hq
  |exit i=>
   obtain⟨τ,j4,hq,hc⟩:=hq;simp only[uh]at hq;simp only[Exit.inBlock]
   split
   · rename_i e;rw[if_pos e]at hq;exact⟨τ,j4,hq,hc⟩
   · rename_i e;rw[if_neg e]at hq;exact⟨τ,j4,hq,hc⟩
  |ret=>exact hq
  |goto l=>exact hq
  |panic c=>exact hq
  |outgrown=>exact hq
 |loop x ih=>
  intro mq Q σ φ a w h hw;simp only[aQ]at mq;simp only[lS]at hw;obtain⟨ι,inv,μ,⟨xW,h0⟩,iB⟩:=hw;intro b k cs
  have key: ∀n (i:ι) (σ:St) (φ:List ia) (a:Act) (w:World),μ i=n->cn N0 w0 nt (inv i) φ a w->
   ∃e a' w',SN N0 w0 nt Q e a' w'/\Arrives P (lone (b.at a (.code x:: .inLoop x::k)) cs w) b k cs e a' w':=by
   intro n;induction n using Nat.strongRecOn with
   |_ n ihn=>
    intro i σ φ a w hn hc;obtain⟨e,a₁,w₁,hq,harr⟩:=ih mq _ (inv i) φ a w hc (iB i) b (.inLoop x::k) cs;cases e with
    |normal=>
     obtain⟨τ,j4,⟨j,hle,bo⟩,BK⟩:=hq;obtain⟨φ₂,hc₂⟩:=cn.to RJ hle BK;obtain⟨e₂,a₂,w₂,hq₂,harr₂⟩:=ihn (μ j) (hn▸bo) j τ φ₂ a₁ w₁ rfl hc₂;exact⟨e₂,a₂,w₂,hq₂,.of_steps (Steps.trans harr (.one step_inLoop)) harr₂⟩
    |exit id=>exact⟨.exit id,a₁,w₁,(show SN N0 w0 nt Q (.exit id) a₁ w₁ from hq),.pass (x:= .inLoop x) rfl (fun _ _=> .inl (by simp)) harr⟩
    |ret=>exact⟨.ret,a₁,w₁,(show SN N0 w0 nt Q .ret a₁ w₁ from hq),.pass (x:= .inLoop x) rfl (fun _ _=> .inl (by simp)) harr⟩
    |goto l=>exact hq.elim
    |panic c=>exact hq.elim
    |outgrown=>exact hq.elim
  obtain⟨φ₀,hc₀⟩:=cn.to RJ h0 h;obtain⟨e,a',w',hq,harr⟩:=key _ xW σ φ₀ a w rfl hc₀;exact⟨e,a',w',hq,.of_steps (.one step_loop) harr⟩
 |region id ops d=>
  intro mq Q σ φ a w h hw;simp only[aQ,ak]at mq;simp only[lS]at hw;obtain⟨⟨hok1,hokf⟩,KL⟩:=mq
  have key: ∀(σ:St) (φ:List ia),cn N0 w0 nt σ φ a w->VU P Γ (GJ (Γ.fS id)) ops Q σ->(Code.region id ops d).wp P (SN N0 w0 nt Q) a w:=fun σ φ h hw=>by
   cases ho:GJ (Γ.fS id)with
   |nil=>
    rw[ho]at hw KL;simp only[nb,if_true,bE,bT]at KL;obtain⟨τ,hr,hQ⟩:=hw;exact OT yU z_ hm h hok1 (fun e=>KL.resolve_left (by simp[e])) hr fun j4 a' w' hc=>⟨τ,j4,hQ,hc⟩
   |cons o os=>
    rw[ho]at hw KL;simp only[mz,az,if_false,ak]at KL;obtain⟨rfl,hok3⟩:=KL;exact Az yU z_ hm h hok1 hok3 hw fun τ j4 a' w' hq hc=>⟨τ,j4,hq,hc⟩
  unfold Kz at hw;unfold frzOK at hokf;cases hf:R6 (Γ.fS id)with
  |none=>rw[hf]at hw;exact key σ φ h hw
  |some ρ=>
   rw[hf]at hw hokf;simp only[ak,decide_eq_true_iff,cw]at hokf;obtain⟨fc,hH,hw⟩:=hw
   exact key _ _ (h.frozen (hokf.1.filter _) hH (fun n hn hf=>by
    have hn:=(aP.1 hn).1;rcases fT n w0.φ0.length with bo|hge
    · have:=RJ n hf bo
      have:=hokf.2 n hn;omega
    · exact hge)).1 hw
 |_=>intro _ Q σ φ a w h hw;simp only[lS]at hw
def OV(tmps:Array Value):ResultVar->Sem Value
 | .tmp t=>pure (tmps.getD t undef)
 | .cell c t=>do loadVar t (<-asAddr (tmps.getD c undef))
theorem Hp(fn:Func)(tmps:Array Value):results fn tmps=(do
 let vs<-fn.results.mapM (OV tmps)
 pure (if h:vs.size=1 then vs[0]else .tuple vs)):=rfl
theorem Wn(h:cn N0 w0 nt σ φ a w){r:ResultVar}{x:A}(hr:R7 P σ r=some x):
 ∃v,(OV a.tmps r).run P w= .ok v w/\bU ⟨N0,[],w⟩ x v:=by
 cases r with
 |tmp t=>
  simp only[R7]at hr;exact⟨_,by simp only[OV,Sem.run_pure],(rL h hr (h.gj t) (N':=N0) ⟨fun b hb=> .inl hb,.inr (uo h)⟩).1⟩
 |cell c t=>
  simp only[R7]at hr;unfold resC at hr;split at hr
  · rename_i n off hl
    split at hr
    · rename_i cs ho
      cases hld:pc P t (cs.drop off)with
      |none=>simp[hld]at hr
      |some y=>
       simp only[hld,aY]at hr;have hs:=h.gj c;rw[hl]at hs;simp only[bU]at hs;obtain⟨b,k,kP,hv⟩:=hs;have kQ:=h.gp n _ _ ho kP;simp only[cb]at kQ;have hm:=nS (n:=off) kQ.2;rw[bY]at hm;obtain⟨v,mo,fY,_⟩:=vF (E:=bB N0 φ w) hm hld;refine⟨v, ?_,(rL h hr fY (N':=N0) ⟨fun b hb=> .inl hb,.inr (uo h)⟩).1⟩
       simp only[OV]
       rw[hv]
       simp only[asAddr,Sem.run_bind,Sem.run_pure,Result.andThen_ok]
       exact mo
    · simp at hr
  · simp at hr
theorem Hq(h:cn N0 w0 nt σ φ a w): ∀{rs:List ResultVar} {xs:List A},BV P σ rs=some xs->
 ∃vs:List Value,(rs.mapM (OV a.tmps)).run P w= .ok vs w/\cH ⟨N0,[],w⟩ xs vs
 | [],xs,hr=>by simp only[BV,bf]at hr;subst hr;exact⟨[],by simp,by simp[cH]⟩
 |r::rs,xs,hr=>by
  simp only[BV]at hr;cases h1:R7 P σ r with
  |none=>simp[h1]at hr
  |some x=>
   cases h2:BV P σ rs with
   |none=>simp[h1,h2]at hr
   |some ys=>
    simp[h1,h2]at hr;subst hr;obtain⟨v,g1,g2⟩:=Wn h h1;obtain⟨vs,g3,g4⟩:=Hq h h2;refine⟨v::vs, ?_,by simp only[cH];exact⟨v,vs,rfl,g2,g4⟩⟩
    simp only[sA,Sem.run_bind,g1,Result.andThen_ok,Sem.run_pure,g3]
theorem KM(h:cn N0 w0 nt σ φ a w){fn:Func}{xs:List A}(hr:BV P σ fn.results.toList=some xs):
 ∃v,(results fn a.tmps).run P w= .ok v w/\bU ⟨N0,[],w⟩ (oD xs) v:=by
 obtain⟨vs,h1,h2⟩:=Hq h hr;refine⟨if h:vs.toArray.size=1 then vs.toArray[0]else .tuple vs.toArray, ?_, ?_⟩
 · rw[Hp,Sem.run_bind,lF,Sem.run_map]
   rw[h1]
   simp
 · obtain⟨g1,g2⟩:=db.1 h2
   cases xs with
   |nil=>
    have:vs=[]:=aV.1 (by simpa using g1.symm)
    subst this;simp[oD,bU,cH]
   |cons x xs=>
    cases xs with
    |nil=>
     simp only[cH]at h2;obtain⟨v,qC,rfl,hx,rfl⟩:=h2;simpa[oD]using hx
    |cons y ys=>
     rw[dif_neg (by simp at g1⊢;omega)]
     simp only[oD,bU]
     exact⟨vs,rfl,h2⟩
theorem wb: ∀(args:List A) (i d:Nat),look (number i args) d=if i<=d/\d<i+args.length then args.getD (d-i) .any else .any
 | [],i,d=>by simp[number,look]
 |x::xs,i,d=>by
  simp only[number,look,aG]
  split
  · rename_i h;subst h;simp
  · rename_i h
    rw[wb xs (i+1) d]
    by_cases hd:i+1<=d/\d<i+1+xs.length
    · rw[if_pos hd,if_pos (by omega),show d-i=(d-(i+1))+1 by omega]
      simp
    · rw[if_neg hd,if_neg (by omega)]
theorem ah(yU:aN P Γ)(hm:P.follows .mixedOrders=true){f:FuncId}{fn:Func}{c:Code}(hf:P.funcs[f]? =some fn)(hb:fn.body=some c){args:List A}(hlen:args.length<=fn.ntmps)
 (mq:aQ P Γ fn.ntmps c=true) {vo:A->Prop} (hw:lS P Γ c (bodyA P fn vo) (GK args)):bp P f args vo:=by
 intro N w vs hN fY;obtain⟨g1,g2⟩:=db.1 fY;refine calls_of_wp hf hb ?_
 have iW:Ext (fun _=>True) ⟨N,[],w⟩ (bB N [] w):={
  size:=ai _
  RX:=fun b _ hn=>⟨by
   rintro(h0|⟨m,k,hm⟩)
   · exact hn h0
   · simp at hm,rfl⟩
  refs:=fun m o _ hm=>by simp at hm
  own:=fun m b k c e fr _ hm=>by simp at hm}
 have Wo:cn N {toWorld:=w,M:=fun _=>False,fix:=Γ.fix,φ0:=[]} fn.ntmps (GK args) [] {tmps:=vs.toArray++Array.replicate (fn.ntmps-vs.toArray.size) undef,defers:=[]} w:={
  gj:=fun d=>by
   simp only[GK]
   rw[wb]
   split
   · rename_i hd
     simp only[bY]at hd;have hdv:d<vs.length:=by omega
     have hx:args[d]? =some args[d]:=ae hd.2;have hv:vs[d]? =some vs[d]:=ae hdv;have:=bU.mono iW _ _ (g2 d _ _ hx hv) (fun _ _=>trivial)
     have e1:args.getD (d-0) .any=args[d]:=by simp[hd.2]
     have e2:(vs.toArray++Array.replicate (fn.ntmps-vs.toArray.size) undef).getD d undef=vs[d]:=by simp[s0,hdv]
     rw[e1,e2]
     exact this
   · simp only[bU]
  size:=by simp;omega
  defers:=rfl
  len:=rfl
  gp:=fun n o p ho=>by simp[GK,ff]at ho
  own:=fun n b k hn=>by simp at hn
  inj:=fun n m b k k' hn=>by simp at hn
  n0:=fun b hb=>⟨hN b hb,fun h=>h⟩
  qE:=fun n p _ hp=>by simp at hp
  below:=Kept.refl _}
 refine wp_mono (Np yU rfl (fun n _ h=>by simp at h) hm c mq _ _ _ _ _ Wo hw) fun e a' w' hq=> ?_
 have fin: ∀(τ:St) (φ:List ia),K? (BV P τ fn.results.toList) (fun rs=>vo (oD rs))->cn N {toWorld:=w,M:=fun _=>False,fix:=Γ.fix,φ0:=[]} fn.ntmps τ φ a' w'->
  a'.defers=[]/\ ∃v,(results fn a'.tmps).run P w'= .ok v w'/\ ∃v' r,Ending.returned v= .returned v'/\vo r/\bU ⟨N,[],w'⟩ r v'/\jT w w':=by
  rintro τ φ ⟨xs,hx,hP⟩ hc;obtain⟨v,hv,hr⟩:=KM hc hx;exact⟨hc.defers,v,hv,v,_,rfl,hP,hr,⟨hc.below.size,fun b hb=>hc.below.block b hb (fun h=>h),hc.below.os,hc.below.tape,hc.below.output,hc.below.drawn⟩⟩
 cases e with
 |normal=>
  obtain⟨τ,φ,hq,hc⟩:=hq;exact fin τ φ hq hc
 |ret=>
  obtain⟨τ,φ,hq,hc⟩:=hq;exact fin τ φ hq hc
 |exit i=>
  obtain⟨τ,φ,hq,hc⟩:=hq;exact hq.elim
 |goto l=>exact hq.elim
 |panic c=>exact hq.elim
 |outgrown=>exact hq.elim
theorem Wp(h:cn N0 w0 nt σ φ a w){r:ResultVar}{x:A}(hr:rawA P σ r=some x):
 ∃v,(OV a.tmps r).run P w= .ok v w/\bU (bB N0 φ w) x v:=by
 cases r with
 |tmp t=>
  simp only[rawA,bf]at hr;subst hr;exact⟨_,by simp only[OV,Sem.run_pure],h.gj t⟩
 |cell c t=>
  simp only[rawA]at hr;unfold rawC at hr;split at hr
  · rename_i n off hl
    split at hr
    · rename_i cs ho
      have hs:=h.gj c;rw[hl]at hs;simp only[bU]at hs;obtain⟨b,k,kP,hv⟩:=hs;have kQ:=h.gp n _ _ ho kP;simp only[cb]at kQ;have hm:=nS (n:=off) kQ.2;rw[bY]at hm;obtain⟨v,mo,fY,_⟩:=vF (E:=bB N0 φ w) hm hr;refine⟨v, ?_,fY⟩
      simp only[OV]
      rw[hv]
      simp only[asAddr,Sem.run_bind,Sem.run_pure,Result.andThen_ok]
      exact mo
    · simp at hr
  · simp at hr
theorem Hr(h:cn N0 w0 nt σ φ a w): ∀{rs:List ResultVar} {xs:List A},Et P σ rs=some xs->
 ∃vs:List Value,(rs.mapM (OV a.tmps)).run P w= .ok vs w/\cH (bB N0 φ w) xs vs
 | [],xs,hr=>by simp only[Et,bf]at hr;subst hr;exact⟨[],by simp,by simp[cH]⟩
 |r::rs,xs,hr=>by
  simp only[Et]at hr;obtain⟨x,h1,hr⟩:=bL.1 hr;obtain⟨ys,h2,rfl⟩:=aM.1 hr;obtain⟨v,g1,g2⟩:=Wp h h1;obtain⟨vs,g3,g4⟩:=Hr h h2;refine⟨v::vs, ?_,by simp only[cH];exact⟨v,vs,rfl,g2,g4⟩⟩
  simp only[sA,Sem.run_bind,g1,Result.andThen_ok,Sem.run_pure,g3]
theorem Cd(h:cn N0 w0 nt σ φ a w){fn:Func}{xs:List A}(hr:Et P σ fn.results.toList=some xs):
 ∃v,(results fn a.tmps).run P w= .ok v w/\bU (bB N0 φ w) (oD xs) v:=by
 obtain⟨vs,h1,h2⟩:=Hr h hr;refine⟨if h:vs.toArray.size=1 then vs.toArray[0]else .tuple vs.toArray, ?_, ?_⟩
 · rw[Hp,Sem.run_bind,lF,Sem.run_map]
   rw[h1]
   simp
 · obtain⟨g1,g2⟩:=db.1 h2
   cases xs with
   |nil=>
    have:vs=[]:=aV.1 (by simpa using g1.symm)
    subst this;simp[oD,bU,cH]
   |cons x xs=>
    cases xs with
    |nil=>
     simp only[cH]at h2;obtain⟨v,qC,rfl,hx,rfl⟩:=h2;simpa[oD]using hx
    |cons y ys=>
     rw[dif_neg (by simp at g1⊢;omega)]
     simp only[oD,bU]
     exact⟨vs,rfl,h2⟩
theorem e_(yU:aN P Γ)(hm:P.follows .mixedOrders=true){f:FuncId}{fn:Func}{c:Code}(hf:P.funcs[f]? =some fn)(hb:fn.body=some c){args:List A}{H H':List Obj}{r:A}{S:List Nat}(hlen:args.length<=fn.ntmps)
 (xY: ∀n,n<H.length->n∉S->Γ.fix n=true) (RJ:H.length<=Γ.nf) (hl:Γ.nf<=H'.length)
 (mq:aQ P Γ fn.ntmps c=true) (hw:lS P Γ c (bodyH P fn r H') (Oy args H)):jb P f args H r H' S:=by
 intro N φ w vs hN mQ dR fY;obtain⟨g1,g2⟩:=db.1 fY;refine calls_of_wp hf hb ?_;have hφl: ∀n:Nat,n<φ.length->n<Γ.nf:=fun n hn=>by have:=mQ.len;omega
 have Wo:cn N {toWorld:=w,M:=fun b=> ∃n k:Nat,φ[n]? =some (ia.loc b k),fix:=Γ.fix,φ0:=φ} fn.ntmps (Oy args H) φ {tmps:=vs.toArray++Array.replicate (fn.ntmps-vs.toArray.size) undef,defers:=[]} w:={
  gj:=fun d=>by
   simp only[Oy]
   rw[wb]
   split
   · rename_i hd
     simp only[bY]at hd;have hdv:d<vs.length:=by omega
     have hx:args[d]? =some args[d]:=ae hd.2;have hv:vs[d]? =some vs[d]:=ae hdv;have e1:args.getD (d-0) .any=args[d]:=by simp[hd.2]
     have e2:(vs.toArray++Array.replicate (fn.ntmps-vs.toArray.size) undef).getD d undef=vs[d]:=by simp[s0,hdv]
     rw[e1,e2]
     exact g2 d _ _ hx hv
   · simp only[bU]
  size:=by simp;omega
  defers:=rfl
  len:=mQ.len
  gp:=mQ.gp
  own:=fun n b k hn=>⟨.inr ⟨n,k,hn⟩,(mQ.own n b k hn).1⟩
  inj:=mQ.inj
  n0:=fun b hb=>⟨hN b hb,fun⟨n,k,hn⟩=>(mQ.own n b k hn).2 hb⟩
  qE:=fun n p _ hp _=>hp
  below:=Kept.refl _}
 refine wp_mono (Np yU rfl (fun n _ h=>hφl n h) hm c mq _ _ _ _ _ Wo hw) fun e a' w' hq=> ?_
 have fin: ∀(τ:St) (j4:List ia),K? (Et P τ fn.results.toList) (fun rs=>oD rs=r/\r.under H'.length=true/\yp H'.length τ.H H')->
  cn N {toWorld:=w,M:=fun b=> ∃n k:Nat,φ[n]? =some (ia.loc b k),fix:=Γ.fix,φ0:=φ} fn.ntmps τ j4 a' w'->
  a'.defers=[]/\ ∃v,(results fn a'.tmps).run P w'= .ok v w'/\ ∃v' j4,Ending.returned v= .returned v'/\bU (bB N j4 w') r v'/\uw N j4 H' w'/\Sv φ w S j4 w'/\H.length<=H'.length:=by
  rintro τ j4 ⟨xs,hx,rfl,hu,hle⟩ hc;obtain⟨v,hv,hr⟩:=Cd hc hx;have iW:=hc.le_ext H'.length;have OI:=hc.le (τ:=⟨[],H'⟩) (fun n _ h=>hφl n h) hl ⟨trivial,hle⟩
  refine⟨hc.defers,v,hv,v,j4.take H'.length,rfl,bU.mono iW _ _ hr fun n hn=>A.xA _ hu hn, ?_, ?_,by omega⟩
  · exact{
     len:=OI.len
     gp:=OI.gp
     own:=fun n b k hn=>⟨(OI.own n b k hn).2,fun h0=>by
      rcases(OI.own n b k hn).1 with h1|h1
      · have:=(OI.n0 b h0).1;simp at this h1;omega
      · exact(OI.n0 b h0).2 h1⟩
     inj:=OI.inj}
  · exact{
     os:=OI.below.os
     tape:=OI.below.tape
     output:=OI.below.output
     drawn:=OI.below.drawn
     size:=OI.below.size
     block:=fun b hb hM=>OI.below.block b hb fun⟨n,k,hn⟩=>hM n k hn
     shape:=OI.below.shape
     own:=fun n b k hn=>(OI.own n b k hn).1
     stay:=fun n p hn hp=>by have bo:=(aA.1 hp).1;exact OI.qE n p (xY n (by rw[<-mQ.len];exact bo) hn) hp (fun e=>dR n (by rw[hp,e]))}
 cases e with
 |normal=>
  obtain⟨τ,j4,hq,hc⟩:=hq;exact fin τ j4 hq hc
 |ret=>
  obtain⟨τ,j4,hq,hc⟩:=hq;exact fin τ j4 hq hc
 |exit i=>
  obtain⟨τ,j4,hq,hc⟩:=hq;exact hq.elim
 |goto l=>exact hq.elim
 |panic c=>exact hq.elim
 |outgrown=>exact hq.elim
end
end Go.dF
namespace Go.dF
open Go.RowKit
inductive CT where
 |int (k:IntKind)
 |bool
 |str
 |list (c:CT)
 |rows (cs:List CT)
mutual
def fits:CT->A->Prop
 | .int k,x=> ∃n,x= .int k n/\(Lit.int k n).wf=true
 | .bool,x=> ∃b,x= .bool b
 | .str,x=> ∃s,x= .str s/\s.length<=maxLen
 | .list c,x=> ∃es,x= .ay es/\es.length<=maxLen/\ ∀e∈es,fits c e
 | .rows cs,x=> ∃es,x= .ay es/\es.length<=maxLen/\ ∀e∈es,∃ys,e= .agg ys/\fD cs ys
def fD:List CT->List A->Prop
 | [],ys=>ys=[]
 |c::cs,ys=> ∃y zs,ys=y::zs/\fits c y/\fD cs zs
end
def y_(rec:TypeId->Option (List CT))(size:TypeId->Nat):List Field->Nat->Option (List CT)
 | [],_=>some []
 |f::fs,off=>
  if f.offset=off then
   match rec f.type with
   |some ks=>if ks.length=size f.type then(y_ rec size fs (off+size f.type)).map (ks++ ·)else none
   |none=>none
  else none
def l6(P:Program):Nat->TypeId->Option (List CT)
 |0,_=>none
 |d+1,t=>
  match P.underlying t with
  |some .bool=>some [.bool]
  |some (.int k)=>some [.int k]
  |some .string=>some [.str]
  |some (.slice e)=>
   match dS P e,l6 P d e with
   |some true,some (c::cs)=>if(c::cs).length=P.cellsOf e then some [.rows (c::cs)]else none
   |some false,some [c]=>if P.cellsOf e=1 then some [.list c]else none
   |_,_=>none
  |some (.struct fs)=>(y_ (l6 P d) P.cellsOf fs.toList 0).bind fun ks=>if ks.length=P.cellsOf t then some ks else none
  |some (.array n e)=>
   match l6 P d e with
   |some ks=>if ks.length=P.cellsOf e/\n*ks.length=P.cellsOf t then some (List.replicate n ks).flatten else none
   |none=>none
  |_=>none
theorem AA: ∀{cs ds:List CT} {ys zs:List A},fD cs ys->fD ds zs->fD (cs++ds) (ys++zs)
 | [],ds,ys,zs,h,h'=>by simp only[fD]at h;subst h;simpa using h'
 |c::cs,ds,ys,zs,h,h'=>by
  simp only[fD]at h;obtain⟨y,us,rfl,h1,h2⟩:=h;simp only[bF,fD]
  exact⟨y,us++zs,rfl,h1,AA h2 h'⟩
section
variable{H:Type}{enc:TypeId×Value->H}{P:Program}{w:World}{sp:Nat->Bool}{held:Bool}
def Reads(w:World)(Nq:List CT)(cs:List Value):Prop:= ∃xs:List A,cH ⟨fun _=>False,[],w⟩ xs cs/\fD Nq xs/\A.pure.cX xs=true/\ ∀u∈cs,u.oneCell'=true
theorem Reads.append{Nq cts':List CT}{cs Sx:List Value}(h:Reads w Nq cs)(h':Reads w cts' Sx):Reads w (Nq++cts') (cs++Sx):=by
 obtain⟨xs,h1,h2,h3,h4⟩:=h;obtain⟨ys,g1,g2,g3,g4⟩:=h';refine⟨xs++ys,nT h1 g1,AA h2 g2,gQ fun j y hy=> ?_,fun u hu=> ?_⟩
 · rcases aJ.1 (cu hy)with hm|hm
   · obtain⟨r,hr⟩:=bO hm;exact cd h3 hr
   · obtain⟨r,hr⟩:=bO hm;exact cd g3 hr
 · rcases aJ.1 hu with hu|hu
   · exact h4 u hu
   · exact g4 u hu
theorem Reads.nil:Reads w [] []:=⟨[],by simp[cH],by simp[fD],rfl,by simp⟩
theorem AB{rec:TypeId->Option (List CT)}{size:TypeId->Nat}{cs:List Value}: ∀{fs:List Field} {off:Nat} {ks:List CT},y_ rec size fs off=some ks->
 (∀f∈fs,∀k,rec f.type=some k->Reads w k ((cs.drop f.offset).take (size f.type)))->off+ks.length=cs.length->Reads w ks (cs.drop off)
 | [],off,ks,h,_,hl=>by
  simp only[y_,bf]at h;subst h;have:cs.drop off=[]:=aC (by simp at hl;omega)
  rw[this]
  exact Reads.nil
 |f::fs,off,ks,h,hf,hl=>by
  simp only[y_]at h;split at h
  · rename_i ho
    split at h
    · rename_i k hk
      split at h
      · rename_i qY
        cases hg:y_ rec size fs (off+size f.type)with
        |none=>simp[hg]at h
        |some ks'=>
         simp[hg]at h;subst h;have h1:=hf f (by simp) k hk;rw[ho]at h1;have h2:=AB hg (fun g hgm=>hf g (by simp[hgm])) (by simp at hl;omega)
         have:=h1.append h2;rw[show cs.drop (off+size f.type)=(cs.drop off).drop (size f.type) by rw[eJ],br]at this;exact this
      · simp at h
    · simp at h
  · simp at h
theorem D2{ks:List CT}{k:Nat}(hk:ks.length=k): ∀{n:Nat} {cs:List Value},cs.length=n*k->(∀i,i<n->Reads w ks ((cs.drop (i*k)).take k))->Reads w (List.replicate n ks).flatten cs
 |0,cs,hl,_=>by
  have:cs=[]:=aV.1 (by simpa using hl)
  subst this;simpa using Reads.nil (w:=w)
 |n+1,cs,hl,h=>by
  rw[jg,iJ]
  have h0:=h 0 (by omega)
  simp only[nD,me]at h0
  have hr:=D2 hk (n:=n) (cs:=cs.drop k) (by simp[hl,cJ]) (fun i hi=>by
   have:=h (i+1) (by omega)
   rw[eJ,show k+i*k=(i+1)*k by rw[cJ];omega]
   exact this)
  have:=h0.append hr;rw[br]at this;exact this
theorem spot_of{a:Addr}{v:Value}(h:w.cell? a=some v):a=⟨a.block,a.off,none⟩/\a.block<w.heap.size:=by
 unfold World.cell? at h;split at h
 · rename_i c e fr hb
   split at h
   · simp at h
   · rename_i hs
     obtain⟨b,o,s⟩:=a;have:s=none:=by cases s<;>simp_all
     subst this;refine⟨rfl, ?_⟩
     rcases fT b w.heap.size with h'|h'
     · exact h'
     · rw[mZ h']at hb;simp at hb
 · simp at h
theorem D3{k len cap:Nat}{a:Addr}(hk:k≠0)(xj:len<=cap){mk:List A->A}{Nq:List CT}(hmk: ∀ys,fD Nq ys->(mk ys).cells=ys)(hmp: ∀ys,fD Nq ys->A.pure.cX ys=true->(mk ys).pure=true)
 (hx: ∀i,i<len-> ∃cs,w.cells? 0 (a.add (i*k)) k=some cs/\Reads w Nq cs): ∃es:List A,bU ⟨fun _=>False,[],w⟩ (.ay es) (.slice (some a) len cap)/\es.length=len/\(A.ay es).pure=true/\ ∀e∈es,∃ys,e=mk ys/\fD Nq ys:=by
 obtain⟨X,hX⟩:=Go.Deep.choose_lt (α:=List A) (p:=fun i ys=> ∃cs,w.cells? 0 (a.add (i*k)) k=some cs/\cH ⟨fun _=>False,[],w⟩ ys cs/\fD Nq ys/\A.pure.cX ys=true/\ ∀u∈cs,u.oneCell'=true) (fun i hi=>by obtain⟨cs,h1,ys,h2⟩:=hx i hi;exact⟨ys,cs,h1,h2⟩)
 refine⟨(List.range len).map fun i=>mk (X i), ?_,by simp,by simp[A.pure], ?_⟩
 · simp only[bU]
   refine⟨gQ fun i e he=> ?_,some a,cap,by simp,by simpa using xj,fun eH=> ?_⟩
   · have:=cu he
     obtain⟨j,hj,rfl⟩:=bZ.1 this;obtain⟨cs,_,_,hf,hp,_⟩:=hX j (fK.1 hj)
     exact hmp _ hf hp
   · have hlen:0<len:=by
      rcases l7 len with h|h
      · subst h;simp at eH
      · exact h
     obtain⟨cs0,h1,h2,_⟩:=hX 0 hlen;obtain⟨_,hl0,hg0⟩:=World.cells?_some h1;have h0:=hg0 0 (by omega)
     rw[Go.Deep.add_add]at h0;simp only[nD,dh]at h0;have ha0:a.add 0=a:=by simp[Addr.add]
     rw[ha0,ae (by omega)]at h0;obtain⟨hspot,hblk⟩:=spot_of h0;refine⟨a.block,a.off,by rw[<-hspot],hblk,fun h=>h, ?_⟩
     have hE:jR ⟨fun _=>False,[],w⟩ k a.block a.off ((List.range len).map fun i=>mk (X i)):=by
      refine gO.2 fun i e he=> ?_;have hi:i<len:=by have:=(aA.1 he).1;simpa using this
      have BL:e=mk (X i):=by rw[aT,uu hi]at he;simpa using he.symm
      subst BL;obtain⟨cs,g1,g2,g3,g4,g5⟩:=hX i hi;obtain⟨_,gl,gg⟩:=World.cells?_some g1;have hyl:(X i).length=k:=by rw[(db.1 g2).1,gl]
      rw[hmk _ g3]
      refine⟨hyl,uj (vs:=cs) (fun j v hv=> ?_) g2 g5⟩
      have hj:j<k:=by have:=(aA.1 hv).1;omega
      have:=gg j hj;rw[Go.Deep.add_add,hspot,Addr.add_lit,hv]at this;rw[kE]
      exact this
     have eO:eV ((List.range len).map fun i=>mk (X i))=k:=B6 hE eH;rw[eO]
     exact hE
 · intro e he
   obtain⟨j,hj,rfl⟩:=bZ.1 he;obtain⟨cs,_,_,hf,_⟩:=hX j (fK.1 hj)
   exact⟨X j,rfl,hf⟩
theorem yy: ∀(d:Nat) {t:TypeId} {Nq:List CT} {fuel:Nat} {cs:List Value} {x:DataW H×List MemPlace},l6 P d t=some Nq->DataW.trod enc P w 0 sp held fuel t cs=some x->Reads w Nq cs:=by
 intro d;induction d with
 |zero=>intro t Nq fuel cs x hf;simp[l6]at hf
 |succ d ih=>
  intro t Nq fuel cs x hf h;unfold l6 at hf;split at hf
  · rename_i hu
    obtain rfl:=an hf;obtain⟨b,rfl,_⟩:=DataW.trod_bool hu h;exact⟨[.bool b],by simp[cH,bU],by simp[fD,fits],rfl,by simp[Value.oneCell']⟩
  · rename_i k hu
    obtain rfl:=an hf;obtain⟨n,rfl,_,hn⟩:=DataW.trod_int hu h;exact⟨[.int k n],by simp[cH,bU],by simp[fD,fits,hn],rfl,by simp[Value.oneCell']⟩
  · rename_i hu
    obtain rfl:=an hf;obtain⟨s,rfl,_,hs⟩:=DataW.trod_string hu h;have vz:s.data.toList.length<=maxLen:=by rw[gW];exact hs
    refine⟨[.str s.data.toList],by simp[cH,bU], ?_,rfl,by simp[Value.oneCell']⟩
    simp only[fD,fits]
    exact⟨_,[],rfl,⟨_,rfl,vz⟩,rfl⟩
  · rename_i e hu
    have AD: ∀c:CT,(∀y:A,y= .ay []->fits c y)->Reads w [c] [.slice none 0 0]:=fun c hc=>by
     refine⟨[.ay []], ?_, ?_,rfl,by simp[Value.oneCell']⟩
     · simp only[cH,bU]
       exact⟨_,[],rfl,⟨rfl,none,0,rfl,ai _,fun h=>absurd rfl h⟩,rfl⟩
     · simp only[fD]
       exact⟨_,[],rfl,hc _ rfl,rfl⟩
    rcases Go.Deep.open_slice hu h with⟨rfl,_⟩|⟨a,len,cap,m,n,D,Pl,rfl,_,xj,RN,hm,_,hx⟩
    · split at hf
      · split at hf
        · obtain rfl:=an hf
          exact AD _ fun y hy=>by subst hy;simp only[fits];exact⟨[],rfl,by simp,by simp⟩
        · simp at hf
      · split at hf
        · obtain rfl:=an hf
          exact AD _ fun y hy=>by subst hy;simp only[fits];exact⟨[],rfl,by simp,by simp⟩
        · simp at hf
      · simp at hf
    · have hlm:len<=m:=by rw[hm];split<;>omega
      split at hf
      · rename_i c Sx tg hfe
        split at hf
        · rename_i qY
          obtain rfl:=an hf;rw[<-qY]at hx
          obtain⟨es,g1,g2,g3,g4⟩:=D3 (w:=w) (k:=(c::Sx).length) (a:=a) (len:=len) (cap:=cap) (by simp) xj (mk:=A.agg) (Nq:=c::Sx) (fun ys _=>rfl) (fun ys _ h=>by simpa only[A.pure]using h) (fun i hi=>by
           obtain⟨cs'',h1,h2⟩:=hx i (by omega)
           exact⟨cs'',h1,ih hfe h2⟩)
          refine⟨[.ay es],by simp only[cH];exact⟨_,[],rfl,g1,rfl⟩, ?_,by simp only[A.pure.cX,g3];rfl,by simp[Value.oneCell']⟩
          simp only[fD,fits]
          exact⟨_,[],rfl,⟨es,rfl,by omega,g4⟩,rfl⟩
        · simp at hf
      · rename_i c tg hfe
        split at hf
        · rename_i qY
          obtain rfl:=an hf;rw[qY]at hx;have hnag: ∀y:A,fits c y-> ∀ys,y≠ .agg ys:=fun y hy ys e=>by subst e;cases c<;>simp[fits]at hy
          obtain⟨es,g1,g2,g3,g4⟩:=D3 (w:=w) (k:=1) (a:=a) (len:=len) (cap:=cap) (by simp) xj (mk:=fun ys=>ys.headD .any) (Nq:=[c]) (fun ys DF=>by
           simp only[fD]at DF;obtain⟨y,zs,rfl,hy,rfl⟩:=DF;have:=hnag y hy;cases y<;>first|rfl|exact absurd rfl (this _)) (fun ys DF hp=>by
           simp only[fD]at DF;obtain⟨y,zs,rfl,hy,rfl⟩:=DF;simpa[A.pure.cX]using hp) (fun i hi=>by
           obtain⟨cs'',h1,h2⟩:=hx i (by omega)
           exact⟨cs'',h1,ih hfe h2⟩)
          refine⟨[.ay es],by simp only[cH];exact⟨_,[],rfl,g1,rfl⟩, ?_,by simp only[A.pure.cX,g3];rfl,by simp[Value.oneCell']⟩
          simp only[fD,fits]
          refine⟨_,[],rfl,⟨es,rfl,by omega,fun e he=> ?_⟩,rfl⟩
          obtain⟨ys,BL,DF⟩:=g4 e he;simp only[fD]at DF;obtain⟨y,zs,rfl,hy,rfl⟩:=DF;rw[BL]
          exact hy
        · simp at hf
      · simp at hf
  · rename_i fs hu
    cases hg:y_ (l6 P d) P.cellsOf fs.toList 0 with
    |none=>simp[hg]at hf
    |some ks=>
     simp only[hg,aY]at hf;split at hf
     · rename_i qY
       obtain rfl:=an hf;obtain⟨xs,n,_,_,hl,hxl,hx⟩:=DataW.trod_struct hu h
       have:=AB (w:=w) (cs:=cs) hg (fun f hfm k hk=>by
        obtain⟨i,hi⟩:=bO hfm;have hxi:=hx i f (by simpa using hi)
        have bo:i<xs.length:=by
         rw[hxl]
         have:=(aA.1 hi).1;simpa using this
        rw[ae bo]at hxi;exact ih hk hxi) (by omega)
       simpa using this
     · simp at hf
  · rename_i n e hu
    split at hf
    · rename_i ks hk
      split at hf
      · rename_i qY
        obtain rfl:=an hf;obtain⟨xs,m,_,_,hl,hxl,hx⟩:=DataW.trod_array hu h;refine D2 (k:=P.cellsOf e) qY.1 (by rw[hl,<-qY.2,qY.1]) fun i hi=> ?_;have hxi:=hx i hi;rw[ae (by omega)]at hxi;exact ih hk hxi
      · simp at hf
    · simp at hf
  · simp at hf
end
end Go.dF
namespace Go.dF
open Go.RowKit
section
variable{H:Type}{enc:TypeId×Value->H}{P:Program}{w:World}{sp:Nat->Bool}{held:Bool}
theorem Wq{r:Reach}{b0:Nat}{t:TypeId}{v:Value}(ht:dS P t=some false)(mO:Value.okWide P w r b0 t v):v.cells.toList=[v]:=by
 unfold Value.okWide at mO;unfold dS at ht;split at mO
 · rename_i fs hu;simp only[hu]at ht;simp at ht
 · rename_i n e hu;simp only[hu]at ht;simp at ht
 · cases v<;>first
    |rfl
    |(exfalso
      unfold Cell.okWide at mO;split at mO
      all_goals first
       |(rename_i h1 h2;cases h2;done)
       |skip
      unfold Cell.ok at mO;split at mO<;>simp_all)
theorem open_cell{r:Reach}{b0 d:Nat}{t:TypeId}{v:Value}{x:DataW H}{ps:List MemPlace}{c:CT}(ht:dS P t=some false)(hf:l6 P d t=some [c])(mO:Value.okWide P w r b0 t v)
 (h:DataW.Trod enc P w 0 sp held t v x ps): ∃y,bU ⟨fun _=>False,[],w⟩ y v/\fits c y/\y.pure=true:=by
 obtain⟨fuel,h⟩:=h;rw[Wq ht mO]at h;obtain⟨xs,h1,h2,h3,_⟩:=yy d hf h;simp only[fD]at h2;obtain⟨y,zs,rfl,hy,rfl⟩:=h2;simp only[cH]at h1;obtain⟨v',qC,hv,hr,rfl⟩:=h1;simp at hv;subst hv;exact⟨y,hr,hy,by simpa[A.pure.cX]using h3⟩
theorem pX{r:Reach}{b0 d:Nat}{t:TypeId}{v:Value}{x:DataW H}{ps:List MemPlace}{Nq:List CT}(ht:dS P t=some true)(hf:l6 P d t=some Nq)(mO:Value.okWide P w r b0 t v)
 (h:DataW.Trod enc P w 0 sp held t v x ps): ∃ys,bU ⟨fun _=>False,[],w⟩ (.agg ys) v/\fD Nq ys/\(A.agg ys).pure=true:=by
 obtain⟨fuel,h⟩:=h
 have: ∃cs,v= .agg cs:=by
  unfold Value.okWide at mO;unfold dS at ht;split at mO
  · obtain⟨cs,hv,_⟩:=mO;exact⟨cs,hv⟩
  · obtain⟨cs,hv,_⟩:=mO;exact⟨cs,hv⟩
  · exfalso
    split at ht<;>simp_all
 obtain⟨cs,rfl⟩:=this;obtain⟨xs,h1,h2,h3,h4⟩:=yy d hf h;refine⟨xs, ?_,h2,by simpa only[A.pure]using h3⟩
 simp only[bU]
 exact⟨cs.toList,by simp,h1,h4⟩
end
theorem Ce{P:Program}{f:FuncId}{args:List A}(h:bp P f args (· = .bool true)){W:World}{vs:List Value}(hr:cH ⟨fun _=>False,[],W⟩ args vs):
 Calls P f vs.toArray W fun e w'=>e= .returned (.bool true)/\Below W.heap.size W w':=by
 refine Calls.mono (h (fun _=>False) W vs (fun b h=>h.elim) hr) ?_;rintro e w' ⟨v,r,rfl,rfl,fY,hb⟩
 simp only[bU]at fY;subst fY;exact⟨rfl,hb.toBelow⟩
end Go.dF
namespace Go.dF
def Cf:aW:=⟨fun _ _=>none,fun _ _ _=>none,fun _=>false,fun _=>false,false,fun _=>false,0,fun _=>[]⟩
theorem OW(P:Program):aN P Cf:=⟨(fun _ _ _ h=>by cases h),(fun _ _ _ _ _ _ h=>by cases h)⟩
def aW.add(Γ:aW)(g:FuncId)(e:List A->Option A):aW:={Γ with f:=fun h xs=>if h=g then e xs else Γ.f h xs}
def aW.kz(Γ:aW)(g:FuncId)(e:List A->List Obj->Option (A×List Obj×List Nat)):aW:={Γ with hp:=fun h xs H=>if h=g then e xs H else Γ.hp h xs H}
abbrev aW.pl(Γ Γ':aW):Prop:=(∀g,Γ.sg g=false)/\(∀g,Γ.xk g=false)/\Γ.effT=false/\(∀n,Γ.fix n=false)/\Γ.nf=0/\(∀n,Γ.fS n=[])/\Γ.hp=Γ'.hp
theorem aW.add_eq{Γ:aW}{g:FuncId}{e:List A->Option A}{xs:List A}:(Γ.add g e).f g xs=e xs:=if_pos rfl
theorem aW.aU{Γ:aW}{g h:FuncId}{e:List A->Option A}{xs:List A}(hn:h≠g):(Γ.add g e).f h xs=Γ.f h xs:=if_neg hn
section
variable{P:Program}{Γ:aW}{g:FuncId}
theorem aN.add(h:aN P Γ){e:List A->Option A}(hc:oI P g)(he: ∀xs r,e xs=some r->bp P g xs (· =r)):aN P (Γ.add g e) where
 f:=fun f xs r hr=>by
  simp only[aW.add]at hr;split at hr
  · rename_i e;subst e;exact⟨hc,he xs r hr⟩
  · exact h.f f xs r hr
 hp:=h.hp
theorem aN.kz(h:aN P Γ){e:List A->List Obj->Option (A×List Obj×List Nat)}(hc:oI P g)(he: ∀xs H r H' S,e xs H=some (r,H',S)->jb P g xs H r H' S):aN P (Γ.kz g e) where
 f:=h.f
 hp:=fun f xs H r H' S hr=>by
  simp only[aW.kz]at hr;split at hr
  · rename_i e;subst e;exact⟨hc,he xs H r H' S hr⟩
  · exact h.hp f xs H r H' S hr
end
open Classical in
def entry{ι:Type}(enc:ι->List A)(ok:ι->Prop)(spec:ι->A):List A->Option A:=fun xs=>if h: ∃i,enc i=xs/\ok i then some (spec (Classical.choose h))else none
theorem entry_ok{P:Program}{g:FuncId}{ι:Type}{enc:ι->List A}{ok:ι->Prop}{spec:ι->A}(h: ∀i,ok i->bp P g (enc i) (· =spec i)): ∀xs r,entry enc ok spec xs=some r->bp P g xs (· =r):=fun xs r hr=>by
 unfold entry at hr;split at hr
 · rename_i hx
   obtain⟨h1,h2⟩:=c_ hx;obtain rfl:=an hr;have:=h _ h2;rw[h1]at this;exact this
 · cases hr
theorem entry_eq{ι:Type}{enc:ι->List A}{ok:ι->Prop}{spec:ι->A}(hi: ∀i j,enc i=enc j->i=j)(i:ι)(h:ok i):entry enc ok spec (enc i)=some (spec i):=by
 have hx: ∃j,enc j=enc i/\ok j:=⟨i,rfl,h⟩
 unfold entry;rw[dif_pos hx]
 rw[hi _ _ (c_ hx).1]
theorem aW.aZ{Γ:aW}{g:FuncId}{ι:Type}{enc:ι->List A}{ok:ι->Prop}{spec:ι->A}(hi: ∀i j,enc i=enc j->i=j)(i:ι)(h:ok i):(Γ.add g (entry enc ok spec)).f g (enc i)=some (spec i):=
 aW.add_eq.trans (entry_eq hi i h)
open Classical in
def dG{ι:Type}(enc:ι->List A)(Kx:ι->List Obj)(ok:ι->Prop)(spec:ι->A×List Obj×List Nat):List A->List Obj->Option (A×List Obj×List Nat):=fun xs H=>
 if h: ∃i,(enc i=xs/\Kx i=H)/\ok i then some (spec (Classical.choose h))else none
theorem gm{P:Program}{g:FuncId}{ι:Type}{enc:ι->List A}{Kx:ι->List Obj}{ok:ι->Prop}{spec:ι->A×List Obj×List Nat}(h: ∀i,ok i->jb P g (enc i) (Kx i) (spec i).1 (spec i).2.1 (spec i).2.2):
 ∀xs H r H' S,dG enc Kx ok spec xs H=some (r,H',S)->jb P g xs H r H' S:=fun xs H r H' S hr=>by
 unfold dG at hr;split at hr
 · rename_i hx
   obtain⟨⟨h1,sX⟩,h2⟩:=c_ hx;have hs:=an hr;have:=h _ h2;rw[h1,sX,hs]at this;exact this
 · cases hr
theorem gn{ι:Type}{enc:ι->List A}{Kx:ι->List Obj}{ok:ι->Prop}{spec:ι->A×List Obj×List Nat}(hi: ∀i j,enc i=enc j->Kx i=Kx j->i=j)(i:ι)(h:ok i):dG enc Kx ok spec (enc i) (Kx i)=some (spec i):=by
 have hx: ∃j,(enc j=enc i/\Kx j=Kx i)/\ok j:=⟨i,⟨rfl,rfl⟩,h⟩
 unfold dG;rw[dif_pos hx]
 rw[hi _ _ (c_ hx).1.1 (c_ hx).1.2]
theorem aW.jK{Γ:aW}{g:FuncId}{e:List A->List Obj->Option (A×List Obj×List Nat)}{xs:List A}{H:List Obj}:(Γ.kz g e).hp g xs H=e xs H:=if_pos rfl
theorem aW.xB{Γ:aW}{g h:FuncId}{e:List A->List Obj->Option (A×List Obj×List Nat)}{xs:List A}{H:List Obj}(hn:h≠g):(Γ.kz g e).hp h xs H=Γ.hp h xs H:=if_neg hn
theorem Nr{P:Program}{f:FuncId}{vo:A->Prop}(h1:bp P f [.emp true] vo)(h2:bp P f [.emp false] vo):bp P f [.ay []] vo:=fun N w vs hN hr=>by
 simp only[cH,bU]at hr;obtain⟨v,_,rfl,⟨_,a,cap,rfl,_,_⟩,rfl⟩:=hr;cases a with
 |none=>exact h1 N w _ hN (by simp only[cH,bU];exact⟨_,_,rfl,⟨none,cap,rfl,rfl⟩,rfl⟩)
 |some q=>exact h2 N w _ hN (by simp only[cH,bU];exact⟨_,_,rfl,⟨some q,cap,rfl,rfl⟩,rfl⟩)
attribute [go_sem] cx cr
theorem dE{P:Program}{f:FuncId}{fn:Func}(h1:P.funcs[f]? =some fn)(h2:fn.body.isNone=false)(h3:(fn.name== "runtime.NumGoroutine")=false):oI P f:=⟨fn,h1,h2,h3⟩
theorem aN.dH{P:Program}{Γ:aW}{g:FuncId}{fn:Func}{ι:Type}{enc:ι->List A}{ok:ι->Prop}{spec:ι->A}(h0:aN P Γ)(h1:P.funcs[g]? =some fn)(h2:fn.body.isNone=false)(h3:(fn.name== "runtime.NumGoroutine")=false)(h: ∀i,ok i->bp P g (enc i) (· =spec i)):
 aN P (Γ.add g (entry enc ok spec)):=h0.add (dE h1 h2 h3) (entry_ok h)
@[go_sem] theorem isS2B_eq{P:Program}{s d:TypeId}:Af P s d=(lA P s&&(cP P d).any (fun e=>u9 P e=some .u8)):=rfl
@[go_sem] theorem isB2S_eq{P:Program}{s d:TypeId}:Ae P s d=((cP P s).any (fun e=>u9 P e=some .u8)&&lA P d):=rfl
@[go_sem] theorem bne_str{a b:List UInt8}:(a !=b)= !(a==b):=rfl
@[go_sem] theorem bne_bool{a b:Bool}:(a !=b)= !(a==b):=rfl
@[go_sem] theorem bne_int{a b:Int}:(a !=b)= !(a==b):=rfl
attribute [go_sem] Int.cast_ofNat_Int
attribute [go_sem] Option.any_some Option.any_none decide_true decide_false ne_eq Nat.succ_ne_self Nat.one_ne_zero beq_true beq_false bY Int.toNat_zero me true_implies false_implies implies_true not_true_eq_false not_false_eq_true Option.getD bg Int.natCast_nonneg
@[go_sem] theorem tab0_fix:Cf.fix=fun _=>false:=rfl
@[go_sem] theorem tab0_ords{n:Nat}:Cf.fS n=[]:=rfl
theorem wrap_i64{n:Int}(h: -9223372036854775808<=n/\n<9223372036854775808):IntKind.i64.wrap n=n:=by unfold IntKind.wrap;simp[IntKind.bits,IntKind.signed];split<;>omega
theorem wrap_u64{n:Int}(h:0<=n/\n<18446744073709551616):IntKind.u64.wrap n=n:=by unfold IntKind.wrap;simp[IntKind.bits,IntKind.signed];omega
theorem map_inj{α:Type}{f:α->A}(h: ∀x y,f x=f y->x=y): ∀{l m:List α},(l.map f=m.map f)=(l=m)
 | [],[]=>by simp
 | [],_::_=>by simp
 |_::_,[]=>by simp
 |x::l,y::m=>by
  simp only[aS,dr,map_inj h]
  exact propext ⟨fun⟨a,b⟩=>⟨h _ _ a,b⟩,fun⟨a,b⟩=>⟨by rw[a],b⟩⟩
@[simp] theorem SO{l m:List (List UInt8)}:(l.map A.str=m.map A.str)=(l=m):=map_inj (fun _ _ h=>by simpa using h)
@[simp] theorem map_int_inj{k:IntKind}{l m:List Int}:(l.map (A.int k)=m.map (A.int k))=(l=m):=map_inj (fun _ _ h=>by simpa using h)
theorem xC{α:Type}{f:α->A}{P:α->Prop}: ∀{es:List A},(∀e∈es,∃a,e=f a/\P a)-> ∃l:List α,es=l.map f/\ ∀a∈l,P a
 | [],_=>⟨[],rfl,by simp⟩
 |e::es,h=>by
  obtain⟨a,rfl,ha⟩:=h e (by simp)
  obtain⟨l,rfl,hl⟩:=xC (es:=es) fun x hx=>h x (by simp[hx])
  exact⟨a::l,rfl,fun b hb=>by
   rcases aD.1 hb with rfl|hb
   · exact ha
   · exact hl b hb⟩
theorem rf:maxLen<=9223372036854775807:=by decide
theorem lI: ∀s:List UInt8,lB (iH s)=some s
 | []=>rfl
 |c::s=>by have:=lI s;simp only[iH]at this;simp[iH,lB,nk,Ac,this]
theorem OX(s:List UInt8)(k:Nat)(x:UInt8):fE (iH s) k (.int .u8 (x.toNat:Int))=iH (s.set k x):=by rw[lT];simp[iH,jX,nk]
theorem Wr(s:List UInt8):(iH s).length=s.length:=by simp[iH]
end Go.dF
namespace Go.Proofs.YtfnohjheonlnmaaGreat
open Go.dF
set_option linter.unusedSimpArgs false
set_option linter.unusedVariables false
set_option maxRecDepth 20000
def T0:aW:=Cf
theorem wc:aN Tryz.prog T0:=OW _
@[go_sem] theorem T0_eq:T0=Cf:=rfl
theorem SP:aQ Tryz.prog T0 Tryz.f192.ntmps (Tryz.f192.body.getD .skip)=true:=by kernel_rfl
theorem Ws(s:List UInt8)(hs:s.length<9223372036854775807):bp Tryz.prog 192 [.str s] (· = .str (s++[0])):=by
 refine ah wc mixed Tryz.func192 rfl (ab rfl) SP ?_;unfold Tryz.f192;simp-implicitDefEqProofs (disch:=(first|omega|decide)) only[go_sem,↓reduceIte,seval]
 omega
theorem OY:aQ Tryz.prog T0 Tryz.f128.ntmps (Tryz.f128.body.getD .skip)=true:=by kernel_rfl
theorem D4(s:List UInt8)(hs:s.length<=9223372036854775807):bp Tryz.prog 128 [.str s] (· = .bool (decide (1<=s.length/\s.length<=16))):=by
 refine ah wc mixed Tryz.func128 rfl (ab rfl) OY ?_;unfold Tryz.f128;by_cases h:(1:Int)<=s.length
 · simp-implicitDefEqProofs (disch:=(first|omega|decide)) only[go_sem,↓reduceIte,seval,h]
   apply decide_eq_decide.2;omega
 · simp-implicitDefEqProofs (disch:=(first|omega|decide)) only[go_sem,↓reduceIte,seval,h]
   symm;apply decide_eq_false;omega
theorem SQ:aQ Tryz.prog T0 Tryz.f202.ntmps (Tryz.f202.body.getD .skip)=true:=by kernel_rfl
theorem Wt(s:List UInt8)(hs:s.length<=9223372036854775807):bp Tryz.prog 202 [.str s] (· = .bool (decide (s.length<=17))):=by
 refine ah wc mixed Tryz.func202 rfl (ab rfl) SQ ?_;unfold Tryz.f202;simp-implicitDefEqProofs (disch:=(first|omega|decide)) only[go_sem,↓reduceIte,seval]
 apply decide_eq_decide.2;omega
def fC:List UInt8->List UInt8->Int
 | [],[]=>0
 | [],_::_=> -1
 |_::_,[]=>1
 |a::x,b::y=>if a<b then-1 else if b<a then 1 else fC x y
theorem Ns{a b:List UInt8}{k:Nat}(ha:k<a.length)(hb:k<b.length):fC (a.drop k) (b.drop k)=if a[k]<b[k]then-1 else if b[k]<a[k]then 1 else fC (a.drop (k+1)) (b.drop (k+1)):=by rw[ax ha,ax hb];rfl
theorem Wu:aQ Tryz.prog T0 Tryz.f170.ntmps (Tryz.f170.body.getD .skip)=true:=by kernel_rfl
theorem Cg(a b:List UInt8)(ha:a.length<=9223372036854775807)(hb:b.length<=9223372036854775807):bp Tryz.prog 170 [.str a,.str b] (· = .int .i64 (fC a b)):=by
 refine ah wc mixed Tryz.func170 rfl (ab rfl) Wu ?_;unfold Tryz.f170;simp-implicitDefEqProofs (disch:=(first|omega|decide)) only[go_sem,↓reduceIte,seval]
 refine a_ [0,1,10] (ι:={k:Nat//k<=a.length/\k<=b.length/\fC a b=fC (a.drop k) (b.drop k)}) (fun k=>[(11,.int .i64 k.1)]) (fun _=>[]) (fun k=>a.length-k.1) ⟨0,by simp⟩ (by simp[T0,Cf]) ?_ ?_
 · simp-implicitDefEqProofs (disch:=(first|omega|decide)) only[go_sem,↓reduceIte,seval]
 · rintro⟨k,qD,hk2,OZ⟩
   by_cases hk:k<a.length/\k<b.length
   · obtain⟨hka,hkb⟩:=hk
     have EC:(k:Int)<if(b.length:Int)<a.length then(b.length:Int)else a.length:=by split<;>omega
     have e1:a[k]? =some a[k]:=ae hka;have e2:b[k]? =some b[k]:=ae hkb;rw[Ns hka hkb]at OZ;simp-implicitDefEqProofs (disch:=(first|omega|decide)) only[go_sem,↓reduceIte,seval,EC,nk,wrap_i64]
     simp only[decide_eq_true_eq,decide_eq_false_iff_not,Int.ofNat_lt]
     refine⟨fun h=> ?_,fun h=>⟨fun h'=> ?_,fun h'=>⟨⟨k+1,hka,hkb, ?_⟩,by simp,by simp;omega⟩⟩⟩
     · have:a[k]<b[k]:=h
       rw[OZ,if_pos this]
     · have g: ¬a[k]<b[k]:=h
       have g':b[k]<a[k]:=h';rw[OZ,if_neg g,if_pos g']
     · have g: ¬a[k]<b[k]:=h
       have g': ¬b[k]<a[k]:=h';rw[OZ,if_neg g,if_neg g']
   · have EC: ¬((k:Int)<if(b.length:Int)<a.length then(b.length:Int)else a.length):=by split<;>omega
     simp-implicitDefEqProofs (disch:=(first|omega|decide)) only[go_sem,↓reduceIte,seval,EC,nk,wrap_i64]
     simp only[decide_eq_true_eq,decide_eq_false_iff_not,Int.ofNat_lt]
     rw[OZ]
     by_cases h1:k<a.length
     · have h2:b.drop k=[]:=aC (by omega)
       rw[h2,ax h1]
       simp only[fC]
       refine⟨fun h=> ?_,fun h=>⟨fun _=>trivial,fun h'=> ?_⟩⟩<;>exfalso<;>omega
     · have h2:a.drop k=[]:=aC (by omega)
       rw[h2]
       by_cases h3:k<b.length
       · rw[ax h3]
         simp only[fC]
         refine⟨fun _=>trivial,fun h=>⟨fun h'=> ?_,fun h'=> ?_⟩⟩<;>exfalso<;>omega
       · have h4:b.drop k=[]:=aC (by omega)
         rw[h4]
         simp only[fC]
         refine⟨fun h=> ?_,fun h=>⟨fun h'=> ?_,fun _=>trivial⟩⟩<;>exfalso<;>omega
theorem inc_u8{x:UInt8}(h:x≠255):IntKind.u8.wrap ((x.toNat:Int)+1)=((x+1).toNat:Int):=by
 have h1:x.toNat<256:=x.toNat_lt;have h2:x.toNat≠255:=fun e=>h (lg.1 (by rw[e];rfl))
 have h3:(x+1).toNat=x.toNat+1:=by
  rw[UInt8.toNat_add]
  have:(1:UInt8).toNat=1:=rfl;rw[this]
  omega
 rw[h3]
 unfold IntKind.wrap;simp[IntKind.bits,IntKind.signed]
 omega
theorem take_set: ∀{p:List UInt8} {k:Nat},k<p.length-> ∀x,(p.take (k+1)).set k x=p.take k++[x]
 |_::p,0,_,x=>by simp
 |c::p,k+1,h,x=>by have:=take_set (p:=p) (k:=k) (by simpa using h) x;simp[this]
def cut(p:List UInt8):Nat->Nat
 |0=>0
 |n+1=>if p.getD n 0=255 then cut p n else n+1
def qh(p:List UInt8):Option (List UInt8):=if cut p p.length=0 then none else some (p.take (cut p p.length-1)++[p.getD (cut p p.length-1) 0+1])
def xZ:Option (List UInt8)->A
 |none=> .fq [.str [],.bool false]
 |some e=> .fq [.str e,.bool true]
theorem Wv:aQ Tryz.prog T0 Tryz.f226.ntmps (Tryz.f226.body.getD .skip)=true:=by kernel_rfl
theorem c_key_End(p:List UInt8)(hp:p.length<=9223372036854775807):bp Tryz.prog 226 [.str p] (· =xZ (qh p)):=by
 refine ah wc mixed Tryz.func226 rfl (ab rfl) Wv ?_;unfold Tryz.f226;simp-implicitDefEqProofs (disch:=(first|omega|decide)) only[go_sem,↓reduceIte,seval]
 refine a_ [0] (ι:={k:Nat//k<=p.length/\cut p p.length=cut p k}) (fun k=>[(4,.int .i64 k.1)]) (fun _=>[]) (fun k=>k.1) ⟨p.length,by simp⟩ (by simp[T0,Cf]) ?_ ?_
 · simp-implicitDefEqProofs (disch:=(first|omega|decide)) only[go_sem,↓reduceIte,seval]
 · rintro⟨k,hk,hc⟩
   cases k with
   |zero=>
    have z:((0:Nat):Int)=0:=rfl;have h0: ¬(0:Int)<0:=by omega
    have hz:((0:Int)==0)=true:=rfl;simp-implicitDefEqProofs (disch:=(first|omega|decide)) only[go_sem,↓reduceIte,seval,z,h0,hz]
    simp[qh,xZ,hc,cut]
   |succ k=>
    have h0:(0:Int)<((k+1:Nat):Int):=by omega
    have h1:((k+1:Nat):Int)-1=(k:Int):=by omega
    have hz:(((k+1:Nat):Int)==0)=false:=by simp;omega
    have e1:p[k]? =some p[k]:=ae (by omega)
    by_cases Ch:p[k]=255
    · have he:(((p[k]).toNat:Int)==255)=true:=by rw[Ch];rfl
      simp-implicitDefEqProofs (disch:=(first|omega|decide)) only[go_sem,↓reduceIte,seval,h0,h1,he,wrap_i64,nk]
      refine⟨⟨k,by omega, ?_⟩,rfl,by simp⟩
      rw[hc]
      simp[cut,e1,Ch]
    · have he:(((p[k]).toNat:Int)==255)=false:=by
       simp only[beq_eq_false_iff_ne,ne_eq]
       intro h;apply Ch;apply lg.1;have:(p[k]).toNat=255:=by omega
       rw[this];rfl
      have ht:(p.take (k+1)).length=k+1:=by simp;omega
      have hb:(iH (p.take (k+1)))[k]? =some (nk p[k]):=by simp[iH,e1]
      have hkk:(0:Int)<=0:=by omega
      have hle:((k+1:Nat):Int)<=(p.length:Int):=by omega
      have bo:(k:Int)<((k+1:Nat):Int):=by omega
      have O0:cut p p.length=k+1:=by rw[hc];simp[cut,e1,Ch]
      have hw:=inc_u8 Ch;have lG:=OX (p.take (k+1)) k (p[k]+1)
      have hlen:(iH ((p.take (k+1)).set k (p[k]+1))).length=k+1:=by rw[Wr,dd,ht]
      have RQ:List.take (k+1) (iH ((p.take (k+1)).set k (p[k]+1)))=iH ((p.take (k+1)).set k (p[k]+1)):=ad (by omega)
      have gw:(1:Nat)≠0:=by omega
      have hkk':k+1<=k+1:=ai _;simp-implicitDefEqProofs (disch:=(first|omega|decide)) only[go_sem,↓reduceIte,seval,O0,hw,lG,hlen,RQ,hkk',lI,rz,h0,h1,he,hz,ht,hb,hkk,hle,bo,wrap_i64,nk]
      rw[qh,if_neg (by rw[O0];omega),O0]
      simp only[jL,xZ]
      have:p.getD k 0=p[k]:=by simp[e1]
      rw[this,take_set (by omega)]
def T06a:aW:=T0.add 192 (entry (fun(s:List UInt8)=>[.str s]) (fun s=>s.length<9223372036854775807) (fun s=> .str (s++[0])))
theorem T06a_ok:aN Tryz.prog T06a:=wc.dH Tryz.func192 (by kernel_rfl) (by kernel_rfl) fun s h=>Ws s h
theorem KN(s:List UInt8)(h:s.length<9223372036854775807):T06a.f 192 [.str s]=some (.str (s++[0])):=aW.aZ (Γ:=T0) (fun i j h=>by simpa[ag,and_assoc]using h) s h
def T06b:aW:=T06a.add 128 (entry (fun(s:List UInt8)=>[.str s]) (fun s=>s.length<=9223372036854775807) (fun s=> .bool (decide (1<=s.length/\s.length<=16))))
theorem T06b_ok:aN Tryz.prog T06b:=T06a_ok.dH Tryz.func128 (by kernel_rfl) (by kernel_rfl) fun s h=>D4 s h
@[go_sem] theorem T06b_old{g:FuncId}{xs:List A}(h:g≠128):T06b.f g xs=T06a.f g xs:=aW.aU h
def Ww:aW:=T06b.add 202 (entry (fun(s:List UInt8)=>[.str s]) (fun s=>s.length<=9223372036854775807) (fun s=> .bool (decide (s.length<=17))))
theorem T06c_ok:aN Tryz.prog Ww:=T06b_ok.dH Tryz.func202 (by kernel_rfl) (by kernel_rfl) fun s h=>Wt s h
@[go_sem] theorem T06c_old{g:FuncId}{xs:List A}(h:g≠202):Ww.f g xs=T06b.f g xs:=aW.aU h
theorem KO(s:List UInt8)(h:s.length<=9223372036854775807):Ww.f 202 [.str s]=some (.bool (decide (s.length<=17))):=aW.aZ (Γ:=T06b) (fun i j h=>by simpa[ag,and_assoc]using h) s h
def Wx:aW:=Ww.add 170 (entry (fun(p:List UInt8×List UInt8)=>[.str p.1,.str p.2]) (fun p=>p.1.length<=9223372036854775807/\p.2.length<=9223372036854775807) (fun p=> .int .i64 (fC p.1 p.2)))
theorem T06d_ok:aN Tryz.prog Wx:=T06c_ok.dH Tryz.func170 (by kernel_rfl) (by kernel_rfl) fun p h=>Cg p.1 p.2 h.1 h.2
@[go_sem] theorem T06d_old{g:FuncId}{xs:List A}(h:g≠170):Wx.f g xs=Ww.f g xs:=aW.aU h
theorem O1(p:List UInt8×List UInt8)(h:p.1.length<=9223372036854775807/\p.2.length<=9223372036854775807):Wx.f 170 [.str p.1,.str p.2]=some (.int .i64 (fC p.1 p.2)):=aW.aZ (Γ:=Ww) (fun i j h=>by simpa[ag,and_assoc]using h) p h
def Wy:aW:=Wx.add 226 (entry (fun(s:List UInt8)=>[.str s]) (fun s=>s.length<=9223372036854775807) (fun s=>xZ (qh s)))
theorem T06e_ok:aN Tryz.prog Wy:=T06d_ok.dH Tryz.func226 (by kernel_rfl) (by kernel_rfl) fun s h=>c_key_End s h
@[go_sem] theorem T06e_old{g:FuncId}{xs:List A}(h:g≠226):Wy.f g xs=Wx.f g xs:=aW.aU h
theorem O2(s:List UInt8)(h:s.length<=9223372036854775807):Wy.f 226 [.str s]=some (xZ (qh s)):=aW.aZ (Γ:=Wx) (fun i j h=>by simpa[ag,and_assoc]using h) s h
@[go_sem] theorem t_key_Next{s:List UInt8}(h:s.length<9223372036854775807):T06a.f 192 [.str s]=some (.str (s++[0])):=KN s h
@[go_sem] theorem t_key_Edge{s:List UInt8}(h:s.length<=9223372036854775807):Ww.f 202 [.str s]=some (.bool (decide (s.length<=17))):=KO s h
@[go_sem] theorem t_key_Cmp{a b:List UInt8}(h:a.length<=9223372036854775807)(h':b.length<=9223372036854775807):Wx.f 170 [.str a,.str b]=some (.int .i64 (fC a b)):=O1 (a,b) ⟨h,h'⟩
@[go_sem] theorem t_key_End{s:List UInt8}(h:s.length<=9223372036854775807):Wy.f 226 [.str s]=some (xZ (qh s)):=O2 s h
set_option maxHeartbeats 4000000
theorem Hs:aQ Tryz.prog T0 Tryz.f129.ntmps (Tryz.f129.body.getD .skip)=true:=by kernel_rfl
theorem yz(s:List UInt8)(hs:s.length<=9223372036854775807):bp Tryz.prog 129 [.str s] (· = .bool (decide (1<=s.length/\s.length<=16))):=by
 refine ah wc mixed Tryz.func129 rfl (ab rfl) Hs ?_;unfold Tryz.f129;by_cases h:(1:Int)<=s.length
 · simp-implicitDefEqProofs (disch:=(first|omega|decide)) only[go_sem,↓reduceIte,seval,h]
   apply decide_eq_decide.2;omega
 · simp-implicitDefEqProofs (disch:=(first|omega|decide)) only[go_sem,↓reduceIte,seval,h]
   symm;apply decide_eq_false;omega
theorem KP:aQ Tryz.prog T0 Tryz.f150.ntmps (Tryz.f150.body.getD .skip)=true:=by kernel_rfl
theorem AE(a b:List UInt8)(ha:a.length<=9223372036854775807)(hb:b.length<=9223372036854775807):bp Tryz.prog 150 [.str a,.str b] (· = .bool (fC a b== -1)):=by
 refine ah wc mixed Tryz.func150 rfl (ab rfl) KP ?_;unfold Tryz.f150;simp-implicitDefEqProofs (disch:=(first|omega|decide)) only[go_sem,↓reduceIte,seval]
 refine a_ [0,1] (ι:={k:Nat//k<=a.length/\k<=b.length/\fC a b=fC (a.drop k) (b.drop k)}) (fun k=>[(5,.int .i64 k.1)]) (fun _=>[]) (fun k=>a.length-k.1) ⟨0,by simp⟩ (by simp[T0,Cf]) ?_ ?_
 · simp-implicitDefEqProofs (disch:=(first|omega|decide)) only[go_sem,↓reduceIte,seval]
 · rintro⟨k,qD,hk2,OZ⟩
   by_cases hk:(k:Int)<a.length
   · have hka:k<a.length:=by omega
     by_cases M9:(b.length:Int)<=k
     · simp-implicitDefEqProofs (disch:=(first|omega|decide)) only[go_sem,↓reduceIte,seval,hk,M9,nk,wrap_i64]
       have h2:b.drop k=[]:=aC (by omega)
       rw[OZ,h2,ax hka]
       rfl
     · have hkb:k<b.length:=by omega
       have e1:a[k]? =some a[k]:=ae hka;have e2:b[k]? =some b[k]:=ae hkb;rw[Ns hka hkb]at OZ;simp-implicitDefEqProofs (disch:=(first|omega|decide)) only[go_sem,↓reduceIte,seval,hk,M9,nk,wrap_i64]
       refine⟨fun h=> ?_,fun h=>⟨⟨k+1,hka,hkb, ?_⟩,by simp,by simp;omega⟩⟩
       · have eH: ¬((a[k].toNat:Int)=b[k].toNat):=by simpa using h
         have t: ∀u v:UInt8,(u<v)=(u.toNat<v.toNat):=fun u v=>rfl;simp only[t]at OZ;by_cases hl:a[k].toNat<b[k].toNat
         · rw[OZ,if_pos hl,decide_eq_true (by omega)];rfl
         · rw[OZ,if_neg hl,if_pos (by omega),decide_eq_false (by omega)];rfl
       · have he:((a[k].toNat:Int)=b[k].toNat):=by simpa using h
         have t: ∀u v:UInt8,(u<v)=(u.toNat<v.toNat):=fun u v=>rfl;simp only[t]at OZ;rw[OZ,if_neg (by omega),if_neg (by omega)]
   · simp-implicitDefEqProofs (disch:=(first|omega|decide)) only[go_sem,↓reduceIte,seval,hk,nk,wrap_i64]
     have h2:a.drop k=[]:=aC (by omega)
     rw[OZ,h2]
     by_cases h3:k<b.length
     · rw[ax h3,decide_eq_true (by omega)];rfl
     · rw[aC (by omega),decide_eq_false (by omega)];rfl
def O3(s p:List UInt8):Bool:=decide (p.length<=s.length)&&s.take p.length==p
theorem ED:aQ Tryz.prog T0 Tryz.f185.ntmps (Tryz.f185.body.getD .skip)=true:=by kernel_rfl
theorem Ht(s p:List UInt8)(hs:s.length<=9223372036854775807)(hp:p.length<=9223372036854775807):bp Tryz.prog 185 [.str s,.str p] (· = .bool (O3 s p)):=by
 refine ah wc mixed Tryz.func185 rfl (ab rfl) ED ?_;unfold Tryz.f185;unfold O3;by_cases h:(p.length:Int)<=s.length
 · have hm: ¬(s.length:Int)<p.length:=by omega
   have hz:(0:Int)<=p.length:=by omega
   simp-implicitDefEqProofs (disch:=(first|omega|decide)) only[go_sem,↓reduceIte,seval,h,hm,hz]
   rw[decide_eq_true (by omega),aB]
 · simp-implicitDefEqProofs (disch:=(first|omega|decide)) only[go_sem,↓reduceIte,seval,h]
   rw[decide_eq_false (by omega),aI]
theorem O4:aQ Tryz.prog T0 Tryz.f142.ntmps (Tryz.f142.body.getD .skip)=true:=by kernel_rfl
theorem SR(p:List UInt8)(hp:p.length<=9223372036854775807):bp Tryz.prog 142 [.str p] (· =xZ (qh p)):=by
 refine ah wc mixed Tryz.func142 rfl (ab rfl) O4 ?_;unfold Tryz.f142;simp-implicitDefEqProofs (disch:=(first|omega|decide)) only[go_sem,↓reduceIte,seval]
 refine a_ [0] (ι:={k:Nat//k<=p.length/\cut p p.length=cut p k}) (fun k=>[(4,.int .i64 k.1)]) (fun _=>[]) (fun k=>k.1) ⟨p.length,by simp⟩ (by simp[T0,Cf]) ?_ ?_
 · simp-implicitDefEqProofs (disch:=(first|omega|decide)) only[go_sem,↓reduceIte,seval]
 · rintro⟨k,hk,hc⟩
   cases k with
   |zero=>
    have z:((0:Nat):Int)=0:=rfl;have h0: ¬(0:Int)<0:=by omega
    have hz:((0:Int)==0)=true:=rfl;simp-implicitDefEqProofs (disch:=(first|omega|decide)) only[go_sem,↓reduceIte,seval,z,h0,hz]
    simp[qh,xZ,hc,cut]
   |succ k=>
    have h0:(0:Int)<((k+1:Nat):Int):=by omega
    have h1:((k+1:Nat):Int)-1=(k:Int):=by omega
    have e1:p[k]? =some p[k]:=ae (by omega)
    have bo:=(p[k]).toNat_lt;by_cases Ch:p[k]=255
    · have he: ¬(((p[k]).toNat:Int)<255):=by rw[Ch];decide
      simp-implicitDefEqProofs (disch:=(first|omega|decide)) only[go_sem,↓reduceIte,seval,h0,h1,he,wrap_i64,nk]
      refine⟨⟨k,by omega, ?_⟩,rfl,by simp⟩
      rw[hc]
      simp[cut,e1,Ch]
    · have he:(((p[k]).toNat:Int)<255):=by
       have:(p[k]).toNat≠255:=fun e=>Ch (lg.1 (by rw[e];rfl))
       omega
      have O0:cut p p.length=k+1:=by rw[hc];simp[cut,e1,Ch]
      have hw:=inc_u8 Ch;have hkk:(0:Int)<=0:=by omega
      have Ey:(0:Int)<=k:=by omega
      have hle:(k:Int)<=(p.length:Int):=by omega
      have gw:=lI [p[k]+1]
      simp only[iH,aS,bD,nk]at gw;simp-implicitDefEqProofs (disch:=(first|omega|decide)) only[go_sem,↓reduceIte,seval,O0,hw,gw,lI,rz,h0,h1,he,hkk,Ey,hle,wrap_i64,nk]
      refine⟨by rw[aK];omega, ?_⟩
      rw[qh,if_neg (by rw[O0];omega),O0]
      simp only[jL,xZ]
      have:p.getD k 0=p[k]:=by simp[e1]
      rw[this]
def T06f:aW:=Wy.add 129 (entry (fun(s:List UInt8)=>[.str s]) (fun s=>s.length<=9223372036854775807) (fun s=> .bool (decide (1<=s.length/\s.length<=16))))
theorem T06f_ok:aN Tryz.prog T06f:=T06e_ok.dH Tryz.func129 (by kernel_rfl) (by kernel_rfl) fun s h=>yz s h
@[go_sem] theorem T06f_old{g:FuncId}{xs:List A}(h:g≠129):T06f.f g xs=Wy.f g xs:=aW.aU h
theorem T06f_ref06_Right(s:List UInt8)(h:s.length<=9223372036854775807):T06f.f 129 [.str s]=some (.bool (decide (1<=s.length/\s.length<=16))):=aW.aZ (Γ:=Wy) (fun i j h=>by simpa[ag,and_assoc]using h) s h
def T06g:aW:=T06f.add 150 (entry (fun(p:List UInt8×List UInt8)=>[.str p.1,.str p.2]) (fun p=>p.1.length<=9223372036854775807/\p.2.length<=9223372036854775807) (fun p=> .bool (fC p.1 p.2== -1)))
theorem T06g_ok:aN Tryz.prog T06g:=T06f_ok.dH Tryz.func150 (by kernel_rfl) (by kernel_rfl) fun p h=>AE p.1 p.2 h.1 h.2
@[go_sem] theorem T06g_old{g:FuncId}{xs:List A}(h:g≠150):T06g.f g xs=T06f.f g xs:=aW.aU h
theorem EE(p:List UInt8×List UInt8)(h:p.1.length<=9223372036854775807/\p.2.length<=9223372036854775807):T06g.f 150 [.str p.1,.str p.2]=some (.bool (fC p.1 p.2== -1)):=aW.aZ (Γ:=T06f) (fun i j h=>by simpa[ag,and_assoc]using h) p h
def T06h:aW:=T06g.add 185 (entry (fun(p:List UInt8×List UInt8)=>[.str p.1,.str p.2]) (fun p=>p.1.length<=9223372036854775807/\p.2.length<=9223372036854775807) (fun p=> .bool (O3 p.1 p.2)))
theorem T06h_ok:aN Tryz.prog T06h:=T06g_ok.dH Tryz.func185 (by kernel_rfl) (by kernel_rfl) fun p h=>Ht p.1 p.2 h.1 h.2
@[go_sem] theorem T06h_old{g:FuncId}{xs:List A}(h:g≠185):T06h.f g xs=T06g.f g xs:=aW.aU h
def T06i:aW:=T06h.add 142 (entry (fun(s:List UInt8)=>[.str s]) (fun s=>s.length<=9223372036854775807) (fun s=>xZ (qh s)))
theorem T06i_ok:aN Tryz.prog T06i:=T06h_ok.dH Tryz.func142 (by kernel_rfl) (by kernel_rfl) fun s h=>SR s h
@[go_sem] theorem T06i_old{g:FuncId}{xs:List A}(h:g≠142):T06i.f g xs=T06h.f g xs:=aW.aU h
theorem Hu(s:List UInt8)(h:s.length<=9223372036854775807):T06i.f 142 [.str s]=some (xZ (qh s)):=aW.aZ (Γ:=T06h) (fun i j h=>by simpa[ag,and_assoc]using h) s h
@[go_sem] theorem O5{a b:List UInt8}(h:a.length<=9223372036854775807)(h':b.length<=9223372036854775807):T06g.f 150 [.str a,.str b]=some (.bool (fC a b== -1)):=EE (a,b) ⟨h,h'⟩
@[go_sem] theorem t_ref06_End{s:List UInt8}(h:s.length<=9223372036854775807):T06i.f 142 [.str s]=some (xZ (qh s)):=Hu s h
theorem nX(a b:UInt8)(x y:List UInt8):fC (a::x) (b::y)=if a.toNat<b.toNat then-1 else if b.toNat<a.toNat then 1 else fC x y:=by
 simp only[fC]
 by_cases h1:a.toNat<b.toNat
 · rw[if_pos h1,if_pos (show a<b from h1)]
 · rw[if_neg h1,if_neg (show¬a<b from h1)]
   by_cases h2:b.toNat<a.toNat
   · rw[if_pos h2,if_pos (show b<a from h2)]
   · rw[if_neg h2,if_neg (show¬b<a from h2)]
theorem Nt: ∀a b:List UInt8,fC a b= -1\/fC a b=0\/fC a b=1
 | [],[]=> .inr (.inl rfl)
 | [],_::_=> .inl rfl
 |_::_,[]=> .inr (.inr rfl)
 |a::x,b::y=>by
  simp only[fC]
  split
  · exact .inl rfl
  · split
    · exact .inr (.inr rfl)
    · exact Nt x y
theorem Gd: ∀a b:List UInt8,fC b a= -fC a b
 | [],[]=>rfl
 | [],_::_=>rfl
 |_::_,[]=>rfl
 |a::x,b::y=>by
  have ih:=Gd x y;simp only[nX]
  by_cases h1:a.toNat<b.toNat
  · rw[if_neg (by omega),if_pos h1,if_pos h1];rfl
  · by_cases h2:b.toNat<a.toNat
    · rw[if_pos h2,if_neg h1,if_pos h2]
    · rw[if_neg h2,if_neg h1,if_neg h1,if_neg h2];exact ih
theorem Hv: ∀{a b:List UInt8},fC a b=0 ↔ a=b
 | [],[]=>by simp[fC]
 | [],_::_=>by simp[fC]
 |_::_,[]=>by simp[fC]
 |a::x,b::y=>by
  have ih:=Hv (a:=x) (b:=y)
  simp only[nX]
  by_cases h1:a.toNat<b.toNat
  · rw[if_pos h1]
    have:a≠b:=fun e=>by subst e;omega
    simp[this]
  · by_cases h2:b.toNat<a.toNat
    · rw[if_neg h1,if_pos h2]
      have:a≠b:=fun e=>by subst e;omega
      simp[this]
    · rw[if_neg h1,if_neg h2,ih]
      have:a=b:=lg.1 (by omega)
      simp[this]
theorem we(a:List UInt8):fC a a=0:=Hv.2 rfl
theorem Nu: ∀{a b c:List UInt8},fC a b= -1->fC b c= -1->fC a c= -1
 | [],[],_,h,_=>by simp[fC]at h
 | [],_::_,[],_,h=>by simp[fC]at h
 | [],_::_,_::_,_,_=>rfl
 |_::_,[],_,h,_=>by simp[fC]at h
 |_::_,_::_,[],_,h=>by simp[fC]at h
 |a::x,b::y,c::z,h1,h2=>by
  have ih:= @Nu x y z;simp only[nX]at h1 h2⊢;split at h1
  · split at h2
    · rw[if_pos (by omega)]
    · split at h2
      · simp at h2
      · rw[if_pos (by omega)]
  · split at h1
    · simp at h1
    · split at h2
      · rw[if_pos (by omega)]
      · split at h2
        · simp at h2
        · rw[if_neg (by omega),if_neg (by omega)]
          exact ih h1 h2
def cL(a b:List UInt8):Bool:=fC a b== -1
theorem lt_irrefl(a:List UInt8):cL a a=false:=by simp[cL,we]
theorem fa{a b c:List UInt8}(h1:cL a b=true)(h2:cL b c=true):cL a c=true:=by simp only[cL,beq_iff_eq]at*;exact Nu h1 h2
theorem kG{a b:List UInt8}(h1:cL a b=true):cL b a=false:=by simp only[cL,beq_iff_eq]at h1;simp[cL,Gd a b,h1]
theorem s6(a b:List UInt8):cL a b=true\/a=b\/cL b a=true:=by
 rcases Nt a b with h|h|h
 · exact .inl (by simp[cL,h])
 · exact .inr (.inl (Hv.1 h))
 · exact .inr (.inr (by simp[cL,Gd a b,h]))
theorem tI{a b:List UInt8}(h:cL a b=true):fC a b= -1:=by simpa[cL]using h
theorem xD{a b:List UInt8}(h:cL b a=true):fC a b=1:=by rw[Gd,tI h];rfl
theorem lt_next: ∀s:List UInt8,cL s (s++[0])=true
 | []=>rfl
 |c::s=>by
  have:=lt_next s;simp only[cL,beq_iff_eq]at this⊢;simp only[bF,nX]
  rw[if_neg (by omega),if_neg (by omega)];exact this
theorem Hw: ∀{s t:List UInt8},cL s t=true->cL t (s++[0])=false
 | [],[],h=>by simp[cL,fC]at h
 | [],c::t,_=>by
  simp only[cL,bx,nX]
  have h0:(0:UInt8).toNat=0:=rfl;rw[h0,if_neg (by omega)]
  split
  · rfl
  · cases t<;>rfl
 |_::_,[],h=>by simp[cL,fC]at h
 |c::s,d::t,h=>by
  have ih:= @Hw s t;simp only[cL,bF,nX]at h ih⊢;split at h
  · rw[if_neg (by omega),if_pos (by omega)];rfl
  · split at h
    · simp at h
    · rw[if_neg (by omega),if_neg (by omega)];exact ih h
def endR:List UInt8->Option (List UInt8)
 | []=>none
 |c::p=>match endR p with
  |some e=>some (c::e)
  |none=>if c=255 then none else some [c+1]
theorem Wz(p:List UInt8): ∀n,cut p n<=n
 |0=>ai _
 |n+1=>by
  simp only[cut]
  split
  · exact Nat.le_succ_of_le (Wz p n)
  · exact ai _
theorem SS(c:UInt8)(p:List UInt8): ∀n,cut (c::p) (n+1)=if cut p n=0 then(if c=255 then 0 else 1)else cut p n+1
 |0=>by simp[cut]
 |n+1=>by
  have ih:=SS c p n;rw[cut]
  simp only[List.getD_cons_succ]
  rw[ih]
  by_cases h:p.getD n 0=255
  · rw[if_pos h]
    simp only[cut,if_pos h]
  · rw[if_neg h]
    simp only[cut,if_neg h]
    rw[if_neg (by omega)]
theorem Zf: ∀p:List UInt8,qh p=endR p
 | []=>rfl
 |c::p=>by
  have ih:=Zf p;have hc:=SS c p p.length;have hle:=Wz p p.length;simp only[endR,<-ih]
  unfold qh;rw[aG,hc]
  by_cases h0:cut p p.length=0
  · rw[if_pos h0]
    simp only[h0,if_true]
    by_cases h:c=255
    · simp[h]
    · simp[h]
  · rw[if_neg h0]
    simp only[if_neg h0]
    rw[if_neg (by omega)]
    have e:cut p p.length+1-1=(cut p p.length-1)+1:=by omega
    rw[e]
    simp
def T06j:aW:=T06i
theorem T06j_ok:aN Tryz.prog T06j:=T06i_ok
@[go_sem] theorem T06j_old{g:FuncId}{xs:List A}:T06j.f g xs=T06i.f g xs:=rfl
def T06k:aW:=T06j
theorem T06k_ok:aN Tryz.prog T06k:=T06j_ok
@[go_sem] theorem T06k_old{g:FuncId}{xs:List A}:T06k.f g xs=T06j.f g xs:=rfl
def Hx:aW:=T06k
theorem uE:aN Tryz.prog Hx:=T06k_ok
@[go_sem] theorem T06l_old{g:FuncId}{xs:List A}:Hx.f g xs=T06k.f g xs:=rfl
@[go_sem] theorem T06l_s:Hx.pl T06k:=⟨fun _=>rfl,fun _=>rfl,rfl,fun _=>rfl,rfl,fun _=>rfl,rfl⟩
@[go_sem] theorem cmp_le0{a b:List UInt8}:decide (fC a b<=0)= !cL b a:=by
 rcases s6 a b with h|h|h
 · rw[tI h,kG h];rfl
 · subst h;rw[we,lt_irrefl];rfl
 · rw[xD h,h];rfl
@[go_sem] theorem AF{a b:List UInt8}:decide (fC a b<0)=cL a b:=by
 rcases s6 a b with h|h|h
 · rw[tI h,h];rfl
 · subst h;rw[we,lt_irrefl];rfl
 · rw[xD h,kG h];rfl
@[go_sem] theorem cmp_gt0{a b:List UInt8}:decide (0<fC a b)=cL b a:=by
 rcases s6 a b with h|h|h
 · rw[tI h,kG h];rfl
 · subst h;rw[we,lt_irrefl];rfl
 · rw[xD h,h];rfl
@[go_sem] theorem cmp_ge0{a b:List UInt8}:decide (0<=fC a b)= !cL a b:=by
 rcases s6 a b with h|h|h
 · rw[tI h,h];rfl
 · subst h;rw[we,lt_irrefl];rfl
 · rw[xD h,kG h];rfl
@[go_sem] theorem cmp_eqm1{a b:List UInt8}:(fC a b== -1)=cL a b:=rfl
structure bk where
 lo:List UInt8
 hi:List UInt8
 op:Bool
 deriving DecidableEq
def bk.enc(r:bk):A:= .agg [.str r.lo,.str r.hi,.bool r.op]
@[go_sem] theorem bk.za{a b:List UInt8}{c:Bool}:bk.enc ⟨a,b,c⟩= .agg [.str a,.str b,.bool c]:=rfl
theorem bk.jM(r s:bk)(h:r.enc=s.enc):r=s:=by cases r;cases s;simpa[bk.enc]using h
def bk.zero:bk:=⟨[],[],false⟩
def bk.ok(r:bk):Prop:=r.lo.length<=9223372036854775807/\r.hi.length<=9223372036854775807
def bw(r:bk):Bool:=decide (r.lo.length<=17)&&decide (r.hi.length<=17)&&(if r.op then r.hi==[]else cL r.lo r.hi)
def eT(r:bk)(s:List UInt8):Bool:=bw r&& !cL s r.lo&&(r.op||cL s r.hi)
def sj(k:List UInt8):bk:=if 16<k.length then bk.zero else⟨k,k++[0],false⟩
def pQ(p:List UInt8):bk:=if 16<p.length then bk.zero else⟨p,(qh p).getD [],(qh p).isNone⟩
def vb(a b:bk):Int:=if !bw a|| !bw b||(a.op&&b.op)then 0 else if a.op then 1 else if b.op then-1 else fC a.hi b.hi
theorem SU:aQ Tryz.prog T0 Tryz.f203.ntmps (Tryz.f203.body.getD .skip)=true:=by kernel_rfl
theorem WA:bp Tryz.prog 203 [] (· = .agg [.str [],.str [],.bool true]):=by refine ah wc mixed Tryz.func203 rfl (ab rfl) SU ?_;unfold Tryz.f203;simp-implicitDefEqProofs (disch:=(first|omega|decide)) only[go_sem,↓reduceIte,seval]
theorem WB:aQ Tryz.prog Hx Tryz.f148.ntmps (Tryz.f148.body.getD .skip)=true:=by kernel_rfl
theorem Nv(k:List UInt8)(hk:k.length<=9223372036854775807):bp Tryz.prog 148 [.str k] (· =(sj k).enc):=by
 refine ah uE mixed Tryz.func148 rfl (ab rfl) WB ?_;unfold Tryz.f148;by_cases h:(16:Int)<k.length
 · have e:sj k=bk.zero:=if_pos (by omega)
   simp-implicitDefEqProofs (disch:=(first|omega|decide)) only[go_sem,↓reduceIte,seval,h,e,bk.zero]
 · have e:sj k=⟨k,k++[0],false⟩:=if_neg (by omega)
   have M9:k.length<9223372036854775807:=by omega
   simp-implicitDefEqProofs (disch:=(first|omega|decide)) only[go_sem,↓reduceIte,seval,h,e]
theorem SV:aQ Tryz.prog Hx Tryz.f159.ntmps (Tryz.f159.body.getD .skip)=true:=by kernel_rfl
theorem Hy(k:List UInt8)(hk:k.length<=9223372036854775807):bp Tryz.prog 159 [.str k] (· =(sj k).enc):=by
 refine ah uE mixed Tryz.func159 rfl (ab rfl) SV ?_;unfold Tryz.f159;by_cases h:(16:Int)<k.length
 · have e:sj k=bk.zero:=if_pos (by omega)
   simp-implicitDefEqProofs (disch:=(first|omega|decide)) only[go_sem,↓reduceIte,seval,h,e,bk.zero]
 · have e:sj k=⟨k,k++[0],false⟩:=if_neg (by omega)
   have gw:=lI [0]
   simp only[iH,aS,bD,nk]at gw;have hz:((0:UInt8).toNat:Int)=0:=rfl;rw[hz]at gw;simp-implicitDefEqProofs (disch:=(first|omega|decide)) only[go_sem,↓reduceIte,seval,h,e,gw,rz]
   omega
theorem Hz:aQ Tryz.prog Hx Tryz.f204.ntmps (Tryz.f204.body.getD .skip)=true:=by kernel_rfl
theorem KQ(p:List UInt8)(hp:p.length<=9223372036854775807):bp Tryz.prog 204 [.str p] (· =(pQ p).enc):=by
 refine ah uE mixed Tryz.func204 rfl (ab rfl) Hz ?_;unfold Tryz.f204;by_cases h:(16:Int)<p.length
 · have e:pQ p=bk.zero:=if_pos (by omega)
   simp-implicitDefEqProofs (disch:=(first|omega|decide)) only[go_sem,↓reduceIte,seval,h,e,bk.zero]
 · have e:pQ p=⟨p,(qh p).getD [],(qh p).isNone⟩:=if_neg (by omega)
   cases he:qh p with
   |none=>simp-implicitDefEqProofs (disch:=(first|omega|decide)) only[go_sem,↓reduceIte,seval,h,e,he,xZ]
   |some x=>simp-implicitDefEqProofs (disch:=(first|omega|decide)) only[go_sem,↓reduceIte,seval,h,e,he,xZ]
theorem EF:aQ Tryz.prog Hx Tryz.f80.ntmps (Tryz.f80.body.getD .skip)=true:=by kernel_rfl
theorem HA(p:List UInt8)(hp:p.length<=9223372036854775807):bp Tryz.prog 80 [.str p] (· =(pQ p).enc):=by
 refine ah uE mixed Tryz.func80 rfl (ab rfl) EF ?_;unfold Tryz.f80;by_cases h:(16:Int)<p.length
 · have e:pQ p=bk.zero:=if_pos (by omega)
   simp-implicitDefEqProofs (disch:=(first|omega|decide)) only[go_sem,↓reduceIte,seval,h,e,bk.zero]
 · have e:pQ p=⟨p,(qh p).getD [],(qh p).isNone⟩:=if_neg (by omega)
   cases he:qh p with
   |none=>simp-implicitDefEqProofs (disch:=(first|omega|decide)) only[go_sem,↓reduceIte,seval,h,e,he,xZ]
   |some x=>simp-implicitDefEqProofs (disch:=(first|omega|decide)) only[go_sem,↓reduceIte,seval,h,e,he,xZ]
theorem KR:aQ Tryz.prog Hx Tryz.f169.ntmps (Tryz.f169.body.getD .skip)=true:=by kernel_rfl
theorem AG(lo hi:List UInt8)(op:Bool)(h1:lo.length<=9223372036854775807)(h2:hi.length<=9223372036854775807):bp Tryz.prog 169 [.agg [.str lo,.str hi,.bool op]] (· = .bool (bw ⟨lo,hi,op⟩)):=by
 refine ah uE mixed Tryz.func169 rfl (ab rfl) KR ?_;unfold Tryz.f169;by_cases g1:lo.length<=17
 · by_cases g2:hi.length<=17
   · cases op<;>simp-implicitDefEqProofs (disch:=(first|omega|decide)) only[go_sem,↓reduceIte,seval,g1,g2,bw]
   · simp-implicitDefEqProofs (disch:=(first|omega|decide)) only[go_sem,↓reduceIte,seval,g1,g2,bw]
 · simp-implicitDefEqProofs (disch:=(first|omega|decide)) only[go_sem,↓reduceIte,seval,g1,bw]
theorem HB:aQ Tryz.prog Hx Tryz.f143.ntmps (Tryz.f143.body.getD .skip)=true:=by kernel_rfl
theorem yA(lo hi:List UInt8)(op:Bool)(h1:lo.length<=9223372036854775807)(h2:hi.length<=9223372036854775807):bp Tryz.prog 143 [.agg [.str lo,.str hi,.bool op]] (· = .bool (bw ⟨lo,hi,op⟩)):=by
 refine ah uE mixed Tryz.func143 rfl (ab rfl) HB ?_;unfold Tryz.f143;by_cases g1:lo.length<=17
 · have f1: ¬(17:Int)<lo.length:=by omega
   by_cases g2:hi.length<=17
   · have f2: ¬(17:Int)<hi.length:=by omega
     cases op<;>simp-implicitDefEqProofs (disch:=(first|omega|decide)) only[go_sem,↓reduceIte,seval,g1,g2,f1,f2,bw]
   · have f2:(17:Int)<hi.length:=by omega
     simp-implicitDefEqProofs (disch:=(first|omega|decide)) only[go_sem,↓reduceIte,seval,g1,g2,f1,f2,bw]
 · have f1:(17:Int)<lo.length:=by omega
   simp-implicitDefEqProofs (disch:=(first|omega|decide)) only[go_sem,↓reduceIte,seval,g1,f1,bw]
def T07a:aW:=Hx.add 203 (entry (fun(u:Unit)=>[]) (fun u=>True) (fun u=> .agg [.str [],.str [],.bool true]))
theorem T07a_ok:aN Tryz.prog T07a:=uE.dH Tryz.func203 (by kernel_rfl) (by kernel_rfl) fun u h=>WA
@[go_sem] theorem T07a_old{g:FuncId}{xs:List A}(h:g≠203):T07a.f g xs=Hx.f g xs:=aW.aU h
def T07b:aW:=T07a.add 148 (entry (fun(k:List UInt8)=>[.str k]) (fun k=>k.length<=9223372036854775807) (fun k=>(sj k).enc))
theorem T07b_ok:aN Tryz.prog T07b:=T07a_ok.dH Tryz.func148 (by kernel_rfl) (by kernel_rfl) fun k h=>Nv k h
@[go_sem] theorem T07b_old{g:FuncId}{xs:List A}(h:g≠148):T07b.f g xs=T07a.f g xs:=aW.aU h
theorem T07b_span_Of(k:List UInt8)(h:k.length<=9223372036854775807):T07b.f 148 [.str k]=some ((sj k).enc):=aW.aZ (Γ:=T07a) (fun i j h=>by simpa[ag,and_assoc]using h) k h
def T07c:aW:=T07b.add 159 (entry (fun(k:List UInt8)=>[.str k]) (fun k=>k.length<=9223372036854775807) (fun k=>(sj k).enc))
theorem T07c_ok:aN Tryz.prog T07c:=T07b_ok.dH Tryz.func159 (by kernel_rfl) (by kernel_rfl) fun k h=>Hy k h
@[go_sem] theorem T07c_old{g:FuncId}{xs:List A}(h:g≠159):T07c.f g xs=T07b.f g xs:=aW.aU h
def T07d:aW:=T07c.add 204 (entry (fun(k:List UInt8)=>[.str k]) (fun k=>k.length<=9223372036854775807) (fun k=>(pQ k).enc))
theorem T07d_ok:aN Tryz.prog T07d:=T07c_ok.dH Tryz.func204 (by kernel_rfl) (by kernel_rfl) fun k h=>KQ k h
@[go_sem] theorem T07d_old{g:FuncId}{xs:List A}(h:g≠204):T07d.f g xs=T07c.f g xs:=aW.aU h
def T07e:aW:=T07d.add 80 (entry (fun(k:List UInt8)=>[.str k]) (fun k=>k.length<=9223372036854775807) (fun k=>(pQ k).enc))
theorem T07e_ok:aN Tryz.prog T07e:=T07d_ok.dH Tryz.func80 (by kernel_rfl) (by kernel_rfl) fun k h=>HA k h
@[go_sem] theorem T07e_old{g:FuncId}{xs:List A}(h:g≠80):T07e.f g xs=T07d.f g xs:=aW.aU h
def SX:aW:=T07e.add 169 (entry (fun(r:List UInt8×List UInt8×Bool)=>[.agg [.str r.1,.str r.2.1,.bool r.2.2]]) (fun r=>r.1.length<=9223372036854775807/\r.2.1.length<=9223372036854775807) (fun r=> .bool (bw ⟨r.1,r.2.1,r.2.2⟩)))
theorem T07f_ok:aN Tryz.prog SX:=T07e_ok.dH Tryz.func169 (by kernel_rfl) (by kernel_rfl) fun r h=>AG r.1 r.2.1 r.2.2 h.1 h.2
@[go_sem] theorem T07f_old{g:FuncId}{xs:List A}(h:g≠169):SX.f g xs=T07e.f g xs:=aW.aU h
theorem EG(r:List UInt8×List UInt8×Bool)(h:r.1.length<=9223372036854775807/\r.2.1.length<=9223372036854775807):SX.f 169 [.agg [.str r.1,.str r.2.1,.bool r.2.2]]=some (.bool (bw ⟨r.1,r.2.1,r.2.2⟩)):=aW.aZ (Γ:=T07e) (fun i j h=>by simpa[ag,and_assoc]using h) r h
def HC:aW:=SX.add 143 (entry (fun(r:List UInt8×List UInt8×Bool)=>[.agg [.str r.1,.str r.2.1,.bool r.2.2]]) (fun r=>r.1.length<=9223372036854775807/\r.2.1.length<=9223372036854775807) (fun r=> .bool (bw ⟨r.1,r.2.1,r.2.2⟩)))
theorem Ge:aN Tryz.prog HC:=T07f_ok.dH Tryz.func143 (by kernel_rfl) (by kernel_rfl) fun r h=>yA r.1 r.2.1 r.2.2 h.1 h.2
@[go_sem] theorem T07g_old{g:FuncId}{xs:List A}(h:g≠143):HC.f g xs=SX.f g xs:=aW.aU h
@[go_sem] theorem T07g_s:HC.pl SX:=⟨fun _=>rfl,fun _=>rfl,rfl,fun _=>rfl,rfl,fun _=>rfl,rfl⟩
theorem Ci(r:List UInt8×List UInt8×Bool)(h:r.1.length<=9223372036854775807/\r.2.1.length<=9223372036854775807):HC.f 143 [.agg [.str r.1,.str r.2.1,.bool r.2.2]]=some (.bool (bw ⟨r.1,r.2.1,r.2.2⟩)):=aW.aZ (Γ:=SX) (fun i j h=>by simpa[ag,and_assoc]using h) r h
@[go_sem] theorem t_span_Right{lo hi:List UInt8}{op:Bool}(h1:lo.length<=9223372036854775807)(h2:hi.length<=9223372036854775807):SX.f 169 [.agg [.str lo,.str hi,.bool op]]=some (.bool (bw ⟨lo,hi,op⟩)):=EG (lo,hi,op) ⟨h1,h2⟩
@[go_sem] theorem t_ref07_Right{lo hi:List UInt8}{op:Bool}(h1:lo.length<=9223372036854775807)(h2:hi.length<=9223372036854775807):HC.f 143 [.agg [.str lo,.str hi,.bool op]]=some (.bool (bw ⟨lo,hi,op⟩)):=Ci (lo,hi,op) ⟨h1,h2⟩
theorem SY:aQ Tryz.prog HC Tryz.f154.ntmps (Tryz.f154.body.getD .skip)=true:=by kernel_rfl
theorem HD(lo hi s:List UInt8)(op:Bool)(h1:lo.length<=9223372036854775807)(h2:hi.length<=9223372036854775807)(h3:s.length<=9223372036854775807):bp Tryz.prog 154 [.agg [.str lo,.str hi,.bool op],.str s] (· = .bool (eT ⟨lo,hi,op⟩ s)):=by
 refine ah Ge mixed Tryz.func154 rfl (ab rfl) SY ?_;unfold Tryz.f154;have e:eT ⟨lo,hi,op⟩ s=(bw ⟨lo,hi,op⟩&& !cL s lo&&(op||cL s hi)):=rfl;rw[e]
 cases g1:bw ⟨lo,hi,op⟩
 · simp-implicitDefEqProofs (disch:=(first|omega|decide)) only[go_sem,↓reduceIte,seval,g1]
 · cases g2:cL s lo
   · cases g3:op
     · rw[g3]at g1;simp-implicitDefEqProofs (disch:=(first|omega|decide)) only[go_sem,↓reduceIte,seval,g1,g2,g3]
     · rw[g3]at g1;simp-implicitDefEqProofs (disch:=(first|omega|decide)) only[go_sem,↓reduceIte,seval,g1,g2,g3]
   · simp-implicitDefEqProofs (disch:=(first|omega|decide)) only[go_sem,↓reduceIte,seval,g1,g2]
theorem O6:aQ Tryz.prog HC Tryz.f138.ntmps (Tryz.f138.body.getD .skip)=true:=by kernel_rfl
theorem D5(lo hi s:List UInt8)(op:Bool)(h1:lo.length<=9223372036854775807)(h2:hi.length<=9223372036854775807)(h3:s.length<=9223372036854775807):bp Tryz.prog 138 [.agg [.str lo,.str hi,.bool op],.str s] (· = .bool (eT ⟨lo,hi,op⟩ s)):=by
 refine ah Ge mixed Tryz.func138 rfl (ab rfl) O6 ?_;unfold Tryz.f138;have e:eT ⟨lo,hi,op⟩ s=(bw ⟨lo,hi,op⟩&& !cL s lo&&(op||cL s hi)):=rfl;rw[e]
 cases g1:bw ⟨lo,hi,op⟩
 · simp-implicitDefEqProofs (disch:=(first|omega|decide)) only[go_sem,↓reduceIte,seval,g1,O5]
 · cases g2:cL s lo
   · cases g3:op
     · rw[g3]at g1;simp-implicitDefEqProofs (disch:=(first|omega|decide)) only[go_sem,↓reduceIte,seval,g1,g2,g3]
     · rw[g3]at g1;simp-implicitDefEqProofs (disch:=(first|omega|decide)) only[go_sem,↓reduceIte,seval,g1,g2,g3]
   · simp-implicitDefEqProofs (disch:=(first|omega|decide)) only[go_sem,↓reduceIte,seval,g1,g2]
theorem O7:aQ Tryz.prog HC Tryz.f198.ntmps (Tryz.f198.body.getD .skip)=true:=by kernel_rfl
theorem SZ(a b:bk)(ha:a.ok)(hb:b.ok):bp Tryz.prog 198 [.agg [.str a.lo,.str a.hi,.bool a.op],.agg [.str b.lo,.str b.hi,.bool b.op]] (· = .int .i64 (vb a b)):=by
 refine ah Ge mixed Tryz.func198 rfl (ab rfl) O7 ?_;unfold Tryz.f198;obtain⟨lo,hi,op⟩:=a;obtain⟨lh,jU,pY⟩:=b;obtain⟨h1,h2⟩:=ha;obtain⟨h3,h4⟩:=hb;simp only at h1 h2 h3 h4⊢;unfold vb;cases g1:bw ⟨lo,hi,op⟩
 · simp-implicitDefEqProofs (disch:=(first|omega|decide)) only[go_sem,↓reduceIte,seval,g1]
 · cases g2:bw ⟨lh,jU,pY⟩
   · simp-implicitDefEqProofs (disch:=(first|omega|decide)) only[go_sem,↓reduceIte,seval,g1,g2]
   · cases op<;>cases pY<;>simp-implicitDefEqProofs (disch:=(first|omega|decide)) only[go_sem,↓reduceIte,seval,g1,g2]
def WC:aW:=HC.add 154 (entry (fun(r:List UInt8×List UInt8×Bool×List UInt8)=>[.agg [.str r.1,.str r.2.1,.bool r.2.2.1],.str r.2.2.2]) (fun r=>r.1.length<=9223372036854775807/\r.2.1.length<=9223372036854775807/\r.2.2.2.length<=9223372036854775807) (fun r=> .bool (eT ⟨r.1,r.2.1,r.2.2.1⟩ r.2.2.2)))
theorem T07h_ok:aN Tryz.prog WC:=Ge.dH Tryz.func154 (by kernel_rfl) (by kernel_rfl) fun r h=>HD r.1 r.2.1 r.2.2.2 r.2.2.1 h.1 h.2.1 h.2.2
@[go_sem] theorem T07h_old{g:FuncId}{xs:List A}(h:g≠154):WC.f g xs=HC.f g xs:=aW.aU h
theorem KS(r:List UInt8×List UInt8×Bool×List UInt8)(h:r.1.length<=9223372036854775807/\r.2.1.length<=9223372036854775807/\r.2.2.2.length<=9223372036854775807):WC.f 154 [.agg [.str r.1,.str r.2.1,.bool r.2.2.1],.str r.2.2.2]=some (.bool (eT ⟨r.1,r.2.1,r.2.2.1⟩ r.2.2.2)):=aW.aZ (Γ:=HC) (fun i j h=>by simpa[ag,and_assoc]using h) r h
def WD:aW:=WC.add 138 (entry (fun(r:List UInt8×List UInt8×Bool×List UInt8)=>[.agg [.str r.1,.str r.2.1,.bool r.2.2.1],.str r.2.2.2]) (fun r=>r.1.length<=9223372036854775807/\r.2.1.length<=9223372036854775807/\r.2.2.2.length<=9223372036854775807) (fun r=> .bool (eT ⟨r.1,r.2.1,r.2.2.1⟩ r.2.2.2)))
theorem T07i_ok:aN Tryz.prog WD:=T07h_ok.dH Tryz.func138 (by kernel_rfl) (by kernel_rfl) fun r h=>D5 r.1 r.2.1 r.2.2.2 r.2.2.1 h.1 h.2.1 h.2.2
@[go_sem] theorem T07i_old{g:FuncId}{xs:List A}(h:g≠138):WD.f g xs=WC.f g xs:=aW.aU h
theorem HE(r:List UInt8×List UInt8×Bool×List UInt8)(h:r.1.length<=9223372036854775807/\r.2.1.length<=9223372036854775807/\r.2.2.2.length<=9223372036854775807):WD.f 138 [.agg [.str r.1,.str r.2.1,.bool r.2.2.1],.str r.2.2.2]=some (.bool (eT ⟨r.1,r.2.1,r.2.2.1⟩ r.2.2.2)):=aW.aZ (Γ:=WC) (fun i j h=>by simpa[ag,and_assoc]using h) r h
@[go_sem] theorem t_span_Has{lo hi s:List UInt8}{op:Bool}(h1:lo.length<=9223372036854775807)(h2:hi.length<=9223372036854775807)(h3:s.length<=9223372036854775807):WC.f 154 [.agg [.str lo,.str hi,.bool op],.str s]=some (.bool (eT ⟨lo,hi,op⟩ s)):=KS (lo,hi,op,s) ⟨h1,h2,h3⟩
@[go_sem] theorem t_ref07_Has{lo hi s:List UInt8}{op:Bool}(h1:lo.length<=9223372036854775807)(h2:hi.length<=9223372036854775807)(h3:s.length<=9223372036854775807):WD.f 138 [.agg [.str lo,.str hi,.bool op],.str s]=some (.bool (eT ⟨lo,hi,op⟩ s)):=HE (lo,hi,op,s) ⟨h1,h2,h3⟩
def WE:aW:=WD.add 198 (entry (fun(r:(List UInt8×List UInt8×Bool)×List UInt8×List UInt8×Bool)=>[.agg [.str r.1.1,.str r.1.2.1,.bool r.1.2.2],.agg [.str r.2.1,.str r.2.2.1,.bool r.2.2.2]]) (fun r=>bk.ok ⟨r.1.1,r.1.2.1,r.1.2.2⟩/\bk.ok ⟨r.2.1,r.2.2.1,r.2.2.2⟩) (fun r=> .int .i64 (vb ⟨r.1.1,r.1.2.1,r.1.2.2⟩ ⟨r.2.1,r.2.2.1,r.2.2.2⟩)))
theorem T07j_ok:aN Tryz.prog WE:=T07i_ok.dH Tryz.func198 (by kernel_rfl) (by kernel_rfl) fun r h=>SZ ⟨r.1.1,r.1.2.1,r.1.2.2⟩ ⟨r.2.1,r.2.2.1,r.2.2.2⟩ h.1 h.2
@[go_sem] theorem T07j_old{g:FuncId}{xs:List A}(h:g≠198):WE.f g xs=WD.f g xs:=aW.aU h
theorem HF(r:(List UInt8×List UInt8×Bool)×List UInt8×List UInt8×Bool)(h:bk.ok ⟨r.1.1,r.1.2.1,r.1.2.2⟩/\bk.ok ⟨r.2.1,r.2.2.1,r.2.2.2⟩):WE.f 198 [.agg [.str r.1.1,.str r.1.2.1,.bool r.1.2.2],.agg [.str r.2.1,.str r.2.2.1,.bool r.2.2.2]]=some (.int .i64 (vb ⟨r.1.1,r.1.2.1,r.1.2.2⟩ ⟨r.2.1,r.2.2.1,r.2.2.2⟩)):=aW.aZ (Γ:=WD) (fun i j h=>by simpa[ag,and_assoc]using h) r h
@[go_sem] theorem t_span_Ends{lo hi lh jU:List UInt8}{op pY:Bool}(h1:lo.length<=9223372036854775807)(h2:hi.length<=9223372036854775807)(h3:lh.length<=9223372036854775807)(h4:jU.length<=9223372036854775807):WE.f 198 [.agg [.str lo,.str hi,.bool op],.agg [.str lh,.str jU,.bool pY]]=some (.int .i64 (vb ⟨lo,hi,op⟩ ⟨lh,jU,pY⟩)):=HF ((lo,hi,op),lh,jU,pY) ⟨⟨h1,h2⟩,h3,h4⟩
def z':aW:=WE
theorem kH:aN Tryz.prog z':=T07j_ok
@[go_sem] theorem T07_old{g:FuncId}{xs:List A}:z'.f g xs=WE.f g xs:=rfl
@[go_sem] theorem T07_s:z'.pl WE:=⟨fun _=>rfl,fun _=>rfl,rfl,fun _=>rfl,rfl,fun _=>rfl,rfl⟩
theorem qJ{a b c:List UInt8}(h1:cL b a=false)(h2:cL c b=false):cL c a=false:=by
 cases h:cL c a with
 |false=>rfl
 |true=>
  rcases s6 c b with g|g|g
  · rw[g]at h2;cases h2
  · subst g;rw[h]at h1;cases h1
  · rw[fa g h]at h1;cases h1
theorem AH{a b c:List UInt8}(h1:cL a b=true)(h2:cL c b=false):cL a c=true:=by
 rcases s6 a c with g|g|g
 · exact g
 · subst g;rw[h1]at h2;cases h2
 · rw[fa g h1]at h2;cases h2
theorem ltB_nil(s:List UInt8):cL s []=false:=by cases s<;>rfl
theorem endB_len{p e:List UInt8}(h:qh p=some e):e.length<=p.length:=by
 unfold qh at h;split at h
 · cases h
 · obtain rfl:=an h
   have:=Wz p p.length;rw[aj,aK]
   simp;omega
theorem Zg: ∀{p e:List UInt8},endR p=some e->cL p e=true
 | [],e,h=>by simp[endR]at h
 |c::p,e,h=>by
  simp only[endR]at h;split at h
  · rename_i e' he
    obtain rfl:=an h;have:=Zg he;simp only[cL,beq_iff_eq,nX]at this⊢;rw[if_neg (by omega),if_neg (by omega)];exact this
  · split at h
    · cases h
    · rename_i Ch
      obtain rfl:=an h;have OI:c.toNat≠255:=fun e=>Ch (lg.1 (by rw[e];rfl))
      have:=c.toNat_lt
      have hs:(c+1).toNat=c.toNat+1:=by
       rw[UInt8.toNat_add]
       have:(1:UInt8).toNat=1:=rfl;rw[this];omega
      simp only[cL,beq_iff_eq,nX,hs]
      rw[if_pos (by omega)]
theorem prefix_right{t:List UInt8}(h:t.length<=16):bw (pQ t)=true:=by
 unfold pQ;rw[if_neg (by omega)]
 cases he:qh t with
 |none=>simp[bw];omega
 |some e=>
  have h1:=endB_len he;have h2:=Zg (by rw[<-Zf];exact he)
  simp[bw,h2];omega
theorem of_right{t:List UInt8}(h:t.length<=16):bw (sj t)=true:=by
 unfold sj;rw[if_neg (by omega)]
 simp[bw,lt_next];omega
theorem Cj{t s:List UInt8}(h:t.length<=16):eT (sj t) s=(s==t):=by
 have hr:=of_right h;unfold eT;rw[hr]
 unfold sj;rw[if_neg (by omega)]
 simp only[aB,bu]
 rcases s6 s t with g|g|g
 · have:s≠t:=fun e=>by subst e;rw[lt_irrefl]at g;cases g
   rw[g];simp[this]
 · subst g;rw[lt_irrefl,lt_next];simp
 · have:s≠t:=fun e=>by subst e;rw[lt_irrefl]at g;cases g
   rw[Hw g];simp[this]
def S0(r:bk)(s:List UInt8):Bool:=r.op||cL s r.hi
theorem pR(r:bk)(s:List UInt8):eT r s=(bw r&&(!cL s r.lo&&S0 r s)):=by simp[eT,S0,eI]
theorem Zh{a b:bk}(ha:bw a=true)(hb:bw b=true):vb a b<0 ↔ a.op=false/\(b.op=true\/cL a.hi b.hi=true):=by
 unfold vb;rw[ha,hb]
 cases a.op<;>cases b.op<;>simp
 have:= @AF a.hi b.hi;rw[<-decide_eq_true_iff (p:=fC a.hi b.hi<0),this]
theorem fy{r:bk}(h:bw r=true):r.lo.length<=17/\r.hi.length<=17/\(r.op=true->r.hi=[])/\(r.op=false->cL r.lo r.hi=true):=by
 simp only[bw,ak,decide_eq_true_eq]at h;obtain⟨⟨h1,h2⟩,h3⟩:=h;refine⟨h1,h2,fun e=> ?_,fun e=> ?_⟩
 · rw[e]at h3;simpa using h3
 · rw[e]at h3;simpa using h3
theorem wg{r:bk}(h1:r.lo.length<=17)(h2:r.hi.length<=17)(h3:r.op=true->r.hi=[])(h4:r.op=false->cL r.lo r.hi=true):bw r=true:=by
 simp only[bw,ak,decide_eq_true_eq]
 refine⟨⟨h1,h2⟩, ?_⟩
 cases ho:r.op with
 |true=>simp[h3 ho]
 |false=>simp[h4 ho]
theorem WG{r:bk}(h:bw r=true):S0 r r.lo=true:=by
 obtain⟨_,_,_,h4⟩:=fy h;cases ho:r.op with
 |true=>simp[S0,ho]
 |false=>simp[S0,h4 ho]
theorem qK{r:bk}(h:bw r=true):eT r r.lo=true:=by rw[pR,h,lt_irrefl,WG h];rfl
end Go.Proofs.YtfnohjheonlnmaaGreat
namespace Go.Iv
set_option linter.unusedSimpArgs false
set_option linter.unusedVariables false
set_option linter.unusedSectionVars false
structure Lin{α:Type}(lt:α->α->Bool):Prop where
 D6: ∀x,lt x x=false
 tr: ∀x y z,lt x y=true->lt y z=true->lt x z=true
 tri: ∀x y,lt x y=true\/x=y\/lt y x=true
section
variable{α:Type}(lt:α->α->Bool)
def below(x:α):Option α->Bool
 |none=>true
 |some h=>lt x h
def ju(i:α×Option α)(x:α):Bool:= !lt x i.1&&below lt x i.2
def mem(l:List (α×Option α))(x:α):Bool:=l.any (ju lt · x)
def Can:List (α×Option α)->Prop
 | []=>True
 | [i]=>below lt i.1 i.2=true
 |i::j::l=>below lt i.1 i.2=true/\(∃h,i.2=some h/\lt h j.1=true)/\Can (j::l)
end
section
variable{α:Type}{lt:α->α->Bool}(hl:Lin lt)
include hl
theorem asymm{x y:α}(h:lt x y=true):lt y x=false:=by
 cases e:lt y x
 · rfl
 · have:=hl.tr x y x h e
   rw[hl.D6]at this;cases this
theorem tJ{x y:α}(h:lt x y=false)(h':lt y x=false):x=y:=by
 rcases hl.tri x y with h1|h1|h1
 · rw[h]at h1;cases h1
 · exact h1
 · rw[h']at h1;cases h1
theorem pG{x y z:α}(h:lt x y=false)(h':lt y z=false):lt x z=false:=by
 cases e:lt x z
 · rfl
 · rcases hl.tri x y with h1|h1|h1
   · rw[h]at h1;cases h1
   · subst h1;rw[e]at h';cases h'
   · have:=hl.tr y x z h1 e;rw[this]at h';cases h'
theorem qi{x y z:α}(h:lt x y=true)(h':lt z y=false):lt x z=true:=by
 rcases hl.tri x z with h1|h1|h1
 · exact h1
 · subst h1;rw[h]at h';cases h'
 · have:=hl.tr z x y h1 h;rw[this]at h';cases h'
theorem rN{i:α×Option α}: ∀{l:List (α×Option α)},Can lt (i::l)->Can lt l
 | [],_=>trivial
 |_::_,h=>h.2.2
theorem HG{i:α×Option α}: ∀{l:List (α×Option α)},Can lt (i::l)->below lt i.1 i.2=true
 | [],h=>h
 |_::_,h=>h.1
theorem AI: ∀{l:List (α×Option α)} {i:α×Option α} {x:α},Can lt (i::l)->mem lt (i::l) x=true->lt x i.1=false
 |l,i,x,h,hm=>by
  simp only[mem,cI,bE]at hm;rcases hm with hm|hm
  · simp only[ju,ak,bT]at hm;exact hm.1
  · cases l with
    |nil=>cases hm
    |cons j l=>
     obtain⟨h1,⟨e,he,bo⟩,h2⟩:=h;have tH:=AI h2 hm;have hi:lt i.1 e=true:=by rw[he]at h1;exact h1
     have Cc:=hl.tr _ _ _ hi bo;cases hx:lt x i.1
     · rfl
     · have h4:=hl.tr _ _ _ hx Cc
       rw[h4]at tH;cases tH
theorem Zi{i j:α×Option α}{l:List (α×Option α)}{x:α}(h:Can lt (i::j::l))(hx:below lt x i.2=true\/i.2=some x):mem lt (j::l) x=false:=by
 obtain⟨h1,⟨e,he,bo⟩,h2⟩:=h;cases hm:mem lt (j::l) x
 · rfl
 · have h3:=AI hl h2 hm
   rw[he]at hx;rcases hx with hx|hx
   · have:=hl.tr _ _ _ hx bo;rw[h3]at this;cases this
   · rw[an hx]at bo;rw[h3]at bo;cases bo
theorem S3{i:α×Option α}{l:List (α×Option α)}{x:α}(h:Can lt (i::l)):mem lt l x=(mem lt (i::l) x&& !ju lt i x):=by
 simp only[mem,cI]
 cases hi:ju lt i x
 · simp
 · simp only[cM,bG,bN]
   cases l with
   |nil=>rfl
   |cons j l=>
    simp only[ju,ak]at hi;exact Zi hl h (.inl hi.2)
theorem AJ{i:α×Option α}{l:List (α×Option α)}(h:Can lt (i::l)):mem lt (i::l) i.1=true:=by simp[mem,ju,hl.D6,HG hl h]
theorem S4{i:α×Option α}{l:List (α×Option α)}{e:α}(h:Can lt (i::l))(he:i.2=some e):mem lt (i::l) e=false:=by
 have h1:ju lt i e=false:=by simp[ju,he,below,hl.D6]
 show(ju lt i e||mem lt l e)=false;rw[h1,bu]
 cases l with
 |nil=>rfl
 |cons j l=>exact Zi hl h (.inr he)
theorem WH{i j:α×Option α}{l m:List (α×Option α)}(h:Can lt (i::l))(h':Can lt (j::m))(hm: ∀x,mem lt (i::l) x=mem lt (j::m) x)(h0:i.1=j.1){e:α}(he:i.2=some e): ∃e',j.2=some e'/\lt e e'=false:=by
 have hn:=S4 hl h he;rw[hm]at hn;have hie:lt i.1 e=true:=by have:=HG hl h;rw[he]at this;exact this
 simp only[mem,cI,dm]at hn;have hn1:=hn.1;simp only[ju,<-h0,asymm hl hie,bm,aB]at hn1;cases hj:j.2 with
 |none=>rw[hj]at hn1;simp[below]at hn1
 |some e'=>rw[hj]at hn1;exact⟨e',rfl,hn1⟩
theorem HH: ∀{l m:List (α×Option α)},Can lt l->Can lt m->(∀x,mem lt l x=mem lt m x)->l=m
 | [],[],_,_,_=>rfl
 | [],j::m,_,h,hm=>by have:=AJ hl h;rw[<-hm]at this;simp[mem]at this
 |i::l,[],h,_,hm=>by have:=AJ hl h;rw[hm]at this;simp[mem]at this
 |i::l,j::m,h,h',hm=>by
  have e1:i.1=j.1:=by have h1:=AJ hl h;rw[hm]at h1;have h2:=AJ hl h';rw[<-hm]at h2;exact tJ hl (AI hl h' h1) (AI hl h h2)
  have e2:i.2=j.2:=by
   cases hi:i.2 with
   |none=>
    cases hj:j.2 with
    |none=>rfl
    |some e=>
     obtain⟨e',h1,_⟩:=WH hl h' h (fun x=>(hm x).symm) e1.symm hj;rw[hi]at h1;cases h1
   |some e=>
    obtain⟨e',h1,h2⟩:=WH hl h h' hm e1 hi;obtain⟨e'',h3,h4⟩:=WH hl h' h (fun x=>(hm x).symm) e1.symm h1;rw[hi]at h3;obtain rfl:=an h3;rw[h1,tJ hl h2 h4]
  have e3:i=j:=jm e1 e2;subst e3;rw[HH (rN hl h) (rN hl h') (fun x=>by rw[S3 hl h,S3 hl h',hm])]
end
def scan{α:Type}(p:α->Bool):Option α->List α->List (α×Option α)
 |none,[]=>[]
 |some s,[]=>[(s,none)]
 |none,e::es=>if p e then scan p (some e) es else scan p none es
 |some s,e::es=>if p e then scan p (some s) es else(s,some e)::scan p none es
def floor{α:Type}(lt:α->α->Bool)(d:Option α):List α->α->Option α
 | [],_=>d
 |e::es,x=>if lt x e then d else floor lt (some e) es x
def KT{α:Type}(lt:α->α->Bool):Option α->List α->Prop
 |_,[]=>True
 |none,e::es=>KT lt (some e) es
 |some d,e::es=>lt d e=true/\KT lt (some e) es
section
variable{α:Type}{lt:α->α->Bool}(hl:Lin lt){p:α->Bool}
include hl
theorem Zj{x y z:α}(h:lt y x=false)(h':lt y z=true):lt x z=true:=by
 rcases hl.tri x y with h1|h1|h1
 · exact hl.tr _ _ _ h1 h'
 · subst h1;exact h'
 · rw[h]at h1;cases h1
theorem AK{x:α}: ∀{es:List α} {d:α},KT lt (some d) es->lt d x=false->mem lt (scan p none es) x=false/\ ∀s,lt d s=false->mem lt (scan p (some s) es) x= !lt x s
 | [],_,_,_=>⟨rfl,fun s _=>by simp[scan,mem,ju,below]⟩
 |e::es,d,h,hx=>by
  have y8:lt x e=true:=Zj hl hx h.1;have ih:=AK h.2 (asymm hl y8)
  refine⟨?_,fun s hs=> ?_⟩
  · simp only[scan]
    split
    · rw[ih.2 e (hl.D6 e),y8];rfl
    · exact ih.1
  · simp only[scan]
    split
    · exact ih.2 s (asymm hl (Zj hl hs h.1))
    · show(ju lt (s,some e) x||mem lt (scan p none es) x)=_
      rw[ih.1];simp[ju,below,y8]
theorem HI{x:α}: ∀{es:List α} {d:α},KT lt (some d) es->lt x d=false->
 (p d=false->mem lt (scan p none es) x=((floor lt (some d) es x).map p).getD false)/\
 (p d=true-> ∀s,lt d s=false->mem lt (scan p (some s) es) x=((floor lt (some d) es x).map p).getD false)
 | [],d,_,hx=>⟨fun h=>by simp[scan,mem,floor,h],fun h s hs=>by simp[scan,mem,ju,below,floor,h,pG hl hx hs]⟩
 |e::es,d,h,hx=>by
  refine⟨fun hp=> ?_,fun hp s hs=> ?_⟩
  · cases y8:lt x e
    · have ih:=HI h.2 y8
      cases he:p e
      · simp only[floor,scan,y8,he,az,↓reduceIte];exact ih.1 he
      · simp only[floor,scan,y8,he,az,↓reduceIte];exact ih.2 he e (hl.D6 e)
    · have lo:=AK (p:=p) hl h.2 (asymm hl y8)
      cases he:p e
      · simp only[floor,scan,y8,he,hp,az,↓reduceIte,dT,ib];exact lo.1
      · simp only[floor,scan,y8,he,hp,az,↓reduceIte,dT,ib]
        rw[lo.2 e (hl.D6 e),y8];rfl
  · have hse:=Zj hl hs h.1
    cases y8:lt x e
    · have ih:=HI h.2 y8
      cases he:p e
      · simp only[floor,scan,y8,he,az,↓reduceIte]
        rw[<-ih.1 he]
        show(ju lt (s,some e) x||mem lt (scan p none es) x)=_;simp[ju,below,y8]
      · simp only[floor,scan,y8,he,az,↓reduceIte];exact ih.2 he s (asymm hl hse)
    · have lo:=AK (p:=p) hl h.2 (asymm hl y8)
      cases he:p e
      · simp only[floor,scan,y8,he,hp,az,↓reduceIte,dT,ib]
        show(ju lt (s,some e) x||mem lt (scan p none es) x)=_;simp[ju,below,y8,pG hl hx hs]
      · simp only[floor,scan,y8,he,hp,az,↓reduceIte,dT,ib]
        rw[lo.2 s (asymm hl hse),pG hl hx hs];rfl
theorem scan_mem{x:α}: ∀{es:List α},KT lt none es->mem lt (scan p none es) x=((floor lt none es x).map p).getD false
 | [],_=>rfl
 |e::es,h=>by
  cases y8:lt x e
  · have ih:=HI (p:=p) hl h y8
    cases he:p e
    · simp only[floor,scan,y8,he,az,↓reduceIte];exact ih.1 he
    · simp only[floor,scan,y8,he,az,↓reduceIte];exact ih.2 he e (hl.D6 e)
  · have lo:=AK (p:=p) hl h (asymm hl y8)
    cases he:p e
    · simp only[floor,scan,y8,he,az,↓reduceIte,eQ,nc];exact lo.1
    · simp only[floor,scan,y8,he,az,↓reduceIte,eQ,nc]
      rw[lo.2 e (hl.D6 e),y8];rfl
theorem S5: ∀{es:List α} {d:α},KT lt (some d) es->
 (Can lt (scan p none es)/\ ∀j l,scan p none es=j::l->lt d j.1=true)/\ ∀s,lt d s=false->Can lt (scan p (some s) es)/\ ∀j l,scan p (some s) es=j::l->j.1=s
 | [],d,_=>⟨⟨trivial,fun _ _ h=>by simp[scan]at h⟩,fun s _=>⟨rfl,fun j l h=>by simp only[scan,dr]at h;rw[<-h.1]⟩⟩
 |e::es,d,h=>by
  have ih:=S5 h.2;refine⟨?_,fun s hs=> ?_⟩
  · simp only[scan]
    split
    · have:=ih.2 e (hl.D6 e)
      exact⟨this.1,fun j l hj=>by rw[this.2 j l hj];exact h.1⟩
    · exact⟨ih.1.1,fun j l hj=>hl.tr _ _ _ h.1 (ih.1.2 j l hj)⟩
  · have hse:=Zj hl hs h.1
    simp only[scan]
    split
    · exact ih.2 s (asymm hl hse)
    · refine⟨?_,fun j l hj=>by simp only[dr]at hj;rw[<-hj.1]⟩
      cases hr:scan p none es with
      |nil=>exact hse
      |cons j l=>exact⟨hse,⟨e,rfl,ih.1.2 j l hr⟩,by rw[<-hr];exact ih.1.1⟩
theorem scan_can: ∀{es:List α},KT lt none es->Can lt (scan p none es)
 | [],_=>trivial
 |e::es,h=>by
  have:=S5 (p:=p) hl h;simp only[scan]
  split
  · exact(this.2 e (hl.D6 e)).1
  · exact this.1.1
theorem scan_all{es:List α}(h:KT lt none es){P:α->Bool}(hP: ∀x,P x=((floor lt none es x).map P).getD false): ∀x,mem lt (scan P none es) x=P x:=fun x=>by rw[scan_mem hl h,<-hP x]
end
def EH{α:Type}(lt:α->α->Bool):Option α->Option α->Option α
 |some a,some b=>if lt a b then some b else some a
 |_,_=>none
def S6{α:Type}(lt:α->α->Bool)(c:Option α)(r:α):Bool:=
 match c with
 |none=>true
 |some h=> !lt h r
def mrg{α:Type}(lt:α->α->Bool):α×Option α->List (α×Option α)->List (α×Option α)
 |c,[]=>[c]
 |c,r::rs=>if S6 lt c.2 r.1 then mrg lt (c.1,EH lt c.2 r.2) rs else c::mrg lt r rs
section
variable{α:Type}{lt:α->α->Bool}(hl:Lin lt)
include hl
theorem below_max{x:α}(c r:Option α):below lt x (EH lt c r)=(below lt x c||below lt x r):=by
 cases c with
 |none=>cases r<;>simp[EH,below]
 |some a=>
  cases r with
  |none=>simp[EH,below]
  |some b=>
   cases S7:lt a b
   · simp only[EH,S7,az,↓reduceIte,below]
     cases hxb:lt x b
     · simp
     · have hxa:lt x a=true:=by
        cases e:lt x a
        · have:=pG hl e S7;rw[hxb]at this;cases this
        · rfl
       rw[hxa];rfl
   · simp only[EH,S7,↓reduceIte,below]
     cases hxa:lt x a
     · simp
     · rw[hl.tr _ _ _ hxa S7];rfl
theorem memI_join{c r:α×Option α}{x:α}(h:lt r.1 c.1=false)(ht:S6 lt c.2 r.1=true):ju lt (c.1,EH lt c.2 r.2) x=(ju lt c x||ju lt r x):=by
 simp only[ju,below_max hl]
 cases h1:lt x c.1
 · cases h2:below lt x c.2
   · cases h3:lt x r.1
     · simp
     · cases hc:c.2 with
       |none=>rw[hc]at h2;cases h2
       |some e=>
        rw[hc]at h2 ht;simp only[below]at h2;simp only[S6,bT]at ht;have:=pG hl h2 ht;rw[h3]at this;cases this
   · simp
 · have:lt x r.1=true:=qi hl h1 h
   simp[this]
end
end Go.Iv
namespace Go.Proofs.YtfnohjheonlnmaaGreat
open Go.dF
set_option linter.unusedSimpArgs false
set_option linter.unusedVariables false
theorem vu:Iv.Lin cL:=⟨lt_irrefl,fun _ _ _ h1 h2=>fa h1 h2,s6⟩
def sf(r:bk):List UInt8×Option (List UInt8):=(r.lo,if r.op then none else some r.hi)
def bh(l:List bk)(s:List UInt8):Bool:=l.any (eT · s)
def uF:Option bk->List bk->Bool
 |_,[]=>true
 |p,r::rs=>bw r&&(match p with|none=>true|some q=> !(q.op|| !cL q.hi r.lo))&&uF (some r) rs
def cA(l:List bk):Bool:=uF none l
def RS:List bk->Prop
 | []=>True
 | [r]=>bw r=true
 |r::q::l=>bw r=true/\(q.op=false/\cL q.hi r.lo=true)/\RS (q::l)
theorem Nw: ∀(l:List bk) (p:Option bk) (q r:bk),uF p (l++[q,r])=(uF p (l++[q])&&(bw r&& !(q.op|| !cL q.hi r.lo)))
 | [],p,q,r=>by cases p<;>simp[uF,eI]
 |x::l,p,q,r=>by simp only[bF,uF,Nw l (some x) q r,eI]
theorem D7: ∀{l:List bk},cA l.reverse=true ↔ RS l
 | []=>by simp[cA,uF,RS]
 | [r]=>by simp[cA,uF,RS]
 |r::q::l=>by
  have ih:= @D7 (q::l)
  simp only[mB,ba,bF,bx,cA]at ih⊢;rw[Nw,ak,ih,RS,ak]
  simp;exact⟨fun⟨a,b,c,d⟩=>⟨b,⟨c,d⟩,a⟩,fun⟨b,⟨c,d⟩,a⟩=>⟨a,b,c,d⟩⟩
theorem rs_tail{r:bk}: ∀{l:List bk},RS (r::l)->RS l
 | [],_=>trivial
 |_::_,h=>h.2.2
theorem rs_one{r:bk}: ∀{l:List bk},RS (r::l)->bw r=true
 | [],h=>h
 |_::_,h=>h.1
theorem Zk{r:bk}(h:bw r=true):Iv.below cL r.lo (sf r).2=true:=by
 have:=(fy h).2.2.2;unfold sf;cases ho:r.op
 · simp only[az,if_false,Iv.below];exact this ho
 · rfl
theorem iv_inj{r q:bk}(hr:bw r=true)(hq:bw q=true)(h:sf r=sf q):r=q:=by
 obtain⟨_,_,h1,_⟩:=fy hr;obtain⟨_,_,h2,_⟩:=fy hq;obtain⟨lo,hi,op⟩:=r;obtain⟨lh,jU,pY⟩:=q;simp only[sf,Prod.mk.injEq]at h;obtain⟨rfl,h⟩:=h;cases op<;>cases pY<;>simp at h h1 h2
 · rw[h]
 · rw[h1,h2]
theorem uG(r:bk)(s:List UInt8):eT r s=(bw r&&Iv.ju cL (sf r) s):=by unfold eT Iv.ju sf;cases r.op<;>simp[Iv.below,eI]
theorem AL(l:List bk)(s:List UInt8):bh l s=Iv.mem cL ((l.filter bw).map sf) s:=by
 induction l with
 |nil=>rfl
 |cons r l ih=>
  simp only[bh,cI]at ih⊢;rw[ih,uG]
  cases h:bw r
  · simp[na,h]
  · simp[na,h,Iv.mem]
theorem S8: ∀{l:List bk} {p:Option bk},uF p l=true ↔ (∀r∈l,bw r=true)/\Iv.Can cL (l.map sf)/\ ∀q,p=some q-> ∀r,l.head? =some r->q.op=false/\cL q.hi r.lo=true
 | [],p=>by simp[uF,Iv.Can]
 |r::l,p=>by
  have ih:= @S8 l (some r)
  simp only[uF,ak,ih]
  constructor
  · rintro⟨⟨h1,h2⟩,h3,h4,h5⟩
    refine⟨fun q hq=> ?_, ?_,fun q hq r' GW=> ?_⟩
    · rcases aD.1 hq with rfl|hq
      · exact h1
      · exact h3 q hq
    · cases l with
      |nil=>exact Zk h1
      |cons r' l=>
       obtain⟨k1,k2⟩:=h5 r rfl r' rfl;exact⟨Zk h1,⟨r.hi,by simp[sf,k1],k2⟩,h4⟩
    · subst hq
      simp at GW;subst GW;simpa using h2
  · rintro⟨h1,h2,h3⟩
    refine⟨⟨h1 r (by simp), ?_⟩,fun q hq=>h1 q (by simp[hq]),Iv.rN vu h2,fun q hq r' GW=> ?_⟩
    · cases p with
      |none=>rfl
      |some q=>have:=h3 q rfl r rfl;simp[this]
    · obtain rfl:=an hq
      cases l with
      |nil=>simp at GW
      |cons r'' l=>
       simp at GW;subst GW;obtain⟨_,⟨h,k1,k2⟩,_⟩:=h2;simp only[sf]at k1;cases ho:r.op with
       |true=>rw[ho]at k1;simp at k1
       |false=>
        rw[ho]at k1;simp at k1;subst k1;exact⟨rfl,k2⟩
theorem j5{l:List bk}:cA l=true ↔ (∀r∈l,bw r=true)/\Iv.Can cL (l.map sf):=by
 unfold cA;rw[S8]
 simp
theorem qL{l:List bk}(h: ∀r∈l,bw r=true):l.filter bw=l:=dv.2 h
theorem HJ: ∀{l m:List bk},(∀r∈l,bw r=true)->(∀r∈m,bw r=true)->l.map sf=m.map sf->l=m
 | [],[],_,_,_=>rfl
 | [],_::_,_,_,h=>by simp at h
 |_::_,[],_,_,h=>by simp at h
 |r::l,q::m,h1,h2,h=>by simp only[aS,dr]at h;rw[iv_inj (h1 r (by simp)) (h2 q (by simp)) h.1,HJ (fun x hx=>h1 x (by simp[hx])) (fun x hx=>h2 x (by simp[hx])) h.2]
theorem HK{l m:List bk}(h:cA l=true)(h':cA m=true)(hm: ∀s,bh l s=bh m s):l=m:=by
 obtain⟨a1,a2⟩:=j5.1 h;obtain⟨b1,b2⟩:=j5.1 h';refine HJ a1 b1 (Iv.HH vu a2 b2 fun s=> ?_)
 have:=hm s
 rwa [AL,AL,qL a1,qL b1]at this
open Classical in
/-- The right list of the texts that are meant, if there is one. -/
def iC(p:List UInt8->Bool):List bk:=if h: ∃l,cA l=true/\ ∀n,bh l n=p n then Classical.choose h else []
def IsS(p:List UInt8->Bool):Prop:= ∃l,cA l=true/\ ∀n,bh l n=p n
theorem rO(p:List UInt8->Bool):cA (iC p)=true:=by
 unfold iC;split
 · rename_i h;exact(c_ h).1
 · rfl
theorem HL{p:List UInt8->Bool}(h:IsS p)(n:List UInt8):bh (iC p) n=p n:=by unfold iC;rw[dif_pos (show∃l,cA l=true/\ ∀n,bh l n=p n from h)];exact(c_ h).2 n
theorem O8{p:List UInt8->Bool}{l:List bk}(h:cA l=true)(hp: ∀n,bh l n=p n):l=iC p:=
 HK h (rO p) fun n=>by rw[hp,HL ⟨l,h,hp⟩]
theorem nF(r:bk)(l:List bk)(s:List UInt8):bh (r::l) s=(eT r s||bh l s):=rfl
theorem hasRs_rev(l:List bk)(s:List UInt8):bh l.reverse s=bh l s:=by simp[bh]
theorem nY{l:List bk}{s:List UInt8}:bh l s=true ↔∃r∈l,eT r s=true:=by simp[bh]
theorem WI{l m:List bk}(h:l.Perm m)(s:List UInt8):bh l s=bh m s:=by
 rw[bS,nY,nY]
 exact⟨fun⟨r,hr,h1⟩=>⟨r,h.mem_iff.1 hr,h1⟩,fun⟨r,hr,h1⟩=>⟨r,h.mem_iff.2 hr,h1⟩⟩
theorem WJ{r:bk}{s:List UInt8}(h:eT r s=true):bw r=true:=by rw[pR]at h;simp only[ak]at h;exact h.1
theorem O9(l:List bk)(s:List UInt8):bh (l.filter bw) s=bh l s:=by
 rw[bS,nY,nY]
 exact⟨fun⟨r,hr,h1⟩=>⟨r,(aP.1 hr).1,h1⟩,fun⟨r,hr,h1⟩=>⟨r,aP.2 ⟨hr,WJ h1⟩,h1⟩⟩
def mC(q r:bk):bk:=if vb q r<0 then⟨q.lo,r.hi,r.op⟩else q
def jn:List bk->bk->List bk
 | [],r=>[r]
 |q::qs,r=>if q.op|| !cL q.hi r.lo then mC q r::qs else r::q::qs
def lowS(l:List bk)(x:List UInt8):Prop:=match l with| []=>True|q::_=>cL x q.lo=false
theorem S9(q r:bk):(mC q r).lo=q.lo:=by unfold mC;split<;>rfl
theorem merge_iv{q r:bk}(hq:bw q=true)(hr:bw r=true):sf (mC q r)=(q.lo,Iv.EH cL (sf q).2 (sf r).2):=by
 have he:=Zh hq hr;unfold mC;by_cases h:vb q r<0
 · rw[if_pos h]
   obtain⟨h1,h2⟩:=he.1 h;unfold sf;rw[h1]
   cases ho:r.op with
   |true=>simp[Iv.EH]
   |false=>
    rw[ho]at h2;have h3:cL q.hi r.hi=true:=by simpa using h2
    simp[Iv.EH,h3]
 · rw[if_neg h]
   unfold sf;cases ho:q.op with
   |true=>simp[Iv.EH]
   |false=>
    have h2: ¬(r.op=true\/cL q.hi r.hi=true):=fun h3=>h (he.2 ⟨ho,h3⟩)
    have h3:r.op=false:=by
     cases hx:r.op
     · rfl
     · exact absurd (.inl hx) h2
    have h4:cL q.hi r.hi=false:=by
     cases hx:cL q.hi r.hi
     · rfl
     · exact absurd (.inr hx) h2
    simp[Iv.EH,h3,h4]
theorem merge_right{q r:bk}(hq:bw q=true)(hr:bw r=true):bw (mC q r)=true:=by
 obtain⟨a1,a2,a3,a4⟩:=fy hq;obtain⟨b1,b2,b3,b4⟩:=fy hr;have he:=Zh hq hr;unfold mC;by_cases h:vb q r<0
 · rw[if_pos h]
   obtain⟨h1,h2⟩:=he.1 h;refine wg a1 b2 b3 fun ho=> ?_;have B5:r.op=false:=ho;rw[B5]at h2;have h3:cL q.hi r.hi=true:=by simpa using h2
   exact fa (a4 h1) h3
 · rw[if_neg h];exact hq
theorem touch_iff{q r:bk}:(q.op|| !cL q.hi r.lo)=Iv.S6 cL (sf q).2 (sf r).1:=by unfold sf;cases q.op<;>simp[Iv.S6]
theorem S_{l:List bk}{r:bk}(h:RS l)(hr:bw r=true)(hf:lowS l r.lo):RS (jn l r)/\lowS (jn l r) r.lo/\ ∀s,bh (jn l r) s=(bh l s||eT r s):=by
 cases l with
 |nil=>exact⟨hr,lt_irrefl _,fun s=>by simp[jn,bh]⟩
 |cons q qs=>
  have hq:=rs_one h;have Sh:cL r.lo q.lo=false:=hf;simp only[jn]
  cases hc:(q.op|| !cL q.hi r.lo)with
  |true=>
   rw[if_pos rfl]
   have hm:=merge_right hq hr;refine⟨?_, ?_,fun s=> ?_⟩
   · cases qs with
     |nil=>exact hm
     |cons p ps=>exact⟨hm,⟨h.2.1.1,by rw[S9];exact h.2.1.2⟩,h.2.2⟩
   · show cL r.lo (mC q r).lo=false
     rw[S9];exact Sh
   · rw[nF,nF,uG,uG q,uG r,hm,hq,hr]
     simp only[aB]
     rw[merge_iv hq hr]
     have:=Iv.memI_join vu (c:=sf q) (r:=sf r) (x:=s) Sh (by rw[<-touch_iff];exact hc)
     have e:(sf q).1=q.lo:=rfl;rw[e]at this;rw[this]
     cases Iv.ju cL (sf q) s<;>cases Iv.ju cL (sf r) s<;>cases bh qs s<;>rfl
  |false=>
   rw[if_neg (by simp)]
   have BK:q.op=false/\cL q.hi r.lo=true:=by simpa using hc
   refine⟨⟨hr,BK,h⟩,lt_irrefl _,fun s=> ?_⟩
   rw[nF r];cases eT r s<;>cases bh (q::qs) s<;>rfl
theorem pushS_len(l:List bk)(r:bk):(jn l r).length<=l.length+1:=by
 cases l with
 |nil=>simp[jn]
 |cons q qs=>simp only[jn];split<;>simp
theorem zb: ∀{l:List bk} {a:List bk},RS a->(∀r∈l,bw r=true)->l.Pairwise (fun x y=>cL y.lo x.lo=false)->(∀r∈l,lowS a r.lo)->RS (l.foldl jn a)/\ ∀s,bh (l.foldl jn a) s=(bh a s||bh l s)
 | [],a,h,_,_,_=>⟨h,fun s=>by simp[bh]⟩
 |r::l,a,h,ho,hs,hf=>by
  obtain⟨h1,h2,h3⟩:=S_ h (ho r (by simp)) (hf r (by simp))
  rw[aR]at hs
  obtain⟨h4,h5⟩:=zb (l:=l) h1 (fun q hq=>ho q (by simp[hq])) hs.2 (fun q hq=>by
   have:=hs.1 q hq;revert h2;cases jn a r with
   |nil=>intro _;trivial
   |cons p ps=>intro h2;exact qJ h2 this)
  refine⟨h4,fun n=> ?_⟩
  rw[cg,h5,h3,nF]
  simp only[tK]
theorem foldS_all{l:List bk}(ho: ∀r∈l,bw r=true)(hs:l.Pairwise (fun x y=>cL y.lo x.lo=false)):(l.foldl jn []).reverse=iC (bh l):=by
 obtain⟨h1,h2⟩:=zb (a:=[]) trivial ho hs (fun _ _=>trivial)
 exact O8 (D7.2 h1) fun n=>by rw[hasRs_rev,h2];simp[bh]
def toR(i:List UInt8×Option (List UInt8)):bk:=⟨i.1,i.2.getD [],i.2.isNone⟩
theorem iv_toR(i:List UInt8×Option (List UInt8)):sf (toR i)=i:=by obtain⟨a,b⟩:=i;cases b<;>rfl
def WK(P:List UInt8->Bool)(st:List bk×Bool)(e:List UInt8):List bk×Bool:=
 (if P e&& !st.2 then⟨e,[],true⟩::st.1 else if !P e&&st.2 then(match st.1 with|q::qs=>⟨q.lo,e,false⟩::qs| []=>[])else st.1,P e)
def KU(P:List UInt8->Bool)(es:List (List UInt8)):List bk×Bool:=es.foldl (WK P) ([],false)
theorem wh(P:List UInt8->Bool): ∀(es:List (List UInt8)) (acc:List bk),(es.foldl (WK P) (acc,false)).1.reverse=acc.reverse++(Iv.scan P none es).map toR/\
 ∀s,(es.foldl (WK P) (⟨s,[],true⟩::acc,true)).1.reverse=acc.reverse++(Iv.scan P (some s) es).map toR
 | [],acc=>⟨by simp[Iv.scan],fun s=>by simp[Iv.scan,toR]⟩
 |e::es,acc=>by
  refine⟨?_,fun s=> ?_⟩
  · simp only[cg,WK,Iv.scan]
    cases hp:P e with
    |true=>simp only[bm,dO,if_true];exact(wh P es acc).2 e
    |false=>simp only[bm,cv,bN,az,if_false];exact(wh P es acc).1
  · simp only[cg,WK,Iv.scan]
    cases hp:P e with
    |true=>simp only[bG,bN,aI,az,if_false,if_true];exact(wh P es acc).2 s
    |false=>
     simp only[bG,dO,bN,bm,az,if_false,if_true]
     rw[(wh P es (⟨s,e,false⟩::acc)).1]
     simp[toR]
theorem mkS_scan(P:List UInt8->Bool)(es:List (List UInt8)):(KU P es).1.reverse=(Iv.scan P none es).map toR:=by have:=(wh P es []).1;rw[List.reverse_nil,bx]at this;exact this
theorem mkS_step(P:List UInt8->Bool)(es:List (List UInt8))(k:Nat)(h:k<es.length):KU P (es.take (k+1))=WK P (KU P (es.take k)) es[k]:=by unfold KU;rw[<-ar h,cp];rfl
theorem stS_len(P:List UInt8->Bool)(st:List bk×Bool)(e:List UInt8):(WK P st e).1.length<=st.1.length+1:=by
 simp only[WK]
 split
 · simp
 · split
   · split<;>simp_all
   · omega
theorem Zl(P:List UInt8->Bool): ∀(es:List (List UInt8)) (st:List bk×Bool),(es.foldl (WK P) st).1.length<=st.1.length+es.length
 | [],st=>by simp
 |e::es,st=>by
  have h1:=Zl P es (WK P st e)
  have h2:=stS_len P st e;simp only[cg,aG];omega
theorem Zm(P:List UInt8->Bool): ∀(es:List (List UInt8)) (st:List bk×Bool),(st.2=true->st.1≠ [])->(es.foldl (WK P) st).2=true->(es.foldl (WK P) st).1≠ []
 | [],st,h,h'=>h h'
 |e::es,st,h,h'=>by
  refine Zm P es (WK P st e) (fun h2=> ?_) h';have hp:P e=true:=h2;simp only[WK,hp]
  cases hs:st.2 with
  |true=>simp;exact h hs
  |false=>simp
theorem Zn: ∀{es:List (List UInt8)},es.Pairwise (fun x y=>cL x y=true)->Iv.KT cL none es
 | [],_=>trivial
 |e::es,h=>by
  have key: ∀{es:List (List UInt8)} {d:List UInt8},(d::es).Pairwise (fun x y=>cL x y=true)->Iv.KT cL (some d) es:=by
   intro es;induction es with
   |nil=>intro d _;trivial
   |cons e es ih=>
    intro d h;rw[aR]at h;exact⟨h.1 e (by simp),ih h.2⟩
  exact key h
theorem HM: ∀{es:List (List UInt8)} {x:List UInt8} {d:Option (List UInt8)},es.Pairwise (fun a b=>cL a b=true)->(∀e,d=some e->cL x e=false/\ ∀y∈es,cL e y=true)->
  match Iv.floor cL d es x with
  |none=>d=none/\ ∀y∈es,cL x y=true
  |some e=>(d=some e\/e∈es)/\cL x e=false/\ ∀y∈es,cL e y=true->cL x y=true
 | [],x,d,_,h=>by
  cases d with
  |none=>exact⟨rfl,fun y hy=>by cases hy⟩
  |some e=>exact⟨.inl rfl,(h e rfl).1,fun y hy=>by cases hy⟩
 |e::es,x,d,hp,h=>by
  rw[aR]at hp;simp only[Iv.floor]
  cases hx:cL x e with
  |true=>
   rw[if_pos rfl]
   have tH: ∀y∈e::es,cL x y=true:=fun y hy=>by
    rcases aD.1 hy with rfl|hy
    · exact hx
    · exact fa hx (hp.1 y hy)
   cases d with
   |none=>exact⟨rfl,tH⟩
   |some e'=>exact⟨.inl rfl,(h e' rfl).1,fun y hy _=>tH y hy⟩
  |false=>
   rw[if_neg (by simp)]
   have ih:= @HM es x (some e) hp.2 (fun e' BL=>by obtain rfl:=an BL;exact⟨hx,hp.1⟩)
   cases hf:Iv.floor cL (some e) es x with
   |none=>rw[hf]at ih;exact absurd ih.1 (by simp)
   |some e'=>
    rw[hf]at ih;obtain⟨h1,h2,h3⟩:=ih;refine⟨.inr ?_,h2,fun y hy hl=> ?_⟩
    · rcases h1 with h1|h1
      · obtain rfl:=an h1;simp
      · simp[h1]
    · rcases aD.1 hy with rfl|hy
      · rcases h1 with h1|h1
        · obtain rfl:=an h1
          rw[lt_irrefl]at hl;cases hl
        · have:=hp.1 e' h1
          rw[kG this]at hl;cases hl
      · exact h3 y hy hl
theorem Nx: ∀{l:List (List UInt8×Option (List UInt8))},Iv.Can cL l-> ∀i∈l,Iv.below cL i.1 i.2=true
 | [],_,i,hi=>by cases hi
 |j::l,h,i,hi=>by
  rcases aD.1 hi with rfl|hi
  · exact Iv.HG vu h
  · exact Nx (Iv.rN vu h) i hi
theorem AM(P:List UInt8->Bool): ∀(es:List (List UInt8)) (st:Option (List UInt8)),∀i∈Iv.scan P st es,(i.1∈es\/st=some i.1)/\ ∀e,i.2=some e->e∈es
 | [],none,i,hi=>by cases hi
 | [],some s,i,hi=>by simp only[Iv.scan,bc]at hi;subst hi;exact⟨.inr rfl,fun e he=>by cases he⟩
 |x::es,none,i,hi=>by
  simp only[Iv.scan]at hi;split at hi
  · obtain⟨h1,h2⟩:=AM P es (some x) i hi
    refine⟨.inl ?_,fun e he=>by simp[h2 e he]⟩
    rcases h1 with h1|h1
    · simp[h1]
    · obtain rfl:=an h1;simp
  · obtain⟨h1,h2⟩:=AM P es none i hi
    refine⟨.inl ?_,fun e he=>by simp[h2 e he]⟩
    rcases h1 with h1|h1
    · simp[h1]
    · cases h1
 |x::es,some s,i,hi=>by
  simp only[Iv.scan]at hi;split at hi
  · obtain⟨h1,h2⟩:=AM P es (some s) i hi
    refine⟨?_,fun e he=>by simp[h2 e he]⟩
    rcases h1 with h1|h1
    · exact .inl (by simp[h1])
    · exact .inr h1
  · rcases aD.1 hi with rfl|hi
    · exact⟨.inr rfl,fun e he=>by
       have:x=e:=by simpa using he
       simp[this]⟩
    · obtain⟨h1,h2⟩:=AM P es none i hi
      refine⟨.inl ?_,fun e he=>by simp[h2 e he]⟩
      rcases h1 with h1|h1
      · simp[h1]
      · cases h1
theorem mkS_set{P:List UInt8->Bool}{es:List (List UInt8)}(up:es.Pairwise (fun x y=>cL x y=true))(OS: []∈es)(hlen: ∀e∈es,e.length<=17)
 (flat: ∀x,∀e∈es,cL x e=false->(∀y∈es,cL e y=true->cL x y=true)->P x=P e):(KU P es).1.reverse=iC P/\IsS P:=by
 have nn:=Iv.scan_all vu (Zn up) (P:=P) (fun x=>by
  have hf:=HM (x:=x) (d:=none) up (fun e he=>by cases he)
  cases hx:Iv.floor cL none es x with
  |none=>
   rw[hx]at hf;have:=hf.2 [] OS;rw[ltB_nil]at this;cases this
  |some e=>
   rw[hx]at hf;obtain⟨h1,h2,h3⟩:=hf;rcases h1 with h1|h1
   · cases h1
   · exact flat x e h1 h2 h3)
 have hcan:=Iv.scan_can vu (p:=P) (Zn up)
 have py:=AM P es none;rw[mkS_scan]
 generalize Iv.scan P none es=L at*
 have e:(L.map toR).map sf=L:=by
  rw[eD]
  have:(sf∘toR)=id:=funext iv_toR;rw[this,List.map_id]
 have hr: ∀r∈L.map toR,bw r=true:=fun r hr=>by
  obtain⟨i,hi,rfl⟩:=bZ.1 hr;obtain⟨h1,h2⟩:=py i hi;have hv:=Nx hcan i hi;obtain⟨a,b⟩:=i
  have ha:a∈es:=by
   rcases h1 with h1|h1
   · exact h1
   · cases h1
  cases b with
  |none=>exact wg (hlen a ha) (by simp[toR]) (fun _=>rfl) (fun h=>by simp[toR]at h)
  |some b=>exact wg (hlen a ha) (hlen b (h2 b rfl)) (fun h=>by simp[toR]at h) (fun _=>hv)
 have h1:cA (L.map toR)=true:=j5.2 ⟨hr,by rw[e];exact hcan⟩
 have h2: ∀s,bh (L.map toR) s=P s:=fun s=>by rw[AL,qL hr,e];exact nn s
 exact⟨O8 h1 h2,⟨_,h1,h2⟩⟩
theorem zc{l:List bk}{es:List (List UInt8)}(he: ∀r∈l,bw r=true->r.lo∈es/\(r.op=false->r.hi∈es)){x e:List UInt8}(h1:cL x e=false)(h2: ∀y∈es,cL e y=true->cL x y=true):bh l x=bh l e:=by
 have same: ∀y∈es,cL x y=cL e y:=fun y hy=>by
  cases h:cL e y
  · exact qJ h h1
  · exact h2 y hy h
 have key: ∀r∈l,eT r x=eT r e:=fun r hr=>by
  cases hrr:bw r with
  |false=>rw[pR,pR,hrr];rfl
  |true=>
   obtain⟨k1,k2⟩:=he r hr hrr;rw[pR,pR,same _ k1]
   unfold S0;cases ho:r.op with
   |true=>rfl
   |false=>rw[same _ (k2 ho)]
 clear he;induction l with
 |nil=>rfl
 |cons r l ih=>
  rw[nF,nF,key r (by simp),ih (fun q hq=>key q (by simp[hq]))]
def nG:List (List UInt8)->List UInt8->List (List UInt8)
 | [],n=>[n]
 |x::xs,n=>if cL x n then x::nG xs n else if x=n then x::xs else n::x::xs
theorem AN(l:List (List UInt8))(n:List UInt8):(nG l n).length<=l.length+1:=by
 induction l with
 |nil=>simp[nG]
 |cons x xs ih=>
  simp only[nG]
  split
  · simp;omega
  · split<;>simp
theorem wi(l:List (List UInt8))(n x:List UInt8):x∈nG l n ↔ x=n\/x∈l:=by
 induction l with
 |nil=>simp[nG]
 |cons y ys ih=>
  simp only[nG]
  split
  · rw[aD,ih,aD]
    exact⟨fun h=>by rcases h with h|h|h<;>simp[h],fun h=>by rcases h with h|h|h<;>simp[h]⟩
  · split
    · rename_i h1 h2;subst h2;simp
    · simp
theorem O_{l:List (List UInt8)}{n:List UInt8}(h:l.Pairwise (fun x y=>cL x y=true)):(nG l n).Pairwise (fun x y=>cL x y=true):=by
 induction l with
 |nil=>simp[nG]
 |cons y ys ih=>
  rw[aR]at h;simp only[nG]
  split
  · rename_i h1
    rw[aR]
    refine⟨fun x hx=> ?_,ih h.2⟩
    rcases(wi ys n x).1 hx with rfl|hx
    · exact h1
    · exact h.1 x hx
  · split
    · exact aR.2 h
    · rename_i h1 h2
      have bo:cL n y=true:=by
       rcases s6 y n with h3|h3|h3
       · exact absurd h3 (by simpa using h1)
       · exact absurd h3 h2
       · exact h3
      rw[aR]
      refine⟨fun x hx=> ?_,aR.2 h⟩
      rcases aD.1 hx with rfl|hx
      · exact bo
      · exact fa bo (h.1 x hx)
def pZ(es:List (List UInt8))(r:bk):List (List UInt8):=if bw r then(if r.op then nG es r.lo else nG (nG es r.lo) r.hi)else es
def nH(a b:List bk):List (List UInt8):=(a++b).foldl pZ [[]]
theorem putE_up{es:List (List UInt8)}{r:bk}(h:es.Pairwise (fun x y=>cL x y=true)):(pZ es r).Pairwise (fun x y=>cL x y=true):=by
 unfold pZ;split
 · split
   · exact O_ h
   · exact O_ (O_ h)
 · exact h
theorem putE_mem(es:List (List UInt8))(r:bk)(x:List UInt8):x∈pZ es r ↔ x∈es\/(bw r=true/\(x=r.lo\/(r.op=false/\x=r.hi))):=by
 unfold pZ;cases h:bw r with
 |false=>simp
 |true=>
  cases ho:r.op with
  |true=>simp[wi];exact⟨fun h=>h.symm,fun h=>h.symm⟩
  |false=>
   simp[wi]
   constructor
   · rintro(h|h|h)
     · exact .inr (.inr h)
     · exact .inr (.inl h)
     · exact .inl h
   · rintro(h|h|h)
     · exact .inr (.inr h)
     · exact .inr (.inl h)
     · exact .inl h
theorem putE_len(es:List (List UInt8))(r:bk):(pZ es r).length<=es.length+2:=by
 have h1:=AN es r.lo;have h2:=AN (nG es r.lo) r.hi;unfold pZ;split
 · split<;>omega
 · omega
theorem Ck: ∀(l:List bk) (es:List (List UInt8)),(l.foldl pZ es).length<=es.length+2*l.length
 | [],es=>by simp
 |r::l,es=>by
  have h1:=Ck l (pZ es r)
  have h2:=putE_len es r;simp only[cg,aG];omega
theorem Ta: ∀(l:List bk) (es:List (List UInt8)),es.Pairwise (fun x y=>cL x y=true)->(l.foldl pZ es).Pairwise (fun x y=>cL x y=true)
 | [],es,h=>h
 |r::l,es,h=>Ta l _ (putE_up h)
theorem rh: ∀(l:List bk) (es:List (List UInt8)) (x:List UInt8),x∈l.foldl pZ es ↔ x∈es\/ ∃r∈l,bw r=true/\(x=r.lo\/(r.op=false/\x=r.hi))
 | [],es,x=>by simp
 |r::l,es,x=>by
  rw[cg,rh l,putE_mem]
  simp only[aD,exists_eq_or_imp,or_assoc]
theorem Ny(a b:List bk):(nH a b).Pairwise (fun x y=>cL x y=true):=Ta _ _ (by simp)
theorem HN(a b:List bk): []∈nH a b:=(rh _ _ _).2 (.inl (by simp))
theorem AO(a b:List bk): ∀e∈nH a b,e.length<=17:=fun e he=>by
 rcases(rh _ _ _).1 he with h|⟨r,_,h1,h2⟩
 · simp at h;subst h;simp
 · obtain⟨k1,k2,_,_⟩:=fy h1
   rcases h2 with rfl|⟨_,rfl⟩
   · exact k1
   · exact k2
theorem zd(a b:List bk): ∀r∈a++b,bw r=true->r.lo∈nH a b/\(r.op=false->r.hi∈nH a b):=fun r hr h=>⟨(rh _ _ _).2 (.inr ⟨r,hr,h,.inl rfl⟩),fun ho=>(rh _ _ _).2 (.inr ⟨r,hr,h,.inr ⟨ho,rfl⟩⟩)⟩
theorem WL(a b:List bk):(nH a b).length<=1+2*(a.length+b.length):=by
 have:=Ck (a++b) [[]]
 rw[aj]at this;exact this
theorem mk_of{kp:Bool->Bool->Bool}{a b:List bk}{es:List (List UInt8)}(up:es.Pairwise (fun x y=>cL x y=true))(OS: []∈es)(hlen: ∀e∈es,e.length<=17)
 (ha: ∀r∈a,bw r=true->r.lo∈es/\(r.op=false->r.hi∈es)) (hb: ∀r∈b,bw r=true->r.lo∈es/\(r.op=false->r.hi∈es)):
 (KU (fun s=>kp (bh a s) (bh b s)) es).1.reverse=iC (fun s=>kp (bh a s) (bh b s))/\IsS (fun s=>kp (bh a s) (bh b s)):=
 mkS_set up OS hlen fun x e _ h1 h2=>by rw[zc ha h1 h2,zc hb h1 h2]
theorem isS_kp(kp:Bool->Bool->Bool)(a b:List bk):IsS (fun s=>kp (bh a s) (bh b s)):=
 (mk_of (Ny a b) (HN a b) (AO a b) (fun r hr=>zd a b r (by simp[hr])) (fun r hr=>zd a b r (by simp[hr]))).2
theorem Zo(l:List bk):IsS (bh l):=isS_kp (fun x _=>x) l l
theorem AP(l:List bk)(s:List UInt8):bh (iC (bh l)) s=bh l s:=HL (Zo l) s
theorem setS_self{l:List bk}(h:cA l=true):iC (bh l)=l:=(O8 h (fun _=>rfl)).symm
set_option maxRecDepth 20000
set_option maxHeartbeats 4000000
def KV:aW:=Cf
theorem oK:aN Tryz.prog KV:=OW _
@[go_sem] theorem T13z_eq:KV=Cf:=rfl
structure bH where
 f:Int
 t:Int
 deriving DecidableEq,Inhabited
def bH.cells(r:bH):List A:=[.int .i64 r.f,.int .i64 r.t]
def bH.enc(r:bH):A:= .agg r.cells
@[go_sem] theorem bH.za{a b:Int}:bH.enc ⟨a,b⟩= .agg [.int .i64 a,.int .i64 b]:=rfl
theorem bH.jM(v w:bH)(h:v.enc=w.enc):v=w:=by cases v;cases w;simpa[bH.enc,bH.cells]using h
@[simp] theorem map_run_inj{l m:List bH}:(l.map bH.enc=m.map bH.enc)=(l=m):=map_inj bH.jM
def fG(r:bH):Bool:=decide (1<=r.f)&&decide (r.f<=r.t)&&decide (r.t<=1099511627776)
theorem nZ{r:bH}(h:fG r=true):1<=r.f/\r.f<=r.t/\r.t<=1099511627776:=by simpa[fG,and_assoc]using h
theorem KW:aQ Tryz.prog KV Tryz.f225.ntmps (Tryz.f225.body.getD .skip)=true:=by kernel_rfl
theorem O'(f t:Int):bp Tryz.prog 225 [.agg [.int .i64 f,.int .i64 t]] (· = .bool (fG ⟨f,t⟩)):=by
 refine ah oK mixed Tryz.func225 rfl (ab rfl) KW ?_;unfold Tryz.f225;by_cases h1:1<=f
 · by_cases h2:f<=t
   · simp-implicitDefEqProofs (disch:=(first|omega|decide)) only[go_sem,↓reduceIte,seval,h1,h2,fG]
   · simp-implicitDefEqProofs (disch:=(first|omega|decide)) only[go_sem,↓reduceIte,seval,h1,h2,fG]
 · simp-implicitDefEqProofs (disch:=(first|omega|decide)) only[go_sem,↓reduceIte,seval,h1,fG]
theorem Pa:aQ Tryz.prog KV Tryz.f218.ntmps (Tryz.f218.body.getD .skip)=true:=by kernel_rfl
theorem Tb(f t:Int):bp Tryz.prog 218 [.agg [.int .i64 f,.int .i64 t]] (· = .bool (fG ⟨f,t⟩)):=by
 refine ah oK mixed Tryz.func218 rfl (ab rfl) Pa ?_;unfold Tryz.f218;by_cases h1:1<=f
 · by_cases h2:f<=t
   · simp-implicitDefEqProofs (disch:=(first|omega|decide)) only[go_sem,↓reduceIte,seval,h1,h2,fG]
   · simp-implicitDefEqProofs (disch:=(first|omega|decide)) only[go_sem,↓reduceIte,seval,h1,h2,fG]
 · simp-implicitDefEqProofs (disch:=(first|omega|decide)) only[go_sem,↓reduceIte,seval,h1,fG]
def WM:aW:=KV.add 225 (entry (fun(v:Int×Int)=>[.agg [.int .i64 v.1,.int .i64 v.2]]) (fun v=>True) (fun v=> .bool (fG ⟨v.1,v.2⟩)))
theorem T13a_ok:aN Tryz.prog WM:=oK.dH Tryz.func225 (by kernel_rfl) (by kernel_rfl) fun v h=>O' v.1 v.2
theorem EI(v:Int×Int)(h:True):WM.f 225 [.agg [.int .i64 v.1,.int .i64 v.2]]=some (.bool (fG ⟨v.1,v.2⟩)):=aW.aZ (Γ:=KV) (fun i j h=>by simpa[ag,and_assoc]using h) v h
def wj:aW:=WM.add 218 (entry (fun(v:Int×Int)=>[.agg [.int .i64 v.1,.int .i64 v.2]]) (fun v=>True) (fun v=> .bool (fG ⟨v.1,v.2⟩)))
theorem uH:aN Tryz.prog wj:=T13a_ok.dH Tryz.func218 (by kernel_rfl) (by kernel_rfl) fun v h=>Tb v.1 v.2
@[go_sem] theorem T13b_old{g:FuncId}{xs:List A}(h:g≠218):wj.f g xs=WM.f g xs:=aW.aU h
@[go_sem] theorem T13b_s:wj.pl WM:=⟨fun _=>rfl,fun _=>rfl,rfl,fun _=>rfl,rfl,fun _=>rfl,rfl⟩
theorem HO(v:Int×Int)(h:True):wj.f 218 [.agg [.int .i64 v.1,.int .i64 v.2]]=some (.bool (fG ⟨v.1,v.2⟩)):=aW.aZ (Γ:=WM) (fun i j h=>by simpa[ag,and_assoc]using h) v h
@[go_sem] theorem t_counts_one{f t:Int}:WM.f 225 [.agg [.int .i64 f,.int .i64 t]]=some (.bool (fG ⟨f,t⟩)):=EI (f,t) trivial
@[go_sem] theorem t_ref13_One{f t:Int}:wj.f 218 [.agg [.int .i64 f,.int .i64 t]]=some (.bool (fG ⟨f,t⟩)):=HO (f,t) trivial
def VK:Option Int->List bH->Bool
 |_,[]=>true
 |p,r::rs=>fG r&&(match p with|none=>true|some t=>decide (t+2<=r.f))&&VK (some r.t) rs
def dC(l:List bH):Bool:=VK none l
def aX(l:List bH)(n:Int):Bool:=l.any fun r=>fG r&&decide (r.f<=n)&&decide (n<=r.t)
def lJ(a b:List bH):Bool:=decide (a=b)
theorem run_get{l:List bH}{k:Nat}(h:k<l.length):(l.map bH.enc)[k]? =some (.agg [.int .i64 l[k].f,.int .i64 l[k].t]):=by rw[aT,ae h];rfl
theorem KX:aQ Tryz.prog wj Tryz.f199.ntmps (Tryz.f199.body.getD .skip)=true:=by kernel_rfl
theorem Pb(l:List bH)(n:Int)(hl:l.length<=4611686018427387904):bp Tryz.prog 199 [.ay (l.map bH.enc),.int .i64 n] (· = .bool (aX l n)):=by
 refine ah uH mixed Tryz.func199 rfl (ab rfl) KX ?_;unfold Tryz.f199;simp-implicitDefEqProofs (disch:=(first|omega|decide)) only[go_sem,↓reduceIte,seval,aa]
 refine a_ [0,1,7,8] (ι:={k:Nat//k<=l.length/\aX l n=aX (l.drop k) n}) (fun p=>[(9,.int .i64 p.1),(4,.bool false)]) (fun _=>[]) (fun p=>l.length-p.1) ⟨0,by omega,rfl⟩ (aw _) ?_ ?_
 · simp-implicitDefEqProofs (disch:=(first|omega|decide)) only[go_sem,↓reduceIte,seval]
 · rintro⟨k,hk,hd⟩
   simp only;by_cases bo:k<l.length
   · have aH:(k:Int)<(l.length:Int):=by omega
     have e1:=run_get bo;rw[ax bo]at hd;generalize hx:l[k]=x at*;obtain⟨f,t⟩:=x;simp only[aX,cI]at hd;have next:aX l n=aX (l.drop (k+1)) n-> ∃j:{k:Nat//k<=l.length/\aX l n=aX (l.drop k) n},(k:Int)+1=(j.1:Int)/\l.length-j.1<l.length-k:=fun h=>⟨⟨k+1,bo,h⟩,by simp,by show l.length-(k+1)<l.length-k;omega⟩
     cases h1:fG ⟨f,t⟩with
     |false=>
      simp-implicitDefEqProofs (disch:=(first|omega|decide)) only[go_sem,↓reduceIte,seval,aH,e1,h1,wrap_i64,aa]
      exact next (by rw[h1]at hd;simpa[aX]using hd)
     |true=>
      by_cases h2:f<=n
      · by_cases h3:n<=t
        · have hh:aX l n=true:=by unfold aX;rw[hd];simp[h1,h2,h3]
          simp-implicitDefEqProofs (disch:=(first|omega|decide)) only[go_sem,↓reduceIte,seval,aH,e1,h1,h2,h3,hh,wrap_i64,aa]
        · simp-implicitDefEqProofs (disch:=(first|omega|decide)) only[go_sem,↓reduceIte,seval,aH,e1,h1,h2,h3,wrap_i64,aa]
          exact next (by rw[h1]at hd;simpa[aX,h2,h3]using hd)
      · simp-implicitDefEqProofs (disch:=(first|omega|decide)) only[go_sem,↓reduceIte,seval,aH,e1,h1,h2,wrap_i64,aa]
        exact next (by rw[h1]at hd;simpa[aX,h2]using hd)
   · have aH: ¬(k:Int)<(l.length:Int):=by omega
     have hh:aX l n=false:=by rw[hd,aC (by omega)];rfl
     simp-implicitDefEqProofs (disch:=(first|omega|decide)) only[go_sem,↓reduceIte,seval,aH,hh,aa]
theorem ec:aQ Tryz.prog KV Tryz.f219.ntmps (Tryz.f219.body.getD .skip)=true:=by kernel_rfl
theorem Tc(l:List bH)(hl:l.length<=4398046511104):bp Tryz.prog 219 [.ay (l.map bH.enc)] (· = .ay (l.map bH.enc)):=by
 cases l with
 |nil=>
  refine Nr ?_ ?_
  · refine ah oK mixed Tryz.func219 rfl (ab rfl) ec ?_
    unfold Tryz.f219;simp-implicitDefEqProofs (disch:=(first|omega|decide)) only[go_sem,↓reduceIte,seval]
  · refine ah oK mixed Tryz.func219 rfl (ab rfl) ec ?_
    unfold Tryz.f219;simp-implicitDefEqProofs (disch:=(first|omega|decide)) only[go_sem,↓reduceIte,seval]
 |cons r l=>
  refine ah oK mixed Tryz.func219 rfl (ab rfl) ec ?_;unfold Tryz.f219;obtain⟨f,t⟩:=r;simp only[aG]at hl;simp-implicitDefEqProofs (disch:=(first|omega|decide)) only[go_sem,↓reduceIte,seval,aa]
  exact⟨by omega,ai _,by rw[ad (by simp)]⟩
theorem KY:aQ Tryz.prog KV Tryz.f193.ntmps (Tryz.f193.body.getD .skip)=true:=by kernel_rfl
theorem Pd(a b:List bH)(hl:a.length<=4611686018427387904)(hb:b.length<=4611686018427387904):bp Tryz.prog 193 [.ay (a.map bH.enc),.ay (b.map bH.enc)] (· = .bool (lJ a b)):=by
 refine ah oK mixed Tryz.func193 rfl (ab rfl) KY ?_;unfold Tryz.f193;cases h0:((a.length:Int)==(b.length:Int))with
 |false=>
  have eH:a.length≠b.length:=by
   have:(a.length:Int)≠(b.length:Int):=by simpa using h0
   omega
  have hh:lJ a b=false:=by unfold lJ;simp;intro e;exact eH (by rw[e])
  simp-implicitDefEqProofs (disch:=(first|omega|decide)) only[go_sem,↓reduceIte,seval,h0,hh,aa]
 |true=>
  have he:a.length=b.length:=by
   have:(a.length:Int)=(b.length:Int):=by simpa using h0
   omega
  simp-implicitDefEqProofs (disch:=(first|omega|decide)) only[go_sem,↓reduceIte,seval,h0,aa]
  refine a_ [0,1] (ι:={k:Nat//k<=a.length/\a.take k=b.take k}) (fun p=>[(5,.int .i64 p.1)]) (fun _=>[]) (fun p=>a.length-p.1) ⟨0,by omega,rfl⟩ (aw _) ?_ ?_
  · simp-implicitDefEqProofs (disch:=(first|omega|decide)) only[go_sem,↓reduceIte,seval]
  · rintro⟨k,hk,hd⟩
    simp only;by_cases bo:k<a.length
    · have aH:(k:Int)<(a.length:Int):=by omega
      have qH:(k:Int)<(b.length:Int):=by omega
      have jD:k<b.length:=by omega
      have e1:=run_get bo;have e2:=run_get jD;have t1:=(ar bo).symm;have t2:=(ar jD).symm;have th:a[k]≠b[k]->lJ a b=false:=fun h=>by unfold lJ;simp;intro e;subst e;exact h rfl
      generalize hx:a[k]=x at*;generalize hy:b[k]=y at*;obtain⟨f,t⟩:=x;obtain⟨f',t'⟩:=y;cases h1:f==f' with
      |false=>
       have hh:=th (by have:f≠f':=by simpa using h1
                       simp[this])
       simp-implicitDefEqProofs (disch:=(first|omega|decide)) only[go_sem,↓reduceIte,seval,aH,qH,e1,e2,h1,hh,aa]
      |true=>
       cases h2:t==t' with
       |false=>
        have hh:=th (by have:t≠t':=by simpa using h2
                        simp[this])
        simp-implicitDefEqProofs (disch:=(first|omega|decide)) only[go_sem,↓reduceIte,seval,aH,qH,e1,e2,h1,h2,hh,aa]
       |true=>
        obtain rfl:f=f':=by simpa using h1
        obtain rfl:t=t':=by simpa using h2
        simp-implicitDefEqProofs (disch:=(first|omega|decide)) only[go_sem,↓reduceIte,seval,aH,qH,e1,e2,h1,h2,wrap_i64,aa]
        exact⟨⟨k+1,bo,by rw[t1,t2,hd]⟩,by simp,by show a.length-(k+1)<a.length-k;omega⟩
    · have aH: ¬(k:Int)<(a.length:Int):=by omega
      have hh:lJ a b=true:=by rw[ad (by omega),ad (by omega)]at hd;simp[lJ,hd]
      simp-implicitDefEqProofs (disch:=(first|omega|decide)) only[go_sem,↓reduceIte,seval,aH,hh,aa]
end Go.Proofs.YtfnohjheonlnmaaGreat
