/- What the laws of this claim rest on: the abstract executor, its soundness, and what the functions compute on pure data. No condition. -/
import Derived.Test.YtihgnfmoafjakaaGreatU3
import Derived.Deep.Slices
import Derived.OpenShut
noncomputable section
set_option linter.unusedVariables false
set_option linter.unusedSimpArgs false
namespace Go.bo
open Go.RowKit
mutual
theorem A.sd{m n:Nat}: ∀x:A,x.under m=true->x.mem n=true->n<m
 | .any,_,h=>by simp[A.mem]at h
 | .int _ _,_,h=>by simp[A.mem]at h
 | .bool _,_,h=>by simp[A.mem]at h
 | .str _,_,h=>by simp[A.mem]at h
 | .ab _,_,h=>by simp[A.mem]at h
 | .clip _,_,h=>by simp[A.mem]at h
 | .dK _,_,h=>by simp[A.mem]at h
 | .bT,_,h=>by simp[A.mem]at h
 | .uV,_,h=>by simp[A.mem]at h
 | .emp _,_,h=>by simp[A.mem]at h
 | .ref _ _,hu,h=>by simp[A.under]at hu;simp[A.mem]at h;omega
 | .h_ _ _ _,hu,h=>by simp[A.under]at hu;simp[A.mem]at h;omega
 | .row _ _ _ _ _,hu,h=>by simp[A.under]at hu;simp[A.mem]at h;omega
 | .agg cs,hu,h=>A.oK cs (by simpa only[A.under]using hu) (by simpa only[A.mem]using h)
 | .fn _ cs,hu,h=>A.oK cs (by simpa only[A.under]using hu) (by simpa only[A.mem]using h)
 | .cD cs,hu,h=>A.oK cs (by simpa only[A.under]using hu) (by simpa only[A.mem]using h)
theorem A.oK{m n:Nat}: ∀cs:List A,A.under.ib m cs=true->A.mem.gm n cs=true->n<m
 | [],_,h=>by simp[A.mem.gm]at h
 |c::cs,hu,h=>by
  simp only[A.under.ib,Bool.and_eq_true]at hu;simp only[A.mem.gm,Bool.or_eq_true]at h;rcases h with h|h
  · exact A.sd c hu.1 h
  · exact A.oK cs hu.2 h
end
section
variable{P:Program}{Γ:an}{N0:Nat->Prop}{w0:kD}{nt:Nat}{σ τ:St}{φ:List dj}{a:Act}{w:World}
theorem Nr{m:Nat}{s:List (Nat×A)}: ∀{r:List (Nat×A)},leS m s r-> ∀d,look r d= .any\/(look r d=look s d/\(look r d).under m=true)
 | [],_,d=> .inl rfl
 |(e,y)::r,h,d=>by
  simp only[leS]at h;simp only[look]
  split
  · rename_i he;subst he;exact .inr ⟨h.1.1.symm,h.1.2⟩
  · exact Nr h.2 d
theorem TH{m:Nat}: ∀{H G:List Obj},s9 m H G-> ∀(n:Nat) (y:Obj),G[n]? =some y-> ∃x,H[n]? =some x/\Tw m x y
 | [],[],_,n,y,h=>by simp at h
 |_::_,[],_,n,y,h=>by simp at h
 | [],_::_,hl,_,_,_=>by simp[s9]at hl
 |x::H,y::G,hl,n,z,h=>by
  simp only[s9]at hl;cases n with
  |zero=>simp at h;subst h;exact⟨x,rfl,hl.1⟩
  |succ n=>simpa using TH hl.2 n z (by simpa using h)
theorem TI{m:Nat}: ∀{H G:List Obj},s9 m H G->G.length<=H.length
 | [],[],_=>by simp
 |_::_,[],_=>by simp
 | [],_::_,hl=>by simp[s9]at hl
 |x::H,y::G,hl=>by simp only[s9]at hl;have:=TI hl.2;simp;exact this
theorem TJ{m:Nat}: ∀{xs ys:List A},Mx m xs ys-> ∀(i:Nat) (y:A),ys[i]? =some y-> ∃x,xs[i]? =some x/\(y= .any\/(x=y/\y.under m=true))
 | [],[],_,i,y,h=>by simp at h
 | [],_::_,hl,_,_,_=>by simp[Mx]at hl
 |_::_,[],hl,_,_,_=>by simp[Mx]at hl
 |x::xs,y::ys,hl,i,z,h=>by
  simp only[Mx]at hl;cases i with
  |zero=>simp at h;subst h;exact⟨x,rfl,hl.1⟩
  |succ i=>simpa using TJ hl.2 i z (by simpa using h)
theorem aO.le_ext(_h:aO N0 w0 nt σ φ a w)(m:Nat):Ext (fun n=>n<m) (aB N0 φ w) (aB N0 (φ.take m) w):=by
 have nk: ∀n:Nat,(φ.take m)[n]? =if n<m then φ[n]? else none:=fun n=>by rw[List.getElem?_take]
 exact{
  size:=Nat.le_refl _
  MI:=fun b _ hn=>⟨by
   rintro(h0|⟨n,k,hm⟩)
   · exact hn (.inl h0)
   · rw[nk]at hm
     split at hm
     · exact hn (.inr ⟨n,k,hm⟩)
     · simp at hm,rfl⟩
  refs:=fun n o hk hm _=>by show(φ.take m)[n]? =some o;rw[nk,if_pos hk];exact hm
  own:=fun m b k c e fr _ hm hc=>⟨c,fr,hc,rfl⟩}
theorem aO.le(h:aO N0 w0 nt σ φ a w){nf:Nat}(My: ∀n:Nat,w0.fix n=true->n<w0.Vr.length->n<nf)(hl:nf<=τ.H.length)(hle:σ.le τ):aO N0 w0 nt τ (φ.take τ.H.length) a w:=by
 obtain⟨hS,hH⟩:=hle;have nk: ∀m:Nat,(φ.take τ.H.length)[m]? =if m<τ.H.length then φ[m]? else none:=fun m=>by rw[List.getElem?_take]
 have zi: ∀m b k:Nat,(φ.take τ.H.length)[m]? =some (dj.loc b k)->φ[m]? =some (.loc b k):=fun m b k hm=>by
  rw[nk]at hm;split at hm
  · exact hm
  · simp at hm
 have dL:Ext (fun m=>m<τ.H.length) (aB N0 φ w) (aB N0 (φ.take τ.H.length) w):={
  size:=Nat.le_refl _
  MI:=fun b _ hn=>⟨by
   rintro(h0|⟨m,k,hm⟩)
   · exact hn (.inl h0)
   · exact hn (.inr ⟨m,k,zi m b k hm⟩),rfl⟩
  refs:=fun m o hk hm _=>by show(φ.take τ.H.length)[m]? =some o;rw[nk,if_pos hk];exact hm
  own:=fun m b k c e fr _ hm hc=>⟨c,fr,hc,rfl⟩}
 exact{
  cW:=fun d=>by
   rcases Nr hS d with hd|⟨hd,hu⟩
   · rw[hd];simp only[aJ]
   · have:=h.cW d
     rw[<-hd]at this;exact aJ.mono dL _ _ this fun n hn=>A.sd _ hu hn
  size:=h.size
  defers:=h.defers
  len:=by
   have:=TI hH;rw[List.length_take,h.len]
   omega
  c7:=fun m o p hm hp=>by
   rw[bH]at hm;obtain⟨x,hx,QM⟩:=TH hH m o hm
   have tb:φ[m]? =some p:=by
    rw[nk]at hp;split at hp
    · exact hp
    · simp at hp
   have fC:=h.c7 m x p (by rw[bH];exact hx) tb;cases x with
   |row k es=>
    cases o with
    |box ys=>simp[Tw]at QM
    |row k' ys=>
     simp only[Tw]at QM;obtain⟨rfl,rfl⟩:=QM;exact aL.mono dL fC (fun b k _ c e fr hh=>hh) (fun cs Bv=>by cases Bv)
   |box xs=>
    cases o with
    |row k ys=>simp[Tw]at QM
    |box ys=>
     simp only[Tw]at QM;cases p with
     |nil=>simp[aL]at fC
     |free=>simp[aL]at fC
     |loc b k=>
      simp only[aL]at fC⊢;refine⟨fC.1,bg.2 fun i y hy=> ?_⟩
      obtain⟨z,hz,hzy⟩:=TJ QM i y hy;obtain⟨v,hv,h1,hr⟩:=bg.1 fC.2 i z hz;refine⟨v,hv,h1, ?_⟩
      rcases hzy with rfl|⟨rfl,hu⟩
      · simp only[aJ]
      · exact aJ.mono dL _ _ hr fun n hn=>A.sd _ hu hn
  own:=fun m b k hm=>h.own m b k (zi m b k hm)
  inj:=fun m m' b k k' hm jz=>h.inj m m' b k k' (zi m b k hm) (zi m' b k' jz)
  n0:=h.n0
  lD:=fun n p hf hp bI=>by
   have:=My n hf (List.getElem?_eq_some_iff.1 hp).1;rw[nk,if_pos (by omega)]
   exact h.lD n p hf hp bI
  below:=h.below}
theorem aO.Yz(h:aO N0 w0 nt σ φ a w){d:Nat}{x:A}(hx:aJ (aB N0 φ w) x (a.tmps.getD d undef)):aO N0 w0 nt ⟨(d,x)::σ.s,σ.H⟩ φ a w:=
 {h with
  cW:=fun t=>by
   simp only[look]
   split
   · rename_i e;subst e;exact hx
   · exact h.cW t}
theorem aO.YA(h:aO N0 w0 nt σ φ a w)(k:Nat):aO N0 w0 nt ⟨σ.s,σ.H++[.row k []]⟩ (φ++[.nil]) a w:=by
 have h1:=h.TG;have h2:=h1.Ym (n:=σ.H.length) (k:=k) (by rw[<-h.len];simp)
 have e1:(St.dc {σ with H:=σ.H++[.row 0 []]} σ.H.length (.row k []))=⟨σ.s,σ.H++[.row k []]⟩:=by simp[St.dc,dU]
 have e2:(φ++[dj.free]).set σ.H.length .nil=φ++[.nil]:=by rw[<-h.len];simp
 rw[e1,e2]at h2;exact h2
theorem Io{ρ:List Nat}{m:Nat}: ∀(s:List (Nat×A)) (d:Nat),look (s.map fun p=>(p.1,p.2.back ρ m)) d=(look s d).back ρ m
 | [],d=>by simp[look,A.back]
 |(e,x)::s,d=>by
  simp only[List.map_cons,look]
  split
  · rfl
  · exact Io s d
theorem aO.perm{nf:Nat}(My: ∀n:Nat,w0.fix n=true->n<w0.Vr.length->n<nf)(h:aO N0 w0 nt σ φ a w){ρ:List Nat}(hl:σ.H.length=ρ.length)(pq:ρ.Nodup)(aw: ∀n∈ρ,n<ρ.length)(hon: ∀n,n<ρ.length->n∈ρ)
 (hk: ∀i,i<nf->ia ρ ρ.length i=i):aO N0 w0 nt (B0 ρ σ) (er ρ φ φ) a w:=by
 have rX:φ.length=σ.H.length:=h.len;have hle:ρ.length<=φ.length:=by omega
 have ae: ∀n∈ρ,n<φ.length:=fun n hn=>by have:=aw n hn;omega
 have nk: ∀i,(er ρ φ φ)[ia ρ σ.H.length i]? =φ[i]? :=fun i=>by rw[<-rX];exact kc hle pq ae i
 have mg: ∀(j:Nat) (p:dj),(er ρ φ φ)[j]? =some p-> ∃i,j=ia ρ σ.H.length i/\φ[i]? =some p:=fun j p hj=>by
  rcases zj hle pq ae hj with⟨i,h1,h2⟩|⟨h1,h2,_⟩
  · exact⟨i,by rw[<-rX];exact h1,h2⟩
  · exact absurd (hon j (by omega)) h1
 have hN: ∀b,¬(aB N0 φ w).N b-> ¬(aB N0 (er ρ φ φ) w).N b:=fun b hb=>by
  rintro(h0|⟨j,k,hj⟩)
  · exact hb (.inl h0)
  · obtain⟨i,_,hi⟩:=mg j _ hj
    exact hb (.inr ⟨i,k,hi⟩)
 have QC: ∀(i:Nat) (p:dj),φ[i]? =some p->(er ρ φ φ)[ia ρ σ.H.length i]? =some p:=fun i p hp=>by rw[nk];exact hp
 exact{
  cW:=fun d=>by
   simp only[B0]
   rw[Io]
   exact vc (El:=aB N0 φ w) (E:=aB N0 (er ρ φ φ) w) rfl hN QC _ _ (h.cW d)
  size:=h.size
  defers:=h.defers
  len:=by
   simp only[B0]
   rw[qp,lW hle,lW (by simp;omega),List.length_map];omega
  c7:=fun j o p ho hp=>by simp only[B0]at ho;rw[bH,qp]at ho;obtain⟨i,rfl,hi⟩:=mg j p hp;have:=kc (ns:=ρ) (os:=σ.H.map (Obj.back ρ σ.H.length)) (xs:=σ.H) (by simp;omega) pq (fun n hn=>by have:=aw n hn;omega) i;rw[this,List.getElem?_map]at ho;obtain⟨o',xc,rfl⟩:=Option.map_eq_some_iff.1 ho;exact zk (El:=aB N0 φ w) (E:=aB N0 (er ρ φ φ) w) rfl hN QC (h.c7 i o' p (by rw[bH];exact xc) hi)
  own:=fun n b k hn=>by obtain⟨i,_,hi⟩:=mg n _ hn;exact h.own i b k hi
  inj:=fun n m b k k' hn hm=>by obtain⟨i,rfl,hi⟩:=mg n _ hn;obtain⟨j,rfl,hj⟩:=mg m _ hm;rw[h.inj i j b k k' hi hj]
  n0:=h.n0
  lD:=fun n p hf hp bI=>by
   have h1:=My n hf (List.getElem?_eq_some_iff.1 hp).1;have h2:=hk n h1;rw[<-hl]at h2;have h3:=QC n p (h.lD n p hf hp bI)
   rw[h2]at h3;exact h3
  below:=h.below}
theorem aO.to{nf:Nat}(My: ∀n:Nat,w0.fix n=true->n<w0.Vr.length->n<nf){σ τ:St}(ht:St.to nf σ τ): ∀{φ:List dj},aO N0 w0 nt σ φ a w-> ∃eT,aO N0 w0 nt τ eT a w:=by
 induction ht with
 |le hl hle=>intro φ h;exact⟨_,h.le My hl hle⟩
 | @nil σ τ d k hd _ ih=>
  intro φ h;have h1:=h.YA k;have hs:=h.cW d;rw[hd]at hs;simp only[aJ]at hs;refine ih (h1.Yz (d:=d) (x:= .row σ.H.length 0 k 0 false) ?_)
  rw[hs]
  simp only[aJ]
  exact .inl ⟨.nil,by show(φ++[dj.nil])[σ.H.length]? =_;rw[<-h.len];simp,by simp,trivial,fun _=>trivial,none,rfl⟩
 | @nilb σ τ m i k cs hm hi _ ih=>
  intro φ h;have h1:=h.YA k;have hmlt:m<σ.H.length:=by rw[bH]at hm;exact(List.getElem?_eq_some_iff.1 hm).1
  have hφm:φ[m]? =some (φ[m]'(by rw[h.len];exact hmlt)):=List.getElem?_eq_getElem _
  have e1:St.dc ⟨σ.s,σ.H++[.row k []]⟩ m (.box (cC cs i (.row σ.H.length 0 k 0 false)))=⟨σ.s,kQ σ.H m (.box (cC cs i (.row σ.H.length 0 k 0 false)))++[.row k []]⟩:=by
   simp only[St.dc,dU]
   rw[List.set_append_left _ _ hmlt]
  have h2:=h1.setObj (n:=m) (o:= .box (cC cs i (.row σ.H.length 0 k 0 false))) (fun p hp=>by
   have fC:=h1.c7 m (.box cs) p (by rw[bH,List.getElem?_append_left hmlt,<-bH];exact hm) hp;cases p with
   |nil=>simp[aL]at fC
   |free=>simp[aL]at fC
   |loc b k'=>
    simp only[aL]at fC⊢;refine⟨fC.1,bg.2 fun j y hy=> ?_⟩
    rw[ga,List.getElem?_set]at hy;split at hy
    · rename_i e
      subst e;split at hy
      · simp at hy
        subst hy;obtain⟨v,hv,nj,hr⟩:=bg.1 fC.2 i _ hi;refine⟨v,hv,nj, ?_⟩
        simp only[aJ]at hr;subst hr;simp only[aJ]
        exact .inl ⟨.nil,by show(φ++[dj.nil])[σ.H.length]? =_;rw[<-h.len];simp,by simp,trivial,fun _=>trivial,none,rfl⟩
      · simp at hy
    · exact bg.1 fC.2 j y hy)
  rw[e1]at h2;exact ih h2
 | @wk σ τ d es hd _ ih=>
  intro φ h;have hs:=h.cW d;rw[hd]at hs;refine ih (h.Yz (d:=d) (x:= .ab es) ?_)
  simp only[aJ]at hs⊢;obtain⟨hp,a,hv,hl⟩:=hs;exact⟨hp,a,_,hv,Nat.le_refl _,hl⟩
 | @wkb σ τ m cs hm _ ih=>
  intro φ h
  exact ih (h.setObj (n:=m) (o:= .box (cs.map jj)) (fun p hp=>by
   have fC:=h.c7 m (.box cs) p hm hp;cases p with
   |nil=>simp[aL]at fC
   |free=>simp[aL]at fC
   |loc b k'=>
    simp only[aL]at fC⊢;refine⟨fC.1,bg.2 fun j y hy=> ?_⟩
    rw[List.getElem?_map]at hy;obtain⟨x,hx,rfl⟩:=Option.map_eq_some_iff.1 hy;obtain⟨v,hv,h1,hr⟩:=bg.1 fC.2 j x hx;exact⟨v,hv,h1,Ia hr⟩))
 | @perm σ τ ρ hl pq aw hon hk _ ih=>
  intro φ h;exact ih (h.perm My hl pq aw hon hk)
 | @pZ σ τ ρ cr pq hH tH _ ih=>
  intro φ h
  exact ih (h.frozen pq hH (fun n hn hf=>by
   rcases Nat.lt_or_ge n w0.Vr.length with aw|VB
   · have:=My n hf aw
     have:=tH n hn;omega
   · exact VB)).1
def Ns(N0:Nat->Prop)(w0:kD)(nt:Nat)(Q:Ex->St->Prop):Exit->Act->World->Prop
 | .normal,a,w=> ∃τ φ,Q .normal τ/\aO N0 w0 nt τ φ a w
 | .exit i,a,w=> ∃τ φ,Q (.exit i) τ/\aO N0 w0 nt τ φ a w
 | .ret,a,w=> ∃τ φ,Q .ret τ/\aO N0 w0 nt τ φ a w
 |_,_,_=>False
theorem Ip(tK:ag P Γ)(uT:w0.fix=Γ.fix)(My: ∀n:Nat,w0.fix n=true->n<w0.Vr.length->n<Γ.nf)(hm:P.follows .mixedOrders=true): ∀(c:Code),ah P Γ nt c=true-> ∀(Q:Ex->St->Prop) (σ:St) (φ:List dj) (a:Act) (w:World),aO N0 w0 nt σ φ a w->gQ P Γ c Q σ->c.wp P (Ns N0 w0 nt Q) a w:=by
 intro c;induction c with
 |skip=>intro _ Q σ φ a w h hw;exact wp_skip ⟨σ,φ,by simpa only[gQ]using hw,h⟩
 |label l=>intro _ Q σ φ a w h hw;exact wp_label ⟨σ,φ,by simpa only[gQ]using hw,h⟩
 |exit id=>intro _ Q σ φ a w h hw;exact wp_exit ⟨σ,φ,by simpa only[gQ]using hw,h⟩
 |ret=>intro _ Q σ φ a w h hw;exact wp_ret ⟨σ,φ,by simpa only[gQ]using hw,h⟩
 |seq x y ihx ihy=>
  intro g_ Q σ φ a w h hw;simp only[ah,Bool.and_eq_true]at g_;simp only[gQ]at hw;refine wp_seq (wp_mono (ihx g_.1 _ σ φ a w h hw) fun e a' w' hq=> ?_)
  cases e with
  |normal=>
   obtain⟨τ,eT,hq,hc⟩:=hq;exact ihy g_.2 _ τ eT a' w' hc hq
  |exit i=>exact hq
  |ret=>exact hq
  |goto l=>exact hq
  |panic c=>exact hq
  |outgrown=>exact hq
 |cond c x y ihx ihy=>
  intro g_ Q σ φ a w h hw;simp only[ah,Bool.and_eq_true]at g_;simp only[gQ,lk]at hw;obtain⟨t,ht,h1,h2⟩:=hw;have Ac:=h.ev c;rw[ht]at Ac;simp only[aJ]at Ac;exact wp_cond_split Ac (fun e=>ihx g_.1 Q σ φ a w h (h1 e)) (fun e=>ihy g_.2 Q σ φ a w h (h2 e))
 |block id x ih=>
  intro g_ Q σ φ a w h hw;simp only[ah]at g_;simp only[gQ]at hw;refine wp_block (wp_mono (ih g_ _ σ φ a w h hw) fun e a' w' hq=> ?_)
  cases e with
  |normal=>exact hq
  |exit i=>
   obtain⟨τ,eT,hq,hc⟩:=hq;simp only[ow]at hq;simp only[Exit.inBlock]
   split
   · rename_i e;rw[if_pos e]at hq;exact⟨τ,eT,hq,hc⟩
   · rename_i e;rw[if_neg e]at hq;exact⟨τ,eT,hq,hc⟩
  |ret=>exact hq
  |goto l=>exact hq
  |panic c=>exact hq
  |outgrown=>exact hq
 |loop x ih=>
  intro g_ Q σ φ a w h hw;simp only[ah]at g_;simp only[gQ]at hw;obtain⟨ι,inv,μ,⟨sI,h0⟩,du⟩:=hw;intro b k cs
  have key: ∀n (i:ι) (σ:St) (φ:List dj) (a:Act) (w:World),μ i=n->aO N0 w0 nt (inv i) φ a w->
   ∃e a' w',Ns N0 w0 nt Q e a' w'/\Arrives P (lone (b.at a (.code x:: .inLoop x::k)) cs w) b k cs e a' w':=by
   intro n;induction n using Nat.strongRecOn with
   |_ n ihn=>
    intro i σ φ a w hn hc;obtain⟨e,YB,YC,hq,YD⟩:=ih g_ _ (inv i) φ a w hc (du i) b (.inLoop x::k) cs;cases e with
    |normal=>
     obtain⟨τ,eT,⟨j,hle,aw⟩,wQ⟩:=hq;obtain⟨φ₂,hc₂⟩:=aO.to My hle wQ;obtain⟨e₂,a₂,w₂,hq₂,harr₂⟩:=ihn (μ j) (hn▸aw) j τ φ₂ YB YC rfl hc₂;exact⟨e₂,a₂,w₂,hq₂,.of_steps (Steps.trans YD (.one step_inLoop)) harr₂⟩
    |exit id=>exact⟨.exit id,YB,YC,(show Ns N0 w0 nt Q (.exit id) YB YC from hq),.pass (x:= .inLoop x) rfl (fun _ _=> .inl (by simp)) YD⟩
    |ret=>exact⟨.ret,YB,YC,(show Ns N0 w0 nt Q .ret YB YC from hq),.pass (x:= .inLoop x) rfl (fun _ _=> .inl (by simp)) YD⟩
    |goto l=>exact hq.elim
    |panic c=>exact hq.elim
    |outgrown=>exact hq.elim
  obtain⟨φ₀,hc₀⟩:=aO.to My h0 h;obtain⟨e,a',w',hq,YD⟩:=key _ sI σ φ₀ a w rfl hc₀;exact⟨e,a',w',hq,.of_steps (.one step_loop) YD⟩
 |region id ops d=>
  intro g_ Q σ φ a w h hw;simp only[ah,Bool.and_eq_true]at g_;simp only[gQ]at hw;obtain⟨⟨hok1,YE⟩,F7⟩:=g_
  have key: ∀(σ:St) (φ:List dj),aO N0 w0 nt σ φ a w->Jp P Γ (B4 (Γ.c6 id)) ops Q σ->(Code.region id ops d).wp P (Ns N0 w0 nt Q) a w:=fun σ φ h hw=>by
   cases ho:B4 (Γ.c6 id)with
   |nil=>
    rw[ho]at hw F7;simp only[List.isEmpty_nil,if_true,Bool.or_eq_true,Bool.not_eq_true']at F7;obtain⟨τ,hr,hQ⟩:=hw;exact JK tK uT hm h hok1 (fun e=>F7.resolve_left (by simp[e])) hr fun eT a' w' hc=>⟨τ,eT,hQ,hc⟩
   |cons o os=>
    rw[ho]at hw F7;simp only[List.isEmpty_cons,Bool.false_eq_true,if_false,Bool.and_eq_true]at F7;obtain⟨rfl,hok3⟩:=F7;exact vk tK uT hm h hok1 hok3 hw fun τ eT a' w' hq hc=>⟨τ,eT,hq,hc⟩
  unfold w4 at hw;unfold frzOK at YE;cases hf:H6 (Γ.c6 id)with
  |none=>rw[hf]at hw;exact key σ φ h hw
  |some ρ=>
   rw[hf]at hw YE;simp only[Bool.and_eq_true,decide_eq_true_iff,List.all_eq_true]at YE;obtain⟨cr,hH,hw⟩:=hw
   exact key _ _ (h.frozen (YE.1.filter _) hH (fun n hn hf=>by
    have hn:=(List.mem_filter.1 hn).1;rcases Nat.lt_or_ge n w0.Vr.length with aw|VB
    · have:=My n hf aw
      have:=YE.2 n hn;omega
    · exact VB)).1 hw
 |_=>intro _ Q σ φ a w h hw;simp only[gQ]at hw
def JM(tmps:Array Value):ResultVar->Sem Value
 | .tmp t=>pure (tmps.getD t undef)
 | .cell c t=>do loadVar t (<-asAddr (tmps.getD c undef))
theorem CL(fn:Func)(tmps:Array Value):results fn tmps=(do
 let vs<-fn.results.mapM (JM tmps)
 pure (if h:vs.size=1 then vs[0]else .tuple vs)):=rfl
theorem QQ(h:aO N0 w0 nt σ φ a w){r:ResultVar}{x:A}(hr:MO P σ r=some x):
 ∃v,(JM a.tmps r).run P w= .ok v w/\aJ ⟨N0,[],w⟩ x v:=by
 cases r with
 |tmp t=>
  simp only[MO]at hr;exact⟨_,by simp only[JM,Sem.run_pure],(mf h hr (h.cW t) (N':=N0) ⟨fun b hb=> .inl hb,.inr (oC h)⟩).1⟩
 |cell c t=>
  simp only[MO]at hr;unfold resC at hr;split at hr
  · rename_i n off hl
    split at hr
    · rename_i cs ho
      cases hld:j0 P t (cs.drop off)with
      |none=>simp[hld]at hr
      |some y=>
       simp only[hld,Option.bind_some]at hr;have hs:=h.cW c;rw[hl]at hs;simp only[aJ]at hs;obtain⟨b,k,fA,hv⟩:=hs;have fC:=h.c7 n _ _ ho fA;simp only[aL]at fC;have hm:=jl (n:=off) fC.2;rw[Nat.zero_add]at hm;obtain⟨v,gZ,cS,_⟩:=qb (E:=aB N0 φ w) hm hld;refine⟨v, ?_,(mf h hr cS (N':=N0) ⟨fun b hb=> .inl hb,.inr (oC h)⟩).1⟩
       simp only[JM]
       rw[hv]
       simp only[asAddr,Sem.run_bind,Sem.run_pure,Result.andThen_ok]
       exact gZ
    · simp at hr
  · simp at hr
theorem CM(h:aO N0 w0 nt σ φ a w): ∀{rs:List ResultVar} {xs:List A},w5 P σ rs=some xs->
 ∃vs:List Value,(rs.mapM (JM a.tmps)).run P w= .ok vs w/\aQ ⟨N0,[],w⟩ xs vs
 | [],xs,hr=>by simp only[w5,Option.some.injEq]at hr;subst hr;exact⟨[],by simp,by simp[aQ]⟩
 |r::rs,xs,hr=>by
  simp only[w5]at hr;cases h1:MO P σ r with
  |none=>simp[h1]at hr
  |some x=>
   cases h2:w5 P σ rs with
   |none=>simp[h1,h2]at hr
   |some ys=>
    simp[h1,h2]at hr;subst hr;obtain⟨v,g1,g2⟩:=QQ h h1;obtain⟨vs,g3,g4⟩:=CM h h2;refine⟨v::vs, ?_,by simp only[aQ];exact⟨v,vs,rfl,g2,g4⟩⟩
    simp only[List.mapM_cons,Sem.run_bind,g1,Result.andThen_ok,Sem.run_pure,g3]
theorem F8(h:aO N0 w0 nt σ φ a w){fn:Func}{xs:List A}(hr:w5 P σ fn.results.toList=some xs):
 ∃v,(results fn a.tmps).run P w= .ok v w/\aJ ⟨N0,[],w⟩ (jG xs) v:=by
 obtain⟨vs,h1,h2⟩:=CM h hr;refine⟨if h:vs.toArray.size=1 then vs.toArray[0]else .tuple vs.toArray, ?_, ?_⟩
 · rw[CL,Sem.run_bind,Array.mapM_eq_mapM_toList,Sem.run_map]
   rw[h1]
   simp
 · obtain⟨g1,g2⟩:=bf.1 h2
   cases xs with
   |nil=>
    have:vs=[]:=List.length_eq_zero_iff.1 (by simpa using g1.symm)
    subst this;simp[jG,aJ,aQ]
   |cons x xs=>
    cases xs with
    |nil=>
     simp only[aQ]at h2;obtain⟨v,lB,rfl,hx,rfl⟩:=h2;simpa[jG]using hx
    |cons y ys=>
     rw[dif_neg (by simp at g1⊢;omega)]
     simp only[jG,aJ]
     exact⟨vs,rfl,h2⟩
theorem qA: ∀(args:List A) (i d:Nat),look (number i args) d=if i<=d/\d<i+args.length then args.getD (d-i) .any else .any
 | [],i,d=>by simp[number,look]
 |x::xs,i,d=>by
  simp only[number,look,List.length_cons]
  split
  · rename_i h;subst h;simp
  · rename_i h
    rw[qA xs (i+1) d]
    by_cases hd:i+1<=d/\d<i+1+xs.length
    · rw[if_pos hd,if_pos (by omega),show d-i=(d-(i+1))+1 by omega]
      simp
    · rw[if_neg hd,if_neg (by omega)]
theorem aa(tK:ag P Γ)(hm:P.follows .mixedOrders=true){f:FuncId}{fn:Func}{c:Code}(hf:P.funcs[f]? =some fn)(hb:fn.body=some c){args:List A}(hlen:args.length<=fn.ntmps)
 (g_:ah P Γ fn.ntmps c=true) {pJ:A->Prop} (hw:gQ P Γ c (XU P fn pJ) (B5 args)):ay P f args pJ:=by
 intro N w vs hN cS;obtain⟨g1,g2⟩:=bf.1 cS;refine calls_of_wp hf hb ?_
 have dL:Ext (fun _=>True) ⟨N,[],w⟩ (aB N [] w):={
  size:=Nat.le_refl _
  MI:=fun b _ hn=>⟨by
   rintro(h0|⟨m,k,hm⟩)
   · exact hn h0
   · simp at hm,rfl⟩
  refs:=fun m o _ hm=>by simp at hm
  own:=fun m b k c e fr _ hm=>by simp at hm}
 have QR:aO N {toWorld:=w,M:=fun _=>False,fix:=Γ.fix,Vr:=[]} fn.ntmps (B5 args) [] {tmps:=vs.toArray++Array.replicate (fn.ntmps-vs.toArray.size) undef,defers:=[]} w:={
  cW:=fun d=>by
   simp only[B5]
   rw[qA]
   split
   · rename_i hd
     simp only[Nat.zero_add]at hd;have hdv:d<vs.length:=by omega
     have hx:args[d]? =some args[d]:=List.getElem?_eq_getElem hd.2;have hv:vs[d]? =some vs[d]:=List.getElem?_eq_getElem hdv;have:=aJ.mono dL _ _ (g2 d _ _ hx hv) (fun _ _=>trivial)
     have e1:args.getD (d-0) .any=args[d]:=by simp[hd.2]
     have e2:(vs.toArray++Array.replicate (fn.ntmps-vs.toArray.size) undef).getD d undef=vs[d]:=by simp[Array.getElem?_append,hdv]
     rw[e1,e2]
     exact this
   · simp only[aJ]
  size:=by simp;omega
  defers:=rfl
  len:=rfl
  c7:=fun n o p ho=>by simp[B5,cn]at ho
  own:=fun n b k hn=>by simp at hn
  inj:=fun n m b k k' hn=>by simp at hn
  n0:=fun b hb=>⟨hN b hb,fun h=>h⟩
  lD:=fun n p _ hp=>by simp at hp
  below:=Kept.refl _}
 refine wp_mono (Ip tK rfl (fun n _ h=>by simp at h) hm c g_ _ _ _ _ _ QR hw) fun e a' w' hq=> ?_
 have fin: ∀(τ:St) (φ:List dj),K? (w5 P τ fn.results.toList) (fun rs=>pJ (jG rs))->aO N {toWorld:=w,M:=fun _=>False,fix:=Γ.fix,Vr:=[]} fn.ntmps τ φ a' w'->
  a'.defers=[]/\ ∃v,(results fn a'.tmps).run P w'= .ok v w'/\ ∃v' r,Ending.returned v= .returned v'/\pJ r/\aJ ⟨N,[],w'⟩ r v'/\eL w w':=by
  rintro τ φ ⟨xs,hx,hP⟩ hc;obtain⟨v,hv,hr⟩:=F8 hc hx;exact⟨hc.defers,v,hv,v,_,rfl,hP,hr,⟨hc.below.size,fun b hb=>hc.below.block b hb (fun h=>h),hc.below.os,hc.below.tape,hc.below.output,hc.below.drawn⟩⟩
 cases e with
 |normal=>
  obtain⟨τ,φ,hq,hc⟩:=hq;exact fin τ φ hq hc
 |ret=>
  obtain⟨τ,φ,hq,hc⟩:=hq;exact fin τ φ hq hc
 |exit i=>
  obtain⟨τ,φ,hq,hc⟩:=hq;exact hq.elim
 |goto l=>exact hq.elim
 |panic c=>exact hq.elim
 |outgrown=>exact hq.elim
theorem QS(h:aO N0 w0 nt σ φ a w){r:ResultVar}{x:A}(hr:Vo P σ r=some x):
 ∃v,(JM a.tmps r).run P w= .ok v w/\aJ (aB N0 φ w) x v:=by
 cases r with
 |tmp t=>
  simp only[Vo,Option.some.injEq]at hr;subst hr;exact⟨_,by simp only[JM,Sem.run_pure],h.cW t⟩
 |cell c t=>
  simp only[Vo]at hr;unfold rawC at hr;split at hr
  · rename_i n off hl
    split at hr
    · rename_i cs ho
      have hs:=h.cW c;rw[hl]at hs;simp only[aJ]at hs;obtain⟨b,k,fA,hv⟩:=hs;have fC:=h.c7 n _ _ ho fA;simp only[aL]at fC;have hm:=jl (n:=off) fC.2;rw[Nat.zero_add]at hm;obtain⟨v,gZ,cS,_⟩:=qb (E:=aB N0 φ w) hm hr;refine⟨v, ?_,cS⟩
      simp only[JM]
      rw[hv]
      simp only[asAddr,Sem.run_bind,Sem.run_pure,Result.andThen_ok]
      exact gZ
    · simp at hr
  · simp at hr
theorem CN(h:aO N0 w0 nt σ φ a w): ∀{rs:List ResultVar} {xs:List A},zZ P σ rs=some xs->
 ∃vs:List Value,(rs.mapM (JM a.tmps)).run P w= .ok vs w/\aQ (aB N0 φ w) xs vs
 | [],xs,hr=>by simp only[zZ,Option.some.injEq]at hr;subst hr;exact⟨[],by simp,by simp[aQ]⟩
 |r::rs,xs,hr=>by
  simp only[zZ]at hr;obtain⟨x,h1,hr⟩:=Option.bind_eq_some_iff.1 hr;obtain⟨ys,h2,rfl⟩:=Option.map_eq_some_iff.1 hr;obtain⟨v,g1,g2⟩:=QS h h1;obtain⟨vs,g3,g4⟩:=CN h h2;refine⟨v::vs, ?_,by simp only[aQ];exact⟨v,vs,rfl,g2,g4⟩⟩
  simp only[List.mapM_cons,Sem.run_bind,g1,Result.andThen_ok,Sem.run_pure,g3]
theorem xp(h:aO N0 w0 nt σ φ a w){fn:Func}{xs:List A}(hr:zZ P σ fn.results.toList=some xs):
 ∃v,(results fn a.tmps).run P w= .ok v w/\aJ (aB N0 φ w) (jG xs) v:=by
 obtain⟨vs,h1,h2⟩:=CN h hr;refine⟨if h:vs.toArray.size=1 then vs.toArray[0]else .tuple vs.toArray, ?_, ?_⟩
 · rw[CL,Sem.run_bind,Array.mapM_eq_mapM_toList,Sem.run_map]
   rw[h1]
   simp
 · obtain⟨g1,g2⟩:=bf.1 h2
   cases xs with
   |nil=>
    have:vs=[]:=List.length_eq_zero_iff.1 (by simpa using g1.symm)
    subst this;simp[jG,aJ,aQ]
   |cons x xs=>
    cases xs with
    |nil=>
     simp only[aQ]at h2;obtain⟨v,lB,rfl,hx,rfl⟩:=h2;simpa[jG]using hx
    |cons y ys=>
     rw[dif_neg (by simp at g1⊢;omega)]
     simp only[jG,aJ]
     exact⟨vs,rfl,h2⟩
theorem cj(tK:ag P Γ)(hm:P.follows .mixedOrders=true){f:FuncId}{fn:Func}{c:Code}(hf:P.funcs[f]? =some fn)(hb:fn.body=some c){args:List A}{H H':List Obj}{r:A}{S:List Nat}(hlen:args.length<=fn.ntmps)
 (sL: ∀n,n<H.length->n∉S->Γ.fix n=true) (My:H.length<=Γ.nf) (hl:Γ.nf<=H'.length)
 (g_:ah P Γ fn.ntmps c=true) (hw:gQ P Γ c (XV P fn r H') (Jq args H)):dR P f args H r H' S:=by
 intro N φ w vs hN iy bI cS;obtain⟨g1,g2⟩:=bf.1 cS;refine calls_of_wp hf hb ?_;have hφl: ∀n:Nat,n<φ.length->n<Γ.nf:=fun n hn=>by have:=iy.len;omega
 have QR:aO N {toWorld:=w,M:=fun b=> ∃n k:Nat,φ[n]? =some (dj.loc b k),fix:=Γ.fix,Vr:=φ} fn.ntmps (Jq args H) φ {tmps:=vs.toArray++Array.replicate (fn.ntmps-vs.toArray.size) undef,defers:=[]} w:={
  cW:=fun d=>by
   simp only[Jq]
   rw[qA]
   split
   · rename_i hd
     simp only[Nat.zero_add]at hd;have hdv:d<vs.length:=by omega
     have hx:args[d]? =some args[d]:=List.getElem?_eq_getElem hd.2;have hv:vs[d]? =some vs[d]:=List.getElem?_eq_getElem hdv;have e1:args.getD (d-0) .any=args[d]:=by simp[hd.2]
     have e2:(vs.toArray++Array.replicate (fn.ntmps-vs.toArray.size) undef).getD d undef=vs[d]:=by simp[Array.getElem?_append,hdv]
     rw[e1,e2]
     exact g2 d _ _ hx hv
   · simp only[aJ]
  size:=by simp;omega
  defers:=rfl
  len:=iy.len
  c7:=iy.c7
  own:=fun n b k hn=>⟨.inr ⟨n,k,hn⟩,(iy.own n b k hn).1⟩
  inj:=iy.inj
  n0:=fun b hb=>⟨hN b hb,fun⟨n,k,hn⟩=>(iy.own n b k hn).2 hb⟩
  lD:=fun n p _ hp _=>hp
  below:=Kept.refl _}
 refine wp_mono (Ip tK rfl (fun n _ h=>hφl n h) hm c g_ _ _ _ _ _ QR hw) fun e a' w' hq=> ?_
 have fin: ∀(τ:St) (eT:List dj),K? (zZ P τ fn.results.toList) (fun rs=>jG rs=r/\r.under H'.length=true/\s9 H'.length τ.H H')->
  aO N {toWorld:=w,M:=fun b=> ∃n k:Nat,φ[n]? =some (dj.loc b k),fix:=Γ.fix,Vr:=φ} fn.ntmps τ eT a' w'->
  a'.defers=[]/\ ∃v,(results fn a'.tmps).run P w'= .ok v w'/\ ∃v' eT,Ending.returned v= .returned v'/\aJ (aB N eT w') r v'/\oE N eT H' w'/\M_ φ w S eT w'/\H.length<=H'.length:=by
  rintro τ eT ⟨xs,hx,rfl,hu,hle⟩ hc;obtain⟨v,hv,hr⟩:=xp hc hx;have dL:=hc.le_ext H'.length;have Jz:=hc.le (τ:=⟨[],H'⟩) (fun n _ h=>hφl n h) hl ⟨trivial,hle⟩
  refine⟨hc.defers,v,hv,v,eT.take H'.length,rfl,aJ.mono dL _ _ hr fun n hn=>A.sd _ hu hn, ?_, ?_,by omega⟩
  · exact{
     len:=Jz.len
     c7:=Jz.c7
     own:=fun n b k hn=>⟨(Jz.own n b k hn).2,fun h0=>by
      rcases(Jz.own n b k hn).1 with h1|h1
      · have:=(Jz.n0 b h0).1;simp at this h1;omega
      · exact(Jz.n0 b h0).2 h1⟩
     inj:=Jz.inj}
  · exact{
     os:=Jz.below.os
     tape:=Jz.below.tape
     output:=Jz.below.output
     drawn:=Jz.below.drawn
     size:=Jz.below.size
     block:=fun b hb hM=>Jz.below.block b hb fun⟨n,k,hn⟩=>hM n k hn
     shape:=Jz.below.shape
     own:=fun n b k hn=>(Jz.own n b k hn).1
     stay:=fun n p hn hp=>by have aw:=(List.getElem?_eq_some_iff.1 hp).1;exact Jz.lD n p (sL n (by rw[<-iy.len];exact aw) hn) hp (fun e=>bI n (by rw[hp,e]))}
 cases e with
 |normal=>
  obtain⟨τ,eT,hq,hc⟩:=hq;exact fin τ eT hq hc
 |ret=>
  obtain⟨τ,eT,hq,hc⟩:=hq;exact fin τ eT hq hc
 |exit i=>
  obtain⟨τ,eT,hq,hc⟩:=hq;exact hq.elim
 |goto l=>exact hq.elim
 |panic c=>exact hq.elim
 |outgrown=>exact hq.elim
end
end Go.bo
namespace Go.bo
open Go.RowKit
inductive CT where
 |int (k:IntKind)
 |bool
 |str
 |list (c:CT)
 |rows (cs:List CT)
mutual
def fits:CT->A->Prop
 | .int k,x=> ∃n,x= .int k n/\(Lit.int k n).wf=true
 | .bool,x=> ∃b,x= .bool b
 | .str,x=> ∃s,x= .str s/\s.length<=maxLen
 | .list c,x=> ∃es,x= .ab es/\es.length<=maxLen/\ ∀e∈es,fits c e
 | .rows cs,x=> ∃es,x= .ab es/\es.length<=maxLen/\ ∀e∈es,∃ys,e= .agg ys/\cI cs ys
def cI:List CT->List A->Prop
 | [],ys=>ys=[]
 |c::cs,ys=> ∃y zs,ys=y::zs/\fits c y/\cI cs zs
end
def tU(rec:TypeId->Option (List CT))(size:TypeId->Nat):List Field->Nat->Option (List CT)
 | [],_=>some []
 |f::fs,off=>
  if f.offset=off then
   match rec f.type with
   |some ks=>if ks.length=size f.type then(tU rec size fs (off+size f.type)).map (ks++ ·)else none
   |none=>none
  else none
def fb(P:Program):Nat->TypeId->Option (List CT)
 |0,_=>none
 |d+1,t=>
  match P.underlying t with
  |some .bool=>some [.bool]
  |some (.int k)=>some [.int k]
  |some .string=>some [.str]
  |some (.slice e)=>
   match bF P e,fb P d e with
   |some true,some (c::cs)=>if(c::cs).length=P.cellsOf e then some [.rows (c::cs)]else none
   |some false,some [c]=>if P.cellsOf e=1 then some [.list c]else none
   |_,_=>none
  |some (.struct fs)=>(tU (fb P d) P.cellsOf fs.toList 0).bind fun ks=>if ks.length=P.cellsOf t then some ks else none
  |some (.array n e)=>
   match fb P d e with
   |some ks=>if ks.length=P.cellsOf e/\n*ks.length=P.cellsOf t then some (List.replicate n ks).flatten else none
   |none=>none
  |_=>none
theorem vl: ∀{cs ds:List CT} {ys zs:List A},cI cs ys->cI ds zs->cI (cs++ds) (ys++zs)
 | [],ds,ys,zs,h,h'=>by simp only[cI]at h;subst h;simpa using h'
 |c::cs,ds,ys,zs,h,h'=>by
  simp only[cI]at h;obtain⟨y,us,rfl,h1,h2⟩:=h;simp only[List.cons_append,cI]
  exact⟨y,us++zs,rfl,h1,vl h2 h'⟩
section
variable{H:Type}{enc:TypeId×Value->H}{P:Program}{w:World}{sp:Nat->Bool}{held:Bool}
def Reads(w:World)(Iq:List CT)(cs:List Value):Prop:= ∃xs:List A,aQ ⟨fun _=>False,[],w⟩ xs cs/\cI Iq xs/\A.pure.a_ xs=true/\ ∀u∈cs,u.oneCell'=true
theorem Reads.append{Iq cts':List CT}{cs Na:List Value}(h:Reads w Iq cs)(h':Reads w cts' Na):Reads w (Iq++cts') (cs++Na):=by
 obtain⟨xs,h1,h2,h3,h4⟩:=h;obtain⟨ys,g1,g2,g3,g4⟩:=h';refine⟨xs++ys,jm h1 g1,vl h2 g2,de fun j y hy=> ?_,fun u hu=> ?_⟩
 · rcases List.mem_append.1 (List.mem_of_getElem? hy)with hm|hm
   · obtain⟨r,hr⟩:=List.getElem?_of_mem hm;exact aM h3 hr
   · obtain⟨r,hr⟩:=List.getElem?_of_mem hm;exact aM g3 hr
 · rcases List.mem_append.1 hu with hu|hu
   · exact h4 u hu
   · exact g4 u hu
theorem Reads.nil:Reads w [] []:=⟨[],by simp[aQ],by simp[cI],rfl,by simp⟩
theorem vm{rec:TypeId->Option (List CT)}{size:TypeId->Nat}{cs:List Value}: ∀{fs:List Field} {off:Nat} {ks:List CT},tU rec size fs off=some ks->
 (∀f∈fs,∀k,rec f.type=some k->Reads w k ((cs.drop f.offset).take (size f.type)))->off+ks.length=cs.length->Reads w ks (cs.drop off)
 | [],off,ks,h,_,hl=>by
  simp only[tU,Option.some.injEq]at h;subst h;have:cs.drop off=[]:=List.drop_of_length_le (by simp at hl;omega)
  rw[this]
  exact Reads.nil
 |f::fs,off,ks,h,hf,hl=>by
  simp only[tU]at h;split at h
  · rename_i ho
    split at h
    · rename_i k hk
      split at h
      · rename_i lT
        cases hg:tU rec size fs (off+size f.type)with
        |none=>simp[hg]at h
        |some ks'=>
         simp[hg]at h;subst h;have h1:=hf f (by simp) k hk;rw[ho]at h1;have h2:=vm hg (fun g hgm=>hf g (by simp[hgm])) (by simp at hl;omega)
         have:=h1.append h2;rw[show cs.drop (off+size f.type)=(cs.drop off).drop (size f.type) by rw[List.drop_drop],List.take_append_drop]at this;exact this
      · simp at h
    · simp at h
  · simp at h
theorem zr{ks:List CT}{k:Nat}(hk:ks.length=k): ∀{n:Nat} {cs:List Value},cs.length=n*k->(∀i,i<n->Reads w ks ((cs.drop (i*k)).take k))->Reads w (List.replicate n ks).flatten cs
 |0,cs,hl,_=>by
  have:cs=[]:=List.length_eq_zero_iff.1 (by simpa using hl)
  subst this;simpa using Reads.nil (w:=w)
 |n+1,cs,hl,h=>by
  rw[List.replicate_succ,List.flatten_cons]
  have h0:=h 0 (by omega)
  simp only[Nat.zero_mul,List.drop_zero]at h0
  have hr:=zr hk (n:=n) (cs:=cs.drop k) (by simp[hl,Nat.add_mul]) (fun i hi=>by
   have:=h (i+1) (by omega)
   rw[List.drop_drop,show k+i*k=(i+1)*k by rw[Nat.add_mul];omega]
   exact this)
  have:=h0.append hr;rw[List.take_append_drop]at this;exact this
theorem spot_of{a:Addr}{v:Value}(h:w.cell? a=some v):a=⟨a.block,a.off,none⟩/\a.block<w.heap.size:=by
 unfold World.cell? at h;split at h
 · rename_i c e fr hb
   split at h
   · simp at h
   · rename_i hs
     obtain⟨b,o,s⟩:=a;have:s=none:=by cases s<;>simp_all
     subst this;refine⟨rfl, ?_⟩
     rcases Nat.lt_or_ge b w.heap.size with h'|h'
     · exact h'
     · rw[Array.getElem?_eq_none h']at hb;simp at hb
 · simp at h
theorem zt{k len cap:Nat}{a:Addr}(hk:k≠0)(rQ:len<=cap){mk:List A->A}{Iq:List CT}(hmk: ∀ys,cI Iq ys->(mk ys).cells=ys)(hmp: ∀ys,cI Iq ys->A.pure.a_ ys=true->(mk ys).pure=true)
 (hx: ∀i,i<len-> ∃cs,w.cells? 0 (a.add (i*k)) k=some cs/\Reads w Iq cs): ∃es:List A,aJ ⟨fun _=>False,[],w⟩ (.ab es) (.slice (some a) len cap)/\es.length=len/\(A.ab es).pure=true/\ ∀e∈es,∃ys,e=mk ys/\cI Iq ys:=by
 obtain⟨X,hX⟩:=Go.Deep.choose_lt (α:=List A) (p:=fun i ys=> ∃cs,w.cells? 0 (a.add (i*k)) k=some cs/\aQ ⟨fun _=>False,[],w⟩ ys cs/\cI Iq ys/\A.pure.a_ ys=true/\ ∀u∈cs,u.oneCell'=true) (fun i hi=>by obtain⟨cs,h1,ys,h2⟩:=hx i hi;exact⟨ys,cs,h1,h2⟩)
 refine⟨(List.range len).map fun i=>mk (X i), ?_,by simp,by simp[A.pure], ?_⟩
 · simp only[aJ]
   refine⟨de fun i e he=> ?_,some a,cap,by simp,by simpa using rQ,fun cg=> ?_⟩
   · have:=List.mem_of_getElem? he
     obtain⟨j,hj,rfl⟩:=List.mem_map.1 this;obtain⟨cs,_,_,hf,hp,_⟩:=hX j (List.mem_range.1 hj)
     exact hmp _ hf hp
   · have hlen:0<len:=by
      rcases Nat.eq_zero_or_pos len with h|h
      · subst h;simp at cg
      · exact h
     obtain⟨cs0,h1,h2,_⟩:=hX 0 hlen;obtain⟨_,hl0,hg0⟩:=World.cells?_some h1;have h0:=hg0 0 (by omega)
     rw[Go.Deep.add_add]at h0;simp only[Nat.zero_mul,Nat.add_zero]at h0;have ha0:a.add 0=a:=by simp[Addr.add]
     rw[ha0,List.getElem?_eq_getElem (by omega)]at h0;obtain⟨hspot,hblk⟩:=spot_of h0;refine⟨a.block,a.off,by rw[<-hspot],hblk,fun h=>h, ?_⟩
     have hE:eJ ⟨fun _=>False,[],w⟩ k a.block a.off ((List.range len).map fun i=>mk (X i)):=by
      refine dd.2 fun i e he=> ?_;have hi:i<len:=by have:=(List.getElem?_eq_some_iff.1 he).1;simpa using this
      have wR:e=mk (X i):=by rw[List.getElem?_map,List.getElem?_range hi]at he;simpa using he.symm
      subst wR;obtain⟨cs,g1,g2,g3,g4,g5⟩:=hX i hi;obtain⟨_,gl,gg⟩:=World.cells?_some g1;have hyl:(X i).length=k:=by rw[(bf.1 g2).1,gl]
      rw[hmk _ g3]
      refine⟨hyl,oz (vs:=cs) (fun j v hv=> ?_) g2 g5⟩
      have hj:j<k:=by have:=(List.getElem?_eq_some_iff.1 hv).1;omega
      have:=gg j hj;rw[Go.Deep.add_add,hspot,Addr.add_lit,hv]at this;rw[Nat.add_assoc]
      exact this
     have b9:cd ((List.range len).map fun i=>mk (X i))=k:=xd hE cg;rw[b9]
     exact hE
 · intro e he
   obtain⟨j,hj,rfl⟩:=List.mem_map.1 he;obtain⟨cs,_,_,hf,_⟩:=hX j (List.mem_range.1 hj)
   exact⟨X j,rfl,hf⟩
theorem tf: ∀(d:Nat) {t:TypeId} {Iq:List CT} {fuel:Nat} {cs:List Value} {x:DataW H×List MemPlace},fb P d t=some Iq->DataW.trod enc P w 0 sp held fuel t cs=some x->Reads w Iq cs:=by
 intro d;induction d with
 |zero=>intro t Iq fuel cs x hf;simp[fb]at hf
 |succ d ih=>
  intro t Iq fuel cs x hf h;unfold fb at hf;split at hf
  · rename_i hu
    obtain rfl:=Option.some.inj hf;obtain⟨b,rfl,_⟩:=DataW.trod_bool hu h;exact⟨[.bool b],by simp[aQ,aJ],by simp[cI,fits],rfl,by simp[Value.oneCell']⟩
  · rename_i k hu
    obtain rfl:=Option.some.inj hf;obtain⟨n,rfl,_,hn⟩:=DataW.trod_int hu h;exact⟨[.int k n],by simp[aQ,aJ],by simp[cI,fits,hn],rfl,by simp[Value.oneCell']⟩
  · rename_i hu
    obtain rfl:=Option.some.inj hf;obtain⟨s,rfl,_,hs⟩:=DataW.trod_string hu h;have pW:s.data.toList.length<=maxLen:=by rw[Array.length_toList];exact hs
    refine⟨[.str s.data.toList],by simp[aQ,aJ], ?_,rfl,by simp[Value.oneCell']⟩
    simp only[cI,fits]
    exact⟨_,[],rfl,⟨_,rfl,pW⟩,rfl⟩
  · rename_i e hu
    have vn: ∀c:CT,(∀y:A,y= .ab []->fits c y)->Reads w [c] [.slice none 0 0]:=fun c hc=>by
     refine⟨[.ab []], ?_, ?_,rfl,by simp[Value.oneCell']⟩
     · simp only[aQ,aJ]
       exact⟨_,[],rfl,⟨rfl,none,0,rfl,Nat.le_refl _,fun h=>absurd rfl h⟩,rfl⟩
     · simp only[cI]
       exact⟨_,[],rfl,hc _ rfl,rfl⟩
    rcases Go.Deep.open_slice hu h with⟨rfl,_⟩|⟨a,len,cap,m,n,D,Pl,rfl,_,rQ,MB,hm,_,hx⟩
    · split at hf
      · split at hf
        · obtain rfl:=Option.some.inj hf
          exact vn _ fun y hy=>by subst hy;simp only[fits];exact⟨[],rfl,by simp,by simp⟩
        · simp at hf
      · split at hf
        · obtain rfl:=Option.some.inj hf
          exact vn _ fun y hy=>by subst hy;simp only[fits];exact⟨[],rfl,by simp,by simp⟩
        · simp at hf
      · simp at hf
    · have hlm:len<=m:=by rw[hm];split<;>omega
      split at hf
      · rename_i c Na ny hfe
        split at hf
        · rename_i lT
          obtain rfl:=Option.some.inj hf;rw[<-lT]at hx
          obtain⟨es,g1,g2,g3,g4⟩:=zt (w:=w) (k:=(c::Na).length) (a:=a) (len:=len) (cap:=cap) (by simp) rQ (mk:=A.agg) (Iq:=c::Na) (fun ys _=>rfl) (fun ys _ h=>by simpa only[A.pure]using h) (fun i hi=>by
           obtain⟨cs'',h1,h2⟩:=hx i (by omega)
           exact⟨cs'',h1,ih hfe h2⟩)
          refine⟨[.ab es],by simp only[aQ];exact⟨_,[],rfl,g1,rfl⟩, ?_,by simp only[A.pure.a_,g3];rfl,by simp[Value.oneCell']⟩
          simp only[cI,fits]
          exact⟨_,[],rfl,⟨es,rfl,by omega,g4⟩,rfl⟩
        · simp at hf
      · rename_i c ny hfe
        split at hf
        · rename_i lT
          obtain rfl:=Option.some.inj hf;rw[lT]at hx;have hnag: ∀y:A,fits c y-> ∀ys,y≠ .agg ys:=fun y hy ys e=>by subst e;cases c<;>simp[fits]at hy
          obtain⟨es,g1,g2,g3,g4⟩:=zt (w:=w) (k:=1) (a:=a) (len:=len) (cap:=cap) (by simp) rQ (mk:=fun ys=>ys.headD .any) (Iq:=[c]) (fun ys yY=>by
           simp only[cI]at yY;obtain⟨y,zs,rfl,hy,rfl⟩:=yY;have:=hnag y hy;cases y<;>first|rfl|exact absurd rfl (this _)) (fun ys yY hp=>by
           simp only[cI]at yY;obtain⟨y,zs,rfl,hy,rfl⟩:=yY;simpa[A.pure.a_]using hp) (fun i hi=>by
           obtain⟨cs'',h1,h2⟩:=hx i (by omega)
           exact⟨cs'',h1,ih hfe h2⟩)
          refine⟨[.ab es],by simp only[aQ];exact⟨_,[],rfl,g1,rfl⟩, ?_,by simp only[A.pure.a_,g3];rfl,by simp[Value.oneCell']⟩
          simp only[cI,fits]
          refine⟨_,[],rfl,⟨es,rfl,by omega,fun e he=> ?_⟩,rfl⟩
          obtain⟨ys,wR,yY⟩:=g4 e he;simp only[cI]at yY;obtain⟨y,zs,rfl,hy,rfl⟩:=yY;rw[wR]
          exact hy
        · simp at hf
      · simp at hf
  · rename_i fs hu
    cases hg:tU (fb P d) P.cellsOf fs.toList 0 with
    |none=>simp[hg]at hf
    |some ks=>
     simp only[hg,Option.bind_some]at hf;split at hf
     · rename_i lT
       obtain rfl:=Option.some.inj hf;obtain⟨xs,n,_,_,hl,hxl,hx⟩:=DataW.trod_struct hu h
       have:=vm (w:=w) (cs:=cs) hg (fun f hfm k hk=>by
        obtain⟨i,hi⟩:=List.getElem?_of_mem hfm;have hxi:=hx i f (by simpa using hi)
        have aw:i<xs.length:=by
         rw[hxl]
         have:=(List.getElem?_eq_some_iff.1 hi).1;simpa using this
        rw[List.getElem?_eq_getElem aw]at hxi;exact ih hk hxi) (by omega)
       simpa using this
     · simp at hf
  · rename_i n e hu
    split at hf
    · rename_i ks hk
      split at hf
      · rename_i lT
        obtain rfl:=Option.some.inj hf;obtain⟨xs,m,_,_,hl,hxl,hx⟩:=DataW.trod_array hu h;refine zr (k:=P.cellsOf e) lT.1 (by rw[hl,<-lT.2,lT.1]) fun i hi=> ?_;have hxi:=hx i hi;rw[List.getElem?_eq_getElem (by omega)]at hxi;exact ih hk hxi
      · simp at hf
    · simp at hf
  · simp at hf
end
end Go.bo
namespace Go.bo
open Go.RowKit
section
variable{H:Type}{enc:TypeId×Value->H}{P:Program}{w:World}{sp:Nat->Bool}{held:Bool}
theorem QT{r:Reach}{b0:Nat}{t:TypeId}{v:Value}(ht:bF P t=some false)(fI:Value.okWide P w r b0 t v):v.cells.toList=[v]:=by
 unfold Value.okWide at fI;unfold bF at ht;split at fI
 · rename_i fs hu;simp only[hu]at ht;simp at ht
 · rename_i n e hu;simp only[hu]at ht;simp at ht
 · cases v<;>first
    |rfl
    |(exfalso
      unfold Cell.okWide at fI;split at fI
      all_goals first
       |(rename_i h1 h2;cases h2;done)
       |skip
      unfold Cell.ok at fI;split at fI<;>simp_all)
theorem se{r:Reach}{b0 d:Nat}{t:TypeId}{v:Value}{x:DataW H}{ps:List MemPlace}{c:CT}(ht:bF P t=some false)(hf:fb P d t=some [c])(fI:Value.okWide P w r b0 t v)
 (h:DataW.Trod enc P w 0 sp held t v x ps): ∃y,aJ ⟨fun _=>False,[],w⟩ y v/\fits c y/\y.pure=true:=by
 obtain⟨fuel,h⟩:=h;rw[QT ht fI]at h;obtain⟨xs,h1,h2,h3,_⟩:=tf d hf h;simp only[cI]at h2;obtain⟨y,zs,rfl,hy,rfl⟩:=h2;simp only[aQ]at h1;obtain⟨v',lB,hv,hr,rfl⟩:=h1;simp at hv;subst hv;exact⟨y,hr,hy,by simpa[A.pure.a_]using h3⟩
theorem kG{r:Reach}{b0 d:Nat}{t:TypeId}{v:Value}{x:DataW H}{ps:List MemPlace}{Iq:List CT}(ht:bF P t=some true)(hf:fb P d t=some Iq)(fI:Value.okWide P w r b0 t v)
 (h:DataW.Trod enc P w 0 sp held t v x ps): ∃ys,aJ ⟨fun _=>False,[],w⟩ (.agg ys) v/\cI Iq ys/\(A.agg ys).pure=true:=by
 obtain⟨fuel,h⟩:=h
 have: ∃cs,v= .agg cs:=by
  unfold Value.okWide at fI;unfold bF at ht;split at fI
  · obtain⟨cs,hv,_⟩:=fI;exact⟨cs,hv⟩
  · obtain⟨cs,hv,_⟩:=fI;exact⟨cs,hv⟩
  · exfalso
    split at ht<;>simp_all
 obtain⟨cs,rfl⟩:=this;obtain⟨xs,h1,h2,h3,h4⟩:=tf d hf h;refine⟨xs, ?_,h2,by simpa only[A.pure]using h3⟩
 simp only[aJ]
 exact⟨cs.toList,by simp,h1,h4⟩
end
theorem sf{P:Program}{f:FuncId}{args:List A}(h:ay P f args (· = .bool true)){W:World}{vs:List Value}(hr:aQ ⟨fun _=>False,[],W⟩ args vs):
 Calls P f vs.toArray W fun e w'=>e= .returned (.bool true)/\Below W.heap.size W w':=by
 refine Calls.mono (h (fun _=>False) W vs (fun b h=>h.elim) hr) ?_;rintro e w' ⟨v,r,rfl,rfl,cS,hb⟩
 simp only[aJ]at cS;subst cS;exact⟨rfl,hb.toBelow⟩
end Go.bo
namespace Go.bo
def xq:an:=⟨fun _ _=>none,fun _ _ _=>none,fun _=>false,fun _=>false,false,fun _=>false,0,fun _=>[]⟩
theorem JN(P:Program):ag P xq:=⟨(fun _ _ _ h=>by cases h),(fun _ _ _ _ _ _ h=>by cases h)⟩
def an.add(Γ:an)(g:FuncId)(e:List A->Option A):an:={Γ with f:=fun h xs=>if h=g then e xs else Γ.f h xs}
def an.fj(Γ:an)(g:FuncId)(e:List A->List Obj->Option (A×List Obj×List Nat)):an:={Γ with hp:=fun h xs H=>if h=g then e xs H else Γ.hp h xs H}
abbrev an.pl(Γ Γ':an):Prop:=(∀g,Γ.mH g=false)/\(∀g,Γ.pZ g=false)/\Γ.Vn=false/\(∀n,Γ.fix n=false)/\Γ.nf=0/\(∀n,Γ.c6 n=[])/\Γ.hp=Γ'.hp
theorem an.add_eq{Γ:an}{g:FuncId}{e:List A->Option A}{xs:List A}:(Γ.add g e).f g xs=e xs:=if_pos rfl
theorem an.ak{Γ:an}{g h:FuncId}{e:List A->Option A}{xs:List A}(hn:h≠g):(Γ.add g e).f h xs=Γ.f h xs:=if_neg hn
section
variable{P:Program}{Γ:an}{g:FuncId}
theorem ag.add(h:ag P Γ){e:List A->Option A}(hc:jI P g)(he: ∀xs r,e xs=some r->ay P g xs (· =r)):ag P (Γ.add g e) where
 f:=fun f xs r hr=>by
  simp only[an.add]at hr;split at hr
  · rename_i e;subst e;exact⟨hc,he xs r hr⟩
  · exact h.f f xs r hr
 hp:=h.hp
theorem ag.fj(h:ag P Γ){e:List A->List Obj->Option (A×List Obj×List Nat)}(hc:jI P g)(he: ∀xs H r H' S,e xs H=some (r,H',S)->dR P g xs H r H' S):ag P (Γ.fj g e) where
 f:=h.f
 hp:=fun f xs H r H' S hr=>by
  simp only[an.fj]at hr;split at hr
  · rename_i e;subst e;exact⟨hc,he xs H r H' S hr⟩
  · exact h.hp f xs H r H' S hr
end
open Classical in
def entry{ι:Type}(enc:ι->List A)(ok:ι->Prop)(spec:ι->A):List A->Option A:=fun xs=>if h: ∃i,enc i=xs/\ok i then some (spec (Classical.choose h))else none
theorem YF{P:Program}{g:FuncId}{ι:Type}{enc:ι->List A}{ok:ι->Prop}{spec:ι->A}(h: ∀i,ok i->ay P g (enc i) (· =spec i)): ∀xs r,entry enc ok spec xs=some r->ay P g xs (· =r):=fun xs r hr=>by
 unfold entry at hr;split at hr
 · rename_i hx
   obtain⟨h1,h2⟩:=Classical.choose_spec hx;obtain rfl:=Option.some.inj hr;have:=h _ h2;rw[h1]at this;exact this
 · cases hr
theorem entry_eq{ι:Type}{enc:ι->List A}{ok:ι->Prop}{spec:ι->A}(hi: ∀i j,enc i=enc j->i=j)(i:ι)(h:ok i):entry enc ok spec (enc i)=some (spec i):=by
 have hx: ∃j,enc j=enc i/\ok j:=⟨i,rfl,h⟩
 unfold entry;rw[dif_pos hx]
 rw[hi _ _ (Classical.choose_spec hx).1]
theorem an.ao{Γ:an}{g:FuncId}{ι:Type}{enc:ι->List A}{ok:ι->Prop}{spec:ι->A}(hi: ∀i j,enc i=enc j->i=j)(i:ι)(h:ok i):(Γ.add g (entry enc ok spec)).f g (enc i)=some (spec i):=
 an.add_eq.trans (entry_eq hi i h)
open Classical in
def bC{ι:Type}(enc:ι->List A)(FO:ι->List Obj)(ok:ι->Prop)(spec:ι->A×List Obj×List Nat):List A->List Obj->Option (A×List Obj×List Nat):=fun xs H=>
 if h: ∃i,(enc i=xs/\FO i=H)/\ok i then some (spec (Classical.choose h))else none
theorem cX{P:Program}{g:FuncId}{ι:Type}{enc:ι->List A}{FO:ι->List Obj}{ok:ι->Prop}{spec:ι->A×List Obj×List Nat}(h: ∀i,ok i->dR P g (enc i) (FO i) (spec i).1 (spec i).2.1 (spec i).2.2):
 ∀xs H r H' S,bC enc FO ok spec xs H=some (r,H',S)->dR P g xs H r H' S:=fun xs H r H' S hr=>by
 unfold bC at hr;split at hr
 · rename_i hx
   obtain⟨⟨h1,nj⟩,h2⟩:=Classical.choose_spec hx;have hs:=Option.some.inj hr;have:=h _ h2;rw[h1,nj,hs]at this;exact this
 · cases hr
theorem cY{ι:Type}{enc:ι->List A}{FO:ι->List Obj}{ok:ι->Prop}{spec:ι->A×List Obj×List Nat}(hi: ∀i j,enc i=enc j->FO i=FO j->i=j)(i:ι)(h:ok i):bC enc FO ok spec (enc i) (FO i)=some (spec i):=by
 have hx: ∃j,(enc j=enc i/\FO j=FO i)/\ok j:=⟨i,⟨rfl,rfl⟩,h⟩
 unfold bC;rw[dif_pos hx]
 rw[hi _ _ (Classical.choose_spec hx).1.1 (Classical.choose_spec hx).1.2]
theorem an.eC{Γ:an}{g:FuncId}{e:List A->List Obj->Option (A×List Obj×List Nat)}{xs:List A}{H:List Obj}:(Γ.fj g e).hp g xs H=e xs H:=if_pos rfl
theorem an.sg{Γ:an}{g h:FuncId}{e:List A->List Obj->Option (A×List Obj×List Nat)}{xs:List A}{H:List Obj}(hn:h≠g):(Γ.fj g e).hp h xs H=Γ.hp h xs H:=if_neg hn
theorem Ir{P:Program}{f:FuncId}{pJ:A->Prop}(h1:ay P f [.emp true] pJ)(h2:ay P f [.emp false] pJ):ay P f [.ab []] pJ:=fun N w vs hN hr=>by
 simp only[aQ,aJ]at hr;obtain⟨v,_,rfl,⟨_,a,cap,rfl,_,_⟩,rfl⟩:=hr;cases a with
 |none=>exact h1 N w _ hN (by simp only[aQ,aJ];exact⟨_,_,rfl,⟨none,cap,rfl,rfl⟩,rfl⟩)
 |some q=>exact h2 N w _ hN (by simp only[aQ,aJ];exact⟨_,_,rfl,⟨some q,cap,rfl,rfl⟩,rfl⟩)
attribute [go_sem] List.contains_nil List.contains_cons
theorem bB{P:Program}{f:FuncId}{fn:Func}(h1:P.funcs[f]? =some fn)(h2:fn.body.isNone=false)(h3:(fn.name== "runtime.NumGoroutine")=false):jI P f:=⟨fn,h1,h2,h3⟩
theorem ag.bN{P:Program}{Γ:an}{g:FuncId}{fn:Func}{ι:Type}{enc:ι->List A}{ok:ι->Prop}{spec:ι->A}(h0:ag P Γ)(h1:P.funcs[g]? =some fn)(h2:fn.body.isNone=false)(h3:(fn.name== "runtime.NumGoroutine")=false)(h: ∀i,ok i->ay P g (enc i) (· =spec i)):
 ag P (Γ.add g (entry enc ok spec)):=h0.add (bB h1 h2 h3) (YF h)
@[go_sem] theorem isS2B_eq{P:Program}{s d:TypeId}:uZ P s d=(fO P s&&(aX P d).any (fun e=>ph P e=some .u8)):=rfl
@[go_sem] theorem isB2S_eq{P:Program}{s d:TypeId}:uY P s d=((aX P s).any (fun e=>ph P e=some .u8)&&fO P d):=rfl
@[go_sem] theorem bne_str{a b:List UInt8}:(a !=b)= !(a==b):=rfl
@[go_sem] theorem bne_bool{a b:Bool}:(a !=b)= !(a==b):=rfl
@[go_sem] theorem bne_int{a b:Int}:(a !=b)= !(a==b):=rfl
attribute [go_sem] Int.cast_ofNat_Int
attribute [go_sem] Option.any_some Option.any_none decide_true decide_false ne_eq Nat.succ_ne_self Nat.one_ne_zero beq_true beq_false Nat.zero_add Int.toNat_zero List.drop_zero true_implies false_implies implies_true not_true_eq_false not_false_eq_true Option.getD Int.toNat_natCast Int.natCast_nonneg
@[go_sem] theorem tab0_fix:xq.fix=fun _=>false:=rfl
@[go_sem] theorem tab0_ords{n:Nat}:xq.c6 n=[]:=rfl
theorem wrap_i64{n:Int}(h: -9223372036854775808<=n/\n<9223372036854775808):IntKind.i64.wrap n=n:=by unfold IntKind.wrap;simp[IntKind.bits,IntKind.signed];split<;>omega
theorem wrap_u64{n:Int}(h:0<=n/\n<18446744073709551616):IntKind.u64.wrap n=n:=by unfold IntKind.wrap;simp[IntKind.bits,IntKind.signed];omega
theorem map_inj{α:Type}{f:α->A}(h: ∀x y,f x=f y->x=y): ∀{l m:List α},(l.map f=m.map f)=(l=m)
 | [],[]=>by simp
 | [],_::_=>by simp
 |_::_,[]=>by simp
 |x::l,y::m=>by
  simp only[List.map_cons,List.cons.injEq,map_inj h]
  exact propext ⟨fun⟨a,b⟩=>⟨h _ _ a,b⟩,fun⟨a,b⟩=>⟨by rw[a],b⟩⟩
@[simp] theorem Nt{l m:List (List UInt8)}:(l.map A.str=m.map A.str)=(l=m):=map_inj (fun _ _ h=>by simpa using h)
@[simp] theorem map_int_inj{k:IntKind}{l m:List Int}:(l.map (A.int k)=m.map (A.int k))=(l=m):=map_inj (fun _ _ h=>by simpa using h)
theorem sh{α:Type}{f:α->A}{P:α->Prop}: ∀{es:List A},(∀e∈es,∃a,e=f a/\P a)-> ∃l:List α,es=l.map f/\ ∀a∈l,P a
 | [],_=>⟨[],rfl,by simp⟩
 |e::es,h=>by
  obtain⟨a,rfl,ha⟩:=h e (by simp)
  obtain⟨l,rfl,hl⟩:=sh (es:=es) fun x hx=>h x (by simp[hx])
  exact⟨a::l,rfl,fun b hb=>by
   rcases List.mem_cons.1 hb with rfl|hb
   · exact ha
   · exact hl b hb⟩
theorem YG{x:A}(h:fits .str x): ∃s:List UInt8,x= .str s/\s.length<=maxLen:=by simpa only[fits]using h
theorem kg:maxLen<=9223372036854775807:=by decide
theorem fU: ∀s:List UInt8,fP (dC s)=some s
 | []=>rfl
 |c::s=>by have:=fU s;simp only[dC]at this;simp[dC,fP,iM,uW,this]
theorem JO(s:List UInt8)(k:Nat)(x:UInt8):cC (dC s) k (.int .u8 (x.toNat:Int))=dC (s.set k x):=by rw[ga];simp[dC,List.map_set,iM]
theorem QU(s:List UInt8):(dC s).length=s.length:=by simp[dC]
end Go.bo
namespace Go.Proofs.YtihgnfmoafjakaaGreat
open Go.bo
set_option linter.unusedSimpArgs false
set_option linter.unusedVariables false
set_option maxRecDepth 20000
def T0:an:=xq
theorem qB:ag Tryz.prog T0:=JN _
@[go_sem] theorem T0_eq:T0=xq:=rfl
theorem Nu:ah Tryz.prog T0 Tryz.f191.ntmps (Tryz.f191.body.getD .skip)=true:=by kernel_rfl
theorem QV(s:List UInt8)(hs:s.length<9223372036854775807):ay Tryz.prog 191 [.str s] (· = .str (s++[0])):=by
 refine aa qB mixed Tryz.func191 rfl (Nat.le_of_ble_eq_true rfl) Nu ?_;unfold Tryz.f191;simp-implicitDefEqProofs (disch:=(first|omega|decide)) only[go_sem,↓reduceIte,seval]
 omega
theorem JP:ah Tryz.prog T0 Tryz.f121.ntmps (Tryz.f121.body.getD .skip)=true:=by kernel_rfl
theorem zu(s:List UInt8)(hs:s.length<=9223372036854775807):ay Tryz.prog 121 [.str s] (· = .bool (decide (1<=s.length/\s.length<=16))):=by
 refine aa qB mixed Tryz.func121 rfl (Nat.le_of_ble_eq_true rfl) JP ?_;unfold Tryz.f121;by_cases h:(1:Int)<=s.length
 · simp-implicitDefEqProofs (disch:=(first|omega|decide)) only[go_sem,↓reduceIte,seval,h]
   apply decide_eq_decide.2;omega
 · simp-implicitDefEqProofs (disch:=(first|omega|decide)) only[go_sem,↓reduceIte,seval,h]
   symm;apply decide_eq_false;omega
theorem Nv:ah Tryz.prog T0 Tryz.f177.ntmps (Tryz.f177.body.getD .skip)=true:=by kernel_rfl
theorem QW(s:List UInt8)(hs:s.length<=9223372036854775807):ay Tryz.prog 177 [.str s] (· = .bool (decide (s.length<=17))):=by
 refine aa qB mixed Tryz.func177 rfl (Nat.le_of_ble_eq_true rfl) Nv ?_;unfold Tryz.f177;simp-implicitDefEqProofs (disch:=(first|omega|decide)) only[go_sem,↓reduceIte,seval]
 apply decide_eq_decide.2;omega
def cA:List UInt8->List UInt8->Int
 | [],[]=>0
 | [],_::_=> -1
 |_::_,[]=>1
 |a::x,b::y=>if a<b then-1 else if b<a then 1 else cA x y
theorem Is{a b:List UInt8}{k:Nat}(ha:k<a.length)(hb:k<b.length):cA (a.drop k) (b.drop k)=if a[k]<b[k]then-1 else if b[k]<a[k]then 1 else cA (a.drop (k+1)) (b.drop (k+1)):=by rw[List.drop_eq_getElem_cons ha,List.drop_eq_getElem_cons hb];rfl
theorem QX:ah Tryz.prog T0 Tryz.f141.ntmps (Tryz.f141.body.getD .skip)=true:=by kernel_rfl
theorem xr(a b:List UInt8)(ha:a.length<=9223372036854775807)(hb:b.length<=9223372036854775807):ay Tryz.prog 141 [.str a,.str b] (· = .int .i64 (cA a b)):=by
 refine aa qB mixed Tryz.func141 rfl (Nat.le_of_ble_eq_true rfl) QX ?_;unfold Tryz.f141;simp-implicitDefEqProofs (disch:=(first|omega|decide)) only[go_sem,↓reduceIte,seval]
 refine ar [0,1,10] (ι:={k:Nat//k<=a.length/\k<=b.length/\cA a b=cA (a.drop k) (b.drop k)}) (fun k=>[(11,.int .i64 k.1)]) (fun _=>[]) (fun k=>a.length-k.1) ⟨0,by simp⟩ (by simp[T0,xq]) ?_ ?_
 · simp-implicitDefEqProofs (disch:=(first|omega|decide)) only[go_sem,↓reduceIte,seval]
 · rintro⟨k,lC,VP,JQ⟩
   by_cases hk:k<a.length/\k<b.length
   · obtain⟨YH,hkb⟩:=hk
     have Ad:(k:Int)<if(b.length:Int)<a.length then(b.length:Int)else a.length:=by split<;>omega
     have e1:a[k]? =some a[k]:=List.getElem?_eq_getElem YH;have e2:b[k]? =some b[k]:=List.getElem?_eq_getElem hkb;rw[Is YH hkb]at JQ;simp-implicitDefEqProofs (disch:=(first|omega|decide)) only[go_sem,↓reduceIte,seval,Ad,iM,wrap_i64]
     simp only[decide_eq_true_eq,decide_eq_false_iff_not,Int.ofNat_lt]
     refine⟨fun h=> ?_,fun h=>⟨fun h'=> ?_,fun h'=>⟨⟨k+1,YH,hkb, ?_⟩,by simp,by simp;omega⟩⟩⟩
     · have:a[k]<b[k]:=h
       rw[JQ,if_pos this]
     · have g: ¬a[k]<b[k]:=h
       have g':b[k]<a[k]:=h';rw[JQ,if_neg g,if_pos g']
     · have g: ¬a[k]<b[k]:=h
       have g': ¬b[k]<a[k]:=h';rw[JQ,if_neg g,if_neg g']
   · have Ad: ¬((k:Int)<if(b.length:Int)<a.length then(b.length:Int)else a.length):=by split<;>omega
     simp-implicitDefEqProofs (disch:=(first|omega|decide)) only[go_sem,↓reduceIte,seval,Ad,iM,wrap_i64]
     simp only[decide_eq_true_eq,decide_eq_false_iff_not,Int.ofNat_lt]
     rw[JQ]
     by_cases h1:k<a.length
     · have h2:b.drop k=[]:=List.drop_of_length_le (by omega)
       rw[h2,List.drop_eq_getElem_cons h1]
       simp only[cA]
       refine⟨fun h=> ?_,fun h=>⟨fun _=>trivial,fun h'=> ?_⟩⟩<;>exfalso<;>omega
     · have h2:a.drop k=[]:=List.drop_of_length_le (by omega)
       rw[h2]
       by_cases h3:k<b.length
       · rw[List.drop_eq_getElem_cons h3]
         simp only[cA]
         refine⟨fun _=>trivial,fun h=>⟨fun h'=> ?_,fun h'=> ?_⟩⟩<;>exfalso<;>omega
       · have h4:b.drop k=[]:=List.drop_of_length_le (by omega)
         rw[h4]
         simp only[cA]
         refine⟨fun h=> ?_,fun h=>⟨fun h'=> ?_,fun _=>trivial⟩⟩<;>exfalso<;>omega
theorem YI{x:UInt8}(h:x≠255):IntKind.u8.wrap ((x.toNat:Int)+1)=((x+1).toNat:Int):=by
 have h1:x.toNat<256:=x.toNat_lt;have h2:x.toNat≠255:=fun e=>h (UInt8.toNat_inj.1 (by rw[e];rfl))
 have h3:(x+1).toNat=x.toNat+1:=by
  rw[UInt8.toNat_add]
  have:(1:UInt8).toNat=1:=rfl;rw[this]
  omega
 rw[h3]
 unfold IntKind.wrap;simp[IntKind.bits,IntKind.signed]
 omega
theorem take_set: ∀{p:List UInt8} {k:Nat},k<p.length-> ∀x,(p.take (k+1)).set k x=p.take k++[x]
 |_::p,0,_,x=>by simp
 |c::p,k+1,h,x=>by have:=take_set (p:=p) (k:=k) (by simpa using h) x;simp[this]
def cut(p:List UInt8):Nat->Nat
 |0=>0
 |n+1=>if p.getD n 0=255 then cut p n else n+1
def kT(p:List UInt8):Option (List UInt8):=if cut p p.length=0 then none else some (p.take (cut p p.length-1)++[p.getD (cut p p.length-1) 0+1])
def sM:Option (List UInt8)->A
 |none=> .cD [.str [],.bool false]
 |some e=> .cD [.str e,.bool true]
theorem QY:ah Tryz.prog T0 Tryz.f210.ntmps (Tryz.f210.body.getD .skip)=true:=by kernel_rfl
theorem VS(p:List UInt8)(hp:p.length<=9223372036854775807):ay Tryz.prog 210 [.str p] (· =sM (kT p)):=by
 refine aa qB mixed Tryz.func210 rfl (Nat.le_of_ble_eq_true rfl) QY ?_;unfold Tryz.f210;simp-implicitDefEqProofs (disch:=(first|omega|decide)) only[go_sem,↓reduceIte,seval]
 refine ar [0] (ι:={k:Nat//k<=p.length/\cut p p.length=cut p k}) (fun k=>[(4,.int .i64 k.1)]) (fun _=>[]) (fun k=>k.1) ⟨p.length,by simp⟩ (by simp[T0,xq]) ?_ ?_
 · simp-implicitDefEqProofs (disch:=(first|omega|decide)) only[go_sem,↓reduceIte,seval]
 · rintro⟨k,hk,hc⟩
   cases k with
   |zero=>
    have z:((0:Nat):Int)=0:=rfl;have h0: ¬(0:Int)<0:=by omega
    have hz:((0:Int)==0)=true:=rfl;simp-implicitDefEqProofs (disch:=(first|omega|decide)) only[go_sem,↓reduceIte,seval,z,h0,hz]
    simp[kT,sM,hc,cut]
   |succ k=>
    have h0:(0:Int)<((k+1:Nat):Int):=by omega
    have h1:((k+1:Nat):Int)-1=(k:Int):=by omega
    have hz:(((k+1:Nat):Int)==0)=false:=by simp;omega
    have e1:p[k]? =some p[k]:=List.getElem?_eq_getElem (by omega)
    by_cases xt:p[k]=255
    · have he:(((p[k]).toNat:Int)==255)=true:=by rw[xt];rfl
      simp-implicitDefEqProofs (disch:=(first|omega|decide)) only[go_sem,↓reduceIte,seval,h0,h1,he,wrap_i64,iM]
      refine⟨⟨k,by omega, ?_⟩,rfl,by simp⟩
      rw[hc]
      simp[cut,e1,xt]
    · have he:(((p[k]).toNat:Int)==255)=false:=by
       simp only[beq_eq_false_iff_ne,ne_eq]
       intro h;apply xt;apply UInt8.toNat_inj.1;have:(p[k]).toNat=255:=by omega
       rw[this];rfl
      have ht:(p.take (k+1)).length=k+1:=by simp;omega
      have hb:(dC (p.take (k+1)))[k]? =some (iM p[k]):=by simp[dC,e1]
      have Vs:(0:Int)<=0:=by omega
      have hle:((k+1:Nat):Int)<=(p.length:Int):=by omega
      have aw:(k:Int)<((k+1:Nat):Int):=by omega
      have JR:cut p p.length=k+1:=by rw[hc];simp[cut,e1,xt]
      have hw:=YI xt;have fS:=JO (p.take (k+1)) k (p[k]+1)
      have hlen:(dC ((p.take (k+1)).set k (p[k]+1))).length=k+1:=by rw[QU,List.length_set,ht]
      have ME:List.take (k+1) (dC ((p.take (k+1)).set k (p[k]+1)))=dC ((p.take (k+1)).set k (p[k]+1)):=List.take_of_length_le (by omega)
      have da:(1:Nat)≠0:=by omega
      have hkk':k+1<=k+1:=Nat.le_refl _;simp-implicitDefEqProofs (disch:=(first|omega|decide)) only[go_sem,↓reduceIte,seval,JR,hw,fS,hlen,ME,hkk',fU,l7,h0,h1,he,hz,ht,hb,Vs,hle,aw,wrap_i64,iM]
      rw[kT,if_neg (by rw[JR];omega),JR]
      simp only[Nat.add_sub_cancel,sM]
      have:p.getD k 0=p[k]:=by simp[e1]
      rw[this,take_set (by omega)]
def YJ:an:=T0.add 191 (entry (fun(s:List UInt8)=>[.str s]) (fun s=>s.length<9223372036854775807) (fun s=> .str (s++[0])))
theorem T06a_ok:ag Tryz.prog YJ:=qB.bN Tryz.func191 (by kernel_rfl) (by kernel_rfl) fun s h=>QV s h
theorem F9(s:List UInt8)(h:s.length<9223372036854775807):YJ.f 191 [.str s]=some (.str (s++[0])):=an.ao (Γ:=T0) (fun i j h=>by simpa[Prod.ext_iff,and_assoc]using h) s h
def YK:an:=YJ.add 121 (entry (fun(s:List UInt8)=>[.str s]) (fun s=>s.length<=9223372036854775807) (fun s=> .bool (decide (1<=s.length/\s.length<=16))))
theorem T06b_ok:ag Tryz.prog YK:=T06a_ok.bN Tryz.func121 (by kernel_rfl) (by kernel_rfl) fun s h=>zu s h
@[go_sem] theorem T06b_old{g:FuncId}{xs:List A}(h:g≠121):YK.f g xs=YJ.f g xs:=an.ak h
def QZ:an:=YK.add 177 (entry (fun(s:List UInt8)=>[.str s]) (fun s=>s.length<=9223372036854775807) (fun s=> .bool (decide (s.length<=17))))
theorem T06c_ok:ag Tryz.prog QZ:=T06b_ok.bN Tryz.func177 (by kernel_rfl) (by kernel_rfl) fun s h=>QW s h
@[go_sem] theorem T06c_old{g:FuncId}{xs:List A}(h:g≠177):QZ.f g xs=YK.f g xs:=an.ak h
theorem F_(s:List UInt8)(h:s.length<=9223372036854775807):QZ.f 177 [.str s]=some (.bool (decide (s.length<=17))):=an.ao (Γ:=YK) (fun i j h=>by simpa[Prod.ext_iff,and_assoc]using h) s h
def Q0:an:=QZ.add 141 (entry (fun(p:List UInt8×List UInt8)=>[.str p.1,.str p.2]) (fun p=>p.1.length<=9223372036854775807/\p.2.length<=9223372036854775807) (fun p=> .int .i64 (cA p.1 p.2)))
theorem T06d_ok:ag Tryz.prog Q0:=T06c_ok.bN Tryz.func141 (by kernel_rfl) (by kernel_rfl) fun p h=>xr p.1 p.2 h.1 h.2
@[go_sem] theorem T06d_old{g:FuncId}{xs:List A}(h:g≠141):Q0.f g xs=QZ.f g xs:=an.ak h
theorem JS(p:List UInt8×List UInt8)(h:p.1.length<=9223372036854775807/\p.2.length<=9223372036854775807):Q0.f 141 [.str p.1,.str p.2]=some (.int .i64 (cA p.1 p.2)):=an.ao (Γ:=QZ) (fun i j h=>by simpa[Prod.ext_iff,and_assoc]using h) p h
def Q1:an:=Q0.add 210 (entry (fun(s:List UInt8)=>[.str s]) (fun s=>s.length<=9223372036854775807) (fun s=>sM (kT s)))
theorem T06e_ok:ag Tryz.prog Q1:=T06d_ok.bN Tryz.func210 (by kernel_rfl) (by kernel_rfl) fun s h=>VS s h
@[go_sem] theorem T06e_old{g:FuncId}{xs:List A}(h:g≠210):Q1.f g xs=Q0.f g xs:=an.ak h
theorem JT(s:List UInt8)(h:s.length<=9223372036854775807):Q1.f 210 [.str s]=some (sM (kT s)):=an.ao (Γ:=Q0) (fun i j h=>by simpa[Prod.ext_iff,and_assoc]using h) s h
@[go_sem] theorem t_key_Next{s:List UInt8}(h:s.length<9223372036854775807):YJ.f 191 [.str s]=some (.str (s++[0])):=F9 s h
@[go_sem] theorem t_key_Edge{s:List UInt8}(h:s.length<=9223372036854775807):QZ.f 177 [.str s]=some (.bool (decide (s.length<=17))):=F_ s h
@[go_sem] theorem t_key_Cmp{a b:List UInt8}(h:a.length<=9223372036854775807)(h':b.length<=9223372036854775807):Q0.f 141 [.str a,.str b]=some (.int .i64 (cA a b)):=JS (a,b) ⟨h,h'⟩
@[go_sem] theorem t_key_End{s:List UInt8}(h:s.length<=9223372036854775807):Q1.f 210 [.str s]=some (sM (kT s)):=JT s h
set_option maxHeartbeats 4000000
theorem CO:ah Tryz.prog T0 Tryz.f122.ntmps (Tryz.f122.body.getD .skip)=true:=by kernel_rfl
theorem tg(s:List UInt8)(hs:s.length<=9223372036854775807):ay Tryz.prog 122 [.str s] (· = .bool (decide (1<=s.length/\s.length<=16))):=by
 refine aa qB mixed Tryz.func122 rfl (Nat.le_of_ble_eq_true rfl) CO ?_;unfold Tryz.f122;by_cases h:(1:Int)<=s.length
 · simp-implicitDefEqProofs (disch:=(first|omega|decide)) only[go_sem,↓reduceIte,seval,h]
   apply decide_eq_decide.2;omega
 · simp-implicitDefEqProofs (disch:=(first|omega|decide)) only[go_sem,↓reduceIte,seval,h]
   symm;apply decide_eq_false;omega
theorem F':ah Tryz.prog T0 Tryz.f85.ntmps (Tryz.f85.body.getD .skip)=true:=by kernel_rfl
theorem vo(a b:List UInt8)(ha:a.length<=9223372036854775807)(hb:b.length<=9223372036854775807):ay Tryz.prog 85 [.str a,.str b] (· = .bool (cA a b== -1)):=by
 refine aa qB mixed Tryz.func85 rfl (Nat.le_of_ble_eq_true rfl) F' ?_;unfold Tryz.f85;simp-implicitDefEqProofs (disch:=(first|omega|decide)) only[go_sem,↓reduceIte,seval]
 refine ar [0,1] (ι:={k:Nat//k<=a.length/\k<=b.length/\cA a b=cA (a.drop k) (b.drop k)}) (fun k=>[(5,.int .i64 k.1)]) (fun _=>[]) (fun k=>a.length-k.1) ⟨0,by simp⟩ (by simp[T0,xq]) ?_ ?_
 · simp-implicitDefEqProofs (disch:=(first|omega|decide)) only[go_sem,↓reduceIte,seval]
 · rintro⟨k,lC,VP,JQ⟩
   by_cases hk:(k:Int)<a.length
   · have YH:k<a.length:=by omega
     by_cases FY:(b.length:Int)<=k
     · simp-implicitDefEqProofs (disch:=(first|omega|decide)) only[go_sem,↓reduceIte,seval,hk,FY,iM,wrap_i64]
       have h2:b.drop k=[]:=List.drop_of_length_le (by omega)
       rw[JQ,h2,List.drop_eq_getElem_cons YH]
       rfl
     · have hkb:k<b.length:=by omega
       have e1:a[k]? =some a[k]:=List.getElem?_eq_getElem YH;have e2:b[k]? =some b[k]:=List.getElem?_eq_getElem hkb;rw[Is YH hkb]at JQ;simp-implicitDefEqProofs (disch:=(first|omega|decide)) only[go_sem,↓reduceIte,seval,hk,FY,iM,wrap_i64]
       refine⟨fun h=> ?_,fun h=>⟨⟨k+1,YH,hkb, ?_⟩,by simp,by simp;omega⟩⟩
       · have cg: ¬((a[k].toNat:Int)=b[k].toNat):=by simpa using h
         have t: ∀u v:UInt8,(u<v)=(u.toNat<v.toNat):=fun u v=>rfl;simp only[t]at JQ;by_cases hl:a[k].toNat<b[k].toNat
         · rw[JQ,if_pos hl,decide_eq_true (by omega)];rfl
         · rw[JQ,if_neg hl,if_pos (by omega),decide_eq_false (by omega)];rfl
       · have he:((a[k].toNat:Int)=b[k].toNat):=by simpa using h
         have t: ∀u v:UInt8,(u<v)=(u.toNat<v.toNat):=fun u v=>rfl;simp only[t]at JQ;rw[JQ,if_neg (by omega),if_neg (by omega)]
   · simp-implicitDefEqProofs (disch:=(first|omega|decide)) only[go_sem,↓reduceIte,seval,hk,iM,wrap_i64]
     have h2:a.drop k=[]:=List.drop_of_length_le (by omega)
     rw[JQ,h2]
     by_cases h3:k<b.length
     · rw[List.drop_eq_getElem_cons h3,decide_eq_true (by omega)];rfl
     · rw[List.drop_of_length_le (by omega),decide_eq_false (by omega)];rfl
def JU(s p:List UInt8):Bool:=decide (p.length<=s.length)&&s.take p.length==p
theorem Ae:ah Tryz.prog T0 Tryz.f198.ntmps (Tryz.f198.body.getD .skip)=true:=by kernel_rfl
theorem CP(s p:List UInt8)(hs:s.length<=9223372036854775807)(hp:p.length<=9223372036854775807):ay Tryz.prog 198 [.str s,.str p] (· = .bool (JU s p)):=by
 refine aa qB mixed Tryz.func198 rfl (Nat.le_of_ble_eq_true rfl) Ae ?_;unfold Tryz.f198;unfold JU;by_cases h:(p.length:Int)<=s.length
 · have hm: ¬(s.length:Int)<p.length:=by omega
   have hz:(0:Int)<=p.length:=by omega
   simp-implicitDefEqProofs (disch:=(first|omega|decide)) only[go_sem,↓reduceIte,seval,h,hm,hz]
   rw[decide_eq_true (by omega),Bool.true_and]
 · simp-implicitDefEqProofs (disch:=(first|omega|decide)) only[go_sem,↓reduceIte,seval,h]
   rw[decide_eq_false (by omega),Bool.false_and]
theorem JV:ah Tryz.prog T0 Tryz.f161.ntmps (Tryz.f161.body.getD .skip)=true:=by kernel_rfl
theorem Nw(p:List UInt8)(hp:p.length<=9223372036854775807):ay Tryz.prog 161 [.str p] (· =sM (kT p)):=by
 refine aa qB mixed Tryz.func161 rfl (Nat.le_of_ble_eq_true rfl) JV ?_;unfold Tryz.f161;simp-implicitDefEqProofs (disch:=(first|omega|decide)) only[go_sem,↓reduceIte,seval]
 refine ar [0] (ι:={k:Nat//k<=p.length/\cut p p.length=cut p k}) (fun k=>[(4,.int .i64 k.1)]) (fun _=>[]) (fun k=>k.1) ⟨p.length,by simp⟩ (by simp[T0,xq]) ?_ ?_
 · simp-implicitDefEqProofs (disch:=(first|omega|decide)) only[go_sem,↓reduceIte,seval]
 · rintro⟨k,hk,hc⟩
   cases k with
   |zero=>
    have z:((0:Nat):Int)=0:=rfl;have h0: ¬(0:Int)<0:=by omega
    have hz:((0:Int)==0)=true:=rfl;simp-implicitDefEqProofs (disch:=(first|omega|decide)) only[go_sem,↓reduceIte,seval,z,h0,hz]
    simp[kT,sM,hc,cut]
   |succ k=>
    have h0:(0:Int)<((k+1:Nat):Int):=by omega
    have h1:((k+1:Nat):Int)-1=(k:Int):=by omega
    have e1:p[k]? =some p[k]:=List.getElem?_eq_getElem (by omega)
    have aw:=(p[k]).toNat_lt;by_cases xt:p[k]=255
    · have he: ¬(((p[k]).toNat:Int)<255):=by rw[xt];decide
      simp-implicitDefEqProofs (disch:=(first|omega|decide)) only[go_sem,↓reduceIte,seval,h0,h1,he,wrap_i64,iM]
      refine⟨⟨k,by omega, ?_⟩,rfl,by simp⟩
      rw[hc]
      simp[cut,e1,xt]
    · have he:(((p[k]).toNat:Int)<255):=by
       have:(p[k]).toNat≠255:=fun e=>xt (UInt8.toNat_inj.1 (by rw[e];rfl))
       omega
      have JR:cut p p.length=k+1:=by rw[hc];simp[cut,e1,xt]
      have hw:=YI xt;have Vs:(0:Int)<=0:=by omega
      have xg:(0:Int)<=k:=by omega
      have hle:(k:Int)<=(p.length:Int):=by omega
      have da:=fU [p[k]+1]
      simp only[dC,List.map_cons,List.map_nil,iM]at da;simp-implicitDefEqProofs (disch:=(first|omega|decide)) only[go_sem,↓reduceIte,seval,JR,hw,da,fU,l7,h0,h1,he,Vs,xg,hle,wrap_i64,iM]
      refine⟨by rw[List.length_take];omega, ?_⟩
      rw[kT,if_neg (by rw[JR];omega),JR]
      simp only[Nat.add_sub_cancel,sM]
      have:p.getD k 0=p[k]:=by simp[e1]
      rw[this]
def VT:an:=Q1.add 122 (entry (fun(s:List UInt8)=>[.str s]) (fun s=>s.length<=9223372036854775807) (fun s=> .bool (decide (1<=s.length/\s.length<=16))))
theorem T06f_ok:ag Tryz.prog VT:=T06e_ok.bN Tryz.func122 (by kernel_rfl) (by kernel_rfl) fun s h=>tg s h
@[go_sem] theorem T06f_old{g:FuncId}{xs:List A}(h:g≠122):VT.f g xs=Q1.f g xs:=an.ak h
theorem VU(s:List UInt8)(h:s.length<=9223372036854775807):VT.f 122 [.str s]=some (.bool (decide (1<=s.length/\s.length<=16))):=an.ao (Γ:=Q1) (fun i j h=>by simpa[Prod.ext_iff,and_assoc]using h) s h
def VV:an:=VT.add 85 (entry (fun(p:List UInt8×List UInt8)=>[.str p.1,.str p.2]) (fun p=>p.1.length<=9223372036854775807/\p.2.length<=9223372036854775807) (fun p=> .bool (cA p.1 p.2== -1)))
theorem T06g_ok:ag Tryz.prog VV:=T06f_ok.bN Tryz.func85 (by kernel_rfl) (by kernel_rfl) fun p h=>vo p.1 p.2 h.1 h.2
@[go_sem] theorem T06g_old{g:FuncId}{xs:List A}(h:g≠85):VV.f g xs=VT.f g xs:=an.ak h
theorem Af(p:List UInt8×List UInt8)(h:p.1.length<=9223372036854775807/\p.2.length<=9223372036854775807):VV.f 85 [.str p.1,.str p.2]=some (.bool (cA p.1 p.2== -1)):=an.ao (Γ:=VT) (fun i j h=>by simpa[Prod.ext_iff,and_assoc]using h) p h
def YL:an:=VV.add 198 (entry (fun(p:List UInt8×List UInt8)=>[.str p.1,.str p.2]) (fun p=>p.1.length<=9223372036854775807/\p.2.length<=9223372036854775807) (fun p=> .bool (JU p.1 p.2)))
theorem T06h_ok:ag Tryz.prog YL:=T06g_ok.bN Tryz.func198 (by kernel_rfl) (by kernel_rfl) fun p h=>CP p.1 p.2 h.1 h.2
@[go_sem] theorem T06h_old{g:FuncId}{xs:List A}(h:g≠198):YL.f g xs=VV.f g xs:=an.ak h
def VW:an:=YL.add 161 (entry (fun(s:List UInt8)=>[.str s]) (fun s=>s.length<=9223372036854775807) (fun s=>sM (kT s)))
theorem T06i_ok:ag Tryz.prog VW:=T06h_ok.bN Tryz.func161 (by kernel_rfl) (by kernel_rfl) fun s h=>Nw s h
@[go_sem] theorem T06i_old{g:FuncId}{xs:List A}(h:g≠161):VW.f g xs=YL.f g xs:=an.ak h
theorem CQ(s:List UInt8)(h:s.length<=9223372036854775807):VW.f 161 [.str s]=some (sM (kT s)):=an.ao (Γ:=YL) (fun i j h=>by simpa[Prod.ext_iff,and_assoc]using h) s h
@[go_sem] theorem JW{a b:List UInt8}(h:a.length<=9223372036854775807)(h':b.length<=9223372036854775807):VV.f 85 [.str a,.str b]=some (.bool (cA a b== -1)):=Af (a,b) ⟨h,h'⟩
@[go_sem] theorem t_ref06_End{s:List UInt8}(h:s.length<=9223372036854775807):VW.f 161 [.str s]=some (sM (kT s)):=CQ s h
theorem jr(a b:UInt8)(x y:List UInt8):cA (a::x) (b::y)=if a.toNat<b.toNat then-1 else if b.toNat<a.toNat then 1 else cA x y:=by
 simp only[cA]
 by_cases h1:a.toNat<b.toNat
 · rw[if_pos h1,if_pos (show a<b from h1)]
 · rw[if_neg h1,if_neg (show¬a<b from h1)]
   by_cases h2:b.toNat<a.toNat
   · rw[if_pos h2,if_pos (show b<a from h2)]
   · rw[if_neg h2,if_neg (show¬b<a from h2)]
theorem Iu: ∀a b:List UInt8,cA a b= -1\/cA a b=0\/cA a b=1
 | [],[]=> .inr (.inl rfl)
 | [],_::_=> .inl rfl
 |_::_,[]=> .inr (.inr rfl)
 |a::x,b::y=>by
  simp only[cA]
  split
  · exact .inl rfl
  · split
    · exact .inr (.inr rfl)
    · exact Iu x y
theorem Bz: ∀a b:List UInt8,cA b a= -cA a b
 | [],[]=>rfl
 | [],_::_=>rfl
 |_::_,[]=>rfl
 |a::x,b::y=>by
  have ih:=Bz x y;simp only[jr]
  by_cases h1:a.toNat<b.toNat
  · rw[if_neg (by omega),if_pos h1,if_pos h1];rfl
  · by_cases h2:b.toNat<a.toNat
    · rw[if_pos h2,if_neg h1,if_pos h2]
    · rw[if_neg h2,if_neg h1,if_neg h1,if_neg h2];exact ih
theorem CR: ∀{a b:List UInt8},cA a b=0 ↔ a=b
 | [],[]=>by simp[cA]
 | [],_::_=>by simp[cA]
 |_::_,[]=>by simp[cA]
 |a::x,b::y=>by
  have ih:=CR (a:=x) (b:=y)
  simp only[jr]
  by_cases h1:a.toNat<b.toNat
  · rw[if_pos h1]
    have:a≠b:=fun e=>by subst e;omega
    simp[this]
  · by_cases h2:b.toNat<a.toNat
    · rw[if_neg h1,if_pos h2]
      have:a≠b:=fun e=>by subst e;omega
      simp[this]
    · rw[if_neg h1,if_neg h2,ih]
      have:a=b:=UInt8.toNat_inj.1 (by omega)
      simp[this]
theorem qC(a:List UInt8):cA a a=0:=CR.2 rfl
theorem Iw: ∀{a b c:List UInt8},cA a b= -1->cA b c= -1->cA a c= -1
 | [],[],_,h,_=>by simp[cA]at h
 | [],_::_,[],_,h=>by simp[cA]at h
 | [],_::_,_::_,_,_=>rfl
 |_::_,[],_,h,_=>by simp[cA]at h
 |_::_,_::_,[],_,h=>by simp[cA]at h
 |a::x,b::y,c::z,h1,h2=>by
  have ih:= @Iw x y z;simp only[jr]at h1 h2⊢;split at h1
  · split at h2
    · rw[if_pos (by omega)]
    · split at h2
      · simp at h2
      · rw[if_pos (by omega)]
  · split at h1
    · simp at h1
    · split at h2
      · rw[if_pos (by omega)]
      · split at h2
        · simp at h2
        · rw[if_neg (by omega),if_neg (by omega)]
          exact ih h1 h2
def aV(a b:List UInt8):Bool:=cA a b== -1
theorem lt_irrefl(a:List UInt8):aV a a=false:=by simp[aV,qC]
theorem ck{a b c:List UInt8}(h1:aV a b=true)(h2:aV b c=true):aV a c=true:=by simp only[aV,beq_iff_eq]at*;exact Iw h1 h2
theorem fo{a b:List UInt8}(h1:aV a b=true):aV b a=false:=by simp only[aV,beq_iff_eq]at h1;simp[aV,Bz a b,h1]
theorem np(a b:List UInt8):aV a b=true\/a=b\/aV b a=true:=by
 rcases Iu a b with h|h|h
 · exact .inl (by simp[aV,h])
 · exact .inr (.inl (CR.1 h))
 · exact .inr (.inr (by simp[aV,Bz a b,h]))
theorem nM{a b:List UInt8}(h:aV a b=true):cA a b= -1:=by simpa[aV]using h
theorem si{a b:List UInt8}(h:aV b a=true):cA a b=1:=by rw[Bz,nM h];rfl
theorem lt_next: ∀s:List UInt8,aV s (s++[0])=true
 | []=>rfl
 |c::s=>by
  have:=lt_next s;simp only[aV,beq_iff_eq]at this⊢;simp only[List.cons_append,jr]
  rw[if_neg (by omega),if_neg (by omega)];exact this
theorem CS: ∀{s t:List UInt8},aV s t=true->aV t (s++[0])=false
 | [],[],h=>by simp[aV,cA]at h
 | [],c::t,_=>by
  simp only[aV,List.nil_append,jr]
  have h0:(0:UInt8).toNat=0:=rfl;rw[h0,if_neg (by omega)]
  split
  · rfl
  · cases t<;>rfl
 |_::_,[],h=>by simp[aV,cA]at h
 |c::s,d::t,h=>by
  have ih:= @CS s t;simp only[aV,List.cons_append,jr]at h ih⊢;split at h
  · rw[if_neg (by omega),if_pos (by omega)];rfl
  · split at h
    · simp at h
    · rw[if_neg (by omega),if_neg (by omega)];exact ih h
def VX:List UInt8->Option (List UInt8)
 | []=>none
 |c::p=>match VX p with
  |some e=>some (c::e)
  |none=>if c=255 then none else some [c+1]
theorem Q2(p:List UInt8): ∀n,cut p n<=n
 |0=>Nat.le_refl _
 |n+1=>by
  simp only[cut]
  split
  · exact Nat.le_succ_of_le (Q2 p n)
  · exact Nat.le_refl _
theorem Nx(c:UInt8)(p:List UInt8): ∀n,cut (c::p) (n+1)=if cut p n=0 then(if c=255 then 0 else 1)else cut p n+1
 |0=>by simp[cut]
 |n+1=>by
  have ih:=Nx c p n;rw[cut]
  simp only[List.getD_cons_succ]
  rw[ih]
  by_cases h:p.getD n 0=255
  · rw[if_pos h]
    simp only[cut,if_pos h]
  · rw[if_neg h]
    simp only[cut,if_neg h]
    rw[if_neg (by omega)]
theorem TK: ∀p:List UInt8,kT p=VX p
 | []=>rfl
 |c::p=>by
  have ih:=TK p;have hc:=Nx c p p.length;have hle:=Q2 p p.length;simp only[VX,<-ih]
  unfold kT;rw[List.length_cons,hc]
  by_cases h0:cut p p.length=0
  · rw[if_pos h0]
    simp only[h0,if_true]
    by_cases h:c=255
    · simp[h]
    · simp[h]
  · rw[if_neg h0]
    simp only[if_neg h0]
    rw[if_neg (by omega)]
    have e:cut p p.length+1-1=(cut p p.length-1)+1:=by omega
    rw[e]
    simp
def T06j:an:=VW
theorem T06j_ok:ag Tryz.prog T06j:=T06i_ok
@[go_sem] theorem T06j_old{g:FuncId}{xs:List A}:T06j.f g xs=VW.f g xs:=rfl
def YM:an:=T06j
theorem T06k_ok:ag Tryz.prog YM:=T06j_ok
@[go_sem] theorem T06k_old{g:FuncId}{xs:List A}:YM.f g xs=T06j.f g xs:=rfl
def CU:an:=YM
theorem oL:ag Tryz.prog CU:=T06k_ok
@[go_sem] theorem T06l_old{g:FuncId}{xs:List A}:CU.f g xs=YM.f g xs:=rfl
@[go_sem] theorem T06l_s:CU.pl YM:=⟨fun _=>rfl,fun _=>rfl,rfl,fun _=>rfl,rfl,fun _=>rfl,rfl⟩
@[go_sem] theorem cmp_le0{a b:List UInt8}:decide (cA a b<=0)= !aV b a:=by
 rcases np a b with h|h|h
 · rw[nM h,fo h];rfl
 · subst h;rw[qC,lt_irrefl];rfl
 · rw[si h,h];rfl
@[go_sem] theorem vp{a b:List UInt8}:decide (cA a b<0)=aV a b:=by
 rcases np a b with h|h|h
 · rw[nM h,h];rfl
 · subst h;rw[qC,lt_irrefl];rfl
 · rw[si h,fo h];rfl
@[go_sem] theorem cmp_gt0{a b:List UInt8}:decide (0<cA a b)=aV b a:=by
 rcases np a b with h|h|h
 · rw[nM h,fo h];rfl
 · subst h;rw[qC,lt_irrefl];rfl
 · rw[si h,h];rfl
@[go_sem] theorem cmp_ge0{a b:List UInt8}:decide (0<=cA a b)= !aV a b:=by
 rcases np a b with h|h|h
 · rw[nM h,h];rfl
 · subst h;rw[qC,lt_irrefl];rfl
 · rw[si h,fo h];rfl
@[go_sem] theorem cmp_eqm1{a b:List UInt8}:(cA a b== -1)=aV a b:=rfl
structure ax where
 lo:List UInt8
 hi:List UInt8
 op:Bool
 deriving DecidableEq
def ax.enc(r:ax):A:= .agg [.str r.lo,.str r.hi,.bool r.op]
@[go_sem] theorem ax.tV{a b:List UInt8}{c:Bool}:ax.enc ⟨a,b,c⟩= .agg [.str a,.str b,.bool c]:=rfl
theorem ax.eD(r s:ax)(h:r.enc=s.enc):r=s:=by cases r;cases s;simpa[ax.enc]using h
def ax.zero:ax:=⟨[],[],false⟩
def ax.ok(r:ax):Prop:=r.lo.length<=9223372036854775807/\r.hi.length<=9223372036854775807
def aA(r:ax):Bool:=decide (r.lo.length<=17)&&decide (r.hi.length<=17)&&(if r.op then r.hi==[]else aV r.lo r.hi)
def b_(r:ax)(s:List UInt8):Bool:=aA r&& !aV s r.lo&&(r.op||aV s r.hi)
def nq(k:List UInt8):ax:=if 16<k.length then ax.zero else⟨k,k++[0],false⟩
def kv(p:List UInt8):ax:=if 16<p.length then ax.zero else⟨p,(kT p).getD [],(kT p).isNone⟩
def pr(a b:ax):Int:=if !aA a|| !aA b||(a.op&&b.op)then 0 else if a.op then 1 else if b.op then-1 else cA a.hi b.hi
theorem Ny:ah Tryz.prog T0 Tryz.f193.ntmps (Tryz.f193.body.getD .skip)=true:=by kernel_rfl
theorem Q3:ay Tryz.prog 193 [] (· = .agg [.str [],.str [],.bool true]):=by refine aa qB mixed Tryz.func193 rfl (Nat.le_of_ble_eq_true rfl) Ny ?_;unfold Tryz.f193;simp-implicitDefEqProofs (disch:=(first|omega|decide)) only[go_sem,↓reduceIte,seval]
theorem Q4:ah Tryz.prog CU Tryz.f154.ntmps (Tryz.f154.body.getD .skip)=true:=by kernel_rfl
theorem Ix(k:List UInt8)(hk:k.length<=9223372036854775807):ay Tryz.prog 154 [.str k] (· =(nq k).enc):=by
 refine aa oL mixed Tryz.func154 rfl (Nat.le_of_ble_eq_true rfl) Q4 ?_;unfold Tryz.f154;by_cases h:(16:Int)<k.length
 · have e:nq k=ax.zero:=if_pos (by omega)
   simp-implicitDefEqProofs (disch:=(first|omega|decide)) only[go_sem,↓reduceIte,seval,h,e,ax.zero]
 · have e:nq k=⟨k,k++[0],false⟩:=if_neg (by omega)
   have FY:k.length<9223372036854775807:=by omega
   simp-implicitDefEqProofs (disch:=(first|omega|decide)) only[go_sem,↓reduceIte,seval,h,e]
theorem Nz:ah Tryz.prog CU Tryz.f152.ntmps (Tryz.f152.body.getD .skip)=true:=by kernel_rfl
theorem CV(k:List UInt8)(hk:k.length<=9223372036854775807):ay Tryz.prog 152 [.str k] (· =(nq k).enc):=by
 refine aa oL mixed Tryz.func152 rfl (Nat.le_of_ble_eq_true rfl) Nz ?_;unfold Tryz.f152;by_cases h:(16:Int)<k.length
 · have e:nq k=ax.zero:=if_pos (by omega)
   simp-implicitDefEqProofs (disch:=(first|omega|decide)) only[go_sem,↓reduceIte,seval,h,e,ax.zero]
 · have e:nq k=⟨k,k++[0],false⟩:=if_neg (by omega)
   have da:=fU [0]
   simp only[dC,List.map_cons,List.map_nil,iM]at da;have hz:((0:UInt8).toNat:Int)=0:=rfl;rw[hz]at da;simp-implicitDefEqProofs (disch:=(first|omega|decide)) only[go_sem,↓reduceIte,seval,h,e,da,l7]
   omega
theorem CW:ah Tryz.prog CU Tryz.f194.ntmps (Tryz.f194.body.getD .skip)=true:=by kernel_rfl
theorem Ga(p:List UInt8)(hp:p.length<=9223372036854775807):ay Tryz.prog 194 [.str p] (· =(kv p).enc):=by
 refine aa oL mixed Tryz.func194 rfl (Nat.le_of_ble_eq_true rfl) CW ?_;unfold Tryz.f194;by_cases h:(16:Int)<p.length
 · have e:kv p=ax.zero:=if_pos (by omega)
   simp-implicitDefEqProofs (disch:=(first|omega|decide)) only[go_sem,↓reduceIte,seval,h,e,ax.zero]
 · have e:kv p=⟨p,(kT p).getD [],(kT p).isNone⟩:=if_neg (by omega)
   cases he:kT p with
   |none=>simp-implicitDefEqProofs (disch:=(first|omega|decide)) only[go_sem,↓reduceIte,seval,h,e,he,sM]
   |some x=>simp-implicitDefEqProofs (disch:=(first|omega|decide)) only[go_sem,↓reduceIte,seval,h,e,he,sM]
theorem Ag:ah Tryz.prog CU Tryz.f106.ntmps (Tryz.f106.body.getD .skip)=true:=by kernel_rfl
theorem CX(p:List UInt8)(hp:p.length<=9223372036854775807):ay Tryz.prog 106 [.str p] (· =(kv p).enc):=by
 refine aa oL mixed Tryz.func106 rfl (Nat.le_of_ble_eq_true rfl) Ag ?_;unfold Tryz.f106;by_cases h:(16:Int)<p.length
 · have e:kv p=ax.zero:=if_pos (by omega)
   simp-implicitDefEqProofs (disch:=(first|omega|decide)) only[go_sem,↓reduceIte,seval,h,e,ax.zero]
 · have e:kv p=⟨p,(kT p).getD [],(kT p).isNone⟩:=if_neg (by omega)
   cases he:kT p with
   |none=>simp-implicitDefEqProofs (disch:=(first|omega|decide)) only[go_sem,↓reduceIte,seval,h,e,he,sM]
   |some x=>simp-implicitDefEqProofs (disch:=(first|omega|decide)) only[go_sem,↓reduceIte,seval,h,e,he,sM]
theorem Gb:ah Tryz.prog CU Tryz.f142.ntmps (Tryz.f142.body.getD .skip)=true:=by kernel_rfl
theorem vq(lo hi:List UInt8)(op:Bool)(h1:lo.length<=9223372036854775807)(h2:hi.length<=9223372036854775807):ay Tryz.prog 142 [.agg [.str lo,.str hi,.bool op]] (· = .bool (aA ⟨lo,hi,op⟩)):=by
 refine aa oL mixed Tryz.func142 rfl (Nat.le_of_ble_eq_true rfl) Gb ?_;unfold Tryz.f142;by_cases g1:lo.length<=17
 · by_cases g2:hi.length<=17
   · cases op<;>simp-implicitDefEqProofs (disch:=(first|omega|decide)) only[go_sem,↓reduceIte,seval,g1,g2,aA]
   · simp-implicitDefEqProofs (disch:=(first|omega|decide)) only[go_sem,↓reduceIte,seval,g1,g2,aA]
 · simp-implicitDefEqProofs (disch:=(first|omega|decide)) only[go_sem,↓reduceIte,seval,g1,aA]
theorem CY:ah Tryz.prog CU Tryz.f132.ntmps (Tryz.f132.body.getD .skip)=true:=by kernel_rfl
theorem th(lo hi:List UInt8)(op:Bool)(h1:lo.length<=9223372036854775807)(h2:hi.length<=9223372036854775807):ay Tryz.prog 132 [.agg [.str lo,.str hi,.bool op]] (· = .bool (aA ⟨lo,hi,op⟩)):=by
 refine aa oL mixed Tryz.func132 rfl (Nat.le_of_ble_eq_true rfl) CY ?_;unfold Tryz.f132;by_cases g1:lo.length<=17
 · have f1: ¬(17:Int)<lo.length:=by omega
   by_cases g2:hi.length<=17
   · have f2: ¬(17:Int)<hi.length:=by omega
     cases op<;>simp-implicitDefEqProofs (disch:=(first|omega|decide)) only[go_sem,↓reduceIte,seval,g1,g2,f1,f2,aA]
   · have f2:(17:Int)<hi.length:=by omega
     simp-implicitDefEqProofs (disch:=(first|omega|decide)) only[go_sem,↓reduceIte,seval,g1,g2,f1,f2,aA]
 · have f1:(17:Int)<lo.length:=by omega
   simp-implicitDefEqProofs (disch:=(first|omega|decide)) only[go_sem,↓reduceIte,seval,g1,f1,aA]
def YN:an:=CU.add 193 (entry (fun(u:Unit)=>[]) (fun u=>True) (fun u=> .agg [.str [],.str [],.bool true]))
theorem T07a_ok:ag Tryz.prog YN:=oL.bN Tryz.func193 (by kernel_rfl) (by kernel_rfl) fun u h=>Q3
@[go_sem] theorem T07a_old{g:FuncId}{xs:List A}(h:g≠193):YN.f g xs=CU.f g xs:=an.ak h
def YO:an:=YN.add 154 (entry (fun(k:List UInt8)=>[.str k]) (fun k=>k.length<=9223372036854775807) (fun k=>(nq k).enc))
theorem T07b_ok:ag Tryz.prog YO:=T07a_ok.bN Tryz.func154 (by kernel_rfl) (by kernel_rfl) fun k h=>Ix k h
@[go_sem] theorem T07b_old{g:FuncId}{xs:List A}(h:g≠154):YO.f g xs=YN.f g xs:=an.ak h
theorem T07b_span_Of(k:List UInt8)(h:k.length<=9223372036854775807):YO.f 154 [.str k]=some ((nq k).enc):=an.ao (Γ:=YN) (fun i j h=>by simpa[Prod.ext_iff,and_assoc]using h) k h
def T07c:an:=YO.add 152 (entry (fun(k:List UInt8)=>[.str k]) (fun k=>k.length<=9223372036854775807) (fun k=>(nq k).enc))
theorem T07c_ok:ag Tryz.prog T07c:=T07b_ok.bN Tryz.func152 (by kernel_rfl) (by kernel_rfl) fun k h=>CV k h
@[go_sem] theorem T07c_old{g:FuncId}{xs:List A}(h:g≠152):T07c.f g xs=YO.f g xs:=an.ak h
def T07d:an:=T07c.add 194 (entry (fun(k:List UInt8)=>[.str k]) (fun k=>k.length<=9223372036854775807) (fun k=>(kv k).enc))
theorem T07d_ok:ag Tryz.prog T07d:=T07c_ok.bN Tryz.func194 (by kernel_rfl) (by kernel_rfl) fun k h=>Ga k h
@[go_sem] theorem T07d_old{g:FuncId}{xs:List A}(h:g≠194):T07d.f g xs=T07c.f g xs:=an.ak h
def YP:an:=T07d.add 106 (entry (fun(k:List UInt8)=>[.str k]) (fun k=>k.length<=9223372036854775807) (fun k=>(kv k).enc))
theorem T07e_ok:ag Tryz.prog YP:=T07d_ok.bN Tryz.func106 (by kernel_rfl) (by kernel_rfl) fun k h=>CX k h
@[go_sem] theorem T07e_old{g:FuncId}{xs:List A}(h:g≠106):YP.f g xs=T07d.f g xs:=an.ak h
def NA:an:=YP.add 142 (entry (fun(r:List UInt8×List UInt8×Bool)=>[.agg [.str r.1,.str r.2.1,.bool r.2.2]]) (fun r=>r.1.length<=9223372036854775807/\r.2.1.length<=9223372036854775807) (fun r=> .bool (aA ⟨r.1,r.2.1,r.2.2⟩)))
theorem T07f_ok:ag Tryz.prog NA:=T07e_ok.bN Tryz.func142 (by kernel_rfl) (by kernel_rfl) fun r h=>vq r.1 r.2.1 r.2.2 h.1 h.2
@[go_sem] theorem T07f_old{g:FuncId}{xs:List A}(h:g≠142):NA.f g xs=YP.f g xs:=an.ak h
theorem Ah(r:List UInt8×List UInt8×Bool)(h:r.1.length<=9223372036854775807/\r.2.1.length<=9223372036854775807):NA.f 142 [.agg [.str r.1,.str r.2.1,.bool r.2.2]]=some (.bool (aA ⟨r.1,r.2.1,r.2.2⟩)):=an.ao (Γ:=YP) (fun i j h=>by simpa[Prod.ext_iff,and_assoc]using h) r h
def CZ:an:=NA.add 132 (entry (fun(r:List UInt8×List UInt8×Bool)=>[.agg [.str r.1,.str r.2.1,.bool r.2.2]]) (fun r=>r.1.length<=9223372036854775807/\r.2.1.length<=9223372036854775807) (fun r=> .bool (aA ⟨r.1,r.2.1,r.2.2⟩)))
theorem BA:ag Tryz.prog CZ:=T07f_ok.bN Tryz.func132 (by kernel_rfl) (by kernel_rfl) fun r h=>th r.1 r.2.1 r.2.2 h.1 h.2
@[go_sem] theorem T07g_old{g:FuncId}{xs:List A}(h:g≠132):CZ.f g xs=NA.f g xs:=an.ak h
@[go_sem] theorem T07g_s:CZ.pl NA:=⟨fun _=>rfl,fun _=>rfl,rfl,fun _=>rfl,rfl,fun _=>rfl,rfl⟩
theorem xw(r:List UInt8×List UInt8×Bool)(h:r.1.length<=9223372036854775807/\r.2.1.length<=9223372036854775807):CZ.f 132 [.agg [.str r.1,.str r.2.1,.bool r.2.2]]=some (.bool (aA ⟨r.1,r.2.1,r.2.2⟩)):=an.ao (Γ:=NA) (fun i j h=>by simpa[Prod.ext_iff,and_assoc]using h) r h
@[go_sem] theorem t_span_Right{lo hi:List UInt8}{op:Bool}(h1:lo.length<=9223372036854775807)(h2:hi.length<=9223372036854775807):NA.f 142 [.agg [.str lo,.str hi,.bool op]]=some (.bool (aA ⟨lo,hi,op⟩)):=Ah (lo,hi,op) ⟨h1,h2⟩
@[go_sem] theorem t_ref07_Right{lo hi:List UInt8}{op:Bool}(h1:lo.length<=9223372036854775807)(h2:hi.length<=9223372036854775807):CZ.f 132 [.agg [.str lo,.str hi,.bool op]]=some (.bool (aA ⟨lo,hi,op⟩)):=xw (lo,hi,op) ⟨h1,h2⟩
theorem NB:ah Tryz.prog CZ Tryz.f128.ntmps (Tryz.f128.body.getD .skip)=true:=by kernel_rfl
theorem C0(lo hi s:List UInt8)(op:Bool)(h1:lo.length<=9223372036854775807)(h2:hi.length<=9223372036854775807)(h3:s.length<=9223372036854775807):ay Tryz.prog 128 [.agg [.str lo,.str hi,.bool op],.str s] (· = .bool (b_ ⟨lo,hi,op⟩ s)):=by
 refine aa BA mixed Tryz.func128 rfl (Nat.le_of_ble_eq_true rfl) NB ?_;unfold Tryz.f128;have e:b_ ⟨lo,hi,op⟩ s=(aA ⟨lo,hi,op⟩&& !aV s lo&&(op||aV s hi)):=rfl;rw[e]
 cases g1:aA ⟨lo,hi,op⟩
 · simp-implicitDefEqProofs (disch:=(first|omega|decide)) only[go_sem,↓reduceIte,seval,g1]
 · cases g2:aV s lo
   · cases g3:op
     · rw[g3]at g1;simp-implicitDefEqProofs (disch:=(first|omega|decide)) only[go_sem,↓reduceIte,seval,g1,g2,g3]
     · rw[g3]at g1;simp-implicitDefEqProofs (disch:=(first|omega|decide)) only[go_sem,↓reduceIte,seval,g1,g2,g3]
   · simp-implicitDefEqProofs (disch:=(first|omega|decide)) only[go_sem,↓reduceIte,seval,g1,g2]
theorem JX:ah Tryz.prog CZ Tryz.f96.ntmps (Tryz.f96.body.getD .skip)=true:=by kernel_rfl
theorem zw(lo hi s:List UInt8)(op:Bool)(h1:lo.length<=9223372036854775807)(h2:hi.length<=9223372036854775807)(h3:s.length<=9223372036854775807):ay Tryz.prog 96 [.agg [.str lo,.str hi,.bool op],.str s] (· = .bool (b_ ⟨lo,hi,op⟩ s)):=by
 refine aa BA mixed Tryz.func96 rfl (Nat.le_of_ble_eq_true rfl) JX ?_;unfold Tryz.f96;have e:b_ ⟨lo,hi,op⟩ s=(aA ⟨lo,hi,op⟩&& !aV s lo&&(op||aV s hi)):=rfl;rw[e]
 cases g1:aA ⟨lo,hi,op⟩
 · simp-implicitDefEqProofs (disch:=(first|omega|decide)) only[go_sem,↓reduceIte,seval,g1,JW]
 · cases g2:aV s lo
   · cases g3:op
     · rw[g3]at g1;simp-implicitDefEqProofs (disch:=(first|omega|decide)) only[go_sem,↓reduceIte,seval,g1,g2,g3]
     · rw[g3]at g1;simp-implicitDefEqProofs (disch:=(first|omega|decide)) only[go_sem,↓reduceIte,seval,g1,g2,g3]
   · simp-implicitDefEqProofs (disch:=(first|omega|decide)) only[go_sem,↓reduceIte,seval,g1,g2]
theorem JY:ah Tryz.prog CZ Tryz.f173.ntmps (Tryz.f173.body.getD .skip)=true:=by kernel_rfl
theorem NC(a b:ax)(ha:a.ok)(hb:b.ok):ay Tryz.prog 173 [.agg [.str a.lo,.str a.hi,.bool a.op],.agg [.str b.lo,.str b.hi,.bool b.op]] (· = .int .i64 (pr a b)):=by
 refine aa BA mixed Tryz.func173 rfl (Nat.le_of_ble_eq_true rfl) JY ?_;unfold Tryz.f173;obtain⟨lo,hi,op⟩:=a;obtain⟨iw,fB,mU⟩:=b;obtain⟨h1,h2⟩:=ha;obtain⟨h3,h4⟩:=hb;simp only at h1 h2 h3 h4⊢;unfold pr;cases g1:aA ⟨lo,hi,op⟩
 · simp-implicitDefEqProofs (disch:=(first|omega|decide)) only[go_sem,↓reduceIte,seval,g1]
 · cases g2:aA ⟨iw,fB,mU⟩
   · simp-implicitDefEqProofs (disch:=(first|omega|decide)) only[go_sem,↓reduceIte,seval,g1,g2]
   · cases op<;>cases mU<;>simp-implicitDefEqProofs (disch:=(first|omega|decide)) only[go_sem,↓reduceIte,seval,g1,g2]
def Q5:an:=CZ.add 128 (entry (fun(r:List UInt8×List UInt8×Bool×List UInt8)=>[.agg [.str r.1,.str r.2.1,.bool r.2.2.1],.str r.2.2.2]) (fun r=>r.1.length<=9223372036854775807/\r.2.1.length<=9223372036854775807/\r.2.2.2.length<=9223372036854775807) (fun r=> .bool (b_ ⟨r.1,r.2.1,r.2.2.1⟩ r.2.2.2)))
theorem T07h_ok:ag Tryz.prog Q5:=BA.bN Tryz.func128 (by kernel_rfl) (by kernel_rfl) fun r h=>C0 r.1 r.2.1 r.2.2.2 r.2.2.1 h.1 h.2.1 h.2.2
@[go_sem] theorem T07h_old{g:FuncId}{xs:List A}(h:g≠128):Q5.f g xs=CZ.f g xs:=an.ak h
theorem Gc(r:List UInt8×List UInt8×Bool×List UInt8)(h:r.1.length<=9223372036854775807/\r.2.1.length<=9223372036854775807/\r.2.2.2.length<=9223372036854775807):Q5.f 128 [.agg [.str r.1,.str r.2.1,.bool r.2.2.1],.str r.2.2.2]=some (.bool (b_ ⟨r.1,r.2.1,r.2.2.1⟩ r.2.2.2)):=an.ao (Γ:=CZ) (fun i j h=>by simpa[Prod.ext_iff,and_assoc]using h) r h
def Q6:an:=Q5.add 96 (entry (fun(r:List UInt8×List UInt8×Bool×List UInt8)=>[.agg [.str r.1,.str r.2.1,.bool r.2.2.1],.str r.2.2.2]) (fun r=>r.1.length<=9223372036854775807/\r.2.1.length<=9223372036854775807/\r.2.2.2.length<=9223372036854775807) (fun r=> .bool (b_ ⟨r.1,r.2.1,r.2.2.1⟩ r.2.2.2)))
theorem T07i_ok:ag Tryz.prog Q6:=T07h_ok.bN Tryz.func96 (by kernel_rfl) (by kernel_rfl) fun r h=>zw r.1 r.2.1 r.2.2.2 r.2.2.1 h.1 h.2.1 h.2.2
@[go_sem] theorem T07i_old{g:FuncId}{xs:List A}(h:g≠96):Q6.f g xs=Q5.f g xs:=an.ak h
theorem C1(r:List UInt8×List UInt8×Bool×List UInt8)(h:r.1.length<=9223372036854775807/\r.2.1.length<=9223372036854775807/\r.2.2.2.length<=9223372036854775807):Q6.f 96 [.agg [.str r.1,.str r.2.1,.bool r.2.2.1],.str r.2.2.2]=some (.bool (b_ ⟨r.1,r.2.1,r.2.2.1⟩ r.2.2.2)):=an.ao (Γ:=Q5) (fun i j h=>by simpa[Prod.ext_iff,and_assoc]using h) r h
@[go_sem] theorem t_span_Has{lo hi s:List UInt8}{op:Bool}(h1:lo.length<=9223372036854775807)(h2:hi.length<=9223372036854775807)(h3:s.length<=9223372036854775807):Q5.f 128 [.agg [.str lo,.str hi,.bool op],.str s]=some (.bool (b_ ⟨lo,hi,op⟩ s)):=Gc (lo,hi,op,s) ⟨h1,h2,h3⟩
@[go_sem] theorem t_ref07_Has{lo hi s:List UInt8}{op:Bool}(h1:lo.length<=9223372036854775807)(h2:hi.length<=9223372036854775807)(h3:s.length<=9223372036854775807):Q6.f 96 [.agg [.str lo,.str hi,.bool op],.str s]=some (.bool (b_ ⟨lo,hi,op⟩ s)):=C1 (lo,hi,op,s) ⟨h1,h2,h3⟩
def Q7:an:=Q6.add 173 (entry (fun(r:(List UInt8×List UInt8×Bool)×List UInt8×List UInt8×Bool)=>[.agg [.str r.1.1,.str r.1.2.1,.bool r.1.2.2],.agg [.str r.2.1,.str r.2.2.1,.bool r.2.2.2]]) (fun r=>ax.ok ⟨r.1.1,r.1.2.1,r.1.2.2⟩/\ax.ok ⟨r.2.1,r.2.2.1,r.2.2.2⟩) (fun r=> .int .i64 (pr ⟨r.1.1,r.1.2.1,r.1.2.2⟩ ⟨r.2.1,r.2.2.1,r.2.2.2⟩)))
theorem T07j_ok:ag Tryz.prog Q7:=T07i_ok.bN Tryz.func173 (by kernel_rfl) (by kernel_rfl) fun r h=>NC ⟨r.1.1,r.1.2.1,r.1.2.2⟩ ⟨r.2.1,r.2.2.1,r.2.2.2⟩ h.1 h.2
@[go_sem] theorem T07j_old{g:FuncId}{xs:List A}(h:g≠173):Q7.f g xs=Q6.f g xs:=an.ak h
theorem C2(r:(List UInt8×List UInt8×Bool)×List UInt8×List UInt8×Bool)(h:ax.ok ⟨r.1.1,r.1.2.1,r.1.2.2⟩/\ax.ok ⟨r.2.1,r.2.2.1,r.2.2.2⟩):Q7.f 173 [.agg [.str r.1.1,.str r.1.2.1,.bool r.1.2.2],.agg [.str r.2.1,.str r.2.2.1,.bool r.2.2.2]]=some (.int .i64 (pr ⟨r.1.1,r.1.2.1,r.1.2.2⟩ ⟨r.2.1,r.2.2.1,r.2.2.2⟩)):=an.ao (Γ:=Q6) (fun i j h=>by simpa[Prod.ext_iff,and_assoc]using h) r h
@[go_sem] theorem t_span_Ends{lo hi iw fB:List UInt8}{op mU:Bool}(h1:lo.length<=9223372036854775807)(h2:hi.length<=9223372036854775807)(h3:iw.length<=9223372036854775807)(h4:fB.length<=9223372036854775807):Q7.f 173 [.agg [.str lo,.str hi,.bool op],.agg [.str iw,.str fB,.bool mU]]=some (.int .i64 (pr ⟨lo,hi,op⟩ ⟨iw,fB,mU⟩)):=C2 ((lo,hi,op),iw,fB,mU) ⟨⟨h1,h2⟩,h3,h4⟩
def vr:an:=Q7
theorem fK:ag Tryz.prog vr:=T07j_ok
@[go_sem] theorem T07_old{g:FuncId}{xs:List A}:vr.f g xs=Q7.f g xs:=rfl
@[go_sem] theorem T07_s:vr.pl Q7:=⟨fun _=>rfl,fun _=>rfl,rfl,fun _=>rfl,rfl,fun _=>rfl,rfl⟩
theorem lH{a b c:List UInt8}(h1:aV b a=false)(h2:aV c b=false):aV c a=false:=by
 cases h:aV c a with
 |false=>rfl
 |true=>
  rcases np c b with g|g|g
  · rw[g]at h2;cases h2
  · subst g;rw[h]at h1;cases h1
  · rw[ck g h]at h1;cases h1
theorem vu{a b c:List UInt8}(h1:aV a b=true)(h2:aV c b=false):aV a c=true:=by
 rcases np a c with g|g|g
 · exact g
 · subst g;rw[h1]at h2;cases h2
 · rw[ck g h1]at h2;cases h2
theorem ltB_nil(s:List UInt8):aV s []=false:=by cases s<;>rfl
theorem YQ{p e:List UInt8}(h:kT p=some e):e.length<=p.length:=by
 unfold kT at h;split at h
 · cases h
 · obtain rfl:=Option.some.inj h
   have:=Q2 p p.length;rw[List.length_append,List.length_take]
   simp;omega
theorem TL: ∀{p e:List UInt8},VX p=some e->aV p e=true
 | [],e,h=>by simp[VX]at h
 |c::p,e,h=>by
  simp only[VX]at h;split at h
  · rename_i e' he
    obtain rfl:=Option.some.inj h;have:=TL he;simp only[aV,beq_iff_eq,jr]at this⊢;rw[if_neg (by omega),if_neg (by omega)];exact this
  · split at h
    · cases h
    · rename_i xt
      obtain rfl:=Option.some.inj h;have Jz:c.toNat≠255:=fun e=>xt (UInt8.toNat_inj.1 (by rw[e];rfl))
      have:=c.toNat_lt
      have hs:(c+1).toNat=c.toNat+1:=by
       rw[UInt8.toNat_add]
       have:(1:UInt8).toNat=1:=rfl;rw[this];omega
      simp only[aV,beq_iff_eq,jr,hs]
      rw[if_pos (by omega)]
theorem prefix_right{t:List UInt8}(h:t.length<=16):aA (kv t)=true:=by
 unfold kv;rw[if_neg (by omega)]
 cases he:kT t with
 |none=>simp[aA];omega
 |some e=>
  have h1:=YQ he;have h2:=TL (by rw[<-TK];exact he)
  simp[aA,h2];omega
theorem YR{t:List UInt8}(h:t.length<=16):aA (nq t)=true:=by
 unfold nq;rw[if_neg (by omega)]
 simp[aA,lt_next];omega
theorem JZ{t s:List UInt8}(h:t.length<=16):b_ (nq t) s=(s==t):=by
 have hr:=YR h;unfold b_;rw[hr]
 unfold nq;rw[if_neg (by omega)]
 simp only[Bool.true_and,Bool.false_or]
 rcases np s t with g|g|g
 · have:s≠t:=fun e=>by subst e;rw[lt_irrefl]at g;cases g
   rw[g];simp[this]
 · subst g;rw[lt_irrefl,lt_next];simp
 · have:s≠t:=fun e=>by subst e;rw[lt_irrefl]at g;cases g
   rw[CS g];simp[this]
def ND(r:ax)(s:List UInt8):Bool:=r.op||aV s r.hi
theorem kz(r:ax)(s:List UInt8):b_ r s=(aA r&&(!aV s r.lo&&ND r s)):=by simp[b_,ND,Bool.and_assoc]
theorem TM{a b:ax}(ha:aA a=true)(hb:aA b=true):pr a b<0 ↔ a.op=false/\(b.op=true\/aV a.hi b.hi=true):=by
 unfold pr;rw[ha,hb]
 cases a.op<;>cases b.op<;>simp
 have:= @vp a.hi b.hi;rw[<-decide_eq_true_iff (p:=cA a.hi b.hi<0),this]
theorem cw{r:ax}(h:aA r=true):r.lo.length<=17/\r.hi.length<=17/\(r.op=true->r.hi=[])/\(r.op=false->aV r.lo r.hi=true):=by
 simp only[aA,Bool.and_eq_true,decide_eq_true_eq]at h;obtain⟨⟨h1,h2⟩,h3⟩:=h;refine⟨h1,h2,fun e=> ?_,fun e=> ?_⟩
 · rw[e]at h3;simpa using h3
 · rw[e]at h3;simpa using h3
theorem qD{r:ax}(h1:r.lo.length<=17)(h2:r.hi.length<=17)(h3:r.op=true->r.hi=[])(h4:r.op=false->aV r.lo r.hi=true):aA r=true:=by
 simp only[aA,Bool.and_eq_true,decide_eq_true_eq]
 refine⟨⟨h1,h2⟩, ?_⟩
 cases ho:r.op with
 |true=>simp[h3 ho]
 |false=>simp[h4 ho]
theorem Q8{r:ax}(h:aA r=true):ND r r.lo=true:=by
 obtain⟨_,_,_,h4⟩:=cw h;cases ho:r.op with
 |true=>simp[ND,ho]
 |false=>simp[ND,h4 ho]
theorem lI{r:ax}(h:aA r=true):b_ r r.lo=true:=by rw[kz,h,lt_irrefl,Q8 h];rfl
end Go.Proofs.YtihgnfmoafjakaaGreat
namespace Go.Iv
set_option linter.unusedSimpArgs false
set_option linter.unusedVariables false
set_option linter.unusedSectionVars false
structure Lin{α:Type}(lt:α->α->Bool):Prop where
 zx: ∀x,lt x x=false
 tr: ∀x y z,lt x y=true->lt y z=true->lt x z=true
 tri: ∀x y,lt x y=true\/x=y\/lt y x=true
section
variable{α:Type}(lt:α->α->Bool)
def below(x:α):Option α->Bool
 |none=>true
 |some h=>lt x h
def ed(i:α×Option α)(x:α):Bool:= !lt x i.1&&below lt x i.2
def mem(l:List (α×Option α))(x:α):Bool:=l.any (ed lt · x)
def Can:List (α×Option α)->Prop
 | []=>True
 | [i]=>below lt i.1 i.2=true
 |i::j::l=>below lt i.1 i.2=true/\(∃h,i.2=some h/\lt h j.1=true)/\Can (j::l)
end
section
variable{α:Type}{lt:α->α->Bool}(hl:Lin lt)
include hl
theorem asymm{x y:α}(h:lt x y=true):lt y x=false:=by
 cases e:lt y x
 · rfl
 · have:=hl.tr x y x h e
   rw[hl.zx]at this;cases this
theorem nN{x y:α}(h:lt x y=false)(h':lt y x=false):x=y:=by
 rcases hl.tri x y with h1|h1|h1
 · rw[h]at h1;cases h1
 · exact h1
 · rw[h']at h1;cases h1
theorem kh{x y z:α}(h:lt x y=false)(h':lt y z=false):lt x z=false:=by
 cases e:lt x z
 · rfl
 · rcases hl.tri x y with h1|h1|h1
   · rw[h]at h1;cases h1
   · subst h1;rw[e]at h';cases h'
   · have:=hl.tr y x z h1 e;rw[this]at h';cases h'
theorem kV{x y z:α}(h:lt x y=true)(h':lt z y=false):lt x z=true:=by
 rcases hl.tri x z with h1|h1|h1
 · exact h1
 · subst h1;rw[h]at h';cases h'
 · have:=hl.tr z x y h1 h;rw[this]at h';cases h'
theorem mh{i:α×Option α}: ∀{l:List (α×Option α)},Can lt (i::l)->Can lt l
 | [],_=>trivial
 |_::_,h=>h.2.2
theorem C3{i:α×Option α}: ∀{l:List (α×Option α)},Can lt (i::l)->below lt i.1 i.2=true
 | [],h=>h
 |_::_,h=>h.1
theorem vv: ∀{l:List (α×Option α)} {i:α×Option α} {x:α},Can lt (i::l)->mem lt (i::l) x=true->lt x i.1=false
 |l,i,x,h,hm=>by
  simp only[mem,List.any_cons,Bool.or_eq_true]at hm;rcases hm with hm|hm
  · simp only[ed,Bool.and_eq_true,Bool.not_eq_true']at hm;exact hm.1
  · cases l with
    |nil=>cases hm
    |cons j l=>
     obtain⟨h1,⟨e,he,aw⟩,h2⟩:=h;have nL:=vv h2 hm;have hi:lt i.1 e=true:=by rw[he]at h1;exact h1
     have xo:=hl.tr _ _ _ hi aw;cases hx:lt x i.1
     · rfl
     · have h4:=hl.tr _ _ _ hx xo
       rw[h4]at nL;cases nL
theorem TN{i j:α×Option α}{l:List (α×Option α)}{x:α}(h:Can lt (i::j::l))(hx:below lt x i.2=true\/i.2=some x):mem lt (j::l) x=false:=by
 obtain⟨h1,⟨e,he,aw⟩,h2⟩:=h;cases hm:mem lt (j::l) x
 · rfl
 · have h3:=vv hl h2 hm
   rw[he]at hx;rcases hx with hx|hx
   · have:=hl.tr _ _ _ hx aw;rw[h3]at this;cases this
   · rw[Option.some.inj hx]at aw;rw[h3]at aw;cases aw
theorem NF{i:α×Option α}{l:List (α×Option α)}{x:α}(h:Can lt (i::l)):mem lt l x=(mem lt (i::l) x&& !ed lt i x):=by
 simp only[mem,List.any_cons]
 cases hi:ed lt i x
 · simp
 · simp only[Bool.true_or,Bool.not_true,Bool.and_false]
   cases l with
   |nil=>rfl
   |cons j l=>
    simp only[ed,Bool.and_eq_true]at hi;exact TN hl h (.inl hi.2)
theorem vw{i:α×Option α}{l:List (α×Option α)}(h:Can lt (i::l)):mem lt (i::l) i.1=true:=by simp[mem,ed,hl.zx,C3 hl h]
theorem NG{i:α×Option α}{l:List (α×Option α)}{e:α}(h:Can lt (i::l))(he:i.2=some e):mem lt (i::l) e=false:=by
 have h1:ed lt i e=false:=by simp[ed,he,below,hl.zx]
 show(ed lt i e||mem lt l e)=false;rw[h1,Bool.false_or]
 cases l with
 |nil=>rfl
 |cons j l=>exact TN hl h (.inr he)
theorem Q9{i j:α×Option α}{l m:List (α×Option α)}(h:Can lt (i::l))(h':Can lt (j::m))(hm: ∀x,mem lt (i::l) x=mem lt (j::m) x)(h0:i.1=j.1){e:α}(he:i.2=some e): ∃e',j.2=some e'/\lt e e'=false:=by
 have hn:=NG hl h he;rw[hm]at hn;have hie:lt i.1 e=true:=by have:=C3 hl h;rw[he]at this;exact this
 simp only[mem,List.any_cons,Bool.or_eq_false_iff]at hn;have hn1:=hn.1;simp only[ed,<-h0,asymm hl hie,Bool.not_false,Bool.true_and]at hn1;cases hj:j.2 with
 |none=>rw[hj]at hn1;simp[below]at hn1
 |some e'=>rw[hj]at hn1;exact⟨e',rfl,hn1⟩
theorem C4: ∀{l m:List (α×Option α)},Can lt l->Can lt m->(∀x,mem lt l x=mem lt m x)->l=m
 | [],[],_,_,_=>rfl
 | [],j::m,_,h,hm=>by have:=vw hl h;rw[<-hm]at this;simp[mem]at this
 |i::l,[],h,_,hm=>by have:=vw hl h;rw[hm]at this;simp[mem]at this
 |i::l,j::m,h,h',hm=>by
  have e1:i.1=j.1:=by have h1:=vw hl h;rw[hm]at h1;have h2:=vw hl h';rw[<-hm]at h2;exact nN hl (vv hl h' h1) (vv hl h h2)
  have e2:i.2=j.2:=by
   cases hi:i.2 with
   |none=>
    cases hj:j.2 with
    |none=>rfl
    |some e=>
     obtain⟨e',h1,_⟩:=Q9 hl h' h (fun x=>(hm x).symm) e1.symm hj;rw[hi]at h1;cases h1
   |some e=>
    obtain⟨e',h1,h2⟩:=Q9 hl h h' hm e1 hi;obtain⟨e'',h3,h4⟩:=Q9 hl h' h (fun x=>(hm x).symm) e1.symm h1;rw[hi]at h3;obtain rfl:=Option.some.inj h3;rw[h1,nN hl h2 h4]
  have e3:i=j:=Prod.ext e1 e2;subst e3;rw[C4 (mh hl h) (mh hl h') (fun x=>by rw[NF hl h,NF hl h',hm])]
end
def scan{α:Type}(p:α->Bool):Option α->List α->List (α×Option α)
 |none,[]=>[]
 |some s,[]=>[(s,none)]
 |none,e::es=>if p e then scan p (some e) es else scan p none es
 |some s,e::es=>if p e then scan p (some s) es else(s,some e)::scan p none es
def floor{α:Type}(lt:α->α->Bool)(d:Option α):List α->α->Option α
 | [],_=>d
 |e::es,x=>if lt x e then d else floor lt (some e) es x
def Gd{α:Type}(lt:α->α->Bool):Option α->List α->Prop
 |_,[]=>True
 |none,e::es=>Gd lt (some e) es
 |some d,e::es=>lt d e=true/\Gd lt (some e) es
section
variable{α:Type}{lt:α->α->Bool}(hl:Lin lt){p:α->Bool}
include hl
theorem TO{x y z:α}(h:lt y x=false)(h':lt y z=true):lt x z=true:=by
 rcases hl.tri x y with h1|h1|h1
 · exact hl.tr _ _ _ h1 h'
 · subst h1;exact h'
 · rw[h]at h1;cases h1
theorem vx{x:α}: ∀{es:List α} {d:α},Gd lt (some d) es->lt d x=false->mem lt (scan p none es) x=false/\ ∀s,lt d s=false->mem lt (scan p (some s) es) x= !lt x s
 | [],_,_,_=>⟨rfl,fun s _=>by simp[scan,mem,ed,below]⟩
 |e::es,d,h,hx=>by
  have tS:lt x e=true:=TO hl hx h.1;have ih:=vx h.2 (asymm hl tS)
  refine⟨?_,fun s hs=> ?_⟩
  · simp only[scan]
    split
    · rw[ih.2 e (hl.zx e),tS];rfl
    · exact ih.1
  · simp only[scan]
    split
    · exact ih.2 s (asymm hl (TO hl hs h.1))
    · show(ed lt (s,some e) x||mem lt (scan p none es) x)=_
      rw[ih.1];simp[ed,below,tS]
theorem C5{x:α}: ∀{es:List α} {d:α},Gd lt (some d) es->lt x d=false->
 (p d=false->mem lt (scan p none es) x=((floor lt (some d) es x).map p).getD false)/\
 (p d=true-> ∀s,lt d s=false->mem lt (scan p (some s) es) x=((floor lt (some d) es x).map p).getD false)
 | [],d,_,hx=>⟨fun h=>by simp[scan,mem,floor,h],fun h s hs=>by simp[scan,mem,ed,below,floor,h,kh hl hx hs]⟩
 |e::es,d,h,hx=>by
  refine⟨fun hp=> ?_,fun hp s hs=> ?_⟩
  · cases tS:lt x e
    · have ih:=C5 h.2 tS
      cases he:p e
      · simp only[floor,scan,tS,he,Bool.false_eq_true,↓reduceIte];exact ih.1 he
      · simp only[floor,scan,tS,he,Bool.false_eq_true,↓reduceIte];exact ih.2 he e (hl.zx e)
    · have lo:=vx (p:=p) hl h.2 (asymm hl tS)
      cases he:p e
      · simp only[floor,scan,tS,he,hp,Bool.false_eq_true,↓reduceIte,Option.map_some,Option.getD_some];exact lo.1
      · simp only[floor,scan,tS,he,hp,Bool.false_eq_true,↓reduceIte,Option.map_some,Option.getD_some]
        rw[lo.2 e (hl.zx e),tS];rfl
  · have hse:=TO hl hs h.1
    cases tS:lt x e
    · have ih:=C5 h.2 tS
      cases he:p e
      · simp only[floor,scan,tS,he,Bool.false_eq_true,↓reduceIte]
        rw[<-ih.1 he]
        show(ed lt (s,some e) x||mem lt (scan p none es) x)=_;simp[ed,below,tS]
      · simp only[floor,scan,tS,he,Bool.false_eq_true,↓reduceIte];exact ih.2 he s (asymm hl hse)
    · have lo:=vx (p:=p) hl h.2 (asymm hl tS)
      cases he:p e
      · simp only[floor,scan,tS,he,hp,Bool.false_eq_true,↓reduceIte,Option.map_some,Option.getD_some]
        show(ed lt (s,some e) x||mem lt (scan p none es) x)=_;simp[ed,below,tS,kh hl hx hs]
      · simp only[floor,scan,tS,he,hp,Bool.false_eq_true,↓reduceIte,Option.map_some,Option.getD_some]
        rw[lo.2 s (asymm hl hse),kh hl hx hs];rfl
theorem YS{x:α}: ∀{es:List α},Gd lt none es->mem lt (scan p none es) x=((floor lt none es x).map p).getD false
 | [],_=>rfl
 |e::es,h=>by
  cases tS:lt x e
  · have ih:=C5 (p:=p) hl h tS
    cases he:p e
    · simp only[floor,scan,tS,he,Bool.false_eq_true,↓reduceIte];exact ih.1 he
    · simp only[floor,scan,tS,he,Bool.false_eq_true,↓reduceIte];exact ih.2 he e (hl.zx e)
  · have lo:=vx (p:=p) hl h (asymm hl tS)
    cases he:p e
    · simp only[floor,scan,tS,he,Bool.false_eq_true,↓reduceIte,Option.map_none,Option.getD_none];exact lo.1
    · simp only[floor,scan,tS,he,Bool.false_eq_true,↓reduceIte,Option.map_none,Option.getD_none]
      rw[lo.2 e (hl.zx e),tS];rfl
theorem NH: ∀{es:List α} {d:α},Gd lt (some d) es->
 (Can lt (scan p none es)/\ ∀j l,scan p none es=j::l->lt d j.1=true)/\ ∀s,lt d s=false->Can lt (scan p (some s) es)/\ ∀j l,scan p (some s) es=j::l->j.1=s
 | [],d,_=>⟨⟨trivial,fun _ _ h=>by simp[scan]at h⟩,fun s _=>⟨rfl,fun j l h=>by simp only[scan,List.cons.injEq]at h;rw[<-h.1]⟩⟩
 |e::es,d,h=>by
  have ih:=NH h.2;refine⟨?_,fun s hs=> ?_⟩
  · simp only[scan]
    split
    · have:=ih.2 e (hl.zx e)
      exact⟨this.1,fun j l hj=>by rw[this.2 j l hj];exact h.1⟩
    · exact⟨ih.1.1,fun j l hj=>hl.tr _ _ _ h.1 (ih.1.2 j l hj)⟩
  · have hse:=TO hl hs h.1
    simp only[scan]
    split
    · exact ih.2 s (asymm hl hse)
    · refine⟨?_,fun j l hj=>by simp only[List.cons.injEq]at hj;rw[<-hj.1]⟩
      cases hr:scan p none es with
      |nil=>exact hse
      |cons j l=>exact⟨hse,⟨e,rfl,ih.1.2 j l hr⟩,by rw[<-hr];exact ih.1.1⟩
theorem YT: ∀{es:List α},Gd lt none es->Can lt (scan p none es)
 | [],_=>trivial
 |e::es,h=>by
  have:=NH (p:=p) hl h;simp only[scan]
  split
  · exact(this.2 e (hl.zx e)).1
  · exact this.1.1
theorem YU{es:List α}(h:Gd lt none es){P:α->Bool}(hP: ∀x,P x=((floor lt none es x).map P).getD false): ∀x,mem lt (scan P none es) x=P x:=fun x=>by rw[YS hl h,<-hP x]
end
def Ai{α:Type}(lt:α->α->Bool):Option α->Option α->Option α
 |some a,some b=>if lt a b then some b else some a
 |_,_=>none
def NI{α:Type}(lt:α->α->Bool)(c:Option α)(r:α):Bool:=
 match c with
 |none=>true
 |some h=> !lt h r
def YV{α:Type}(lt:α->α->Bool):α×Option α->List (α×Option α)->List (α×Option α)
 |c,[]=>[c]
 |c,r::rs=>if NI lt c.2 r.1 then YV lt (c.1,Ai lt c.2 r.2) rs else c::YV lt r rs
section
variable{α:Type}{lt:α->α->Bool}(hl:Lin lt)
include hl
theorem VY{x:α}(c r:Option α):below lt x (Ai lt c r)=(below lt x c||below lt x r):=by
 cases c with
 |none=>cases r<;>simp[Ai,below]
 |some a=>
  cases r with
  |none=>simp[Ai,below]
  |some b=>
   cases NJ:lt a b
   · simp only[Ai,NJ,Bool.false_eq_true,↓reduceIte,below]
     cases hxb:lt x b
     · simp
     · have Xz:lt x a=true:=by
        cases e:lt x a
        · have:=kh hl e NJ;rw[hxb]at this;cases this
        · rfl
       rw[Xz];rfl
   · simp only[Ai,NJ,↓reduceIte,below]
     cases Xz:lt x a
     · simp
     · rw[hl.tr _ _ _ Xz NJ];rfl
theorem VZ{c r:α×Option α}{x:α}(h:lt r.1 c.1=false)(ht:NI lt c.2 r.1=true):ed lt (c.1,Ai lt c.2 r.2) x=(ed lt c x||ed lt r x):=by
 simp only[ed,VY hl]
 cases h1:lt x c.1
 · cases h2:below lt x c.2
   · cases h3:lt x r.1
     · simp
     · cases hc:c.2 with
       |none=>rw[hc]at h2;cases h2
       |some e=>
        rw[hc]at h2 ht;simp only[below]at h2;simp only[NI,Bool.not_eq_true']at ht;have:=kh hl h2 ht;rw[h3]at this;cases this
   · simp
 · have:lt x r.1=true:=kV hl h1 h
   simp[this]
end
end Go.Iv
namespace Go.Proofs.YtihgnfmoafjakaaGreat
open Go.bo
set_option linter.unusedSimpArgs false
set_option linter.unusedVariables false
theorem pN:Iv.Lin aV:=⟨lt_irrefl,fun _ _ _ h1 h2=>ck h1 h2,np⟩
def mG(r:ax):List UInt8×Option (List UInt8):=(r.lo,if r.op then none else some r.hi)
def aj(l:List ax)(s:List UInt8):Bool:=l.any (b_ · s)
def oN:Option ax->List ax->Bool
 |_,[]=>true
 |p,r::rs=>aA r&&(match p with|none=>true|some q=> !(q.op|| !aV q.hi r.lo))&&oN (some r) rs
def aP(l:List ax):Bool:=oN none l
def RS:List ax->Prop
 | []=>True
 | [r]=>aA r=true
 |r::q::l=>aA r=true/\(q.op=false/\aV q.hi r.lo=true)/\RS (q::l)
theorem Iy: ∀(l:List ax) (p:Option ax) (q r:ax),oN p (l++[q,r])=(oN p (l++[q])&&(aA r&& !(q.op|| !aV q.hi r.lo)))
 | [],p,q,r=>by cases p<;>simp[oN,Bool.and_assoc]
 |x::l,p,q,r=>by simp only[List.cons_append,oN,Iy l (some x) q r,Bool.and_assoc]
theorem zy: ∀{l:List ax},aP l.reverse=true ↔ RS l
 | []=>by simp[aP,oN,RS]
 | [r]=>by simp[aP,oN,RS]
 |r::q::l=>by
  have ih:= @zy (q::l)
  simp only[List.reverse_cons,List.append_assoc,List.cons_append,List.nil_append,aP]at ih⊢;rw[Iy,Bool.and_eq_true,ih,RS,Bool.and_eq_true]
  simp;exact⟨fun⟨a,b,c,d⟩=>⟨b,⟨c,d⟩,a⟩,fun⟨b,⟨c,d⟩,a⟩=>⟨a,b,c,d⟩⟩
theorem rs_tail{r:ax}: ∀{l:List ax},RS (r::l)->RS l
 | [],_=>trivial
 |_::_,h=>h.2.2
theorem YW{r:ax}: ∀{l:List ax},RS (r::l)->aA r=true
 | [],h=>h
 |_::_,h=>h.1
theorem TP{r:ax}(h:aA r=true):Iv.below aV r.lo (mG r).2=true:=by
 have:=(cw h).2.2.2;unfold mG;cases ho:r.op
 · simp only[Bool.false_eq_true,if_false,Iv.below];exact this ho
 · rfl
theorem YX{r q:ax}(hr:aA r=true)(hq:aA q=true)(h:mG r=mG q):r=q:=by
 obtain⟨_,_,h1,_⟩:=cw hr;obtain⟨_,_,h2,_⟩:=cw hq;obtain⟨lo,hi,op⟩:=r;obtain⟨iw,fB,mU⟩:=q;simp only[mG,Prod.mk.injEq]at h;obtain⟨rfl,h⟩:=h;cases op<;>cases mU<;>simp at h h1 h2
 · rw[h]
 · rw[h1,h2]
theorem oO(r:ax)(s:List UInt8):b_ r s=(aA r&&Iv.ed aV (mG r) s):=by unfold b_ Iv.ed mG;cases r.op<;>simp[Iv.below,Bool.and_assoc]
theorem vy(l:List ax)(s:List UInt8):aj l s=Iv.mem aV ((l.filter aA).map mG) s:=by
 induction l with
 |nil=>rfl
 |cons r l ih=>
  simp only[aj,List.any_cons]at ih⊢;rw[ih,oO]
  cases h:aA r
  · simp[List.filter_cons,h]
  · simp[List.filter_cons,h,Iv.mem]
theorem NK: ∀{l:List ax} {p:Option ax},oN p l=true ↔ (∀r∈l,aA r=true)/\Iv.Can aV (l.map mG)/\ ∀q,p=some q-> ∀r,l.head? =some r->q.op=false/\aV q.hi r.lo=true
 | [],p=>by simp[oN,Iv.Can]
 |r::l,p=>by
  have ih:= @NK l (some r)
  simp only[oN,Bool.and_eq_true,ih]
  constructor
  · rintro⟨⟨h1,h2⟩,h3,h4,h5⟩
    refine⟨fun q hq=> ?_, ?_,fun q hq r' Cf=> ?_⟩
    · rcases List.mem_cons.1 hq with rfl|hq
      · exact h1
      · exact h3 q hq
    · cases l with
      |nil=>exact TP h1
      |cons r' l=>
       obtain⟨k1,k2⟩:=h5 r rfl r' rfl;exact⟨TP h1,⟨r.hi,by simp[mG,k1],k2⟩,h4⟩
    · subst hq
      simp at Cf;subst Cf;simpa using h2
  · rintro⟨h1,h2,h3⟩
    refine⟨⟨h1 r (by simp), ?_⟩,fun q hq=>h1 q (by simp[hq]),Iv.mh pN h2,fun q hq r' Cf=> ?_⟩
    · cases p with
      |none=>rfl
      |some q=>have:=h3 q rfl r rfl;simp[this]
    · obtain rfl:=Option.some.inj hq
      cases l with
      |nil=>simp at Cf
      |cons r'' l=>
       simp at Cf;subst Cf;obtain⟨_,⟨h,k1,k2⟩,_⟩:=h2;simp only[mG]at k1;cases ho:r.op with
       |true=>rw[ho]at k1;simp at k1
       |false=>
        rw[ho]at k1;simp at k1;subst k1;exact⟨rfl,k2⟩
theorem eU{l:List ax}:aP l=true ↔ (∀r∈l,aA r=true)/\Iv.Can aV (l.map mG):=by
 unfold aP;rw[NK]
 simp
theorem lJ{l:List ax}(h: ∀r∈l,aA r=true):l.filter aA=l:=List.filter_eq_self.2 h
theorem C6: ∀{l m:List ax},(∀r∈l,aA r=true)->(∀r∈m,aA r=true)->l.map mG=m.map mG->l=m
 | [],[],_,_,_=>rfl
 | [],_::_,_,_,h=>by simp at h
 |_::_,[],_,_,h=>by simp at h
 |r::l,q::m,h1,h2,h=>by simp only[List.map_cons,List.cons.injEq]at h;rw[YX (h1 r (by simp)) (h2 q (by simp)) h.1,C6 (fun x hx=>h1 x (by simp[hx])) (fun x hx=>h2 x (by simp[hx])) h.2]
theorem C7{l m:List ax}(h:aP l=true)(h':aP m=true)(hm: ∀s,aj l s=aj m s):l=m:=by
 obtain⟨a1,a2⟩:=eU.1 h;obtain⟨b1,b2⟩:=eU.1 h';refine C6 a1 b1 (Iv.C4 pN a2 b2 fun s=> ?_)
 have:=hm s
 rwa [vy,vy,lJ a1,lJ b1]at this
open Classical in
/-- The right list of the texts that are meant, if there is one. -/
def dv(p:List UInt8->Bool):List ax:=if h: ∃l,aP l=true/\ ∀n,aj l n=p n then Classical.choose h else []
def IsS(p:List UInt8->Bool):Prop:= ∃l,aP l=true/\ ∀n,aj l n=p n
theorem mi(p:List UInt8->Bool):aP (dv p)=true:=by
 unfold dv;split
 · rename_i h;exact(Classical.choose_spec h).1
 · rfl
theorem C8{p:List UInt8->Bool}(h:IsS p)(n:List UInt8):aj (dv p) n=p n:=by unfold dv;rw[dif_pos (show∃l,aP l=true/\ ∀n,aj l n=p n from h)];exact(Classical.choose_spec h).2 n
theorem J0{p:List UInt8->Bool}{l:List ax}(h:aP l=true)(hp: ∀n,aj l n=p n):l=dv p:=
 C7 h (mi p) fun n=>by rw[hp,C8 ⟨l,h,hp⟩]
theorem iZ(r:ax)(l:List ax)(s:List UInt8):aj (r::l) s=(b_ r s||aj l s):=rfl
theorem V0(l:List ax)(s:List UInt8):aj l.reverse s=aj l s:=by simp[aj]
theorem jt{l:List ax}{s:List UInt8}:aj l s=true ↔∃r∈l,b_ r s=true:=by simp[aj]
theorem Q_{l m:List ax}(h:l.Perm m)(s:List UInt8):aj l s=aj m s:=by
 rw[Bool.eq_iff_iff,jt,jt]
 exact⟨fun⟨r,hr,h1⟩=>⟨r,h.mem_iff.1 hr,h1⟩,fun⟨r,hr,h1⟩=>⟨r,h.mem_iff.2 hr,h1⟩⟩
theorem Ra{r:ax}{s:List UInt8}(h:b_ r s=true):aA r=true:=by rw[kz]at h;simp only[Bool.and_eq_true]at h;exact h.1
theorem J1(l:List ax)(s:List UInt8):aj (l.filter aA) s=aj l s:=by
 rw[Bool.eq_iff_iff,jt,jt]
 exact⟨fun⟨r,hr,h1⟩=>⟨r,(List.mem_filter.1 hr).1,h1⟩,fun⟨r,hr,h1⟩=>⟨r,List.mem_filter.2 ⟨hr,Ra h1⟩,h1⟩⟩
def ie(q r:ax):ax:=if pr q r<0 then⟨q.lo,r.hi,r.op⟩else q
def dY:List ax->ax->List ax
 | [],r=>[r]
 |q::qs,r=>if q.op|| !aV q.hi r.lo then ie q r::qs else r::q::qs
def lowS(l:List ax)(x:List UInt8):Prop:=match l with| []=>True|q::_=>aV x q.lo=false
theorem NL(q r:ax):(ie q r).lo=q.lo:=by unfold ie;split<;>rfl
theorem YY{q r:ax}(hq:aA q=true)(hr:aA r=true):mG (ie q r)=(q.lo,Iv.Ai aV (mG q).2 (mG r).2):=by
 have he:=TM hq hr;unfold ie;by_cases h:pr q r<0
 · rw[if_pos h]
   obtain⟨h1,h2⟩:=he.1 h;unfold mG;rw[h1]
   cases ho:r.op with
   |true=>simp[Iv.Ai]
   |false=>
    rw[ho]at h2;have h3:aV q.hi r.hi=true:=by simpa using h2
    simp[Iv.Ai,h3]
 · rw[if_neg h]
   unfold mG;cases ho:q.op with
   |true=>simp[Iv.Ai]
   |false=>
    have h2: ¬(r.op=true\/aV q.hi r.hi=true):=fun h3=>h (he.2 ⟨ho,h3⟩)
    have h3:r.op=false:=by
     cases hx:r.op
     · rfl
     · exact absurd (.inl hx) h2
    have h4:aV q.hi r.hi=false:=by
     cases hx:aV q.hi r.hi
     · rfl
     · exact absurd (.inr hx) h2
    simp[Iv.Ai,h3,h4]
theorem merge_right{q r:ax}(hq:aA q=true)(hr:aA r=true):aA (ie q r)=true:=by
 obtain⟨a1,a2,a3,a4⟩:=cw hq;obtain⟨b1,b2,b3,b4⟩:=cw hr;have he:=TM hq hr;unfold ie;by_cases h:pr q r<0
 · rw[if_pos h]
   obtain⟨h1,h2⟩:=he.1 h;refine qD a1 b2 b3 fun ho=> ?_;have xc:r.op=false:=ho;rw[xc]at h2;have h3:aV q.hi r.hi=true:=by simpa using h2
   exact ck (a4 h1) h3
 · rw[if_neg h];exact hq
theorem V3{q r:ax}:(q.op|| !aV q.hi r.lo)=Iv.NI aV (mG q).2 (mG r).1:=by unfold mG;cases q.op<;>simp[Iv.NI]
theorem NM{l:List ax}{r:ax}(h:RS l)(hr:aA r=true)(hf:lowS l r.lo):RS (dY l r)/\lowS (dY l r) r.lo/\ ∀s,aj (dY l r) s=(aj l s||b_ r s):=by
 cases l with
 |nil=>exact⟨hr,lt_irrefl _,fun s=>by simp[dY,aj]⟩
 |cons q qs=>
  have hq:=YW h;have MY:aV r.lo q.lo=false:=hf;simp only[dY]
  cases hc:(q.op|| !aV q.hi r.lo)with
  |true=>
   rw[if_pos rfl]
   have hm:=merge_right hq hr;refine⟨?_, ?_,fun s=> ?_⟩
   · cases qs with
     |nil=>exact hm
     |cons p ps=>exact⟨hm,⟨h.2.1.1,by rw[NL];exact h.2.1.2⟩,h.2.2⟩
   · show aV r.lo (ie q r).lo=false
     rw[NL];exact MY
   · rw[iZ,iZ,oO,oO q,oO r,hm,hq,hr]
     simp only[Bool.true_and]
     rw[YY hq hr]
     have:=Iv.VZ pN (c:=mG q) (r:=mG r) (x:=s) MY (by rw[<-V3];exact hc)
     have e:(mG q).1=q.lo:=rfl;rw[e]at this;rw[this]
     cases Iv.ed aV (mG q) s<;>cases Iv.ed aV (mG r) s<;>cases aj qs s<;>rfl
  |false=>
   rw[if_neg (by simp)]
   have wQ:q.op=false/\aV q.hi r.lo=true:=by simpa using hc
   refine⟨⟨hr,wQ,h⟩,lt_irrefl _,fun s=> ?_⟩
   rw[iZ r];cases b_ r s<;>cases aj (q::qs) s<;>rfl
theorem V4(l:List ax)(r:ax):(dY l r).length<=l.length+1:=by
 cases l with
 |nil=>simp[dY]
 |cons q qs=>simp only[dY];split<;>simp
theorem tW: ∀{l:List ax} {a:List ax},RS a->(∀r∈l,aA r=true)->l.Pairwise (fun x y=>aV y.lo x.lo=false)->(∀r∈l,lowS a r.lo)->RS (l.foldl dY a)/\ ∀s,aj (l.foldl dY a) s=(aj a s||aj l s)
 | [],a,h,_,_,_=>⟨h,fun s=>by simp[aj]⟩
 |r::l,a,h,ho,hs,hf=>by
  obtain⟨h1,h2,h3⟩:=NM h (ho r (by simp)) (hf r (by simp))
  rw[List.pairwise_cons]at hs
  obtain⟨h4,h5⟩:=tW (l:=l) h1 (fun q hq=>ho q (by simp[hq])) hs.2 (fun q hq=>by
   have:=hs.1 q hq;revert h2;cases dY a r with
   |nil=>intro _;trivial
   |cons p ps=>intro h2;exact lH h2 this)
  refine⟨h4,fun n=> ?_⟩
  rw[List.foldl_cons,h5,h3,iZ]
  simp only[Bool.or_assoc]
theorem V5{l:List ax}(ho: ∀r∈l,aA r=true)(hs:l.Pairwise (fun x y=>aV y.lo x.lo=false)):(l.foldl dY []).reverse=dv (aj l):=by
 obtain⟨h1,h2⟩:=tW (a:=[]) trivial ho hs (fun _ _=>trivial)
 exact J0 (zy.2 h1) fun n=>by rw[V0,h2];simp[aj]
def toR(i:List UInt8×Option (List UInt8)):ax:=⟨i.1,i.2.getD [],i.2.isNone⟩
theorem iv_toR(i:List UInt8×Option (List UInt8)):mG (toR i)=i:=by obtain⟨a,b⟩:=i;cases b<;>rfl
def Rb(P:List UInt8->Bool)(st:List ax×Bool)(e:List UInt8):List ax×Bool:=
 (if P e&& !st.2 then⟨e,[],true⟩::st.1 else if !P e&&st.2 then(match st.1 with|q::qs=>⟨q.lo,e,false⟩::qs| []=>[])else st.1,P e)
def Ge(P:List UInt8->Bool)(es:List (List UInt8)):List ax×Bool:=es.foldl (Rb P) ([],false)
theorem qE(P:List UInt8->Bool): ∀(es:List (List UInt8)) (acc:List ax),(es.foldl (Rb P) (acc,false)).1.reverse=acc.reverse++(Iv.scan P none es).map toR/\
 ∀s,(es.foldl (Rb P) (⟨s,[],true⟩::acc,true)).1.reverse=acc.reverse++(Iv.scan P (some s) es).map toR
 | [],acc=>⟨by simp[Iv.scan],fun s=>by simp[Iv.scan,toR]⟩
 |e::es,acc=>by
  refine⟨?_,fun s=> ?_⟩
  · simp only[List.foldl_cons,Rb,Iv.scan]
    cases hp:P e with
    |true=>simp only[Bool.not_false,Bool.and_self,if_true];exact(qE P es acc).2 e
    |false=>simp only[Bool.not_false,Bool.and_true,Bool.and_false,Bool.false_eq_true,if_false];exact(qE P es acc).1
  · simp only[List.foldl_cons,Rb,Iv.scan]
    cases hp:P e with
    |true=>simp only[Bool.not_true,Bool.and_false,Bool.false_and,Bool.false_eq_true,if_false,if_true];exact(qE P es acc).2 s
    |false=>
     simp only[Bool.not_true,Bool.and_self,Bool.and_false,Bool.not_false,Bool.false_eq_true,if_false,if_true]
     rw[(qE P es (⟨s,e,false⟩::acc)).1]
     simp[toR]
theorem YZ(P:List UInt8->Bool)(es:List (List UInt8)):(Ge P es).1.reverse=(Iv.scan P none es).map toR:=by have:=(qE P es []).1;rw[List.reverse_nil,List.nil_append]at this;exact this
theorem Y0(P:List UInt8->Bool)(es:List (List UInt8))(k:Nat)(h:k<es.length):Ge P (es.take (k+1))=Rb P (Ge P (es.take k)) es[k]:=by unfold Ge;rw[<-List.take_append_getElem h,List.foldl_append];rfl
theorem stS_len(P:List UInt8->Bool)(st:List ax×Bool)(e:List UInt8):(Rb P st e).1.length<=st.1.length+1:=by
 simp only[Rb]
 split
 · simp
 · split
   · split<;>simp_all
   · omega
theorem TQ(P:List UInt8->Bool): ∀(es:List (List UInt8)) (st:List ax×Bool),(es.foldl (Rb P) st).1.length<=st.1.length+es.length
 | [],st=>by simp
 |e::es,st=>by
  have h1:=TQ P es (Rb P st e)
  have h2:=stS_len P st e;simp only[List.foldl_cons,List.length_cons];omega
theorem TR(P:List UInt8->Bool): ∀(es:List (List UInt8)) (st:List ax×Bool),(st.2=true->st.1≠ [])->(es.foldl (Rb P) st).2=true->(es.foldl (Rb P) st).1≠ []
 | [],st,h,h'=>h h'
 |e::es,st,h,h'=>by
  refine TR P es (Rb P st e) (fun h2=> ?_) h';have hp:P e=true:=h2;simp only[Rb,hp]
  cases hs:st.2 with
  |true=>simp;exact h hs
  |false=>simp
theorem TT: ∀{es:List (List UInt8)},es.Pairwise (fun x y=>aV x y=true)->Iv.Gd aV none es
 | [],_=>trivial
 |e::es,h=>by
  have key: ∀{es:List (List UInt8)} {d:List UInt8},(d::es).Pairwise (fun x y=>aV x y=true)->Iv.Gd aV (some d) es:=by
   intro es;induction es with
   |nil=>intro d _;trivial
   |cons e es ih=>
    intro d h;rw[List.pairwise_cons]at h;exact⟨h.1 e (by simp),ih h.2⟩
  exact key h
theorem C9: ∀{es:List (List UInt8)} {x:List UInt8} {d:Option (List UInt8)},es.Pairwise (fun a b=>aV a b=true)->(∀e,d=some e->aV x e=false/\ ∀y∈es,aV e y=true)->
  match Iv.floor aV d es x with
  |none=>d=none/\ ∀y∈es,aV x y=true
  |some e=>(d=some e\/e∈es)/\aV x e=false/\ ∀y∈es,aV e y=true->aV x y=true
 | [],x,d,_,h=>by
  cases d with
  |none=>exact⟨rfl,fun y hy=>by cases hy⟩
  |some e=>exact⟨.inl rfl,(h e rfl).1,fun y hy=>by cases hy⟩
 |e::es,x,d,hp,h=>by
  rw[List.pairwise_cons]at hp;simp only[Iv.floor]
  cases hx:aV x e with
  |true=>
   rw[if_pos rfl]
   have nL: ∀y∈e::es,aV x y=true:=fun y hy=>by
    rcases List.mem_cons.1 hy with rfl|hy
    · exact hx
    · exact ck hx (hp.1 y hy)
   cases d with
   |none=>exact⟨rfl,nL⟩
   |some e'=>exact⟨.inl rfl,(h e' rfl).1,fun y hy _=>nL y hy⟩
  |false=>
   rw[if_neg (by simp)]
   have ih:= @C9 es x (some e) hp.2 (fun e' wR=>by obtain rfl:=Option.some.inj wR;exact⟨hx,hp.1⟩)
   cases hf:Iv.floor aV (some e) es x with
   |none=>rw[hf]at ih;exact absurd ih.1 (by simp)
   |some e'=>
    rw[hf]at ih;obtain⟨h1,h2,h3⟩:=ih;refine⟨.inr ?_,h2,fun y hy hl=> ?_⟩
    · rcases h1 with h1|h1
      · obtain rfl:=Option.some.inj h1;simp
      · simp[h1]
    · rcases List.mem_cons.1 hy with rfl|hy
      · rcases h1 with h1|h1
        · obtain rfl:=Option.some.inj h1
          rw[lt_irrefl]at hl;cases hl
        · have:=hp.1 e' h1
          rw[fo this]at hl;cases hl
      · exact h3 y hy hl
theorem Iz: ∀{l:List (List UInt8×Option (List UInt8))},Iv.Can aV l-> ∀i∈l,Iv.below aV i.1 i.2=true
 | [],_,i,hi=>by cases hi
 |j::l,h,i,hi=>by
  rcases List.mem_cons.1 hi with rfl|hi
  · exact Iv.C3 pN h
  · exact Iz (Iv.mh pN h) i hi
theorem vz(P:List UInt8->Bool): ∀(es:List (List UInt8)) (st:Option (List UInt8)),∀i∈Iv.scan P st es,(i.1∈es\/st=some i.1)/\ ∀e,i.2=some e->e∈es
 | [],none,i,hi=>by cases hi
 | [],some s,i,hi=>by simp only[Iv.scan,List.mem_singleton]at hi;subst hi;exact⟨.inr rfl,fun e he=>by cases he⟩
 |x::es,none,i,hi=>by
  simp only[Iv.scan]at hi;split at hi
  · obtain⟨h1,h2⟩:=vz P es (some x) i hi
    refine⟨.inl ?_,fun e he=>by simp[h2 e he]⟩
    rcases h1 with h1|h1
    · simp[h1]
    · obtain rfl:=Option.some.inj h1;simp
  · obtain⟨h1,h2⟩:=vz P es none i hi
    refine⟨.inl ?_,fun e he=>by simp[h2 e he]⟩
    rcases h1 with h1|h1
    · simp[h1]
    · cases h1
 |x::es,some s,i,hi=>by
  simp only[Iv.scan]at hi;split at hi
  · obtain⟨h1,h2⟩:=vz P es (some s) i hi
    refine⟨?_,fun e he=>by simp[h2 e he]⟩
    rcases h1 with h1|h1
    · exact .inl (by simp[h1])
    · exact .inr h1
  · rcases List.mem_cons.1 hi with rfl|hi
    · exact⟨.inr rfl,fun e he=>by
       have:x=e:=by simpa using he
       simp[this]⟩
    · obtain⟨h1,h2⟩:=vz P es none i hi
      refine⟨.inl ?_,fun e he=>by simp[h2 e he]⟩
      rcases h1 with h1|h1
      · simp[h1]
      · cases h1
theorem mkS_set{P:List UInt8->Bool}{es:List (List UInt8)}(up:es.Pairwise (fun x y=>aV x y=true))(JJ: []∈es)(hlen: ∀e∈es,e.length<=17)
 (flat: ∀x,∀e∈es,aV x e=false->(∀y∈es,aV e y=true->aV x y=true)->P x=P e):(Ge P es).1.reverse=dv P/\IsS P:=by
 have iO:=Iv.YU pN (TT up) (P:=P) (fun x=>by
  have hf:=C9 (x:=x) (d:=none) up (fun e he=>by cases he)
  cases hx:Iv.floor aV none es x with
  |none=>
   rw[hx]at hf;have:=hf.2 [] JJ;rw[ltB_nil]at this;cases this
  |some e=>
   rw[hx]at hf;obtain⟨h1,h2,h3⟩:=hf;rcases h1 with h1|h1
   · cases h1
   · exact flat x e h1 h2 h3)
 have hcan:=Iv.YT pN (p:=P) (TT up)
 have j_:=vz P es none;rw[YZ]
 generalize Iv.scan P none es=L at*
 have e:(L.map toR).map mG=L:=by
  rw[List.map_map]
  have:(mG∘toR)=id:=funext iv_toR;rw[this,List.map_id]
 have hr: ∀r∈L.map toR,aA r=true:=fun r hr=>by
  obtain⟨i,hi,rfl⟩:=List.mem_map.1 hr;obtain⟨h1,h2⟩:=j_ i hi;have hv:=Iz hcan i hi;obtain⟨a,b⟩:=i
  have ha:a∈es:=by
   rcases h1 with h1|h1
   · exact h1
   · cases h1
  cases b with
  |none=>exact qD (hlen a ha) (by simp[toR]) (fun _=>rfl) (fun h=>by simp[toR]at h)
  |some b=>exact qD (hlen a ha) (hlen b (h2 b rfl)) (fun h=>by simp[toR]at h) (fun _=>hv)
 have h1:aP (L.map toR)=true:=eU.2 ⟨hr,by rw[e];exact hcan⟩
 have h2: ∀s,aj (L.map toR) s=P s:=fun s=>by rw[vy,lJ hr,e];exact iO s
 exact⟨J0 h1 h2,⟨_,h1,h2⟩⟩
theorem tX{l:List ax}{es:List (List UInt8)}(he: ∀r∈l,aA r=true->r.lo∈es/\(r.op=false->r.hi∈es)){x e:List UInt8}(h1:aV x e=false)(h2: ∀y∈es,aV e y=true->aV x y=true):aj l x=aj l e:=by
 have same: ∀y∈es,aV x y=aV e y:=fun y hy=>by
  cases h:aV e y
  · exact lH h h1
  · exact h2 y hy h
 have key: ∀r∈l,b_ r x=b_ r e:=fun r hr=>by
  cases VE:aA r with
  |false=>rw[kz,kz,VE];rfl
  |true=>
   obtain⟨k1,k2⟩:=he r hr VE;rw[kz,kz,same _ k1]
   unfold ND;cases ho:r.op with
   |true=>rfl
   |false=>rw[same _ (k2 ho)]
 clear he;induction l with
 |nil=>rfl
 |cons r l ih=>
  rw[iZ,iZ,key r (by simp),ih (fun q hq=>key q (by simp[hq]))]
def i_:List (List UInt8)->List UInt8->List (List UInt8)
 | [],n=>[n]
 |x::xs,n=>if aV x n then x::i_ xs n else if x=n then x::xs else n::x::xs
theorem vA(l:List (List UInt8))(n:List UInt8):(i_ l n).length<=l.length+1:=by
 induction l with
 |nil=>simp[i_]
 |cons x xs ih=>
  simp only[i_]
  split
  · simp;omega
  · split<;>simp
theorem qF(l:List (List UInt8))(n x:List UInt8):x∈i_ l n ↔ x=n\/x∈l:=by
 induction l with
 |nil=>simp[i_]
 |cons y ys ih=>
  simp only[i_]
  split
  · rw[List.mem_cons,ih,List.mem_cons]
    exact⟨fun h=>by rcases h with h|h|h<;>simp[h],fun h=>by rcases h with h|h|h<;>simp[h]⟩
  · split
    · rename_i h1 h2;subst h2;simp
    · simp
theorem J2{l:List (List UInt8)}{n:List UInt8}(h:l.Pairwise (fun x y=>aV x y=true)):(i_ l n).Pairwise (fun x y=>aV x y=true):=by
 induction l with
 |nil=>simp[i_]
 |cons y ys ih=>
  rw[List.pairwise_cons]at h;simp only[i_]
  split
  · rename_i h1
    rw[List.pairwise_cons]
    refine⟨fun x hx=> ?_,ih h.2⟩
    rcases(qF ys n x).1 hx with rfl|hx
    · exact h1
    · exact h.1 x hx
  · split
    · exact List.pairwise_cons.2 h
    · rename_i h1 h2
      have aw:aV n y=true:=by
       rcases np y n with h3|h3|h3
       · exact absurd h3 (by simpa using h1)
       · exact absurd h3 h2
       · exact h3
      rw[List.pairwise_cons]
      refine⟨fun x hx=> ?_,List.pairwise_cons.2 h⟩
      rcases List.mem_cons.1 hx with rfl|hx
      · exact aw
      · exact ck aw (h.1 x hx)
def kH(es:List (List UInt8))(r:ax):List (List UInt8):=if aA r then(if r.op then i_ es r.lo else i_ (i_ es r.lo) r.hi)else es
def ja(a b:List ax):List (List UInt8):=(a++b).foldl kH [[]]
theorem putE_up{es:List (List UInt8)}{r:ax}(h:es.Pairwise (fun x y=>aV x y=true)):(kH es r).Pairwise (fun x y=>aV x y=true):=by
 unfold kH;split
 · split
   · exact J2 h
   · exact J2 (J2 h)
 · exact h
theorem Y3(es:List (List UInt8))(r:ax)(x:List UInt8):x∈kH es r ↔ x∈es\/(aA r=true/\(x=r.lo\/(r.op=false/\x=r.hi))):=by
 unfold kH;cases h:aA r with
 |false=>simp
 |true=>
  cases ho:r.op with
  |true=>simp[qF];exact⟨fun h=>h.symm,fun h=>h.symm⟩
  |false=>
   simp[qF]
   constructor
   · rintro(h|h|h)
     · exact .inr (.inr h)
     · exact .inr (.inl h)
     · exact .inl h
   · rintro(h|h|h)
     · exact .inr (.inr h)
     · exact .inr (.inl h)
     · exact .inl h
theorem Y4(es:List (List UInt8))(r:ax):(kH es r).length<=es.length+2:=by
 have h1:=vA es r.lo;have h2:=vA (i_ es r.lo) r.hi;unfold kH;split
 · split<;>omega
 · omega
theorem xx: ∀(l:List ax) (es:List (List UInt8)),(l.foldl kH es).length<=es.length+2*l.length
 | [],es=>by simp
 |r::l,es=>by
  have h1:=xx l (kH es r)
  have h2:=Y4 es r;simp only[List.foldl_cons,List.length_cons];omega
theorem NN: ∀(l:List ax) (es:List (List UInt8)),es.Pairwise (fun x y=>aV x y=true)->(l.foldl kH es).Pairwise (fun x y=>aV x y=true)
 | [],es,h=>h
 |r::l,es,h=>NN l _ (putE_up h)
theorem lX: ∀(l:List ax) (es:List (List UInt8)) (x:List UInt8),x∈l.foldl kH es ↔ x∈es\/ ∃r∈l,aA r=true/\(x=r.lo\/(r.op=false/\x=r.hi))
 | [],es,x=>by simp
 |r::l,es,x=>by
  rw[List.foldl_cons,lX l,Y3]
  simp only[List.mem_cons,exists_eq_or_imp,or_assoc]
theorem IA(a b:List ax):(ja a b).Pairwise (fun x y=>aV x y=true):=NN _ _ (by simp)
theorem C_(a b:List ax): []∈ja a b:=(lX _ _ _).2 (.inl (by simp))
theorem vB(a b:List ax): ∀e∈ja a b,e.length<=17:=fun e he=>by
 rcases(lX _ _ _).1 he with h|⟨r,_,h1,h2⟩
 · simp at h;subst h;simp
 · obtain⟨k1,k2,_,_⟩:=cw h1
   rcases h2 with rfl|⟨_,rfl⟩
   · exact k1
   · exact k2
theorem tY(a b:List ax): ∀r∈a++b,aA r=true->r.lo∈ja a b/\(r.op=false->r.hi∈ja a b):=fun r hr h=>⟨(lX _ _ _).2 (.inr ⟨r,hr,h,.inl rfl⟩),fun ho=>(lX _ _ _).2 (.inr ⟨r,hr,h,.inr ⟨ho,rfl⟩⟩)⟩
theorem Rc(a b:List ax):(ja a b).length<=1+2*(a.length+b.length):=by
 have:=xx (a++b) [[]]
 rw[List.length_append]at this;exact this
theorem mk_of{kp:Bool->Bool->Bool}{a b:List ax}{es:List (List UInt8)}(up:es.Pairwise (fun x y=>aV x y=true))(JJ: []∈es)(hlen: ∀e∈es,e.length<=17)
 (ha: ∀r∈a,aA r=true->r.lo∈es/\(r.op=false->r.hi∈es)) (hb: ∀r∈b,aA r=true->r.lo∈es/\(r.op=false->r.hi∈es)):
 (Ge (fun s=>kp (aj a s) (aj b s)) es).1.reverse=dv (fun s=>kp (aj a s) (aj b s))/\IsS (fun s=>kp (aj a s) (aj b s)):=
 mkS_set up JJ hlen fun x e _ h1 h2=>by rw[tX ha h1 h2,tX hb h1 h2]
theorem isS_kp(kp:Bool->Bool->Bool)(a b:List ax):IsS (fun s=>kp (aj a s) (aj b s)):=
 (mk_of (IA a b) (C_ a b) (vB a b) (fun r hr=>tY a b r (by simp[hr])) (fun r hr=>tY a b r (by simp[hr]))).2
theorem TU(l:List ax):IsS (aj l):=isS_kp (fun x _=>x) l l
theorem vC(l:List ax)(s:List UInt8):aj (dv (aj l)) s=aj l s:=C8 (TU l) s
theorem V6{l:List ax}(h:aP l=true):dv (aj l)=l:=(J0 h (fun _=>rfl)).symm
set_option maxRecDepth 20000
set_option maxHeartbeats 4000000
def Gf:an:=xq
theorem jK:ag Tryz.prog Gf:=JN _
@[go_sem] theorem T13z_eq:Gf=xq:=rfl
structure aF where
 f:Int
 t:Int
 deriving DecidableEq,Inhabited
def aF.cells(r:aF):List A:=[.int .i64 r.f,.int .i64 r.t]
def aF.enc(r:aF):A:= .agg r.cells
@[go_sem] theorem aF.tV{a b:Int}:aF.enc ⟨a,b⟩= .agg [.int .i64 a,.int .i64 b]:=rfl
theorem aF.eD(v w:aF)(h:v.enc=w.enc):v=w:=by cases v;cases w;simpa[aF.enc,aF.cells]using h
@[simp] theorem map_run_inj{l m:List aF}:(l.map aF.enc=m.map aF.enc)=(l=m):=map_inj aF.eD
def cF(r:aF):Bool:=decide (1<=r.f)&&decide (r.f<=r.t)&&decide (r.t<=1099511627776)
theorem ju{r:aF}(h:cF r=true):1<=r.f/\r.f<=r.t/\r.t<=1099511627776:=by simpa[cF,and_assoc]using h
theorem Gg:ah Tryz.prog Gf Tryz.f199.ntmps (Tryz.f199.body.getD .skip)=true:=by kernel_rfl
theorem J3(f t:Int):ay Tryz.prog 199 [.agg [.int .i64 f,.int .i64 t]] (· = .bool (cF ⟨f,t⟩)):=by
 refine aa jK mixed Tryz.func199 rfl (Nat.le_of_ble_eq_true rfl) Gg ?_;unfold Tryz.f199;by_cases h1:1<=f
 · by_cases h2:f<=t
   · simp-implicitDefEqProofs (disch:=(first|omega|decide)) only[go_sem,↓reduceIte,seval,h1,h2,cF]
   · simp-implicitDefEqProofs (disch:=(first|omega|decide)) only[go_sem,↓reduceIte,seval,h1,h2,cF]
 · simp-implicitDefEqProofs (disch:=(first|omega|decide)) only[go_sem,↓reduceIte,seval,h1,cF]
theorem J4:ah Tryz.prog Gf Tryz.f200.ntmps (Tryz.f200.body.getD .skip)=true:=by kernel_rfl
theorem NO(f t:Int):ay Tryz.prog 200 [.agg [.int .i64 f,.int .i64 t]] (· = .bool (cF ⟨f,t⟩)):=by
 refine aa jK mixed Tryz.func200 rfl (Nat.le_of_ble_eq_true rfl) J4 ?_;unfold Tryz.f200;by_cases h1:1<=f
 · by_cases h2:f<=t
   · simp-implicitDefEqProofs (disch:=(first|omega|decide)) only[go_sem,↓reduceIte,seval,h1,h2,cF]
   · simp-implicitDefEqProofs (disch:=(first|omega|decide)) only[go_sem,↓reduceIte,seval,h1,h2,cF]
 · simp-implicitDefEqProofs (disch:=(first|omega|decide)) only[go_sem,↓reduceIte,seval,h1,cF]
def Re:an:=Gf.add 199 (entry (fun(v:Int×Int)=>[.agg [.int .i64 v.1,.int .i64 v.2]]) (fun v=>True) (fun v=> .bool (cF ⟨v.1,v.2⟩)))
theorem T13a_ok:ag Tryz.prog Re:=jK.bN Tryz.func199 (by kernel_rfl) (by kernel_rfl) fun v h=>J3 v.1 v.2
theorem Aj(v:Int×Int)(h:True):Re.f 199 [.agg [.int .i64 v.1,.int .i64 v.2]]=some (.bool (cF ⟨v.1,v.2⟩)):=an.ao (Γ:=Gf) (fun i j h=>by simpa[Prod.ext_iff,and_assoc]using h) v h
def qG:an:=Re.add 200 (entry (fun(v:Int×Int)=>[.agg [.int .i64 v.1,.int .i64 v.2]]) (fun v=>True) (fun v=> .bool (cF ⟨v.1,v.2⟩)))
theorem oP:ag Tryz.prog qG:=T13a_ok.bN Tryz.func200 (by kernel_rfl) (by kernel_rfl) fun v h=>NO v.1 v.2
@[go_sem] theorem T13b_old{g:FuncId}{xs:List A}(h:g≠200):qG.f g xs=Re.f g xs:=an.ak h
@[go_sem] theorem T13b_s:qG.pl Re:=⟨fun _=>rfl,fun _=>rfl,rfl,fun _=>rfl,rfl,fun _=>rfl,rfl⟩
theorem C'(v:Int×Int)(h:True):qG.f 200 [.agg [.int .i64 v.1,.int .i64 v.2]]=some (.bool (cF ⟨v.1,v.2⟩)):=an.ao (Γ:=Re) (fun i j h=>by simpa[Prod.ext_iff,and_assoc]using h) v h
@[go_sem] theorem t_counts_one{f t:Int}:Re.f 199 [.agg [.int .i64 f,.int .i64 t]]=some (.bool (cF ⟨f,t⟩)):=Aj (f,t) trivial
@[go_sem] theorem t_ref13_One{f t:Int}:qG.f 200 [.agg [.int .i64 f,.int .i64 t]]=some (.bool (cF ⟨f,t⟩)):=C' (f,t) trivial
def Qe:Option Int->List aF->Bool
 |_,[]=>true
 |p,r::rs=>cF r&&(match p with|none=>true|some t=>decide (t+2<=r.f))&&Qe (some r.t) rs
def bz(l:List aF):Bool:=Qe none l
def ai(l:List aF)(n:Int):Bool:=l.any fun r=>cF r&&decide (r.f<=n)&&decide (n<=r.t)
def fV(a b:List aF):Bool:=decide (a=b)
theorem run_get{l:List aF}{k:Nat}(h:k<l.length):(l.map aF.enc)[k]? =some (.agg [.int .i64 l[k].f,.int .i64 l[k].t]):=by rw[List.getElem?_map,List.getElem?_eq_getElem h];rfl
theorem Gh:ah Tryz.prog qG Tryz.f165.ntmps (Tryz.f165.body.getD .skip)=true:=by kernel_rfl
theorem J5(l:List aF)(n:Int)(hl:l.length<=4611686018427387904):ay Tryz.prog 165 [.ab (l.map aF.enc),.int .i64 n] (· = .bool (ai l n)):=by
 refine aa oP mixed Tryz.func165 rfl (Nat.le_of_ble_eq_true rfl) Gh ?_;unfold Tryz.f165;simp-implicitDefEqProofs (disch:=(first|omega|decide)) only[go_sem,↓reduceIte,seval,List.length_map]
 refine ar [0,1,7,8] (ι:={k:Nat//k<=l.length/\ai l n=ai (l.drop k) n}) (fun p=>[(9,.int .i64 p.1),(4,.bool false)]) (fun _=>[]) (fun p=>l.length-p.1) ⟨0,by omega,rfl⟩ (Nat.zero_le _) ?_ ?_
 · simp-implicitDefEqProofs (disch:=(first|omega|decide)) only[go_sem,↓reduceIte,seval]
 · rintro⟨k,hk,hd⟩
   simp only;by_cases aw:k<l.length
   · have ae:(k:Int)<(l.length:Int):=by omega
     have e1:=run_get aw;rw[List.drop_eq_getElem_cons aw]at hd;generalize hx:l[k]=x at*;obtain⟨f,t⟩:=x;simp only[ai,List.any_cons]at hd;have next:ai l n=ai (l.drop (k+1)) n-> ∃j:{k:Nat//k<=l.length/\ai l n=ai (l.drop k) n},(k:Int)+1=(j.1:Int)/\l.length-j.1<l.length-k:=fun h=>⟨⟨k+1,aw,h⟩,by simp,by show l.length-(k+1)<l.length-k;omega⟩
     cases h1:cF ⟨f,t⟩with
     |false=>
      simp-implicitDefEqProofs (disch:=(first|omega|decide)) only[go_sem,↓reduceIte,seval,ae,e1,h1,wrap_i64,List.length_map]
      exact next (by rw[h1]at hd;simpa[ai]using hd)
     |true=>
      by_cases h2:f<=n
      · by_cases h3:n<=t
        · have hh:ai l n=true:=by unfold ai;rw[hd];simp[h1,h2,h3]
          simp-implicitDefEqProofs (disch:=(first|omega|decide)) only[go_sem,↓reduceIte,seval,ae,e1,h1,h2,h3,hh,wrap_i64,List.length_map]
        · simp-implicitDefEqProofs (disch:=(first|omega|decide)) only[go_sem,↓reduceIte,seval,ae,e1,h1,h2,h3,wrap_i64,List.length_map]
          exact next (by rw[h1]at hd;simpa[ai,h2,h3]using hd)
      · simp-implicitDefEqProofs (disch:=(first|omega|decide)) only[go_sem,↓reduceIte,seval,ae,e1,h1,h2,wrap_i64,List.length_map]
        exact next (by rw[h1]at hd;simpa[ai,h2]using hd)
   · have ae: ¬(k:Int)<(l.length:Int):=by omega
     have hh:ai l n=false:=by rw[hd,List.drop_of_length_le (by omega)];rfl
     simp-implicitDefEqProofs (disch:=(first|omega|decide)) only[go_sem,↓reduceIte,seval,ae,hh,List.length_map]
theorem bM:ah Tryz.prog Gf Tryz.f206.ntmps (Tryz.f206.body.getD .skip)=true:=by kernel_rfl
theorem NP(l:List aF)(hl:l.length<=4398046511104):ay Tryz.prog 206 [.ab (l.map aF.enc)] (· = .ab (l.map aF.enc)):=by
 cases l with
 |nil=>
  refine Ir ?_ ?_
  · refine aa jK mixed Tryz.func206 rfl (Nat.le_of_ble_eq_true rfl) bM ?_
    unfold Tryz.f206;simp-implicitDefEqProofs (disch:=(first|omega|decide)) only[go_sem,↓reduceIte,seval]
  · refine aa jK mixed Tryz.func206 rfl (Nat.le_of_ble_eq_true rfl) bM ?_
    unfold Tryz.f206;simp-implicitDefEqProofs (disch:=(first|omega|decide)) only[go_sem,↓reduceIte,seval]
 |cons r l=>
  refine aa jK mixed Tryz.func206 rfl (Nat.le_of_ble_eq_true rfl) bM ?_;unfold Tryz.f206;obtain⟨f,t⟩:=r;simp only[List.length_cons]at hl;simp-implicitDefEqProofs (disch:=(first|omega|decide)) only[go_sem,↓reduceIte,seval,List.length_map]
  exact⟨by omega,Nat.le_refl _,by rw[List.take_of_length_le (by simp)]⟩
theorem Gi:ah Tryz.prog Gf Tryz.f140.ntmps (Tryz.f140.body.getD .skip)=true:=by kernel_rfl
theorem J6(a b:List aF)(hl:a.length<=4611686018427387904)(hb:b.length<=4611686018427387904):ay Tryz.prog 140 [.ab (a.map aF.enc),.ab (b.map aF.enc)] (· = .bool (fV a b)):=by
 refine aa jK mixed Tryz.func140 rfl (Nat.le_of_ble_eq_true rfl) Gi ?_;unfold Tryz.f140;cases h0:((a.length:Int)==(b.length:Int))with
 |false=>
  have cg:a.length≠b.length:=by
   have:(a.length:Int)≠(b.length:Int):=by simpa using h0
   omega
  have hh:fV a b=false:=by unfold fV;simp;intro e;exact cg (by rw[e])
  simp-implicitDefEqProofs (disch:=(first|omega|decide)) only[go_sem,↓reduceIte,seval,h0,hh,List.length_map]
 |true=>
  have he:a.length=b.length:=by
   have:(a.length:Int)=(b.length:Int):=by simpa using h0
   omega
  simp-implicitDefEqProofs (disch:=(first|omega|decide)) only[go_sem,↓reduceIte,seval,h0,List.length_map]
  refine ar [0,1] (ι:={k:Nat//k<=a.length/\a.take k=b.take k}) (fun p=>[(5,.int .i64 p.1)]) (fun _=>[]) (fun p=>a.length-p.1) ⟨0,by omega,rfl⟩ (Nat.zero_le _) ?_ ?_
  · simp-implicitDefEqProofs (disch:=(first|omega|decide)) only[go_sem,↓reduceIte,seval]
  · rintro⟨k,hk,hd⟩
    simp only;by_cases aw:k<a.length
    · have ae:(k:Int)<(a.length:Int):=by omega
      have lF:(k:Int)<(b.length:Int):=by omega
      have iH:k<b.length:=by omega
      have e1:=run_get aw;have e2:=run_get iH;have t1:=(List.take_append_getElem aw).symm;have t2:=(List.take_append_getElem iH).symm;have sj:a[k]≠b[k]->fV a b=false:=fun h=>by unfold fV;simp;intro e;subst e;exact h rfl
      generalize hx:a[k]=x at*;generalize hy:b[k]=y at*;obtain⟨f,t⟩:=x;obtain⟨f',t'⟩:=y;cases h1:f==f' with
      |false=>
       have hh:=sj (by have:f≠f':=by simpa using h1
                       simp[this])
       simp-implicitDefEqProofs (disch:=(first|omega|decide)) only[go_sem,↓reduceIte,seval,ae,lF,e1,e2,h1,hh,List.length_map]
      |true=>
       cases h2:t==t' with
       |false=>
        have hh:=sj (by have:t≠t':=by simpa using h2
                        simp[this])
        simp-implicitDefEqProofs (disch:=(first|omega|decide)) only[go_sem,↓reduceIte,seval,ae,lF,e1,e2,h1,h2,hh,List.length_map]
       |true=>
        obtain rfl:f=f':=by simpa using h1
        obtain rfl:t=t':=by simpa using h2
        simp-implicitDefEqProofs (disch:=(first|omega|decide)) only[go_sem,↓reduceIte,seval,ae,lF,e1,e2,h1,h2,wrap_i64,List.length_map]
        exact⟨⟨k+1,aw,by rw[t1,t2,hd]⟩,by simp,by show a.length-(k+1)<a.length-k;omega⟩
    · have ae: ¬(k:Int)<(a.length:Int):=by omega
      have hh:fV a b=true:=by rw[List.take_of_length_le (by omega),List.take_of_length_le (by omega)]at hd;simp[fV,hd]
      simp-implicitDefEqProofs (disch:=(first|omega|decide)) only[go_sem,↓reduceIte,seval,ae,hh,List.length_map]
end Go.Proofs.YtihgnfmoafjakaaGreat
