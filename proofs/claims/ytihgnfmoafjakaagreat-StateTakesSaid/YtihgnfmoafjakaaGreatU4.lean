/- What the laws of this claim rest on: the abstract executor, its soundness, and what the functions compute on pure data. No condition. -/
import Derived.Test.YtihgnfmoafjakaaGreatU3
import Derived.Deep.Slices
import Derived.OpenShut
noncomputable section
set_option linter.unusedVariables false
set_option linter.unusedSimpArgs false
namespace Go.bJ
open Go.RowKit
mutual
theorem A.qB{m n:Nat}: ∀x:A,x.under m=true->x.mem n=true->n<m
 | .any,_,h=>by simp[A.mem]at h
 | .int _ _,_,h=>by simp[A.mem]at h
 | .bool _,_,h=>by simp[A.mem]at h
 | .str _,_,h=>by simp[A.mem]at h
 | .ad _,_,h=>by simp[A.mem]at h
 | .clip _,_,h=>by simp[A.mem]at h
 | .dz _,_,h=>by simp[A.mem]at h
 | .bK,_,h=>by simp[A.mem]at h
 | .ta,_,h=>by simp[A.mem]at h
 | .emp _,_,h=>by simp[A.mem]at h
 | .ref _ _,hu,h=>by simp[A.under]at hu;simp[A.mem]at h;omega
 | .fT _ _ _,hu,h=>by simp[A.under]at hu;simp[A.mem]at h;omega
 | .row _ _ _ _ _,hu,h=>by simp[A.under]at hu;simp[A.mem]at h;omega
 | .agg cs,hu,h=>A.nE cs (by simpa only[A.under]using hu) (by simpa only[A.mem]using h)
 | .fn _ cs,hu,h=>A.nE cs (by simpa only[A.under]using hu) (by simpa only[A.mem]using h)
 | .cx cs,hu,h=>A.nE cs (by simpa only[A.under]using hu) (by simpa only[A.mem]using h)
theorem A.nE{m n:Nat}: ∀cs:List A,A.under.fX m cs=true->A.mem.fI n cs=true->n<m
 | [],_,h=>by simp[A.mem.fI]at h
 |c::cs,hu,h=>by
  simp only[A.under.fX,Bool.and_eq_true]at hu;simp only[A.mem.fI,Bool.or_eq_true]at h;rcases h with h|h
  · exact A.qB c hu.1 h
  · exact A.nE cs hu.2 h
end
section
variable{P:Program}{Γ:aj}{N0:Nat->Prop}{w0:jO}{nt:Nat}{σ τ:St}{φ:List cZ}{a:Act}{w:World}
theorem Lh{m:Nat}{s:List (Nat×A)}: ∀{r:List (Nat×A)},leS m s r-> ∀d,look r d= .any\/(look r d=look s d/\(look r d).under m=true)
 | [],_,d=> .inl rfl
 |(e,y)::r,h,d=>by
  simp only[leS]at h;simp only[look]
  split
  · rename_i he;subst he;exact .inr ⟨h.1.1.symm,h.1.2⟩
  · exact Lh h.2 d
theorem Ra{m:Nat}: ∀{H G:List Obj},rq m H G-> ∀(n:Nat) (y:Obj),G[n]? =some y-> ∃x,H[n]? =some x/\QY m x y
 | [],[],_,n,y,h=>by simp at h
 |_::_,[],_,n,y,h=>by simp at h
 | [],_::_,hl,_,_,_=>by simp[rq]at hl
 |x::H,y::G,hl,n,z,h=>by
  simp only[rq]at hl;cases n with
  |zero=>simp at h;subst h;exact⟨x,rfl,hl.1⟩
  |succ n=>simpa using Ra hl.2 n z (by simpa using h)
theorem Rb{m:Nat}: ∀{H G:List Obj},rq m H G->G.length<=H.length
 | [],[],_=>by simp
 |_::_,[],_=>by simp
 | [],_::_,hl=>by simp[rq]at hl
 |x::H,y::G,hl=>by simp only[rq]at hl;have:=Rb hl.2;simp;exact this
theorem Rc{m:Nat}: ∀{xs ys:List A},Ki m xs ys-> ∀(i:Nat) (y:A),ys[i]? =some y-> ∃x,xs[i]? =some x/\(y= .any\/(x=y/\y.under m=true))
 | [],[],_,i,y,h=>by simp at h
 | [],_::_,hl,_,_,_=>by simp[Ki]at hl
 |_::_,[],hl,_,_,_=>by simp[Ki]at hl
 |x::xs,y::ys,hl,i,z,h=>by
  simp only[Ki]at hl;cases i with
  |zero=>simp at h;subst h;exact⟨x,rfl,hl.1⟩
  |succ i=>simpa using Rc hl.2 i z (by simpa using h)
theorem aJ.le_ext(_h:aJ N0 w0 nt σ φ a w)(m:Nat):Ext (fun n=>n<m) (aA N0 φ w) (aA N0 (φ.take m) w):=by
 have ny: ∀n:Nat,(φ.take m)[n]? =if n<m then φ[n]? else none:=fun n=>by rw[List.getElem?_take]
 exact{
  size:=Nat.le_refl _
  Kv:=fun b _ hn=>⟨by
   rintro(h0|⟨n,k,hm⟩)
   · exact hn (.inl h0)
   · rw[ny]at hm
     split at hm
     · exact hn (.inr ⟨n,k,hm⟩)
     · simp at hm,rfl⟩
  refs:=fun n o hk hm _=>by show(φ.take m)[n]? =some o;rw[ny,if_pos hk];exact hm
  own:=fun m b k c e fr _ hm hc=>⟨c,fr,hc,rfl⟩}
theorem aJ.le(h:aJ N0 w0 nt σ φ a w){nf:Nat}(Kj: ∀n:Nat,w0.fix n=true->n<w0.S5.length->n<nf)(hl:nf<=τ.H.length)(hle:σ.le τ):aJ N0 w0 nt τ (φ.take τ.H.length) a w:=by
 obtain⟨hS,hH⟩:=hle;have ny: ∀m:Nat,(φ.take τ.H.length)[m]? =if m<τ.H.length then φ[m]? else none:=fun m=>by rw[List.getElem?_take]
 have AA: ∀m b k:Nat,(φ.take τ.H.length)[m]? =some (cZ.loc b k)->φ[m]? =some (.loc b k):=fun m b k hm=>by
  rw[ny]at hm;split at hm
  · exact hm
  · simp at hm
 have dA:Ext (fun m=>m<τ.H.length) (aA N0 φ w) (aA N0 (φ.take τ.H.length) w):={
  size:=Nat.le_refl _
  Kv:=fun b _ hn=>⟨by
   rintro(h0|⟨m,k,hm⟩)
   · exact hn (.inl h0)
   · exact hn (.inr ⟨m,k,AA m b k hm⟩),rfl⟩
  refs:=fun m o hk hm _=>by show(φ.take τ.H.length)[m]? =some o;rw[ny,if_pos hk];exact hm
  own:=fun m b k c e fr _ hm hc=>⟨c,fr,hc,rfl⟩}
 exact{
  cI:=fun d=>by
   rcases Lh hS d with hd|⟨hd,hu⟩
   · rw[hd];simp only[aF]
   · have:=h.cI d
     rw[<-hd]at this;exact aF.mono dA _ _ this fun n hn=>A.qB _ hu hn
  size:=h.size
  defers:=h.defers
  len:=by
   have:=Rb hH;rw[List.length_take,h.len]
   omega
  cN:=fun m o p hm hp=>by
   rw[bu]at hm;obtain⟨x,hx,We⟩:=Ra hH m o hm
   have rC:φ[m]? =some p:=by
    rw[ny]at hp;split at hp
    · exact hp
    · simp at hp
   have eZ:=h.cN m x p (by rw[bu];exact hx) rC;cases x with
   |row k es=>
    cases o with
    |box ys=>simp[QY]at We
    |row k' ys=>
     simp only[QY]at We;obtain⟨rfl,rfl⟩:=We;exact aH.mono dA eZ (fun b k _ c e fr hh=>hh) (fun cs zw=>by cases zw)
   |box xs=>
    cases o with
    |row k ys=>simp[QY]at We
    |box ys=>
     simp only[QY]at We;cases p with
     |nil=>simp[aH]at eZ
     |free=>simp[aH]at eZ
     |loc b k=>
      simp only[aH]at eZ⊢;refine⟨eZ.1,bc.2 fun i y hy=> ?_⟩
      obtain⟨z,hz,hzy⟩:=Rc We i y hy;obtain⟨v,hv,h1,hr⟩:=bc.1 eZ.2 i z hz;refine⟨v,hv,h1, ?_⟩
      rcases hzy with rfl|⟨rfl,hu⟩
      · simp only[aF]
      · exact aF.mono dA _ _ hr fun n hn=>A.qB _ hu hn
  own:=fun m b k hm=>h.own m b k (AA m b k hm)
  inj:=fun m m' b k k' hm jh=>h.inj m m' b k k' (AA m b k hm) (AA m' b k' jh)
  n0:=h.n0
  kf:=fun n p hf hp bw=>by
   have:=Kj n hf (List.getElem?_eq_some_iff.1 hp).1;rw[ny,if_pos (by omega)]
   exact h.kf n p hf hp bw
  below:=h.below}
theorem aJ.Wh(h:aJ N0 w0 nt σ φ a w){d:Nat}{x:A}(hx:aF (aA N0 φ w) x (a.tmps.getD d undef)):aJ N0 w0 nt ⟨(d,x)::σ.s,σ.H⟩ φ a w:=
 {h with
  cI:=fun t=>by
   simp only[look]
   split
   · rename_i e;subst e;exact hx
   · exact h.cI t}
theorem aJ.Wi(h:aJ N0 w0 nt σ φ a w)(k:Nat):aJ N0 w0 nt ⟨σ.s,σ.H++[.row k []]⟩ (φ++[.nil]) a w:=by
 have h1:=h.Q9;have h2:=h1.V5 (n:=σ.H.length) (k:=k) (by rw[<-h.len];simp)
 have e1:(St.cT {σ with H:=σ.H++[.row 0 []]} σ.H.length (.row k []))=⟨σ.s,σ.H++[.row k []]⟩:=by simp[St.cT,dI]
 have e2:(φ++[cZ.free]).set σ.H.length .nil=φ++[.nil]:=by rw[<-h.len];simp
 rw[e1,e2]at h2;exact h2
theorem Ge{ρ:List Nat}{m:Nat}: ∀(s:List (Nat×A)) (d:Nat),look (s.map fun p=>(p.1,p.2.back ρ m)) d=(look s d).back ρ m
 | [],d=>by simp[look,A.back]
 |(e,x)::s,d=>by
  simp only[List.map_cons,look]
  split
  · rfl
  · exact Ge s d
theorem aJ.perm{nf:Nat}(Kj: ∀n:Nat,w0.fix n=true->n<w0.S5.length->n<nf)(h:aJ N0 w0 nt σ φ a w){ρ:List Nat}(hl:σ.H.length=ρ.length)(oQ:ρ.Nodup)(aw: ∀n∈ρ,n<ρ.length)(hon: ∀n,n<ρ.length->n∈ρ)
 (hk: ∀i,i<nf->fW ρ ρ.length i=i):aJ N0 w0 nt (z8 ρ σ) (dV ρ φ φ) a w:=by
 have qx:φ.length=σ.H.length:=h.len;have hle:ρ.length<=φ.length:=by omega
 have ae: ∀n∈ρ,n<φ.length:=fun n hn=>by have:=aw n hn;omega
 have ny: ∀i,(dV ρ φ φ)[fW ρ σ.H.length i]? =φ[i]? :=fun i=>by rw[<-qx];exact jy hle oQ ae i
 have lg: ∀(j:Nat) (p:cZ),(dV ρ φ φ)[j]? =some p-> ∃i,j=fW ρ σ.H.length i/\φ[i]? =some p:=fun j p hj=>by
  rcases xo hle oQ ae hj with⟨i,h1,h2⟩|⟨h1,h2,_⟩
  · exact⟨i,by rw[<-qx];exact h1,h2⟩
  · exact absurd (hon j (by omega)) h1
 have hN: ∀b,¬(aA N0 φ w).N b-> ¬(aA N0 (dV ρ φ φ) w).N b:=fun b hb=>by
  rintro(h0|⟨j,k,hj⟩)
  · exact hb (.inl h0)
  · obtain⟨i,_,hi⟩:=lg j _ hj
    exact hb (.inr ⟨i,k,hi⟩)
 have Ov: ∀(i:Nat) (p:cZ),φ[i]? =some p->(dV ρ φ φ)[fW ρ σ.H.length i]? =some p:=fun i p hp=>by rw[ny];exact hp
 exact{
  cI:=fun d=>by
   simp only[z8]
   rw[Ge]
   exact tw (El:=aA N0 φ w) (E:=aA N0 (dV ρ φ φ) w) rfl hN Ov _ _ (h.cI d)
  size:=h.size
  defers:=h.defers
  len:=by
   simp only[z8]
   rw[ph,kH hle,kH (by simp;omega),List.length_map];omega
  cN:=fun j o p ho hp=>by simp only[z8]at ho;rw[bu,ph]at ho;obtain⟨i,rfl,hi⟩:=lg j p hp;have:=jy (ns:=ρ) (os:=σ.H.map (Obj.back ρ σ.H.length)) (xs:=σ.H) (by simp;omega) oQ (fun n hn=>by have:=aw n hn;omega) i;rw[this,List.getElem?_map]at ho;obtain⟨o',vm,rfl⟩:=Option.map_eq_some_iff.1 ho;exact xp (El:=aA N0 φ w) (E:=aA N0 (dV ρ φ φ) w) rfl hN Ov (h.cN i o' p (by rw[bu];exact vm) hi)
  own:=fun n b k hn=>by obtain⟨i,_,hi⟩:=lg n _ hn;exact h.own i b k hi
  inj:=fun n m b k k' hn hm=>by obtain⟨i,rfl,hi⟩:=lg n _ hn;obtain⟨j,rfl,hj⟩:=lg m _ hm;rw[h.inj i j b k k' hi hj]
  n0:=h.n0
  kf:=fun n p hf hp bw=>by
   have h1:=Kj n hf (List.getElem?_eq_some_iff.1 hp).1;have h2:=hk n h1;rw[<-hl]at h2;have h3:=Ov n p (h.kf n p hf hp bw)
   rw[h2]at h3;exact h3
  below:=h.below}
theorem aJ.to{nf:Nat}(Kj: ∀n:Nat,w0.fix n=true->n<w0.S5.length->n<nf){σ τ:St}(ht:St.to nf σ τ): ∀{φ:List cZ},aJ N0 w0 nt σ φ a w-> ∃eG,aJ N0 w0 nt τ eG a w:=by
 induction ht with
 |le hl hle=>intro φ h;exact⟨_,h.le Kj hl hle⟩
 | @nil σ τ d k hd _ ih=>
  intro φ h;have h1:=h.Wi k;have hs:=h.cI d;rw[hd]at hs;simp only[aF]at hs;refine ih (h1.Wh (d:=d) (x:= .row σ.H.length 0 k 0 false) ?_)
  rw[hs]
  simp only[aF]
  exact .inl ⟨.nil,by show(φ++[cZ.nil])[σ.H.length]? =_;rw[<-h.len];simp,by simp,trivial,fun _=>trivial,none,rfl⟩
 | @nilb σ τ m i k cs hm hi _ ih=>
  intro φ h;have h1:=h.Wi k;have hmlt:m<σ.H.length:=by rw[bu]at hm;exact(List.getElem?_eq_some_iff.1 hm).1
  have hφm:φ[m]? =some (φ[m]'(by rw[h.len];exact hmlt)):=List.getElem?_eq_getElem _
  have e1:St.cT ⟨σ.s,σ.H++[.row k []]⟩ m (.box (cn cs i (.row σ.H.length 0 k 0 false)))=⟨σ.s,jY σ.H m (.box (cn cs i (.row σ.H.length 0 k 0 false)))++[.row k []]⟩:=by
   simp only[St.cT,dI]
   rw[List.set_append_left _ _ hmlt]
  have h2:=h1.setObj (n:=m) (o:= .box (cn cs i (.row σ.H.length 0 k 0 false))) (fun p hp=>by
   have eZ:=h1.cN m (.box cs) p (by rw[bu,List.getElem?_append_left hmlt,<-bu];exact hm) hp;cases p with
   |nil=>simp[aH]at eZ
   |free=>simp[aH]at eZ
   |loc b k'=>
    simp only[aH]at eZ⊢;refine⟨eZ.1,bc.2 fun j y hy=> ?_⟩
    rw[fE,List.getElem?_set]at hy;split at hy
    · rename_i e
      subst e;split at hy
      · simp at hy
        subst hy;obtain⟨v,hv,mb,hr⟩:=bc.1 eZ.2 i _ hi;refine⟨v,hv,mb, ?_⟩
        simp only[aF]at hr;subst hr;simp only[aF]
        exact .inl ⟨.nil,by show(φ++[cZ.nil])[σ.H.length]? =_;rw[<-h.len];simp,by simp,trivial,fun _=>trivial,none,rfl⟩
      · simp at hy
    · exact bc.1 eZ.2 j y hy)
  rw[e1]at h2;exact ih h2
 | @wk σ τ d es hd _ ih=>
  intro φ h;have hs:=h.cI d;rw[hd]at hs;refine ih (h.Wh (d:=d) (x:= .ad es) ?_)
  simp only[aF]at hs⊢;obtain⟨hp,a,hv,hl⟩:=hs;exact⟨hp,a,_,hv,Nat.le_refl _,hl⟩
 | @wkb σ τ m cs hm _ ih=>
  intro φ h
  exact ih (h.setObj (n:=m) (o:= .box (cs.map iD)) (fun p hp=>by
   have eZ:=h.cN m (.box cs) p hm hp;cases p with
   |nil=>simp[aH]at eZ
   |free=>simp[aH]at eZ
   |loc b k'=>
    simp only[aH]at eZ⊢;refine⟨eZ.1,bc.2 fun j y hy=> ?_⟩
    rw[List.getElem?_map]at hy;obtain⟨x,hx,rfl⟩:=Option.map_eq_some_iff.1 hy;obtain⟨v,hv,h1,hr⟩:=bc.1 eZ.2 j x hx;exact⟨v,hv,h1,F5 hr⟩))
 | @perm σ τ ρ hl oQ aw hon hk _ ih=>
  intro φ h;exact ih (h.perm Kj hl oQ aw hon hk)
 | @qU σ τ ρ ch oQ hH rY _ ih=>
  intro φ h
  exact ih (h.frozen oQ hH (fun n hn hf=>by
   rcases Nat.lt_or_ge n w0.S5.length with aw|Te
   · have:=Kj n hf aw
     have:=rY n hn;omega
   · exact Te)).1
def Li(N0:Nat->Prop)(w0:jO)(nt:Nat)(Q:Ex->St->Prop):Exit->Act->World->Prop
 | .normal,a,w=> ∃τ φ,Q .normal τ/\aJ N0 w0 nt τ φ a w
 | .exit i,a,w=> ∃τ φ,Q (.exit i) τ/\aJ N0 w0 nt τ φ a w
 | .ret,a,w=> ∃τ φ,Q .ret τ/\aJ N0 w0 nt τ φ a w
 |_,_,_=>False
theorem Gf(sa:ag P Γ)(s8:w0.fix=Γ.fix)(Kj: ∀n:Nat,w0.fix n=true->n<w0.S5.length->n<Γ.nf)(hm:P.follows .mixedOrders=true): ∀(c:Code),ai P Γ nt c=true-> ∀(Q:Ex->St->Prop) (σ:St) (φ:List cZ) (a:Act) (w:World),aJ N0 w0 nt σ φ a w->fP P Γ c Q σ->c.wp P (Li N0 w0 nt Q) a w:=by
 intro c;induction c with
 |skip=>intro _ Q σ φ a w h hw;exact wp_skip ⟨σ,φ,by simpa only[fP]using hw,h⟩
 |label l=>intro _ Q σ φ a w h hw;exact wp_label ⟨σ,φ,by simpa only[fP]using hw,h⟩
 |exit id=>intro _ Q σ φ a w h hw;exact wp_exit ⟨σ,φ,by simpa only[fP]using hw,h⟩
 |ret=>intro _ Q σ φ a w h hw;exact wp_ret ⟨σ,φ,by simpa only[fP]using hw,h⟩
 |seq x y ihx ihy=>
  intro fF Q σ φ a w h hw;simp only[ai,Bool.and_eq_true]at fF;simp only[fP]at hw;refine wp_seq (wp_mono (ihx fF.1 _ σ φ a w h hw) fun e a' w' hq=> ?_)
  cases e with
  |normal=>
   obtain⟨τ,eG,hq,hc⟩:=hq;exact ihy fF.2 _ τ eG a' w' hc hq
  |exit i=>exact hq
  |ret=>exact hq
  |goto l=>exact hq
  |panic c=>exact hq
  |outgrown=>exact hq
 |cond c x y ihx ihy=>
  intro fF Q σ φ a w h hw;simp only[ai,Bool.and_eq_true]at fF;simp only[fP,j8]at hw;obtain⟨t,ht,h1,h2⟩:=hw;have yh:=h.ev c;rw[ht]at yh;simp only[aF]at yh;exact wp_cond_split yh (fun e=>ihx fF.1 Q σ φ a w h (h1 e)) (fun e=>ihy fF.2 Q σ φ a w h (h2 e))
 |block id x ih=>
  intro fF Q σ φ a w h hw;simp only[ai]at fF;simp only[fP]at hw;refine wp_block (wp_mono (ih fF _ σ φ a w h hw) fun e a' w' hq=> ?_)
  cases e with
  |normal=>exact hq
  |exit i=>
   obtain⟨τ,eG,hq,hc⟩:=hq;simp only[nn]at hq;simp only[Exit.inBlock]
   split
   · rename_i e;rw[if_pos e]at hq;exact⟨τ,eG,hq,hc⟩
   · rename_i e;rw[if_neg e]at hq;exact⟨τ,eG,hq,hc⟩
  |ret=>exact hq
  |goto l=>exact hq
  |panic c=>exact hq
  |outgrown=>exact hq
 |loop x ih=>
  intro fF Q σ φ a w h hw;simp only[ai]at fF;simp only[fP]at hw;obtain⟨ι,inv,μ,⟨qV,h0⟩,dv⟩:=hw;intro b k cs
  have key: ∀n (i:ι) (σ:St) (φ:List cZ) (a:Act) (w:World),μ i=n->aJ N0 w0 nt (inv i) φ a w->
   ∃e a' w',Li N0 w0 nt Q e a' w'/\Arrives P (lone (b.at a (.code x:: .inLoop x::k)) cs w) b k cs e a' w':=by
   intro n;induction n using Nat.strongRecOn with
   |_ n ihn=>
    intro i σ φ a w hn hc;obtain⟨e,Wj,Wk,hq,Wl⟩:=ih fF _ (inv i) φ a w hc (dv i) b (.inLoop x::k) cs;cases e with
    |normal=>
     obtain⟨τ,eG,⟨j,hle,aw⟩,u4⟩:=hq;obtain⟨φ₂,hc₂⟩:=aJ.to Kj hle u4;obtain⟨e₂,a₂,w₂,hq₂,Z8⟩:=ihn (μ j) (hn▸aw) j τ φ₂ Wj Wk rfl hc₂;exact⟨e₂,a₂,w₂,hq₂,.of_steps (Steps.trans Wl (.one step_inLoop)) Z8⟩
    |exit id=>exact⟨.exit id,Wj,Wk,(show Li N0 w0 nt Q (.exit id) Wj Wk from hq),.pass (x:= .inLoop x) rfl (fun _ _=> .inl (by simp)) Wl⟩
    |ret=>exact⟨.ret,Wj,Wk,(show Li N0 w0 nt Q .ret Wj Wk from hq),.pass (x:= .inLoop x) rfl (fun _ _=> .inl (by simp)) Wl⟩
    |goto l=>exact hq.elim
    |panic c=>exact hq.elim
    |outgrown=>exact hq.elim
  obtain⟨φ₀,hc₀⟩:=aJ.to Kj h0 h;obtain⟨e,a',w',hq,Wl⟩:=key _ qV σ φ₀ a w rfl hc₀;exact⟨e,a',w',hq,.of_steps (.one step_loop) Wl⟩
 |region id ops d=>
  intro fF Q σ φ a w h hw;simp only[ai,Bool.and_eq_true]at fF;simp only[fP]at hw;obtain⟨⟨hok1,Wm⟩,DT⟩:=fF
  have key: ∀(σ:St) (φ:List cZ),aJ N0 w0 nt σ φ a w->Oc P Γ (z_ (Γ.c6 id)) ops Q σ->(Code.region id ops d).wp P (Li N0 w0 nt Q) a w:=fun σ φ h hw=>by
   cases ho:z_ (Γ.c6 id)with
   |nil=>
    rw[ho]at hw DT;simp only[List.isEmpty_nil,if_true,Bool.or_eq_true,Bool.not_eq_true']at DT;obtain⟨τ,hr,hQ⟩:=hw;exact HD sa s8 hm h hok1 (fun e=>DT.resolve_left (by simp[e])) hr fun eG a' w' hc=>⟨τ,eG,hQ,hc⟩
   |cons o os=>
    rw[ho]at hw DT;simp only[List.isEmpty_cons,Bool.false_eq_true,if_false,Bool.and_eq_true]at DT;obtain⟨rfl,hok3⟩:=DT;exact tI sa s8 hm h hok1 hok3 hw fun τ eG a' w' hq hc=>⟨τ,eG,hq,hc⟩
  unfold DG at hw;unfold frzOK at Wm;cases hf:KC (Γ.c6 id)with
  |none=>rw[hf]at hw;exact key σ φ h hw
  |some ρ=>
   rw[hf]at hw Wm;simp only[Bool.and_eq_true,decide_eq_true_iff,List.all_eq_true]at Wm;obtain⟨ch,hH,hw⟩:=hw
   exact key _ _ (h.frozen (Wm.1.filter _) hH (fun n hn hf=>by
    have hn:=(List.mem_filter.1 hn).1;rcases Nat.lt_or_ge n w0.S5.length with aw|Te
    · have:=Kj n hf aw
      have:=Wm.2 n hn;omega
    · exact Te)).1 hw
 |_=>intro _ Q σ φ a w h hw;simp only[fP]at hw
def HF(tmps:Array Value):ResultVar->Sem Value
 | .tmp t=>pure (tmps.getD t undef)
 | .cell c t=>do loadVar t (<-asAddr (tmps.getD c undef))
theorem AT(fn:Func)(tmps:Array Value):results fn tmps=(do
 let vs<-fn.results.mapM (HF tmps)
 pure (if h:vs.size=1 then vs[0]else .tuple vs)):=rfl
theorem OJ(h:aJ N0 w0 nt σ φ a w){r:ResultVar}{x:A}(hr:KD P σ r=some x):
 ∃v,(HF a.tmps r).run P w= .ok v w/\aF ⟨N0,[],w⟩ x v:=by
 cases r with
 |tmp t=>
  simp only[KD]at hr;exact⟨_,by simp only[HF,Sem.run_pure],(lf h hr (h.cI t) (N':=N0) ⟨fun b hb=> .inl hb,.inr (nu h)⟩).1⟩
 |cell c t=>
  simp only[KD]at hr;unfold ZL at hr;split at hr
  · rename_i n off hl
    split at hr
    · rename_i cs ho
      cases hld:jo P t (cs.drop off)with
      |none=>simp[hld]at hr
      |some y=>
       simp only[hld,Option.bind_some]at hr;have hs:=h.cI c;rw[hl]at hs;simp only[aF]at hs;obtain⟨b,k,eV,hv⟩:=hs;have eZ:=h.cN n _ _ ho eV;simp only[aH]at eZ;have hm:=iF (n:=off) eZ.2;rw[Nat.zero_add]at hm;obtain⟨v,fR,cF,_⟩:=oZ (E:=aA N0 φ w) hm hld;refine⟨v, ?_,(lf h hr cF (N':=N0) ⟨fun b hb=> .inl hb,.inr (nu h)⟩).1⟩
       simp only[HF]
       rw[hv]
       simp only[asAddr,Sem.run_bind,Sem.run_pure,Result.andThen_ok]
       exact fR
    · simp at hr
  · simp at hr
theorem AU(h:aJ N0 w0 nt σ φ a w): ∀{rs:List ResultVar} {xs:List A},vf P σ rs=some xs->
 ∃vs:List Value,(rs.mapM (HF a.tmps)).run P w= .ok vs w/\aP ⟨N0,[],w⟩ xs vs
 | [],xs,hr=>by simp only[vf,Option.some.injEq]at hr;subst hr;exact⟨[],by simp,by simp[aP]⟩
 |r::rs,xs,hr=>by
  simp only[vf]at hr;cases h1:KD P σ r with
  |none=>simp[h1]at hr
  |some x=>
   cases h2:vf P σ rs with
   |none=>simp[h1,h2]at hr
   |some ys=>
    simp[h1,h2]at hr;subst hr;obtain⟨v,g1,g2⟩:=OJ h h1;obtain⟨vs,g3,g4⟩:=AU h h2;refine⟨v::vs, ?_,by simp only[aP];exact⟨v,vs,rfl,g2,g4⟩⟩
    simp only[List.mapM_cons,Sem.run_bind,g1,Result.andThen_ok,Sem.run_pure,g3]
theorem DU(h:aJ N0 w0 nt σ φ a w){fn:Func}{xs:List A}(hr:vf P σ fn.results.toList=some xs):
 ∃v,(results fn a.tmps).run P w= .ok v w/\aF ⟨N0,[],w⟩ (iU xs) v:=by
 obtain⟨vs,h1,h2⟩:=AU h hr;refine⟨if h:vs.toArray.size=1 then vs.toArray[0]else .tuple vs.toArray, ?_, ?_⟩
 · rw[AT,Sem.run_bind,Array.mapM_eq_mapM_toList,Sem.run_map]
   rw[h1]
   simp
 · obtain⟨g1,g2⟩:=ba.1 h2
   cases xs with
   |nil=>
    have:vs=[]:=List.length_eq_zero_iff.1 (by simpa using g1.symm)
    subst this;simp[iU,aF,aP]
   |cons x xs=>
    cases xs with
    |nil=>
     simp only[aP]at h2;obtain⟨v,kc,rfl,hx,rfl⟩:=h2;simpa[iU]using hx
    |cons y ys=>
     rw[dif_neg (by simp at g1⊢;omega)]
     simp only[iU,aF]
     exact⟨vs,rfl,h2⟩
theorem py: ∀(args:List A) (i d:Nat),look (number i args) d=if i<=d/\d<i+args.length then args.getD (d-i) .any else .any
 | [],i,d=>by simp[number,look]
 |x::xs,i,d=>by
  simp only[number,look,List.length_cons]
  split
  · rename_i h;subst h;simp
  · rename_i h
    rw[py xs (i+1) d]
    by_cases hd:i+1<=d/\d<i+1+xs.length
    · rw[if_pos hd,if_pos (by omega),show d-i=(d-(i+1))+1 by omega]
      simp
    · rw[if_neg hd,if_neg (by omega)]
theorem aa(sa:ag P Γ)(hm:P.follows .mixedOrders=true){f:FuncId}{fn:Func}{c:Code}(hf:P.funcs[f]? =some fn)(hb:fn.body=some c){args:List A}(hlen:args.length<=fn.ntmps)
 (fF:ai P Γ fn.ntmps c=true) {oI:A->Prop} (hw:fP P Γ c (VD P fn oI) (z' args)):az P f args oI:=by
 intro N w vs hN cF;obtain⟨g1,g2⟩:=ba.1 cF;refine calls_of_wp hf hb ?_
 have dA:Ext (fun _=>True) ⟨N,[],w⟩ (aA N [] w):={
  size:=Nat.le_refl _
  Kv:=fun b _ hn=>⟨by
   rintro(h0|⟨m,k,hm⟩)
   · exact hn h0
   · simp at hm,rfl⟩
  refs:=fun m o _ hm=>by simp at hm
  own:=fun m b k c e fr _ hm=>by simp at hm}
 have OK:aJ N {toWorld:=w,M:=fun _=>False,fix:=Γ.fix,S5:=[]} fn.ntmps (z' args) [] {tmps:=vs.toArray++Array.replicate (fn.ntmps-vs.toArray.size) undef,defers:=[]} w:={
  cI:=fun d=>by
   simp only[z']
   rw[py]
   split
   · rename_i hd
     simp only[Nat.zero_add]at hd;have hdv:d<vs.length:=by omega
     have hx:args[d]? =some args[d]:=List.getElem?_eq_getElem hd.2;have hv:vs[d]? =some vs[d]:=List.getElem?_eq_getElem hdv;have:=aF.mono dA _ _ (g2 d _ _ hx hv) (fun _ _=>trivial)
     have e1:args.getD (d-0) .any=args[d]:=by simp[hd.2]
     have e2:(vs.toArray++Array.replicate (fn.ntmps-vs.toArray.size) undef).getD d undef=vs[d]:=by simp[Array.getElem?_append,hdv]
     rw[e1,e2]
     exact this
   · simp only[aF]
  size:=by simp;omega
  defers:=rfl
  len:=rfl
  cN:=fun n o p ho=>by simp[z',bX]at ho
  own:=fun n b k hn=>by simp at hn
  inj:=fun n m b k k' hn=>by simp at hn
  n0:=fun b hb=>⟨hN b hb,fun h=>h⟩
  kf:=fun n p _ hp=>by simp at hp
  below:=Kept.refl _}
 refine wp_mono (Gf sa rfl (fun n _ h=>by simp at h) hm c fF _ _ _ _ _ OK hw) fun e a' w' hq=> ?_
 have fin: ∀(τ:St) (φ:List cZ),K? (vf P τ fn.results.toList) (fun rs=>oI (iU rs))->aJ N {toWorld:=w,M:=fun _=>False,fix:=Γ.fix,S5:=[]} fn.ntmps τ φ a' w'->
  a'.defers=[]/\ ∃v,(results fn a'.tmps).run P w'= .ok v w'/\ ∃v' r,Ending.returned v= .returned v'/\oI r/\aF ⟨N,[],w'⟩ r v'/\ew w w':=by
  rintro τ φ ⟨xs,hx,hP⟩ hc;obtain⟨v,hv,hr⟩:=DU hc hx;exact⟨hc.defers,v,hv,v,_,rfl,hP,hr,⟨hc.below.size,fun b hb=>hc.below.block b hb (fun h=>h),hc.below.os,hc.below.tape,hc.below.output,hc.below.drawn⟩⟩
 cases e with
 |normal=>
  obtain⟨τ,φ,hq,hc⟩:=hq;exact fin τ φ hq hc
 |ret=>
  obtain⟨τ,φ,hq,hc⟩:=hq;exact fin τ φ hq hc
 |exit i=>
  obtain⟨τ,φ,hq,hc⟩:=hq;exact hq.elim
 |goto l=>exact hq.elim
 |panic c=>exact hq.elim
 |outgrown=>exact hq.elim
theorem OL(h:aJ N0 w0 nt σ φ a w){r:ResultVar}{x:A}(hr:S0 P σ r=some x):
 ∃v,(HF a.tmps r).run P w= .ok v w/\aF (aA N0 φ w) x v:=by
 cases r with
 |tmp t=>
  simp only[S0,Option.some.injEq]at hr;subst hr;exact⟨_,by simp only[HF,Sem.run_pure],h.cI t⟩
 |cell c t=>
  simp only[S0]at hr;unfold rawC at hr;split at hr
  · rename_i n off hl
    split at hr
    · rename_i cs ho
      have hs:=h.cI c;rw[hl]at hs;simp only[aF]at hs;obtain⟨b,k,eV,hv⟩:=hs;have eZ:=h.cN n _ _ ho eV;simp only[aH]at eZ;have hm:=iF (n:=off) eZ.2;rw[Nat.zero_add]at hm;obtain⟨v,fR,cF,_⟩:=oZ (E:=aA N0 φ w) hm hr;refine⟨v, ?_,cF⟩
      simp only[HF]
      rw[hv]
      simp only[asAddr,Sem.run_bind,Sem.run_pure,Result.andThen_ok]
      exact fR
    · simp at hr
  · simp at hr
theorem AV(h:aJ N0 w0 nt σ φ a w): ∀{rs:List ResultVar} {xs:List A},x_ P σ rs=some xs->
 ∃vs:List Value,(rs.mapM (HF a.tmps)).run P w= .ok vs w/\aP (aA N0 φ w) xs vs
 | [],xs,hr=>by simp only[x_,Option.some.injEq]at hr;subst hr;exact⟨[],by simp,by simp[aP]⟩
 |r::rs,xs,hr=>by
  simp only[x_]at hr;obtain⟨x,h1,hr⟩:=Option.bind_eq_some_iff.1 hr;obtain⟨ys,h2,rfl⟩:=Option.map_eq_some_iff.1 hr;obtain⟨v,g1,g2⟩:=OL h h1;obtain⟨vs,g3,g4⟩:=AV h h2;refine⟨v::vs, ?_,by simp only[aP];exact⟨v,vs,rfl,g2,g4⟩⟩
  simp only[List.mapM_cons,Sem.run_bind,g1,Result.andThen_ok,Sem.run_pure,g3]
theorem vx(h:aJ N0 w0 nt σ φ a w){fn:Func}{xs:List A}(hr:x_ P σ fn.results.toList=some xs):
 ∃v,(results fn a.tmps).run P w= .ok v w/\aF (aA N0 φ w) (iU xs) v:=by
 obtain⟨vs,h1,h2⟩:=AV h hr;refine⟨if h:vs.toArray.size=1 then vs.toArray[0]else .tuple vs.toArray, ?_, ?_⟩
 · rw[AT,Sem.run_bind,Array.mapM_eq_mapM_toList,Sem.run_map]
   rw[h1]
   simp
 · obtain⟨g1,g2⟩:=ba.1 h2
   cases xs with
   |nil=>
    have:vs=[]:=List.length_eq_zero_iff.1 (by simpa using g1.symm)
    subst this;simp[iU,aF,aP]
   |cons x xs=>
    cases xs with
    |nil=>
     simp only[aP]at h2;obtain⟨v,kc,rfl,hx,rfl⟩:=h2;simpa[iU]using hx
    |cons y ys=>
     rw[dif_neg (by simp at g1⊢;omega)]
     simp only[iU,aF]
     exact⟨vs,rfl,h2⟩
theorem bV(sa:ag P Γ)(hm:P.follows .mixedOrders=true){f:FuncId}{fn:Func}{c:Code}(hf:P.funcs[f]? =some fn)(hb:fn.body=some c){args:List A}{H H':List Obj}{r:A}{S:List Nat}(hlen:args.length<=fn.ntmps)
 (qX: ∀n,n<H.length->n∉S->Γ.fix n=true) (Kj:H.length<=Γ.nf) (hl:Γ.nf<=H'.length)
 (fF:ai P Γ fn.ntmps c=true) (hw:fP P Γ c (VE P fn r H') (Hj args H)):dG P f args H r H' S:=by
 intro N φ w vs hN gq bw cF;obtain⟨g1,g2⟩:=ba.1 cF;refine calls_of_wp hf hb ?_;have Z9: ∀n:Nat,n<φ.length->n<Γ.nf:=fun n hn=>by have:=gq.len;omega
 have OK:aJ N {toWorld:=w,M:=fun b=> ∃n k:Nat,φ[n]? =some (cZ.loc b k),fix:=Γ.fix,S5:=φ} fn.ntmps (Hj args H) φ {tmps:=vs.toArray++Array.replicate (fn.ntmps-vs.toArray.size) undef,defers:=[]} w:={
  cI:=fun d=>by
   simp only[Hj]
   rw[py]
   split
   · rename_i hd
     simp only[Nat.zero_add]at hd;have hdv:d<vs.length:=by omega
     have hx:args[d]? =some args[d]:=List.getElem?_eq_getElem hd.2;have hv:vs[d]? =some vs[d]:=List.getElem?_eq_getElem hdv;have e1:args.getD (d-0) .any=args[d]:=by simp[hd.2]
     have e2:(vs.toArray++Array.replicate (fn.ntmps-vs.toArray.size) undef).getD d undef=vs[d]:=by simp[Array.getElem?_append,hdv]
     rw[e1,e2]
     exact g2 d _ _ hx hv
   · simp only[aF]
  size:=by simp;omega
  defers:=rfl
  len:=gq.len
  cN:=gq.cN
  own:=fun n b k hn=>⟨.inr ⟨n,k,hn⟩,(gq.own n b k hn).1⟩
  inj:=gq.inj
  n0:=fun b hb=>⟨hN b hb,fun⟨n,k,hn⟩=>(gq.own n b k hn).2 hb⟩
  kf:=fun n p _ hp _=>hp
  below:=Kept.refl _}
 refine wp_mono (Gf sa rfl (fun n _ h=>Z9 n h) hm c fF _ _ _ _ _ OK hw) fun e a' w' hq=> ?_
 have fin: ∀(τ:St) (eG:List cZ),K? (x_ P τ fn.results.toList) (fun rs=>iU rs=r/\r.under H'.length=true/\rq H'.length τ.H H')->
  aJ N {toWorld:=w,M:=fun b=> ∃n k:Nat,φ[n]? =some (cZ.loc b k),fix:=Γ.fix,S5:=φ} fn.ntmps τ eG a' w'->
  a'.defers=[]/\ ∃v,(results fn a'.tmps).run P w'= .ok v w'/\ ∃v' eG,Ending.returned v= .returned v'/\aF (aA N eG w') r v'/\nw N eG H' w'/\KW φ w S eG w'/\H.length<=H'.length:=by
  rintro τ eG ⟨xs,hx,rfl,hu,hle⟩ hc;obtain⟨v,hv,hr⟩:=vx hc hx;have dA:=hc.le_ext H'.length;have Hs:=hc.le (τ:=⟨[],H'⟩) (fun n _ h=>Z9 n h) hl ⟨trivial,hle⟩
  refine⟨hc.defers,v,hv,v,eG.take H'.length,rfl,aF.mono dA _ _ hr fun n hn=>A.qB _ hu hn, ?_, ?_,by omega⟩
  · exact{
     len:=Hs.len
     cN:=Hs.cN
     own:=fun n b k hn=>⟨(Hs.own n b k hn).2,fun h0=>by
      rcases(Hs.own n b k hn).1 with h1|h1
      · have:=(Hs.n0 b h0).1;simp at this h1;omega
      · exact(Hs.n0 b h0).2 h1⟩
     inj:=Hs.inj}
  · exact{
     os:=Hs.below.os
     tape:=Hs.below.tape
     output:=Hs.below.output
     drawn:=Hs.below.drawn
     size:=Hs.below.size
     block:=fun b hb hM=>Hs.below.block b hb fun⟨n,k,hn⟩=>hM n k hn
     shape:=Hs.below.shape
     own:=fun n b k hn=>(Hs.own n b k hn).1
     stay:=fun n p hn hp=>by have aw:=(List.getElem?_eq_some_iff.1 hp).1;exact Hs.kf n p (qX n (by rw[<-gq.len];exact aw) hn) hp (fun e=>bw n (by rw[hp,e]))}
 cases e with
 |normal=>
  obtain⟨τ,eG,hq,hc⟩:=hq;exact fin τ eG hq hc
 |ret=>
  obtain⟨τ,eG,hq,hc⟩:=hq;exact fin τ eG hq hc
 |exit i=>
  obtain⟨τ,eG,hq,hc⟩:=hq;exact hq.elim
 |goto l=>exact hq.elim
 |panic c=>exact hq.elim
 |outgrown=>exact hq.elim
end
end Go.bJ
namespace Go.bJ
open Go.RowKit
inductive CT where
 |int (k:IntKind)
 |bool
 |str
 |list (c:CT)
 |rows (cs:List CT)
mutual
def fits:CT->A->Prop
 | .int k,x=> ∃n,x= .int k n/\(Lit.int k n).wf=true
 | .bool,x=> ∃b,x= .bool b
 | .str,x=> ∃s,x= .str s/\s.length<=maxLen
 | .list c,x=> ∃es,x= .ad es/\es.length<=maxLen/\ ∀e∈es,fits c e
 | .rows cs,x=> ∃es,x= .ad es/\es.length<=maxLen/\ ∀e∈es,∃ys,e= .agg ys/\cJ cs ys
def cJ:List CT->List A->Prop
 | [],ys=>ys=[]
 |c::cs,ys=> ∃y zs,ys=y::zs/\fits c y/\cJ cs zs
end
def sj(rec:TypeId->Option (List CT))(size:TypeId->Nat):List Field->Nat->Option (List CT)
 | [],_=>some []
 |f::fs,off=>
  if f.offset=off then
   match rec f.type with
   |some ks=>if ks.length=size f.type then(sj rec size fs (off+size f.type)).map (ks++ ·)else none
   |none=>none
  else none
def iY(P:Program):Nat->TypeId->Option (List CT)
 |0,_=>none
 |d+1,t=>
  match P.underlying t with
  |some .bool=>some [.bool]
  |some (.int k)=>some [.int k]
  |some .string=>some [.str]
  |some (.slice e)=>
   match bE P e,iY P d e with
   |some true,some (c::cs)=>if(c::cs).length=P.cellsOf e then some [.rows (c::cs)]else none
   |some false,some [c]=>if P.cellsOf e=1 then some [.list c]else none
   |_,_=>none
  |some (.struct fs)=>(sj (iY P d) P.cellsOf fs.toList 0).bind fun ks=>if ks.length=P.cellsOf t then some ks else none
  |some (.array n e)=>
   match iY P d e with
   |some ks=>if ks.length=P.cellsOf e/\n*ks.length=P.cellsOf t then some (List.replicate n ks).flatten else none
   |none=>none
  |_=>none
theorem tJ: ∀{cs ds:List CT} {ys zs:List A},cJ cs ys->cJ ds zs->cJ (cs++ds) (ys++zs)
 | [],ds,ys,zs,h,h'=>by simp only[cJ]at h;subst h;simpa using h'
 |c::cs,ds,ys,zs,h,h'=>by
  simp only[cJ]at h;obtain⟨y,us,rfl,h1,h2⟩:=h;simp only[List.cons_append,cJ]
  exact⟨y,us++zs,rfl,h1,tJ h2 h'⟩
section
variable{H:Type}{enc:TypeId×Value->H}{P:Program}{w:World}{sp:Nat->Bool}{held:Bool}
def Reads(w:World)(Gg:List CT)(cs:List Value):Prop:= ∃xs:List A,aP ⟨fun _=>False,[],w⟩ xs cs/\cJ Gg xs/\A.pure.aY xs=true/\ ∀u∈cs,u.oneCell'=true
theorem Reads.append{Gg cts':List CT}{cs KY:List Value}(h:Reads w Gg cs)(h':Reads w cts' KY):Reads w (Gg++cts') (cs++KY):=by
 obtain⟨xs,h1,h2,h3,h4⟩:=h;obtain⟨ys,g1,g2,g3,g4⟩:=h';refine⟨xs++ys,iG h1 g1,tJ h2 g2,cV fun j y hy=> ?_,fun u hu=> ?_⟩
 · rcases List.mem_append.1 (List.mem_of_getElem? hy)with hm|hm
   · obtain⟨r,hr⟩:=List.getElem?_of_mem hm;exact aI h3 hr
   · obtain⟨r,hr⟩:=List.getElem?_of_mem hm;exact aI g3 hr
 · rcases List.mem_append.1 hu with hu|hu
   · exact h4 u hu
   · exact g4 u hu
theorem Reads.nil:Reads w [] []:=⟨[],by simp[aP],by simp[cJ],rfl,by simp⟩
theorem tK{rec:TypeId->Option (List CT)}{size:TypeId->Nat}{cs:List Value}: ∀{fs:List Field} {off:Nat} {ks:List CT},sj rec size fs off=some ks->
 (∀f∈fs,∀k,rec f.type=some k->Reads w k ((cs.drop f.offset).take (size f.type)))->off+ks.length=cs.length->Reads w ks (cs.drop off)
 | [],off,ks,h,_,hl=>by
  simp only[sj,Option.some.injEq]at h;subst h;have:cs.drop off=[]:=List.drop_of_length_le (by simp at hl;omega)
  rw[this]
  exact Reads.nil
 |f::fs,off,ks,h,hf,hl=>by
  simp only[sj]at h;split at h
  · rename_i ho
    split at h
    · rename_i k hk
      split at h
      · rename_i kE
        cases hg:sj rec size fs (off+size f.type)with
        |none=>simp[hg]at h
        |some ks'=>
         simp[hg]at h;subst h;have h1:=hf f (by simp) k hk;rw[ho]at h1;have h2:=tK hg (fun g hgm=>hf g (by simp[hgm])) (by simp at hl;omega)
         have:=h1.append h2;rw[show cs.drop (off+size f.type)=(cs.drop off).drop (size f.type) by rw[List.drop_drop],List.take_append_drop]at this;exact this
      · simp at h
    · simp at h
  · simp at h
theorem xz{ks:List CT}{k:Nat}(hk:ks.length=k): ∀{n:Nat} {cs:List Value},cs.length=n*k->(∀i,i<n->Reads w ks ((cs.drop (i*k)).take k))->Reads w (List.replicate n ks).flatten cs
 |0,cs,hl,_=>by
  have:cs=[]:=List.length_eq_zero_iff.1 (by simpa using hl)
  subst this;simpa using Reads.nil (w:=w)
 |n+1,cs,hl,h=>by
  rw[List.replicate_succ,List.flatten_cons]
  have h0:=h 0 (by omega)
  simp only[Nat.zero_mul,List.drop_zero]at h0
  have hr:=xz hk (n:=n) (cs:=cs.drop k) (by simp[hl,Nat.add_mul]) (fun i hi=>by
   have:=h (i+1) (by omega)
   rw[List.drop_drop,show k+i*k=(i+1)*k by rw[Nat.add_mul];omega]
   exact this)
  have:=h0.append hr;rw[List.take_append_drop]at this;exact this
theorem Z_{a:Addr}{v:Value}(h:w.cell? a=some v):a=⟨a.block,a.off,none⟩/\a.block<w.heap.size:=by
 unfold World.cell? at h;split at h
 · rename_i c e fr hb
   split at h
   · simp at h
   · rename_i hs
     obtain⟨b,o,s⟩:=a;have:s=none:=by cases s<;>simp_all
     subst this;refine⟨rfl, ?_⟩
     rcases Nat.lt_or_ge b w.heap.size with h'|h'
     · exact h'
     · rw[Array.getElem?_eq_none h']at hb;simp at hb
 · simp at h
theorem xA{k len cap:Nat}{a:Addr}(hk:k≠0)(qn:len<=cap){mk:List A->A}{Gg:List CT}(hmk: ∀ys,cJ Gg ys->(mk ys).cells=ys)(hmp: ∀ys,cJ Gg ys->A.pure.aY ys=true->(mk ys).pure=true)
 (hx: ∀i,i<len-> ∃cs,w.cells? 0 (a.add (i*k)) k=some cs/\Reads w Gg cs): ∃es:List A,aF ⟨fun _=>False,[],w⟩ (.ad es) (.slice (some a) len cap)/\es.length=len/\(A.ad es).pure=true/\ ∀e∈es,∃ys,e=mk ys/\cJ Gg ys:=by
 obtain⟨X,hX⟩:=Go.Deep.choose_lt (α:=List A) (p:=fun i ys=> ∃cs,w.cells? 0 (a.add (i*k)) k=some cs/\aP ⟨fun _=>False,[],w⟩ ys cs/\cJ Gg ys/\A.pure.aY ys=true/\ ∀u∈cs,u.oneCell'=true) (fun i hi=>by obtain⟨cs,h1,ys,h2⟩:=hx i hi;exact⟨ys,cs,h1,h2⟩)
 refine⟨(List.range len).map fun i=>mk (X i), ?_,by simp,by simp[A.pure], ?_⟩
 · simp only[aF]
   refine⟨cV fun i e he=> ?_,some a,cap,by simp,by simpa using qn,fun bU=> ?_⟩
   · have:=List.mem_of_getElem? he
     obtain⟨j,hj,rfl⟩:=List.mem_map.1 this;obtain⟨cs,_,_,hf,hp,_⟩:=hX j (List.mem_range.1 hj)
     exact hmp _ hf hp
   · have hlen:0<len:=by
      rcases Nat.eq_zero_or_pos len with h|h
      · subst h;simp at bU
      · exact h
     obtain⟨cs0,h1,h2,_⟩:=hX 0 hlen;obtain⟨_,hl0,hg0⟩:=World.cells?_some h1;have h0:=hg0 0 (by omega)
     rw[Go.Deep.add_add]at h0;simp only[Nat.zero_mul,Nat.add_zero]at h0;have ha0:a.add 0=a:=by simp[Addr.add]
     rw[ha0,List.getElem?_eq_getElem (by omega)]at h0;obtain⟨hspot,hblk⟩:=Z_ h0;refine⟨a.block,a.off,by rw[<-hspot],hblk,fun h=>h, ?_⟩
     have hE:eo ⟨fun _=>False,[],w⟩ k a.block a.off ((List.range len).map fun i=>mk (X i)):=by
      refine cU.2 fun i e he=> ?_;have hi:i<len:=by have:=(List.getElem?_eq_some_iff.1 he).1;simpa using this
      have u5:e=mk (X i):=by rw[List.getElem?_map,List.getElem?_range hi]at he;simpa using he.symm
      subst u5;obtain⟨cs,g1,g2,g3,g4,g5⟩:=hX i hi;obtain⟨_,gl,gg⟩:=World.cells?_some g1;have hyl:(X i).length=k:=by rw[(ba.1 g2).1,gl]
      rw[hmk _ g3]
      refine⟨hyl,np (vs:=cs) (fun j v hv=> ?_) g2 g5⟩
      have hj:j<k:=by have:=(List.getElem?_eq_some_iff.1 hv).1;omega
      have:=gg j hj;rw[Go.Deep.add_add,hspot,Addr.add_lit,hv]at this;rw[Nat.add_assoc]
      exact this
     have bR:bT ((List.range len).map fun i=>mk (X i))=k:=vn hE bU;rw[bR]
     exact hE
 · intro e he
   obtain⟨j,hj,rfl⟩:=List.mem_map.1 he;obtain⟨cs,_,_,hf,_⟩:=hX j (List.mem_range.1 hj)
   exact⟨X j,rfl,hf⟩
theorem rG: ∀(d:Nat) {t:TypeId} {Gg:List CT} {fuel:Nat} {cs:List Value} {x:DataW H×List MemPlace},iY P d t=some Gg->DataW.trod enc P w 0 sp held fuel t cs=some x->Reads w Gg cs:=by
 intro d;induction d with
 |zero=>intro t Gg fuel cs x hf;simp[iY]at hf
 |succ d ih=>
  intro t Gg fuel cs x hf h;unfold iY at hf;split at hf
  · rename_i hu
    obtain rfl:=Option.some.inj hf;obtain⟨b,rfl,_⟩:=DataW.trod_bool hu h;exact⟨[.bool b],by simp[aP,aF],by simp[cJ,fits],rfl,by simp[Value.oneCell']⟩
  · rename_i k hu
    obtain rfl:=Option.some.inj hf;obtain⟨n,rfl,_,hn⟩:=DataW.trod_int hu h;exact⟨[.int k n],by simp[aP,aF],by simp[cJ,fits,hn],rfl,by simp[Value.oneCell']⟩
  · rename_i hu
    obtain rfl:=Option.some.inj hf;obtain⟨s,rfl,_,hs⟩:=DataW.trod_string hu h;have oP:s.data.toList.length<=maxLen:=by rw[Array.length_toList];exact hs
    refine⟨[.str s.data.toList],by simp[aP,aF], ?_,rfl,by simp[Value.oneCell']⟩
    simp only[cJ,fits]
    exact⟨_,[],rfl,⟨_,rfl,oP⟩,rfl⟩
  · rename_i e hu
    have tL: ∀c:CT,(∀y:A,y= .ad []->fits c y)->Reads w [c] [.slice none 0 0]:=fun c hc=>by
     refine⟨[.ad []], ?_, ?_,rfl,by simp[Value.oneCell']⟩
     · simp only[aP,aF]
       exact⟨_,[],rfl,⟨rfl,none,0,rfl,Nat.le_refl _,fun h=>absurd rfl h⟩,rfl⟩
     · simp only[cJ]
       exact⟨_,[],rfl,hc _ rfl,rfl⟩
    rcases Go.Deep.open_slice hu h with⟨rfl,_⟩|⟨a,len,cap,m,n,D,Pl,rfl,_,qn,Km,hm,_,hx⟩
    · split at hf
      · split at hf
        · obtain rfl:=Option.some.inj hf
          exact tL _ fun y hy=>by subst hy;simp only[fits];exact⟨[],rfl,by simp,by simp⟩
        · simp at hf
      · split at hf
        · obtain rfl:=Option.some.inj hf
          exact tL _ fun y hy=>by subst hy;simp only[fits];exact⟨[],rfl,by simp,by simp⟩
        · simp at hf
      · simp at hf
    · have hlm:len<=m:=by rw[hm];split<;>omega
      split at hf
      · rename_i c KY mn hfe
        split at hf
        · rename_i kE
          obtain rfl:=Option.some.inj hf;rw[<-kE]at hx
          obtain⟨es,g1,g2,g3,g4⟩:=xA (w:=w) (k:=(c::KY).length) (a:=a) (len:=len) (cap:=cap) (by simp) qn (mk:=A.agg) (Gg:=c::KY) (fun ys _=>rfl) (fun ys _ h=>by simpa only[A.pure]using h) (fun i hi=>by
           obtain⟨cs'',h1,h2⟩:=hx i (by omega)
           exact⟨cs'',h1,ih hfe h2⟩)
          refine⟨[.ad es],by simp only[aP];exact⟨_,[],rfl,g1,rfl⟩, ?_,by simp only[A.pure.aY,g3];rfl,by simp[Value.oneCell']⟩
          simp only[cJ,fits]
          exact⟨_,[],rfl,⟨es,rfl,by omega,g4⟩,rfl⟩
        · simp at hf
      · rename_i c mn hfe
        split at hf
        · rename_i kE
          obtain rfl:=Option.some.inj hf;rw[kE]at hx;have hnag: ∀y:A,fits c y-> ∀ys,y≠ .agg ys:=fun y hy ys e=>by subst e;cases c<;>simp[fits]at hy
          obtain⟨es,g1,g2,g3,g4⟩:=xA (w:=w) (k:=1) (a:=a) (len:=len) (cap:=cap) (by simp) qn (mk:=fun ys=>ys.headD .any) (Gg:=[c]) (fun ys w_=>by
           simp only[cJ]at w_;obtain⟨y,zs,rfl,hy,rfl⟩:=w_;have:=hnag y hy;cases y<;>first|rfl|exact absurd rfl (this _)) (fun ys w_ hp=>by
           simp only[cJ]at w_;obtain⟨y,zs,rfl,hy,rfl⟩:=w_;simpa[A.pure.aY]using hp) (fun i hi=>by
           obtain⟨cs'',h1,h2⟩:=hx i (by omega)
           exact⟨cs'',h1,ih hfe h2⟩)
          refine⟨[.ad es],by simp only[aP];exact⟨_,[],rfl,g1,rfl⟩, ?_,by simp only[A.pure.aY,g3];rfl,by simp[Value.oneCell']⟩
          simp only[cJ,fits]
          refine⟨_,[],rfl,⟨es,rfl,by omega,fun e he=> ?_⟩,rfl⟩
          obtain⟨ys,u5,w_⟩:=g4 e he;simp only[cJ]at w_;obtain⟨y,zs,rfl,hy,rfl⟩:=w_;rw[u5]
          exact hy
        · simp at hf
      · simp at hf
  · rename_i fs hu
    cases hg:sj (iY P d) P.cellsOf fs.toList 0 with
    |none=>simp[hg]at hf
    |some ks=>
     simp only[hg,Option.bind_some]at hf;split at hf
     · rename_i kE
       obtain rfl:=Option.some.inj hf;obtain⟨xs,n,_,_,hl,Z0,hx⟩:=DataW.trod_struct hu h
       have:=tK (w:=w) (cs:=cs) hg (fun f hfm k hk=>by
        obtain⟨i,hi⟩:=List.getElem?_of_mem hfm;have Z6:=hx i f (by simpa using hi)
        have aw:i<xs.length:=by
         rw[Z0]
         have:=(List.getElem?_eq_some_iff.1 hi).1;simpa using this
        rw[List.getElem?_eq_getElem aw]at Z6;exact ih hk Z6) (by omega)
       simpa using this
     · simp at hf
  · rename_i n e hu
    split at hf
    · rename_i ks hk
      split at hf
      · rename_i kE
        obtain rfl:=Option.some.inj hf;obtain⟨xs,m,_,_,hl,Z0,hx⟩:=DataW.trod_array hu h;refine xz (k:=P.cellsOf e) kE.1 (by rw[hl,<-kE.2,kE.1]) fun i hi=> ?_;have Z6:=hx i hi;rw[List.getElem?_eq_getElem (by omega)]at Z6;exact ih hk Z6
      · simp at hf
    · simp at hf
  · simp at hf
end
end Go.bJ
namespace Go.bJ
open Go.RowKit
section
variable{H:Type}{enc:TypeId×Value->H}{P:Program}{w:World}{sp:Nat->Bool}{held:Bool}
theorem OM{r:Reach}{b0:Nat}{t:TypeId}{v:Value}(ht:bE P t=some false)(jj:Value.okWide P w r b0 t v):v.cells.toList=[v]:=by
 unfold Value.okWide at jj;unfold bE at ht;split at jj
 · rename_i fs hu;simp only[hu]at ht;simp at ht
 · rename_i n e hu;simp only[hu]at ht;simp at ht
 · cases v<;>first
    |rfl
    |(exfalso
      unfold Cell.okWide at jj;split at jj
      all_goals first
       |(rename_i h1 h2;cases h2;done)
       |skip
      unfold Cell.ok at jj;split at jj<;>simp_all)
theorem Gh{r:Reach}{b0 d:Nat}{t:TypeId}{v:Value}{x:DataW H}{ps:List MemPlace}{c:CT}(ht:bE P t=some false)(hf:iY P d t=some [c])(jj:Value.okWide P w r b0 t v)
 (h:DataW.Trod enc P w 0 sp held t v x ps): ∃y,aF ⟨fun _=>False,[],w⟩ y v/\fits c y/\y.pure=true:=by
 obtain⟨fuel,h⟩:=h;rw[OM ht jj]at h;obtain⟨xs,h1,h2,h3,_⟩:=rG d hf h;simp only[cJ]at h2;obtain⟨y,zs,rfl,hy,rfl⟩:=h2;simp only[aP]at h1;obtain⟨v',kc,hv,hr,rfl⟩:=h1;simp at hv;subst hv;exact⟨y,hr,hy,by simpa[A.pure.aY]using h3⟩
theorem AW{r:Reach}{b0 d:Nat}{t:TypeId}{v:Value}{x:DataW H}{ps:List MemPlace}{Gg:List CT}(ht:bE P t=some true)(hf:iY P d t=some Gg)(jj:Value.okWide P w r b0 t v)
 (h:DataW.Trod enc P w 0 sp held t v x ps): ∃ys,aF ⟨fun _=>False,[],w⟩ (.agg ys) v/\cJ Gg ys/\(A.agg ys).pure=true:=by
 obtain⟨fuel,h⟩:=h
 have: ∃cs,v= .agg cs:=by
  unfold Value.okWide at jj;unfold bE at ht;split at jj
  · obtain⟨cs,hv,_⟩:=jj;exact⟨cs,hv⟩
  · obtain⟨cs,hv,_⟩:=jj;exact⟨cs,hv⟩
  · exfalso
    split at ht<;>simp_all
 obtain⟨cs,rfl⟩:=this;obtain⟨xs,h1,h2,h3,h4⟩:=rG d hf h;refine⟨xs, ?_,h2,by simpa only[A.pure]using h3⟩
 simp only[aF]
 exact⟨cs.toList,by simp,h1,h4⟩
end
theorem Gi{P:Program}{f:FuncId}{args:List A}(h:az P f args (· = .bool true)){W:World}{vs:List Value}(hr:aP ⟨fun _=>False,[],W⟩ args vs):
 Calls P f vs.toArray W fun e w'=>e= .returned (.bool true)/\Below W.heap.size W w':=by
 refine Calls.mono (h (fun _=>False) W vs (fun b h=>h.elim) hr) ?_;rintro e w' ⟨v,r,rfl,rfl,cF,hb⟩
 simp only[aF]at cF;subst cF;exact⟨rfl,hb.toBelow⟩
end Go.bJ
namespace Go.bJ
def vy:aj:=⟨fun _ _=>none,fun _ _ _=>none,fun _=>false,fun _=>false,false,fun _=>false,0,fun _=>[]⟩
theorem HG(P:Program):ag P vy:=⟨(fun _ _ _ h=>by cases h),(fun _ _ _ _ _ _ h=>by cases h)⟩
def aj.add(Γ:aj)(g:FuncId)(e:List A->Option A):aj:={Γ with f:=fun h xs=>if h=g then e xs else Γ.f h xs}
def aj.eP(Γ:aj)(g:FuncId)(e:List A->List Obj->Option (A×List Obj×List Nat)):aj:={Γ with hp:=fun h xs H=>if h=g then e xs H else Γ.hp h xs H}
abbrev aj.pl(Γ Γ':aj):Prop:=(∀g,Γ.l_ g=false)/\(∀g,Γ.qU g=false)/\Γ.SZ=false/\(∀n,Γ.fix n=false)/\Γ.nf=0/\(∀n,Γ.c6 n=[])/\Γ.hp=Γ'.hp
theorem aj.add_eq{Γ:aj}{g:FuncId}{e:List A->Option A}{xs:List A}:(Γ.add g e).f g xs=e xs:=if_pos rfl
theorem aj.ak{Γ:aj}{g h:FuncId}{e:List A->Option A}{xs:List A}(hn:h≠g):(Γ.add g e).f h xs=Γ.f h xs:=if_neg hn
section
variable{P:Program}{Γ:aj}{g:FuncId}
theorem ag.add(h:ag P Γ){e:List A->Option A}(hc:iW P g)(he: ∀xs r,e xs=some r->az P g xs (· =r)):ag P (Γ.add g e) where
 f:=fun f xs r hr=>by
  simp only[aj.add]at hr;split at hr
  · rename_i e;subst e;exact⟨hc,he xs r hr⟩
  · exact h.f f xs r hr
 hp:=h.hp
theorem ag.eP(h:ag P Γ){e:List A->List Obj->Option (A×List Obj×List Nat)}(hc:iW P g)(he: ∀xs H r H' S,e xs H=some (r,H',S)->dG P g xs H r H' S):ag P (Γ.eP g e) where
 f:=h.f
 hp:=fun f xs H r H' S hr=>by
  simp only[aj.eP]at hr;split at hr
  · rename_i e;subst e;exact⟨hc,he xs H r H' S hr⟩
  · exact h.hp f xs H r H' S hr
end
open Classical in
def entry{ι:Type}(enc:ι->List A)(ok:ι->Prop)(spec:ι->A):List A->Option A:=fun xs=>if h: ∃i,enc i=xs/\ok i then some (spec (Classical.choose h))else none
theorem Wn{P:Program}{g:FuncId}{ι:Type}{enc:ι->List A}{ok:ι->Prop}{spec:ι->A}(h: ∀i,ok i->az P g (enc i) (· =spec i)): ∀xs r,entry enc ok spec xs=some r->az P g xs (· =r):=fun xs r hr=>by
 unfold entry at hr;split at hr
 · rename_i hx
   obtain⟨h1,h2⟩:=Classical.choose_spec hx;obtain rfl:=Option.some.inj hr;have:=h _ h2;rw[h1]at this;exact this
 · cases hr
theorem entry_eq{ι:Type}{enc:ι->List A}{ok:ι->Prop}{spec:ι->A}(hi: ∀i j,enc i=enc j->i=j)(i:ι)(h:ok i):entry enc ok spec (enc i)=some (spec i):=by
 have hx: ∃j,enc j=enc i/\ok j:=⟨i,rfl,h⟩
 unfold entry;rw[dif_pos hx]
 rw[hi _ _ (Classical.choose_spec hx).1]
theorem aj.an{Γ:aj}{g:FuncId}{ι:Type}{enc:ι->List A}{ok:ι->Prop}{spec:ι->A}(hi: ∀i j,enc i=enc j->i=j)(i:ι)(h:ok i):(Γ.add g (entry enc ok spec)).f g (enc i)=some (spec i):=
 aj.add_eq.trans (entry_eq hi i h)
open Classical in
def bo{ι:Type}(enc:ι->List A)(DE:ι->List Obj)(ok:ι->Prop)(spec:ι->A×List Obj×List Nat):List A->List Obj->Option (A×List Obj×List Nat):=fun xs H=>
 if h: ∃i,(enc i=xs/\DE i=H)/\ok i then some (spec (Classical.choose h))else none
theorem cL{P:Program}{g:FuncId}{ι:Type}{enc:ι->List A}{DE:ι->List Obj}{ok:ι->Prop}{spec:ι->A×List Obj×List Nat}(h: ∀i,ok i->dG P g (enc i) (DE i) (spec i).1 (spec i).2.1 (spec i).2.2):
 ∀xs H r H' S,bo enc DE ok spec xs H=some (r,H',S)->dG P g xs H r H' S:=fun xs H r H' S hr=>by
 unfold bo at hr;split at hr
 · rename_i hx
   obtain⟨⟨h1,mb⟩,h2⟩:=Classical.choose_spec hx;have hs:=Option.some.inj hr;have:=h _ h2;rw[h1,mb,hs]at this;exact this
 · cases hr
theorem cM{ι:Type}{enc:ι->List A}{DE:ι->List Obj}{ok:ι->Prop}{spec:ι->A×List Obj×List Nat}(hi: ∀i j,enc i=enc j->DE i=DE j->i=j)(i:ι)(h:ok i):bo enc DE ok spec (enc i) (DE i)=some (spec i):=by
 have hx: ∃j,(enc j=enc i/\DE j=DE i)/\ok j:=⟨i,⟨rfl,rfl⟩,h⟩
 unfold bo;rw[dif_pos hx]
 rw[hi _ _ (Classical.choose_spec hx).1.1 (Classical.choose_spec hx).1.2]
theorem aj.dZ{Γ:aj}{g:FuncId}{e:List A->List Obj->Option (A×List Obj×List Nat)}{xs:List A}{H:List Obj}:(Γ.eP g e).hp g xs H=e xs H:=if_pos rfl
theorem aj.qC{Γ:aj}{g h:FuncId}{e:List A->List Obj->Option (A×List Obj×List Nat)}{xs:List A}{H:List Obj}(hn:h≠g):(Γ.eP g e).hp h xs H=Γ.hp h xs H:=if_neg hn
theorem Gj{P:Program}{f:FuncId}{oI:A->Prop}(h1:az P f [.emp true] oI)(h2:az P f [.emp false] oI):az P f [.ad []] oI:=fun N w vs hN hr=>by
 simp only[aP,aF]at hr;obtain⟨v,_,rfl,⟨_,a,cap,rfl,_,_⟩,rfl⟩:=hr;cases a with
 |none=>exact h1 N w _ hN (by simp only[aP,aF];exact⟨_,_,rfl,⟨none,cap,rfl,rfl⟩,rfl⟩)
 |some q=>exact h2 N w _ hN (by simp only[aP,aF];exact⟨_,_,rfl,⟨some q,cap,rfl,rfl⟩,rfl⟩)
attribute [go_sem] List.contains_nil List.contains_cons
theorem bn{P:Program}{f:FuncId}{fn:Func}(h1:P.funcs[f]? =some fn)(h2:fn.body.isNone=false)(h3:(fn.name== "runtime.NumGoroutine")=false):iW P f:=⟨fn,h1,h2,h3⟩
theorem ag.bG{P:Program}{Γ:aj}{g:FuncId}{fn:Func}{ι:Type}{enc:ι->List A}{ok:ι->Prop}{spec:ι->A}(h0:ag P Γ)(h1:P.funcs[g]? =some fn)(h2:fn.body.isNone=false)(h3:(fn.name== "runtime.NumGoroutine")=false)(h: ∀i,ok i->az P g (enc i) (· =spec i)):
 ag P (Γ.add g (entry enc ok spec)):=h0.add (bn h1 h2 h3) (Wn h)
@[go_sem] theorem isS2B_eq{P:Program}{s d:TypeId}:te P s d=(fm P s&&(aR P d).any (fun e=>oh P e=some .u8)):=rfl
@[go_sem] theorem isB2S_eq{P:Program}{s d:TypeId}:td P s d=((aR P s).any (fun e=>oh P e=some .u8)&&fm P d):=rfl
@[go_sem] theorem bne_str{a b:List UInt8}:(a !=b)= !(a==b):=rfl
@[go_sem] theorem bne_int{a b:Int}:(a !=b)= !(a==b):=rfl
attribute [go_sem] Int.cast_ofNat_Int
attribute [go_sem] Option.any_some Option.any_none decide_true decide_false ne_eq Nat.succ_ne_self Nat.one_ne_zero beq_true beq_false Nat.zero_add Int.toNat_zero List.drop_zero true_implies false_implies implies_true not_true_eq_false not_false_eq_true Option.getD Int.toNat_natCast Int.natCast_nonneg
@[go_sem] theorem tab0_fix:vy.fix=fun _=>false:=rfl
@[go_sem] theorem tab0_ords{n:Nat}:vy.c6 n=[]:=rfl
theorem wrap_i64{n:Int}(h: -9223372036854775808<=n/\n<9223372036854775808):IntKind.i64.wrap n=n:=by unfold IntKind.wrap;simp[IntKind.bits,IntKind.signed];split<;>omega
theorem wrap_u64{n:Int}(h:0<=n/\n<18446744073709551616):IntKind.u64.wrap n=n:=by unfold IntKind.wrap;simp[IntKind.bits,IntKind.signed];omega
theorem map_inj{α:Type}{f:α->A}(h: ∀x y,f x=f y->x=y): ∀{l m:List α},(l.map f=m.map f)=(l=m)
 | [],[]=>by simp
 | [],_::_=>by simp
 |_::_,[]=>by simp
 |x::l,y::m=>by
  simp only[List.map_cons,List.cons.injEq,map_inj h]
  exact propext ⟨fun⟨a,b⟩=>⟨h _ _ a,b⟩,fun⟨a,b⟩=>⟨by rw[a],b⟩⟩
@[simp] theorem Lj{l m:List (List UInt8)}:(l.map A.str=m.map A.str)=(l=m):=map_inj (fun _ _ h=>by simpa using h)
@[simp] theorem map_int_inj{k:IntKind}{l m:List Int}:(l.map (A.int k)=m.map (A.int k))=(l=m):=map_inj (fun _ _ h=>by simpa using h)
theorem qD{α:Type}{f:α->A}{P:α->Prop}: ∀{es:List A},(∀e∈es,∃a,e=f a/\P a)-> ∃l:List α,es=l.map f/\ ∀a∈l,P a
 | [],_=>⟨[],rfl,by simp⟩
 |e::es,h=>by
  obtain⟨a,rfl,ha⟩:=h e (by simp)
  obtain⟨l,rfl,hl⟩:=qD (es:=es) fun x hx=>h x (by simp[hx])
  exact⟨a::l,rfl,fun b hb=>by
   rcases List.mem_cons.1 hb with rfl|hb
   · exact ha
   · exact hl b hb⟩
theorem mF:maxLen<=9223372036854775807:=by decide
theorem fw: ∀s:List UInt8,fo (dh s)=some s
 | []=>rfl
 |c::s=>by have:=fw s;simp only[dh]at this;simp[dh,fo,gS,tb,this]
theorem HH(s:List UInt8)(k:Nat)(x:UInt8):cn (dh s) k (.int .u8 (x.toNat:Int))=dh (s.set k x):=by rw[fE];simp[dh,List.map_set,gS]
theorem ON(s:List UInt8):(dh s).length=s.length:=by simp[dh]
end Go.bJ
namespace Go.Proofs.YtihgnfmoafjakaaGreat
open Go.bJ
set_option linter.unusedSimpArgs false
set_option linter.unusedVariables false
set_option maxRecDepth 20000
def T0:aj:=vy
theorem pz:ag Tryz.prog T0:=HG _
@[go_sem] theorem T0_eq:T0=vy:=rfl
theorem Lk:ai Tryz.prog T0 Tryz.f191.ntmps (Tryz.f191.body.getD .skip)=true:=by kernel_rfl
theorem OO(s:List UInt8)(hs:s.length<9223372036854775807):az Tryz.prog 191 [.str s] (· = .str (s++[0])):=by
 refine aa pz mixed Tryz.func191 rfl (Nat.le_of_ble_eq_true rfl) Lk ?_;unfold Tryz.f191;simp-implicitDefEqProofs (disch:=(first|omega|decide)) only[go_sem,↓reduceIte,seval]
 omega
theorem HI:ai Tryz.prog T0 Tryz.f121.ntmps (Tryz.f121.body.getD .skip)=true:=by kernel_rfl
theorem xB(s:List UInt8)(hs:s.length<=9223372036854775807):az Tryz.prog 121 [.str s] (· = .bool (decide (1<=s.length/\s.length<=16))):=by
 refine aa pz mixed Tryz.func121 rfl (Nat.le_of_ble_eq_true rfl) HI ?_;unfold Tryz.f121;by_cases h:(1:Int)<=s.length
 · simp-implicitDefEqProofs (disch:=(first|omega|decide)) only[go_sem,↓reduceIte,seval,h]
   apply decide_eq_decide.2;omega
 · simp-implicitDefEqProofs (disch:=(first|omega|decide)) only[go_sem,↓reduceIte,seval,h]
   symm;apply decide_eq_false;omega
theorem Ll:ai Tryz.prog T0 Tryz.f177.ntmps (Tryz.f177.body.getD .skip)=true:=by kernel_rfl
theorem OP(s:List UInt8)(hs:s.length<=9223372036854775807):az Tryz.prog 177 [.str s] (· = .bool (decide (s.length<=17))):=by
 refine aa pz mixed Tryz.func177 rfl (Nat.le_of_ble_eq_true rfl) Ll ?_;unfold Tryz.f177;simp-implicitDefEqProofs (disch:=(first|omega|decide)) only[go_sem,↓reduceIte,seval]
 apply decide_eq_decide.2;omega
def ck:List UInt8->List UInt8->Int
 | [],[]=>0
 | [],_::_=> -1
 |_::_,[]=>1
 |a::x,b::y=>if a<b then-1 else if b<a then 1 else ck x y
theorem Gk{a b:List UInt8}{k:Nat}(ha:k<a.length)(hb:k<b.length):ck (a.drop k) (b.drop k)=if a[k]<b[k]then-1 else if b[k]<a[k]then 1 else ck (a.drop (k+1)) (b.drop (k+1)):=by rw[List.drop_eq_getElem_cons ha,List.drop_eq_getElem_cons hb];rfl
theorem OQ:ai Tryz.prog T0 Tryz.f141.ntmps (Tryz.f141.body.getD .skip)=true:=by kernel_rfl
theorem vz(a b:List UInt8)(ha:a.length<=9223372036854775807)(hb:b.length<=9223372036854775807):az Tryz.prog 141 [.str a,.str b] (· = .int .i64 (ck a b)):=by
 refine aa pz mixed Tryz.func141 rfl (Nat.le_of_ble_eq_true rfl) OQ ?_;unfold Tryz.f141;simp-implicitDefEqProofs (disch:=(first|omega|decide)) only[go_sem,↓reduceIte,seval]
 refine ao [0,1,10] (ι:={k:Nat//k<=a.length/\k<=b.length/\ck a b=ck (a.drop k) (b.drop k)}) (fun k=>[(11,.int .i64 k.1)]) (fun _=>[]) (fun k=>a.length-k.1) ⟨0,by simp⟩ (by simp[T0,vy]) ?_ ?_
 · simp-implicitDefEqProofs (disch:=(first|omega|decide)) only[go_sem,↓reduceIte,seval]
 · rintro⟨k,ke,OF,HJ⟩
   by_cases hk:k<a.length/\k<b.length
   · obtain⟨Wo,Z'⟩:=hk
     have yi:(k:Int)<if(b.length:Int)<a.length then(b.length:Int)else a.length:=by split<;>omega
     have e1:a[k]? =some a[k]:=List.getElem?_eq_getElem Wo;have e2:b[k]? =some b[k]:=List.getElem?_eq_getElem Z';rw[Gk Wo Z']at HJ;simp-implicitDefEqProofs (disch:=(first|omega|decide)) only[go_sem,↓reduceIte,seval,yi,gS,wrap_i64]
     simp only[decide_eq_true_eq,decide_eq_false_iff_not,Int.ofNat_lt]
     refine⟨fun h=> ?_,fun h=>⟨fun h'=> ?_,fun h'=>⟨⟨k+1,Wo,Z', ?_⟩,by simp,by simp;omega⟩⟩⟩
     · have:a[k]<b[k]:=h
       rw[HJ,if_pos this]
     · have g: ¬a[k]<b[k]:=h
       have g':b[k]<a[k]:=h';rw[HJ,if_neg g,if_pos g']
     · have g: ¬a[k]<b[k]:=h
       have g': ¬b[k]<a[k]:=h';rw[HJ,if_neg g,if_neg g']
   · have yi: ¬((k:Int)<if(b.length:Int)<a.length then(b.length:Int)else a.length):=by split<;>omega
     simp-implicitDefEqProofs (disch:=(first|omega|decide)) only[go_sem,↓reduceIte,seval,yi,gS,wrap_i64]
     simp only[decide_eq_true_eq,decide_eq_false_iff_not,Int.ofNat_lt]
     rw[HJ]
     by_cases h1:k<a.length
     · have h2:b.drop k=[]:=List.drop_of_length_le (by omega)
       rw[h2,List.drop_eq_getElem_cons h1]
       simp only[ck]
       refine⟨fun h=> ?_,fun h=>⟨fun _=>trivial,fun h'=> ?_⟩⟩<;>exfalso<;>omega
     · have h2:a.drop k=[]:=List.drop_of_length_le (by omega)
       rw[h2]
       by_cases h3:k<b.length
       · rw[List.drop_eq_getElem_cons h3]
         simp only[ck]
         refine⟨fun _=>trivial,fun h=>⟨fun h'=> ?_,fun h'=> ?_⟩⟩<;>exfalso<;>omega
       · have h4:b.drop k=[]:=List.drop_of_length_le (by omega)
         rw[h4]
         simp only[ck]
         refine⟨fun h=> ?_,fun h=>⟨fun h'=> ?_,fun _=>trivial⟩⟩<;>exfalso<;>omega
theorem Wp{x:UInt8}(h:x≠255):IntKind.u8.wrap ((x.toNat:Int)+1)=((x+1).toNat:Int):=by
 have h1:x.toNat<256:=x.toNat_lt;have h2:x.toNat≠255:=fun e=>h (UInt8.toNat_inj.1 (by rw[e];rfl))
 have h3:(x+1).toNat=x.toNat+1:=by
  rw[UInt8.toNat_add]
  have:(1:UInt8).toNat=1:=rfl;rw[this]
  omega
 rw[h3]
 unfold IntKind.wrap;simp[IntKind.bits,IntKind.signed]
 omega
theorem take_set: ∀{p:List UInt8} {k:Nat},k<p.length-> ∀x,(p.take (k+1)).set k x=p.take k++[x]
 |_::p,0,_,x=>by simp
 |c::p,k+1,h,x=>by have:=take_set (p:=p) (k:=k) (by simpa using h) x;simp[this]
def cut(p:List UInt8):Nat->Nat
 |0=>0
 |n+1=>if p.getD n 0=255 then cut p n else n+1
def j4(p:List UInt8):Option (List UInt8):=if cut p p.length=0 then none else some (p.take (cut p p.length-1)++[p.getD (cut p p.length-1) 0+1])
def qY:Option (List UInt8)->A
 |none=> .cx [.str [],.bool false]
 |some e=> .cx [.str e,.bool true]
theorem OR:ai Tryz.prog T0 Tryz.f210.ntmps (Tryz.f210.body.getD .skip)=true:=by kernel_rfl
theorem Tv(p:List UInt8)(hp:p.length<=9223372036854775807):az Tryz.prog 210 [.str p] (· =qY (j4 p)):=by
 refine aa pz mixed Tryz.func210 rfl (Nat.le_of_ble_eq_true rfl) OR ?_;unfold Tryz.f210;simp-implicitDefEqProofs (disch:=(first|omega|decide)) only[go_sem,↓reduceIte,seval]
 refine ao [0] (ι:={k:Nat//k<=p.length/\cut p p.length=cut p k}) (fun k=>[(4,.int .i64 k.1)]) (fun _=>[]) (fun k=>k.1) ⟨p.length,by simp⟩ (by simp[T0,vy]) ?_ ?_
 · simp-implicitDefEqProofs (disch:=(first|omega|decide)) only[go_sem,↓reduceIte,seval]
 · rintro⟨k,hk,hc⟩
   cases k with
   |zero=>
    have z:((0:Nat):Int)=0:=rfl;have h0: ¬(0:Int)<0:=by omega
    have hz:((0:Int)==0)=true:=rfl;simp-implicitDefEqProofs (disch:=(first|omega|decide)) only[go_sem,↓reduceIte,seval,z,h0,hz]
    simp[j4,qY,hc,cut]
   |succ k=>
    have h0:(0:Int)<((k+1:Nat):Int):=by omega
    have h1:((k+1:Nat):Int)-1=(k:Int):=by omega
    have hz:(((k+1:Nat):Int)==0)=false:=by simp;omega
    have e1:p[k]? =some p[k]:=List.getElem?_eq_getElem (by omega)
    by_cases vA:p[k]=255
    · have he:(((p[k]).toNat:Int)==255)=true:=by rw[vA];rfl
      simp-implicitDefEqProofs (disch:=(first|omega|decide)) only[go_sem,↓reduceIte,seval,h0,h1,he,wrap_i64,gS]
      refine⟨⟨k,by omega, ?_⟩,rfl,by simp⟩
      rw[hc]
      simp[cut,e1,vA]
    · have he:(((p[k]).toNat:Int)==255)=false:=by
       simp only[beq_eq_false_iff_ne,ne_eq]
       intro h;apply vA;apply UInt8.toNat_inj.1;have:(p[k]).toNat=255:=by omega
       rw[this];rfl
      have ht:(p.take (k+1)).length=k+1:=by simp;omega
      have hb:(dh (p.take (k+1)))[k]? =some (gS p[k]):=by simp[dh,e1]
      have S6:(0:Int)<=0:=by omega
      have hle:((k+1:Nat):Int)<=(p.length:Int):=by omega
      have aw:(k:Int)<((k+1:Nat):Int):=by omega
      have HK:cut p p.length=k+1:=by rw[hc];simp[cut,e1,vA]
      have hw:=Wp vA;have fQ:=HH (p.take (k+1)) k (p[k]+1)
      have hlen:(dh ((p.take (k+1)).set k (p[k]+1))).length=k+1:=by rw[ON,List.length_set,ht]
      have Kp:List.take (k+1) (dh ((p.take (k+1)).set k (p[k]+1)))=dh ((p.take (k+1)).set k (p[k]+1)):=List.take_of_length_le (by omega)
      have cQ:(1:Nat)≠0:=by omega
      have hkk':k+1<=k+1:=Nat.le_refl _;simp-implicitDefEqProofs (disch:=(first|omega|decide)) only[go_sem,↓reduceIte,seval,HK,hw,fQ,hlen,Kp,hkk',fw,kP,h0,h1,he,hz,ht,hb,S6,hle,aw,wrap_i64,gS]
      rw[j4,if_neg (by rw[HK];omega),HK]
      simp only[Nat.add_sub_cancel,qY]
      have:p.getD k 0=p[k]:=by simp[e1]
      rw[this,take_set (by omega)]
def Wq:aj:=T0.add 191 (entry (fun(s:List UInt8)=>[.str s]) (fun s=>s.length<9223372036854775807) (fun s=> .str (s++[0])))
theorem aaa:ag Tryz.prog Wq:=pz.bG Tryz.func191 (by kernel_rfl) (by kernel_rfl) fun s h=>OO s h
theorem DV(s:List UInt8)(h:s.length<9223372036854775807):Wq.f 191 [.str s]=some (.str (s++[0])):=aj.an (Γ:=T0) (fun i j h=>by simpa[Prod.ext_iff,and_assoc]using h) s h
def Wr:aj:=Wq.add 121 (entry (fun(s:List UInt8)=>[.str s]) (fun s=>s.length<=9223372036854775807) (fun s=> .bool (decide (1<=s.length/\s.length<=16))))
theorem aab:ag Tryz.prog Wr:=aaa.bG Tryz.func121 (by kernel_rfl) (by kernel_rfl) fun s h=>xB s h
@[go_sem] theorem T06b_old{g:FuncId}{xs:List A}(h:g≠121):Wr.f g xs=Wq.f g xs:=aj.ak h
def OS:aj:=Wr.add 177 (entry (fun(s:List UInt8)=>[.str s]) (fun s=>s.length<=9223372036854775807) (fun s=> .bool (decide (s.length<=17))))
theorem aac:ag Tryz.prog OS:=aab.bG Tryz.func177 (by kernel_rfl) (by kernel_rfl) fun s h=>OP s h
@[go_sem] theorem T06c_old{g:FuncId}{xs:List A}(h:g≠177):OS.f g xs=Wr.f g xs:=aj.ak h
theorem DW(s:List UInt8)(h:s.length<=9223372036854775807):OS.f 177 [.str s]=some (.bool (decide (s.length<=17))):=aj.an (Γ:=Wr) (fun i j h=>by simpa[Prod.ext_iff,and_assoc]using h) s h
def OT:aj:=OS.add 141 (entry (fun(p:List UInt8×List UInt8)=>[.str p.1,.str p.2]) (fun p=>p.1.length<=9223372036854775807/\p.2.length<=9223372036854775807) (fun p=> .int .i64 (ck p.1 p.2)))
theorem aad:ag Tryz.prog OT:=aac.bG Tryz.func141 (by kernel_rfl) (by kernel_rfl) fun p h=>vz p.1 p.2 h.1 h.2
@[go_sem] theorem T06d_old{g:FuncId}{xs:List A}(h:g≠141):OT.f g xs=OS.f g xs:=aj.ak h
theorem HL(p:List UInt8×List UInt8)(h:p.1.length<=9223372036854775807/\p.2.length<=9223372036854775807):OT.f 141 [.str p.1,.str p.2]=some (.int .i64 (ck p.1 p.2)):=aj.an (Γ:=OS) (fun i j h=>by simpa[Prod.ext_iff,and_assoc]using h) p h
def OU:aj:=OT.add 210 (entry (fun(s:List UInt8)=>[.str s]) (fun s=>s.length<=9223372036854775807) (fun s=>qY (j4 s)))
theorem aae:ag Tryz.prog OU:=aad.bG Tryz.func210 (by kernel_rfl) (by kernel_rfl) fun s h=>Tv s h
@[go_sem] theorem T06e_old{g:FuncId}{xs:List A}(h:g≠210):OU.f g xs=OT.f g xs:=aj.ak h
theorem HM(s:List UInt8)(h:s.length<=9223372036854775807):OU.f 210 [.str s]=some (qY (j4 s)):=aj.an (Γ:=OT) (fun i j h=>by simpa[Prod.ext_iff,and_assoc]using h) s h
@[go_sem] theorem t_key_Next{s:List UInt8}(h:s.length<9223372036854775807):Wq.f 191 [.str s]=some (.str (s++[0])):=DV s h
@[go_sem] theorem t_key_Edge{s:List UInt8}(h:s.length<=9223372036854775807):OS.f 177 [.str s]=some (.bool (decide (s.length<=17))):=DW s h
@[go_sem] theorem t_key_Cmp{a b:List UInt8}(h:a.length<=9223372036854775807)(h':b.length<=9223372036854775807):OT.f 141 [.str a,.str b]=some (.int .i64 (ck a b)):=HL (a,b) ⟨h,h'⟩
@[go_sem] theorem t_key_End{s:List UInt8}(h:s.length<=9223372036854775807):OU.f 210 [.str s]=some (qY (j4 s)):=HM s h
set_option maxHeartbeats 4000000
theorem AX:ai Tryz.prog T0 Tryz.f122.ntmps (Tryz.f122.body.getD .skip)=true:=by kernel_rfl
theorem rH(s:List UInt8)(hs:s.length<=9223372036854775807):az Tryz.prog 122 [.str s] (· = .bool (decide (1<=s.length/\s.length<=16))):=by
 refine aa pz mixed Tryz.func122 rfl (Nat.le_of_ble_eq_true rfl) AX ?_;unfold Tryz.f122;by_cases h:(1:Int)<=s.length
 · simp-implicitDefEqProofs (disch:=(first|omega|decide)) only[go_sem,↓reduceIte,seval,h]
   apply decide_eq_decide.2;omega
 · simp-implicitDefEqProofs (disch:=(first|omega|decide)) only[go_sem,↓reduceIte,seval,h]
   symm;apply decide_eq_false;omega
theorem DX:ai Tryz.prog T0 Tryz.f85.ntmps (Tryz.f85.body.getD .skip)=true:=by kernel_rfl
theorem tN(a b:List UInt8)(ha:a.length<=9223372036854775807)(hb:b.length<=9223372036854775807):az Tryz.prog 85 [.str a,.str b] (· = .bool (ck a b== -1)):=by
 refine aa pz mixed Tryz.func85 rfl (Nat.le_of_ble_eq_true rfl) DX ?_;unfold Tryz.f85;simp-implicitDefEqProofs (disch:=(first|omega|decide)) only[go_sem,↓reduceIte,seval]
 refine ao [0,1] (ι:={k:Nat//k<=a.length/\k<=b.length/\ck a b=ck (a.drop k) (b.drop k)}) (fun k=>[(5,.int .i64 k.1)]) (fun _=>[]) (fun k=>a.length-k.1) ⟨0,by simp⟩ (by simp[T0,vy]) ?_ ?_
 · simp-implicitDefEqProofs (disch:=(first|omega|decide)) only[go_sem,↓reduceIte,seval]
 · rintro⟨k,ke,OF,HJ⟩
   by_cases hk:(k:Int)<a.length
   · have Wo:k<a.length:=by omega
     by_cases Tf:(b.length:Int)<=k
     · simp-implicitDefEqProofs (disch:=(first|omega|decide)) only[go_sem,↓reduceIte,seval,hk,Tf,gS,wrap_i64]
       have h2:b.drop k=[]:=List.drop_of_length_le (by omega)
       rw[HJ,h2,List.drop_eq_getElem_cons Wo]
       rfl
     · have Z':k<b.length:=by omega
       have e1:a[k]? =some a[k]:=List.getElem?_eq_getElem Wo;have e2:b[k]? =some b[k]:=List.getElem?_eq_getElem Z';rw[Gk Wo Z']at HJ;simp-implicitDefEqProofs (disch:=(first|omega|decide)) only[go_sem,↓reduceIte,seval,hk,Tf,gS,wrap_i64]
       refine⟨fun h=> ?_,fun h=>⟨⟨k+1,Wo,Z', ?_⟩,by simp,by simp;omega⟩⟩
       · have bU: ¬((a[k].toNat:Int)=b[k].toNat):=by simpa using h
         have t: ∀u v:UInt8,(u<v)=(u.toNat<v.toNat):=fun u v=>rfl;simp only[t]at HJ;by_cases hl:a[k].toNat<b[k].toNat
         · rw[HJ,if_pos hl,decide_eq_true (by omega)];rfl
         · rw[HJ,if_neg hl,if_pos (by omega),decide_eq_false (by omega)];rfl
       · have he:((a[k].toNat:Int)=b[k].toNat):=by simpa using h
         have t: ∀u v:UInt8,(u<v)=(u.toNat<v.toNat):=fun u v=>rfl;simp only[t]at HJ;rw[HJ,if_neg (by omega),if_neg (by omega)]
   · simp-implicitDefEqProofs (disch:=(first|omega|decide)) only[go_sem,↓reduceIte,seval,hk,gS,wrap_i64]
     have h2:a.drop k=[]:=List.drop_of_length_le (by omega)
     rw[HJ,h2]
     by_cases h3:k<b.length
     · rw[List.drop_eq_getElem_cons h3,decide_eq_true (by omega)];rfl
     · rw[List.drop_of_length_le (by omega),decide_eq_false (by omega)];rfl
def HN(s p:List UInt8):Bool:=decide (p.length<=s.length)&&s.take p.length==p
theorem yj:ai Tryz.prog T0 Tryz.f198.ntmps (Tryz.f198.body.getD .skip)=true:=by kernel_rfl
theorem AY(s p:List UInt8)(hs:s.length<=9223372036854775807)(hp:p.length<=9223372036854775807):az Tryz.prog 198 [.str s,.str p] (· = .bool (HN s p)):=by
 refine aa pz mixed Tryz.func198 rfl (Nat.le_of_ble_eq_true rfl) yj ?_;unfold Tryz.f198;unfold HN;by_cases h:(p.length:Int)<=s.length
 · have hm: ¬(s.length:Int)<p.length:=by omega
   have hz:(0:Int)<=p.length:=by omega
   simp-implicitDefEqProofs (disch:=(first|omega|decide)) only[go_sem,↓reduceIte,seval,h,hm,hz]
   rw[decide_eq_true (by omega),Bool.true_and]
 · simp-implicitDefEqProofs (disch:=(first|omega|decide)) only[go_sem,↓reduceIte,seval,h]
   rw[decide_eq_false (by omega),Bool.false_and]
theorem HO:ai Tryz.prog T0 Tryz.f161.ntmps (Tryz.f161.body.getD .skip)=true:=by kernel_rfl
theorem Lm(p:List UInt8)(hp:p.length<=9223372036854775807):az Tryz.prog 161 [.str p] (· =qY (j4 p)):=by
 refine aa pz mixed Tryz.func161 rfl (Nat.le_of_ble_eq_true rfl) HO ?_;unfold Tryz.f161;simp-implicitDefEqProofs (disch:=(first|omega|decide)) only[go_sem,↓reduceIte,seval]
 refine ao [0] (ι:={k:Nat//k<=p.length/\cut p p.length=cut p k}) (fun k=>[(4,.int .i64 k.1)]) (fun _=>[]) (fun k=>k.1) ⟨p.length,by simp⟩ (by simp[T0,vy]) ?_ ?_
 · simp-implicitDefEqProofs (disch:=(first|omega|decide)) only[go_sem,↓reduceIte,seval]
 · rintro⟨k,hk,hc⟩
   cases k with
   |zero=>
    have z:((0:Nat):Int)=0:=rfl;have h0: ¬(0:Int)<0:=by omega
    have hz:((0:Int)==0)=true:=rfl;simp-implicitDefEqProofs (disch:=(first|omega|decide)) only[go_sem,↓reduceIte,seval,z,h0,hz]
    simp[j4,qY,hc,cut]
   |succ k=>
    have h0:(0:Int)<((k+1:Nat):Int):=by omega
    have h1:((k+1:Nat):Int)-1=(k:Int):=by omega
    have e1:p[k]? =some p[k]:=List.getElem?_eq_getElem (by omega)
    have aw:=(p[k]).toNat_lt;by_cases vA:p[k]=255
    · have he: ¬(((p[k]).toNat:Int)<255):=by rw[vA];decide
      simp-implicitDefEqProofs (disch:=(first|omega|decide)) only[go_sem,↓reduceIte,seval,h0,h1,he,wrap_i64,gS]
      refine⟨⟨k,by omega, ?_⟩,rfl,by simp⟩
      rw[hc]
      simp[cut,e1,vA]
    · have he:(((p[k]).toNat:Int)<255):=by
       have:(p[k]).toNat≠255:=fun e=>vA (UInt8.toNat_inj.1 (by rw[e];rfl))
       omega
      have HK:cut p p.length=k+1:=by rw[hc];simp[cut,e1,vA]
      have hw:=Wp vA;have S6:(0:Int)<=0:=by omega
      have ye:(0:Int)<=k:=by omega
      have hle:(k:Int)<=(p.length:Int):=by omega
      have cQ:=fw [p[k]+1]
      simp only[dh,List.map_cons,List.map_nil,gS]at cQ;simp-implicitDefEqProofs (disch:=(first|omega|decide)) only[go_sem,↓reduceIte,seval,HK,hw,cQ,fw,kP,h0,h1,he,S6,ye,hle,wrap_i64,gS]
      refine⟨by rw[List.length_take];omega, ?_⟩
      rw[j4,if_neg (by rw[HK];omega),HK]
      simp only[Nat.add_sub_cancel,qY]
      have:p.getD k 0=p[k]:=by simp[e1]
      rw[this]
def Tw:aj:=OU.add 122 (entry (fun(s:List UInt8)=>[.str s]) (fun s=>s.length<=9223372036854775807) (fun s=> .bool (decide (1<=s.length/\s.length<=16))))
theorem aaf:ag Tryz.prog Tw:=aae.bG Tryz.func122 (by kernel_rfl) (by kernel_rfl) fun s h=>rH s h
@[go_sem] theorem T06f_old{g:FuncId}{xs:List A}(h:g≠122):Tw.f g xs=OU.f g xs:=aj.ak h
theorem Tx(s:List UInt8)(h:s.length<=9223372036854775807):Tw.f 122 [.str s]=some (.bool (decide (1<=s.length/\s.length<=16))):=aj.an (Γ:=OU) (fun i j h=>by simpa[Prod.ext_iff,and_assoc]using h) s h
def Ty:aj:=Tw.add 85 (entry (fun(p:List UInt8×List UInt8)=>[.str p.1,.str p.2]) (fun p=>p.1.length<=9223372036854775807/\p.2.length<=9223372036854775807) (fun p=> .bool (ck p.1 p.2== -1)))
theorem aag:ag Tryz.prog Ty:=aaf.bG Tryz.func85 (by kernel_rfl) (by kernel_rfl) fun p h=>tN p.1 p.2 h.1 h.2
@[go_sem] theorem T06g_old{g:FuncId}{xs:List A}(h:g≠85):Ty.f g xs=Tw.f g xs:=aj.ak h
theorem yk(p:List UInt8×List UInt8)(h:p.1.length<=9223372036854775807/\p.2.length<=9223372036854775807):Ty.f 85 [.str p.1,.str p.2]=some (.bool (ck p.1 p.2== -1)):=aj.an (Γ:=Tw) (fun i j h=>by simpa[Prod.ext_iff,and_assoc]using h) p h
def Ws:aj:=Ty.add 198 (entry (fun(p:List UInt8×List UInt8)=>[.str p.1,.str p.2]) (fun p=>p.1.length<=9223372036854775807/\p.2.length<=9223372036854775807) (fun p=> .bool (HN p.1 p.2)))
theorem aah:ag Tryz.prog Ws:=aag.bG Tryz.func198 (by kernel_rfl) (by kernel_rfl) fun p h=>AY p.1 p.2 h.1 h.2
@[go_sem] theorem T06h_old{g:FuncId}{xs:List A}(h:g≠198):Ws.f g xs=Ty.f g xs:=aj.ak h
def Tz:aj:=Ws.add 161 (entry (fun(s:List UInt8)=>[.str s]) (fun s=>s.length<=9223372036854775807) (fun s=>qY (j4 s)))
theorem aai:ag Tryz.prog Tz:=aah.bG Tryz.func161 (by kernel_rfl) (by kernel_rfl) fun s h=>Lm s h
@[go_sem] theorem T06i_old{g:FuncId}{xs:List A}(h:g≠161):Tz.f g xs=Ws.f g xs:=aj.ak h
theorem AZ(s:List UInt8)(h:s.length<=9223372036854775807):Tz.f 161 [.str s]=some (qY (j4 s)):=aj.an (Γ:=Ws) (fun i j h=>by simpa[Prod.ext_iff,and_assoc]using h) s h
@[go_sem] theorem HP{a b:List UInt8}(h:a.length<=9223372036854775807)(h':b.length<=9223372036854775807):Ty.f 85 [.str a,.str b]=some (.bool (ck a b== -1)):=yk (a,b) ⟨h,h'⟩
@[go_sem] theorem t_ref06_End{s:List UInt8}(h:s.length<=9223372036854775807):Tz.f 161 [.str s]=some (qY (j4 s)):=AZ s h
theorem iK(a b:UInt8)(x y:List UInt8):ck (a::x) (b::y)=if a.toNat<b.toNat then-1 else if b.toNat<a.toNat then 1 else ck x y:=by
 simp only[ck]
 by_cases h1:a.toNat<b.toNat
 · rw[if_pos h1,if_pos (show a<b from h1)]
 · rw[if_neg h1,if_neg (show¬a<b from h1)]
   by_cases h2:b.toNat<a.toNat
   · rw[if_pos h2,if_pos (show b<a from h2)]
   · rw[if_neg h2,if_neg (show¬b<a from h2)]
theorem Gl: ∀a b:List UInt8,ck a b= -1\/ck a b=0\/ck a b=1
 | [],[]=> .inr (.inl rfl)
 | [],_::_=> .inl rfl
 |_::_,[]=> .inr (.inr rfl)
 |a::x,b::y=>by
  simp only[ck]
  split
  · exact .inl rfl
  · split
    · exact .inr (.inr rfl)
    · exact Gl x y
theorem zD: ∀a b:List UInt8,ck b a= -ck a b
 | [],[]=>rfl
 | [],_::_=>rfl
 |_::_,[]=>rfl
 |a::x,b::y=>by
  have ih:=zD x y;simp only[iK]
  by_cases h1:a.toNat<b.toNat
  · rw[if_neg (by omega),if_pos h1,if_pos h1];rfl
  · by_cases h2:b.toNat<a.toNat
    · rw[if_pos h2,if_neg h1,if_pos h2]
    · rw[if_neg h2,if_neg h1,if_neg h1,if_neg h2];exact ih
theorem A0: ∀{a b:List UInt8},ck a b=0 ↔ a=b
 | [],[]=>by simp[ck]
 | [],_::_=>by simp[ck]
 |_::_,[]=>by simp[ck]
 |a::x,b::y=>by
  have ih:=A0 (a:=x) (b:=y)
  simp only[iK]
  by_cases h1:a.toNat<b.toNat
  · rw[if_pos h1]
    have:a≠b:=fun e=>by subst e;omega
    simp[this]
  · by_cases h2:b.toNat<a.toNat
    · rw[if_neg h1,if_pos h2]
      have:a≠b:=fun e=>by subst e;omega
      simp[this]
    · rw[if_neg h1,if_neg h2,ih]
      have:a=b:=UInt8.toNat_inj.1 (by omega)
      simp[this]
theorem pC(a:List UInt8):ck a a=0:=A0.2 rfl
theorem Gm: ∀{a b c:List UInt8},ck a b= -1->ck b c= -1->ck a c= -1
 | [],[],_,h,_=>by simp[ck]at h
 | [],_::_,[],_,h=>by simp[ck]at h
 | [],_::_,_::_,_,_=>rfl
 |_::_,[],_,h,_=>by simp[ck]at h
 |_::_,_::_,[],_,h=>by simp[ck]at h
 |a::x,b::y,c::z,h1,h2=>by
  have ih:= @Gm x y z;simp only[iK]at h1 h2⊢;split at h1
  · split at h2
    · rw[if_pos (by omega)]
    · split at h2
      · simp at h2
      · rw[if_pos (by omega)]
  · split at h1
    · simp at h1
    · split at h2
      · rw[if_pos (by omega)]
      · split at h2
        · simp at h2
        · rw[if_neg (by omega),if_neg (by omega)]
          exact ih h1 h2
def aQ(a b:List UInt8):Bool:=ck a b== -1
theorem lt_irrefl(a:List UInt8):aQ a a=false:=by simp[aQ,pC]
theorem bW{a b c:List UInt8}(h1:aQ a b=true)(h2:aQ b c=true):aQ a c=true:=by simp only[aQ,beq_iff_eq]at*;exact Gm h1 h2
theorem eR{a b:List UInt8}(h1:aQ a b=true):aQ b a=false:=by simp only[aQ,beq_iff_eq]at h1;simp[aQ,zD a b,h1]
theorem me(a b:List UInt8):aQ a b=true\/a=b\/aQ b a=true:=by
 rcases Gl a b with h|h|h
 · exact .inl (by simp[aQ,h])
 · exact .inr (.inl (A0.1 h))
 · exact .inr (.inr (by simp[aQ,zD a b,h]))
theorem mG{a b:List UInt8}(h:aQ a b=true):ck a b= -1:=by simpa[aQ]using h
theorem qE{a b:List UInt8}(h:aQ b a=true):ck a b=1:=by rw[zD,mG h];rfl
theorem lt_next: ∀s:List UInt8,aQ s (s++[0])=true
 | []=>rfl
 |c::s=>by
  have:=lt_next s;simp only[aQ,beq_iff_eq]at this⊢;simp only[List.cons_append,iK]
  rw[if_neg (by omega),if_neg (by omega)];exact this
theorem A1: ∀{s t:List UInt8},aQ s t=true->aQ t (s++[0])=false
 | [],[],h=>by simp[aQ,ck]at h
 | [],c::t,_=>by
  simp only[aQ,List.nil_append,iK]
  have h0:(0:UInt8).toNat=0:=rfl;rw[h0,if_neg (by omega)]
  split
  · rfl
  · cases t<;>rfl
 |_::_,[],h=>by simp[aQ,ck]at h
 |c::s,d::t,h=>by
  have ih:= @A1 s t;simp only[aQ,List.cons_append,iK]at h ih⊢;split at h
  · rw[if_neg (by omega),if_pos (by omega)];rfl
  · split at h
    · simp at h
    · rw[if_neg (by omega),if_neg (by omega)];exact ih h
def TA:List UInt8->Option (List UInt8)
 | []=>none
 |c::p=>match TA p with
  |some e=>some (c::e)
  |none=>if c=255 then none else some [c+1]
theorem OV(p:List UInt8): ∀n,cut p n<=n
 |0=>Nat.le_refl _
 |n+1=>by
  simp only[cut]
  split
  · exact Nat.le_succ_of_le (OV p n)
  · exact Nat.le_refl _
theorem Ln(c:UInt8)(p:List UInt8): ∀n,cut (c::p) (n+1)=if cut p n=0 then(if c=255 then 0 else 1)else cut p n+1
 |0=>by simp[cut]
 |n+1=>by
  have ih:=Ln c p n;rw[cut]
  simp only[List.getD_cons_succ]
  rw[ih]
  by_cases h:p.getD n 0=255
  · rw[if_pos h]
    simp only[cut,if_pos h]
  · rw[if_neg h]
    simp only[cut,if_neg h]
    rw[if_neg (by omega)]
theorem Re: ∀p:List UInt8,j4 p=TA p
 | []=>rfl
 |c::p=>by
  have ih:=Re p;have hc:=Ln c p p.length;have hle:=OV p p.length;simp only[TA,<-ih]
  unfold j4;rw[List.length_cons,hc]
  by_cases h0:cut p p.length=0
  · rw[if_pos h0]
    simp only[h0,if_true]
    by_cases h:c=255
    · simp[h]
    · simp[h]
  · rw[if_neg h0]
    simp only[if_neg h0]
    rw[if_neg (by omega)]
    have e:cut p p.length+1-1=(cut p p.length-1)+1:=by omega
    rw[e]
    simp
def aaj:aj:=Tz
theorem aak:ag Tryz.prog aaj:=aai
@[go_sem] theorem T06j_old{g:FuncId}{xs:List A}:aaj.f g xs=Tz.f g xs:=rfl
def Wt:aj:=aaj
theorem aal:ag Tryz.prog Wt:=aak
@[go_sem] theorem T06k_old{g:FuncId}{xs:List A}:Wt.f g xs=aaj.f g xs:=rfl
def A2:aj:=Wt
theorem nF:ag Tryz.prog A2:=aal
@[go_sem] theorem T06l_old{g:FuncId}{xs:List A}:A2.f g xs=Wt.f g xs:=rfl
@[go_sem] theorem T06l_s:A2.pl Wt:=⟨fun _=>rfl,fun _=>rfl,rfl,fun _=>rfl,rfl,fun _=>rfl,rfl⟩
@[go_sem] theorem cmp_le0{a b:List UInt8}:decide (ck a b<=0)= !aQ b a:=by
 rcases me a b with h|h|h
 · rw[mG h,eR h];rfl
 · subst h;rw[pC,lt_irrefl];rfl
 · rw[qE h,h];rfl
@[go_sem] theorem tO{a b:List UInt8}:decide (ck a b<0)=aQ a b:=by
 rcases me a b with h|h|h
 · rw[mG h,h];rfl
 · subst h;rw[pC,lt_irrefl];rfl
 · rw[qE h,eR h];rfl
@[go_sem] theorem cmp_gt0{a b:List UInt8}:decide (0<ck a b)=aQ b a:=by
 rcases me a b with h|h|h
 · rw[mG h,eR h];rfl
 · subst h;rw[pC,lt_irrefl];rfl
 · rw[qE h,h];rfl
@[go_sem] theorem cmp_ge0{a b:List UInt8}:decide (0<=ck a b)= !aQ a b:=by
 rcases me a b with h|h|h
 · rw[mG h,h];rfl
 · subst h;rw[pC,lt_irrefl];rfl
 · rw[qE h,eR h];rfl
@[go_sem] theorem cmp_eqm1{a b:List UInt8}:(ck a b== -1)=aQ a b:=rfl
structure ax where
 lo:List UInt8
 hi:List UInt8
 op:Bool
 deriving DecidableEq
def ax.enc(r:ax):A:= .agg [.str r.lo,.str r.hi,.bool r.op]
@[go_sem] theorem ax.sm{a b:List UInt8}{c:Bool}:ax.enc ⟨a,b,c⟩= .agg [.str a,.str b,.bool c]:=rfl
theorem ax.d_(r s:ax)(h:r.enc=s.enc):r=s:=by cases r;cases s;simpa[ax.enc]using h
def ax.zero:ax:=⟨[],[],false⟩
def ax.ok(r:ax):Prop:=r.lo.length<=9223372036854775807/\r.hi.length<=9223372036854775807
def ay(r:ax):Bool:=decide (r.lo.length<=17)&&decide (r.hi.length<=17)&&(if r.op then r.hi==[]else aQ r.lo r.hi)
def cg(r:ax)(s:List UInt8):Bool:=ay r&& !aQ s r.lo&&(r.op||aQ s r.hi)
def mH(k:List UInt8):ax:=if 16<k.length then ax.zero else⟨k,k++[0],false⟩
def jJ(p:List UInt8):ax:=if 16<p.length then ax.zero else⟨p,(j4 p).getD [],(j4 p).isNone⟩
def oq(a b:ax):Int:=if !ay a|| !ay b||(a.op&&b.op)then 0 else if a.op then 1 else if b.op then-1 else ck a.hi b.hi
theorem Lo:ai Tryz.prog T0 Tryz.f193.ntmps (Tryz.f193.body.getD .skip)=true:=by kernel_rfl
theorem A3:az Tryz.prog 193 [] (· = .agg [.str [],.str [],.bool true]):=by refine aa pz mixed Tryz.func193 rfl (Nat.le_of_ble_eq_true rfl) Lo ?_;unfold Tryz.f193;simp-implicitDefEqProofs (disch:=(first|omega|decide)) only[go_sem,↓reduceIte,seval]
theorem OW:ai Tryz.prog A2 Tryz.f154.ntmps (Tryz.f154.body.getD .skip)=true:=by kernel_rfl
theorem Gn(k:List UInt8)(hk:k.length<=9223372036854775807):az Tryz.prog 154 [.str k] (· =(mH k).enc):=by
 refine aa nF mixed Tryz.func154 rfl (Nat.le_of_ble_eq_true rfl) OW ?_;unfold Tryz.f154;by_cases h:(16:Int)<k.length
 · have e:mH k=ax.zero:=if_pos (by omega)
   simp-implicitDefEqProofs (disch:=(first|omega|decide)) only[go_sem,↓reduceIte,seval,h,e,ax.zero]
 · have e:mH k=⟨k,k++[0],false⟩:=if_neg (by omega)
   have Tf:k.length<9223372036854775807:=by omega
   simp-implicitDefEqProofs (disch:=(first|omega|decide)) only[go_sem,↓reduceIte,seval,h,e]
theorem Lp:ai Tryz.prog A2 Tryz.f152.ntmps (Tryz.f152.body.getD .skip)=true:=by kernel_rfl
theorem A4(k:List UInt8)(hk:k.length<=9223372036854775807):az Tryz.prog 152 [.str k] (· =(mH k).enc):=by
 refine aa nF mixed Tryz.func152 rfl (Nat.le_of_ble_eq_true rfl) Lp ?_;unfold Tryz.f152;by_cases h:(16:Int)<k.length
 · have e:mH k=ax.zero:=if_pos (by omega)
   simp-implicitDefEqProofs (disch:=(first|omega|decide)) only[go_sem,↓reduceIte,seval,h,e,ax.zero]
 · have e:mH k=⟨k,k++[0],false⟩:=if_neg (by omega)
   have cQ:=fw [0]
   simp only[dh,List.map_cons,List.map_nil,gS]at cQ;have hz:((0:UInt8).toNat:Int)=0:=rfl;rw[hz]at cQ;simp-implicitDefEqProofs (disch:=(first|omega|decide)) only[go_sem,↓reduceIte,seval,h,e,cQ,kP]
   omega
theorem A5:ai Tryz.prog A2 Tryz.f194.ntmps (Tryz.f194.body.getD .skip)=true:=by kernel_rfl
theorem DY(p:List UInt8)(hp:p.length<=9223372036854775807):az Tryz.prog 194 [.str p] (· =(jJ p).enc):=by
 refine aa nF mixed Tryz.func194 rfl (Nat.le_of_ble_eq_true rfl) A5 ?_;unfold Tryz.f194;by_cases h:(16:Int)<p.length
 · have e:jJ p=ax.zero:=if_pos (by omega)
   simp-implicitDefEqProofs (disch:=(first|omega|decide)) only[go_sem,↓reduceIte,seval,h,e,ax.zero]
 · have e:jJ p=⟨p,(j4 p).getD [],(j4 p).isNone⟩:=if_neg (by omega)
   cases he:j4 p with
   |none=>simp-implicitDefEqProofs (disch:=(first|omega|decide)) only[go_sem,↓reduceIte,seval,h,e,he,qY]
   |some x=>simp-implicitDefEqProofs (disch:=(first|omega|decide)) only[go_sem,↓reduceIte,seval,h,e,he,qY]
theorem ym:ai Tryz.prog A2 Tryz.f106.ntmps (Tryz.f106.body.getD .skip)=true:=by kernel_rfl
theorem A6(p:List UInt8)(hp:p.length<=9223372036854775807):az Tryz.prog 106 [.str p] (· =(jJ p).enc):=by
 refine aa nF mixed Tryz.func106 rfl (Nat.le_of_ble_eq_true rfl) ym ?_;unfold Tryz.f106;by_cases h:(16:Int)<p.length
 · have e:jJ p=ax.zero:=if_pos (by omega)
   simp-implicitDefEqProofs (disch:=(first|omega|decide)) only[go_sem,↓reduceIte,seval,h,e,ax.zero]
 · have e:jJ p=⟨p,(j4 p).getD [],(j4 p).isNone⟩:=if_neg (by omega)
   cases he:j4 p with
   |none=>simp-implicitDefEqProofs (disch:=(first|omega|decide)) only[go_sem,↓reduceIte,seval,h,e,he,qY]
   |some x=>simp-implicitDefEqProofs (disch:=(first|omega|decide)) only[go_sem,↓reduceIte,seval,h,e,he,qY]
theorem DZ:ai Tryz.prog A2 Tryz.f142.ntmps (Tryz.f142.body.getD .skip)=true:=by kernel_rfl
theorem tP(lo hi:List UInt8)(op:Bool)(h1:lo.length<=9223372036854775807)(h2:hi.length<=9223372036854775807):az Tryz.prog 142 [.agg [.str lo,.str hi,.bool op]] (· = .bool (ay ⟨lo,hi,op⟩)):=by
 refine aa nF mixed Tryz.func142 rfl (Nat.le_of_ble_eq_true rfl) DZ ?_;unfold Tryz.f142;by_cases g1:lo.length<=17
 · by_cases g2:hi.length<=17
   · cases op<;>simp-implicitDefEqProofs (disch:=(first|omega|decide)) only[go_sem,↓reduceIte,seval,g1,g2,ay]
   · simp-implicitDefEqProofs (disch:=(first|omega|decide)) only[go_sem,↓reduceIte,seval,g1,g2,ay]
 · simp-implicitDefEqProofs (disch:=(first|omega|decide)) only[go_sem,↓reduceIte,seval,g1,ay]
theorem A7:ai Tryz.prog A2 Tryz.f132.ntmps (Tryz.f132.body.getD .skip)=true:=by kernel_rfl
theorem rI(lo hi:List UInt8)(op:Bool)(h1:lo.length<=9223372036854775807)(h2:hi.length<=9223372036854775807):az Tryz.prog 132 [.agg [.str lo,.str hi,.bool op]] (· = .bool (ay ⟨lo,hi,op⟩)):=by
 refine aa nF mixed Tryz.func132 rfl (Nat.le_of_ble_eq_true rfl) A7 ?_;unfold Tryz.f132;by_cases g1:lo.length<=17
 · have f1: ¬(17:Int)<lo.length:=by omega
   by_cases g2:hi.length<=17
   · have f2: ¬(17:Int)<hi.length:=by omega
     cases op<;>simp-implicitDefEqProofs (disch:=(first|omega|decide)) only[go_sem,↓reduceIte,seval,g1,g2,f1,f2,ay]
   · have f2:(17:Int)<hi.length:=by omega
     simp-implicitDefEqProofs (disch:=(first|omega|decide)) only[go_sem,↓reduceIte,seval,g1,g2,f1,f2,ay]
 · have f1:(17:Int)<lo.length:=by omega
   simp-implicitDefEqProofs (disch:=(first|omega|decide)) only[go_sem,↓reduceIte,seval,g1,f1,ay]
def Wu:aj:=A2.add 193 (entry (fun(u:Unit)=>[]) (fun u=>True) (fun u=> .agg [.str [],.str [],.bool true]))
theorem aam:ag Tryz.prog Wu:=nF.bG Tryz.func193 (by kernel_rfl) (by kernel_rfl) fun u h=>A3
@[go_sem] theorem T07a_old{g:FuncId}{xs:List A}(h:g≠193):Wu.f g xs=A2.f g xs:=aj.ak h
def Wv:aj:=Wu.add 154 (entry (fun(k:List UInt8)=>[.str k]) (fun k=>k.length<=9223372036854775807) (fun k=>(mH k).enc))
theorem aan:ag Tryz.prog Wv:=aam.bG Tryz.func154 (by kernel_rfl) (by kernel_rfl) fun k h=>Gn k h
@[go_sem] theorem T07b_old{g:FuncId}{xs:List A}(h:g≠154):Wv.f g xs=Wu.f g xs:=aj.ak h
theorem aao(k:List UInt8)(h:k.length<=9223372036854775807):Wv.f 154 [.str k]=some ((mH k).enc):=aj.an (Γ:=Wu) (fun i j h=>by simpa[Prod.ext_iff,and_assoc]using h) k h
def aap:aj:=Wv.add 152 (entry (fun(k:List UInt8)=>[.str k]) (fun k=>k.length<=9223372036854775807) (fun k=>(mH k).enc))
theorem aaq:ag Tryz.prog aap:=aan.bG Tryz.func152 (by kernel_rfl) (by kernel_rfl) fun k h=>A4 k h
@[go_sem] theorem T07c_old{g:FuncId}{xs:List A}(h:g≠152):aap.f g xs=Wv.f g xs:=aj.ak h
def aar:aj:=aap.add 194 (entry (fun(k:List UInt8)=>[.str k]) (fun k=>k.length<=9223372036854775807) (fun k=>(jJ k).enc))
theorem aas:ag Tryz.prog aar:=aaq.bG Tryz.func194 (by kernel_rfl) (by kernel_rfl) fun k h=>DY k h
@[go_sem] theorem T07d_old{g:FuncId}{xs:List A}(h:g≠194):aar.f g xs=aap.f g xs:=aj.ak h
def Ww:aj:=aar.add 106 (entry (fun(k:List UInt8)=>[.str k]) (fun k=>k.length<=9223372036854775807) (fun k=>(jJ k).enc))
theorem aat:ag Tryz.prog Ww:=aas.bG Tryz.func106 (by kernel_rfl) (by kernel_rfl) fun k h=>A6 k h
@[go_sem] theorem T07e_old{g:FuncId}{xs:List A}(h:g≠106):Ww.f g xs=aar.f g xs:=aj.ak h
def Lq:aj:=Ww.add 142 (entry (fun(r:List UInt8×List UInt8×Bool)=>[.agg [.str r.1,.str r.2.1,.bool r.2.2]]) (fun r=>r.1.length<=9223372036854775807/\r.2.1.length<=9223372036854775807) (fun r=> .bool (ay ⟨r.1,r.2.1,r.2.2⟩)))
theorem aau:ag Tryz.prog Lq:=aat.bG Tryz.func142 (by kernel_rfl) (by kernel_rfl) fun r h=>tP r.1 r.2.1 r.2.2 h.1 h.2
@[go_sem] theorem T07f_old{g:FuncId}{xs:List A}(h:g≠142):Lq.f g xs=Ww.f g xs:=aj.ak h
theorem yn(r:List UInt8×List UInt8×Bool)(h:r.1.length<=9223372036854775807/\r.2.1.length<=9223372036854775807):Lq.f 142 [.agg [.str r.1,.str r.2.1,.bool r.2.2]]=some (.bool (ay ⟨r.1,r.2.1,r.2.2⟩)):=aj.an (Γ:=Ww) (fun i j h=>by simpa[Prod.ext_iff,and_assoc]using h) r h
def A8:aj:=Lq.add 132 (entry (fun(r:List UInt8×List UInt8×Bool)=>[.agg [.str r.1,.str r.2.1,.bool r.2.2]]) (fun r=>r.1.length<=9223372036854775807/\r.2.1.length<=9223372036854775807) (fun r=> .bool (ay ⟨r.1,r.2.1,r.2.2⟩)))
theorem zF:ag Tryz.prog A8:=aau.bG Tryz.func132 (by kernel_rfl) (by kernel_rfl) fun r h=>rI r.1 r.2.1 r.2.2 h.1 h.2
@[go_sem] theorem T07g_old{g:FuncId}{xs:List A}(h:g≠132):A8.f g xs=Lq.f g xs:=aj.ak h
@[go_sem] theorem T07g_s:A8.pl Lq:=⟨fun _=>rfl,fun _=>rfl,rfl,fun _=>rfl,rfl,fun _=>rfl,rfl⟩
theorem vB(r:List UInt8×List UInt8×Bool)(h:r.1.length<=9223372036854775807/\r.2.1.length<=9223372036854775807):A8.f 132 [.agg [.str r.1,.str r.2.1,.bool r.2.2]]=some (.bool (ay ⟨r.1,r.2.1,r.2.2⟩)):=aj.an (Γ:=Lq) (fun i j h=>by simpa[Prod.ext_iff,and_assoc]using h) r h
@[go_sem] theorem aav{lo hi:List UInt8}{op:Bool}(h1:lo.length<=9223372036854775807)(h2:hi.length<=9223372036854775807):Lq.f 142 [.agg [.str lo,.str hi,.bool op]]=some (.bool (ay ⟨lo,hi,op⟩)):=yn (lo,hi,op) ⟨h1,h2⟩
@[go_sem] theorem Zw{lo hi:List UInt8}{op:Bool}(h1:lo.length<=9223372036854775807)(h2:hi.length<=9223372036854775807):A8.f 132 [.agg [.str lo,.str hi,.bool op]]=some (.bool (ay ⟨lo,hi,op⟩)):=vB (lo,hi,op) ⟨h1,h2⟩
theorem Lr:ai Tryz.prog A8 Tryz.f128.ntmps (Tryz.f128.body.getD .skip)=true:=by kernel_rfl
theorem A9(lo hi s:List UInt8)(op:Bool)(h1:lo.length<=9223372036854775807)(h2:hi.length<=9223372036854775807)(h3:s.length<=9223372036854775807):az Tryz.prog 128 [.agg [.str lo,.str hi,.bool op],.str s] (· = .bool (cg ⟨lo,hi,op⟩ s)):=by
 refine aa zF mixed Tryz.func128 rfl (Nat.le_of_ble_eq_true rfl) Lr ?_;unfold Tryz.f128;have e:cg ⟨lo,hi,op⟩ s=(ay ⟨lo,hi,op⟩&& !aQ s lo&&(op||aQ s hi)):=rfl;rw[e]
 cases g1:ay ⟨lo,hi,op⟩
 · simp-implicitDefEqProofs (disch:=(first|omega|decide)) only[go_sem,↓reduceIte,seval,g1]
 · cases g2:aQ s lo
   · cases g3:op
     · rw[g3]at g1;simp-implicitDefEqProofs (disch:=(first|omega|decide)) only[go_sem,↓reduceIte,seval,g1,g2,g3]
     · rw[g3]at g1;simp-implicitDefEqProofs (disch:=(first|omega|decide)) only[go_sem,↓reduceIte,seval,g1,g2,g3]
   · simp-implicitDefEqProofs (disch:=(first|omega|decide)) only[go_sem,↓reduceIte,seval,g1,g2]
theorem HQ:ai Tryz.prog A8 Tryz.f96.ntmps (Tryz.f96.body.getD .skip)=true:=by kernel_rfl
theorem xC(lo hi s:List UInt8)(op:Bool)(h1:lo.length<=9223372036854775807)(h2:hi.length<=9223372036854775807)(h3:s.length<=9223372036854775807):az Tryz.prog 96 [.agg [.str lo,.str hi,.bool op],.str s] (· = .bool (cg ⟨lo,hi,op⟩ s)):=by
 refine aa zF mixed Tryz.func96 rfl (Nat.le_of_ble_eq_true rfl) HQ ?_;unfold Tryz.f96;have e:cg ⟨lo,hi,op⟩ s=(ay ⟨lo,hi,op⟩&& !aQ s lo&&(op||aQ s hi)):=rfl;rw[e]
 cases g1:ay ⟨lo,hi,op⟩
 · simp-implicitDefEqProofs (disch:=(first|omega|decide)) only[go_sem,↓reduceIte,seval,g1,HP]
 · cases g2:aQ s lo
   · cases g3:op
     · rw[g3]at g1;simp-implicitDefEqProofs (disch:=(first|omega|decide)) only[go_sem,↓reduceIte,seval,g1,g2,g3]
     · rw[g3]at g1;simp-implicitDefEqProofs (disch:=(first|omega|decide)) only[go_sem,↓reduceIte,seval,g1,g2,g3]
   · simp-implicitDefEqProofs (disch:=(first|omega|decide)) only[go_sem,↓reduceIte,seval,g1,g2]
theorem HR:ai Tryz.prog A8 Tryz.f173.ntmps (Tryz.f173.body.getD .skip)=true:=by kernel_rfl
theorem Ls(a b:ax)(ha:a.ok)(hb:b.ok):az Tryz.prog 173 [.agg [.str a.lo,.str a.hi,.bool a.op],.agg [.str b.lo,.str b.hi,.bool b.op]] (· = .int .i64 (oq a b)):=by
 refine aa zF mixed Tryz.func173 rfl (Nat.le_of_ble_eq_true rfl) HR ?_;unfold Tryz.f173;obtain⟨lo,hi,op⟩:=a;obtain⟨gm,eW,lW⟩:=b;obtain⟨h1,h2⟩:=ha;obtain⟨h3,h4⟩:=hb;simp only at h1 h2 h3 h4⊢;unfold oq;cases g1:ay ⟨lo,hi,op⟩
 · simp-implicitDefEqProofs (disch:=(first|omega|decide)) only[go_sem,↓reduceIte,seval,g1]
 · cases g2:ay ⟨gm,eW,lW⟩
   · simp-implicitDefEqProofs (disch:=(first|omega|decide)) only[go_sem,↓reduceIte,seval,g1,g2]
   · cases op<;>cases lW<;>simp-implicitDefEqProofs (disch:=(first|omega|decide)) only[go_sem,↓reduceIte,seval,g1,g2]
def OX:aj:=A8.add 128 (entry (fun(r:List UInt8×List UInt8×Bool×List UInt8)=>[.agg [.str r.1,.str r.2.1,.bool r.2.2.1],.str r.2.2.2]) (fun r=>r.1.length<=9223372036854775807/\r.2.1.length<=9223372036854775807/\r.2.2.2.length<=9223372036854775807) (fun r=> .bool (cg ⟨r.1,r.2.1,r.2.2.1⟩ r.2.2.2)))
theorem aaw:ag Tryz.prog OX:=zF.bG Tryz.func128 (by kernel_rfl) (by kernel_rfl) fun r h=>A9 r.1 r.2.1 r.2.2.2 r.2.2.1 h.1 h.2.1 h.2.2
@[go_sem] theorem T07h_old{g:FuncId}{xs:List A}(h:g≠128):OX.f g xs=A8.f g xs:=aj.ak h
theorem D0(r:List UInt8×List UInt8×Bool×List UInt8)(h:r.1.length<=9223372036854775807/\r.2.1.length<=9223372036854775807/\r.2.2.2.length<=9223372036854775807):OX.f 128 [.agg [.str r.1,.str r.2.1,.bool r.2.2.1],.str r.2.2.2]=some (.bool (cg ⟨r.1,r.2.1,r.2.2.1⟩ r.2.2.2)):=aj.an (Γ:=A8) (fun i j h=>by simpa[Prod.ext_iff,and_assoc]using h) r h
def OY:aj:=OX.add 96 (entry (fun(r:List UInt8×List UInt8×Bool×List UInt8)=>[.agg [.str r.1,.str r.2.1,.bool r.2.2.1],.str r.2.2.2]) (fun r=>r.1.length<=9223372036854775807/\r.2.1.length<=9223372036854775807/\r.2.2.2.length<=9223372036854775807) (fun r=> .bool (cg ⟨r.1,r.2.1,r.2.2.1⟩ r.2.2.2)))
theorem aax:ag Tryz.prog OY:=aaw.bG Tryz.func96 (by kernel_rfl) (by kernel_rfl) fun r h=>xC r.1 r.2.1 r.2.2.2 r.2.2.1 h.1 h.2.1 h.2.2
@[go_sem] theorem T07i_old{g:FuncId}{xs:List A}(h:g≠96):OY.f g xs=OX.f g xs:=aj.ak h
theorem A_(r:List UInt8×List UInt8×Bool×List UInt8)(h:r.1.length<=9223372036854775807/\r.2.1.length<=9223372036854775807/\r.2.2.2.length<=9223372036854775807):OY.f 96 [.agg [.str r.1,.str r.2.1,.bool r.2.2.1],.str r.2.2.2]=some (.bool (cg ⟨r.1,r.2.1,r.2.2.1⟩ r.2.2.2)):=aj.an (Γ:=OX) (fun i j h=>by simpa[Prod.ext_iff,and_assoc]using h) r h
@[go_sem] theorem t_span_Has{lo hi s:List UInt8}{op:Bool}(h1:lo.length<=9223372036854775807)(h2:hi.length<=9223372036854775807)(h3:s.length<=9223372036854775807):OX.f 128 [.agg [.str lo,.str hi,.bool op],.str s]=some (.bool (cg ⟨lo,hi,op⟩ s)):=D0 (lo,hi,op,s) ⟨h1,h2,h3⟩
@[go_sem] theorem t_ref07_Has{lo hi s:List UInt8}{op:Bool}(h1:lo.length<=9223372036854775807)(h2:hi.length<=9223372036854775807)(h3:s.length<=9223372036854775807):OY.f 96 [.agg [.str lo,.str hi,.bool op],.str s]=some (.bool (cg ⟨lo,hi,op⟩ s)):=A_ (lo,hi,op,s) ⟨h1,h2,h3⟩
def OZ:aj:=OY.add 173 (entry (fun(r:(List UInt8×List UInt8×Bool)×List UInt8×List UInt8×Bool)=>[.agg [.str r.1.1,.str r.1.2.1,.bool r.1.2.2],.agg [.str r.2.1,.str r.2.2.1,.bool r.2.2.2]]) (fun r=>ax.ok ⟨r.1.1,r.1.2.1,r.1.2.2⟩/\ax.ok ⟨r.2.1,r.2.2.1,r.2.2.2⟩) (fun r=> .int .i64 (oq ⟨r.1.1,r.1.2.1,r.1.2.2⟩ ⟨r.2.1,r.2.2.1,r.2.2.2⟩)))
theorem aay:ag Tryz.prog OZ:=aax.bG Tryz.func173 (by kernel_rfl) (by kernel_rfl) fun r h=>Ls ⟨r.1.1,r.1.2.1,r.1.2.2⟩ ⟨r.2.1,r.2.2.1,r.2.2.2⟩ h.1 h.2
@[go_sem] theorem T07j_old{g:FuncId}{xs:List A}(h:g≠173):OZ.f g xs=OY.f g xs:=aj.ak h
theorem A'(r:(List UInt8×List UInt8×Bool)×List UInt8×List UInt8×Bool)(h:ax.ok ⟨r.1.1,r.1.2.1,r.1.2.2⟩/\ax.ok ⟨r.2.1,r.2.2.1,r.2.2.2⟩):OZ.f 173 [.agg [.str r.1.1,.str r.1.2.1,.bool r.1.2.2],.agg [.str r.2.1,.str r.2.2.1,.bool r.2.2.2]]=some (.int .i64 (oq ⟨r.1.1,r.1.2.1,r.1.2.2⟩ ⟨r.2.1,r.2.2.1,r.2.2.2⟩)):=aj.an (Γ:=OY) (fun i j h=>by simpa[Prod.ext_iff,and_assoc]using h) r h
@[go_sem] theorem t_span_Ends{lo hi gm eW:List UInt8}{op lW:Bool}(h1:lo.length<=9223372036854775807)(h2:hi.length<=9223372036854775807)(h3:gm.length<=9223372036854775807)(h4:eW.length<=9223372036854775807):OZ.f 173 [.agg [.str lo,.str hi,.bool op],.agg [.str gm,.str eW,.bool lW]]=some (.int .i64 (oq ⟨lo,hi,op⟩ ⟨gm,eW,lW⟩)):=A' ((lo,hi,op),gm,eW,lW) ⟨⟨h1,h2⟩,h3,h4⟩
def tQ:aj:=OZ
theorem ff:ag Tryz.prog tQ:=aay
@[go_sem] theorem T07_old{g:FuncId}{xs:List A}:tQ.f g xs=OZ.f g xs:=rfl
@[go_sem] theorem T07_s:tQ.pl OZ:=⟨fun _=>rfl,fun _=>rfl,rfl,fun _=>rfl,rfl,fun _=>rfl,rfl⟩
theorem kj{a b c:List UInt8}(h1:aQ b a=false)(h2:aQ c b=false):aQ c a=false:=by
 cases h:aQ c a with
 |false=>rfl
 |true=>
  rcases me c b with g|g|g
  · rw[g]at h2;cases h2
  · subst g;rw[h]at h1;cases h1
  · rw[bW g h]at h1;cases h1
theorem tR{a b c:List UInt8}(h1:aQ a b=true)(h2:aQ c b=false):aQ a c=true:=by
 rcases me a c with g|g|g
 · exact g
 · subst g;rw[h1]at h2;cases h2
 · rw[bW g h1]at h2;cases h2
theorem aaz(s:List UInt8):aQ s []=false:=by cases s<;>rfl
theorem Wx{p e:List UInt8}(h:j4 p=some e):e.length<=p.length:=by
 unfold j4 at h;split at h
 · cases h
 · obtain rfl:=Option.some.inj h
   have:=OV p p.length;rw[List.length_append,List.length_take]
   simp;omega
theorem Rf: ∀{p e:List UInt8},TA p=some e->aQ p e=true
 | [],e,h=>by simp[TA]at h
 |c::p,e,h=>by
  simp only[TA]at h;split at h
  · rename_i e' he
    obtain rfl:=Option.some.inj h;have:=Rf he;simp only[aQ,beq_iff_eq,iK]at this⊢;rw[if_neg (by omega),if_neg (by omega)];exact this
  · split at h
    · cases h
    · rename_i vA
      obtain rfl:=Option.some.inj h;have Hs:c.toNat≠255:=fun e=>vA (UInt8.toNat_inj.1 (by rw[e];rfl))
      have:=c.toNat_lt
      have hs:(c+1).toNat=c.toNat+1:=by
       rw[UInt8.toNat_add]
       have:(1:UInt8).toNat=1:=rfl;rw[this];omega
      simp only[aQ,beq_iff_eq,iK,hs]
      rw[if_pos (by omega)]
theorem aaA{t:List UInt8}(h:t.length<=16):ay (jJ t)=true:=by
 unfold jJ;rw[if_neg (by omega)]
 cases he:j4 t with
 |none=>simp[ay];omega
 |some e=>
  have h1:=Wx he;have h2:=Rf (by rw[<-Re];exact he)
  simp[ay,h2];omega
theorem Wy{t:List UInt8}(h:t.length<=16):ay (mH t)=true:=by
 unfold mH;rw[if_neg (by omega)]
 simp[ay,lt_next];omega
theorem Wz{t s:List UInt8}(h:t.length<=16):cg (mH t) s=(s==t):=by
 have hr:=Wy h;unfold cg;rw[hr]
 unfold mH;rw[if_neg (by omega)]
 simp only[Bool.true_and,Bool.false_or]
 rcases me s t with g|g|g
 · have:s≠t:=fun e=>by subst e;rw[lt_irrefl]at g;cases g
   rw[g];simp[this]
 · subst g;rw[lt_irrefl,lt_next];simp
 · have:s≠t:=fun e=>by subst e;rw[lt_irrefl]at g;cases g
   rw[A1 g];simp[this]
def Lt(r:ax)(s:List UInt8):Bool:=r.op||aQ s r.hi
theorem jK(r:ax)(s:List UInt8):cg r s=(ay r&&(!aQ s r.lo&&Lt r s)):=by simp[cg,Lt,Bool.and_assoc]
theorem Rg{a b:ax}(ha:ay a=true)(hb:ay b=true):oq a b<0 ↔ a.op=false/\(b.op=true\/aQ a.hi b.hi=true):=by
 unfold oq;rw[ha,hb]
 cases a.op<;>cases b.op<;>simp
 have:= @tO a.hi b.hi;rw[<-decide_eq_true_iff (p:=ck a.hi b.hi<0),this]
theorem cj{r:ax}(h:ay r=true):r.lo.length<=17/\r.hi.length<=17/\(r.op=true->r.hi=[])/\(r.op=false->aQ r.lo r.hi=true):=by
 simp only[ay,Bool.and_eq_true,decide_eq_true_eq]at h;obtain⟨⟨h1,h2⟩,h3⟩:=h;refine⟨h1,h2,fun e=> ?_,fun e=> ?_⟩
 · rw[e]at h3;simpa using h3
 · rw[e]at h3;simpa using h3
theorem pD{r:ax}(h1:r.lo.length<=17)(h2:r.hi.length<=17)(h3:r.op=true->r.hi=[])(h4:r.op=false->aQ r.lo r.hi=true):ay r=true:=by
 simp only[ay,Bool.and_eq_true,decide_eq_true_eq]
 refine⟨⟨h1,h2⟩, ?_⟩
 cases ho:r.op with
 |true=>simp[h3 ho]
 |false=>simp[h4 ho]
theorem O0{r:ax}(h:ay r=true):Lt r r.lo=true:=by
 obtain⟨_,_,_,h4⟩:=cj h;cases ho:r.op with
 |true=>simp[Lt,ho]
 |false=>simp[Lt,h4 ho]
theorem tS{r:ax}(h:ay r=true):cg r r.lo=true:=by rw[jK,h,lt_irrefl,O0 h];rfl
end Go.Proofs.YtihgnfmoafjakaaGreat
namespace Go.Iv
set_option linter.unusedSimpArgs false
set_option linter.unusedVariables false
set_option linter.unusedSectionVars false
structure Lin{α:Type}(lt:α->α->Bool):Prop where
 xD: ∀x,lt x x=false
 tr: ∀x y z,lt x y=true->lt y z=true->lt x z=true
 tri: ∀x y,lt x y=true\/x=y\/lt y x=true
section
variable{α:Type}(lt:α->α->Bool)
def below(x:α):Option α->Bool
 |none=>true
 |some h=>lt x h
def dP(i:α×Option α)(x:α):Bool:= !lt x i.1&&below lt x i.2
def mem(l:List (α×Option α))(x:α):Bool:=l.any (dP lt · x)
def Can:List (α×Option α)->Prop
 | []=>True
 | [i]=>below lt i.1 i.2=true
 |i::j::l=>below lt i.1 i.2=true/\(∃h,i.2=some h/\lt h j.1=true)/\Can (j::l)
end
section
variable{α:Type}{lt:α->α->Bool}(hl:Lin lt)
include hl
theorem asymm{x y:α}(h:lt x y=true):lt y x=false:=by
 cases e:lt y x
 · rfl
 · have:=hl.tr x y x h e
   rw[hl.xD]at this;cases this
theorem mI{x y:α}(h:lt x y=false)(h':lt y x=false):x=y:=by
 rcases hl.tri x y with h1|h1|h1
 · rw[h]at h1;cases h1
 · exact h1
 · rw[h']at h1;cases h1
theorem jB{x y z:α}(h:lt x y=false)(h':lt y z=false):lt x z=false:=by
 cases e:lt x z
 · rfl
 · rcases hl.tri x y with h1|h1|h1
   · rw[h]at h1;cases h1
   · subst h1;rw[e]at h';cases h'
   · have:=hl.tr y x z h1 e;rw[this]at h';cases h'
theorem j5{x y z:α}(h:lt x y=true)(h':lt z y=false):lt x z=true:=by
 rcases hl.tri x z with h1|h1|h1
 · exact h1
 · subst h1;rw[h]at h';cases h'
 · have:=hl.tr z x y h1 h;rw[this]at h';cases h'
theorem lh{i:α×Option α}: ∀{l:List (α×Option α)},Can lt (i::l)->Can lt l
 | [],_=>trivial
 |_::_,h=>h.2.2
theorem Ba{i:α×Option α}: ∀{l:List (α×Option α)},Can lt (i::l)->below lt i.1 i.2=true
 | [],h=>h
 |_::_,h=>h.1
theorem tT: ∀{l:List (α×Option α)} {i:α×Option α} {x:α},Can lt (i::l)->mem lt (i::l) x=true->lt x i.1=false
 |l,i,x,h,hm=>by
  simp only[mem,List.any_cons,Bool.or_eq_true]at hm;rcases hm with hm|hm
  · simp only[dP,Bool.and_eq_true,Bool.not_eq_true']at hm;exact hm.1
  · cases l with
    |nil=>cases hm
    |cons j l=>
     obtain⟨h1,⟨e,he,aw⟩,h2⟩:=h;have mE:=tT h2 hm;have hi:lt i.1 e=true:=by rw[he]at h1;exact h1
     have vw:=hl.tr _ _ _ hi aw;cases hx:lt x i.1
     · rfl
     · have h4:=hl.tr _ _ _ hx vw
       rw[h4]at mE;cases mE
theorem Rh{i j:α×Option α}{l:List (α×Option α)}{x:α}(h:Can lt (i::j::l))(hx:below lt x i.2=true\/i.2=some x):mem lt (j::l) x=false:=by
 obtain⟨h1,⟨e,he,aw⟩,h2⟩:=h;cases hm:mem lt (j::l) x
 · rfl
 · have h3:=tT hl h2 hm
   rw[he]at hx;rcases hx with hx|hx
   · have:=hl.tr _ _ _ hx aw;rw[h3]at this;cases this
   · rw[Option.some.inj hx]at aw;rw[h3]at aw;cases aw
theorem Lu{i:α×Option α}{l:List (α×Option α)}{x:α}(h:Can lt (i::l)):mem lt l x=(mem lt (i::l) x&& !dP lt i x):=by
 simp only[mem,List.any_cons]
 cases hi:dP lt i x
 · simp
 · simp only[Bool.true_or,Bool.not_true,Bool.and_false]
   cases l with
   |nil=>rfl
   |cons j l=>
    simp only[dP,Bool.and_eq_true]at hi;exact Rh hl h (.inl hi.2)
theorem tU{i:α×Option α}{l:List (α×Option α)}(h:Can lt (i::l)):mem lt (i::l) i.1=true:=by simp[mem,dP,hl.xD,Ba hl h]
theorem Lv{i:α×Option α}{l:List (α×Option α)}{e:α}(h:Can lt (i::l))(he:i.2=some e):mem lt (i::l) e=false:=by
 have h1:dP lt i e=false:=by simp[dP,he,below,hl.xD]
 show(dP lt i e||mem lt l e)=false;rw[h1,Bool.false_or]
 cases l with
 |nil=>rfl
 |cons j l=>exact Rh hl h (.inr he)
theorem O1{i j:α×Option α}{l m:List (α×Option α)}(h:Can lt (i::l))(h':Can lt (j::m))(hm: ∀x,mem lt (i::l) x=mem lt (j::m) x)(h0:i.1=j.1){e:α}(he:i.2=some e): ∃e',j.2=some e'/\lt e e'=false:=by
 have hn:=Lv hl h he;rw[hm]at hn;have hie:lt i.1 e=true:=by have:=Ba hl h;rw[he]at this;exact this
 simp only[mem,List.any_cons,Bool.or_eq_false_iff]at hn;have Zx:=hn.1;simp only[dP,<-h0,asymm hl hie,Bool.not_false,Bool.true_and]at Zx;cases hj:j.2 with
 |none=>rw[hj]at Zx;simp[below]at Zx
 |some e'=>rw[hj]at Zx;exact⟨e',rfl,Zx⟩
theorem Bb: ∀{l m:List (α×Option α)},Can lt l->Can lt m->(∀x,mem lt l x=mem lt m x)->l=m
 | [],[],_,_,_=>rfl
 | [],j::m,_,h,hm=>by have:=tU hl h;rw[<-hm]at this;simp[mem]at this
 |i::l,[],h,_,hm=>by have:=tU hl h;rw[hm]at this;simp[mem]at this
 |i::l,j::m,h,h',hm=>by
  have e1:i.1=j.1:=by have h1:=tU hl h;rw[hm]at h1;have h2:=tU hl h';rw[<-hm]at h2;exact mI hl (tT hl h' h1) (tT hl h h2)
  have e2:i.2=j.2:=by
   cases hi:i.2 with
   |none=>
    cases hj:j.2 with
    |none=>rfl
    |some e=>
     obtain⟨e',h1,_⟩:=O1 hl h' h (fun x=>(hm x).symm) e1.symm hj;rw[hi]at h1;cases h1
   |some e=>
    obtain⟨e',h1,h2⟩:=O1 hl h h' hm e1 hi;obtain⟨e'',h3,h4⟩:=O1 hl h' h (fun x=>(hm x).symm) e1.symm h1;rw[hi]at h3;obtain rfl:=Option.some.inj h3;rw[h1,mI hl h2 h4]
  have e3:i=j:=Prod.ext e1 e2;subst e3;rw[Bb (lh hl h) (lh hl h') (fun x=>by rw[Lu hl h,Lu hl h',hm])]
end
def scan{α:Type}(p:α->Bool):Option α->List α->List (α×Option α)
 |none,[]=>[]
 |some s,[]=>[(s,none)]
 |none,e::es=>if p e then scan p (some e) es else scan p none es
 |some s,e::es=>if p e then scan p (some s) es else(s,some e)::scan p none es
def floor{α:Type}(lt:α->α->Bool)(d:Option α):List α->α->Option α
 | [],_=>d
 |e::es,x=>if lt x e then d else floor lt (some e) es x
def D1{α:Type}(lt:α->α->Bool):Option α->List α->Prop
 |_,[]=>True
 |none,e::es=>D1 lt (some e) es
 |some d,e::es=>lt d e=true/\D1 lt (some e) es
section
variable{α:Type}{lt:α->α->Bool}(hl:Lin lt){p:α->Bool}
include hl
theorem Ri{x y z:α}(h:lt y x=false)(h':lt y z=true):lt x z=true:=by
 rcases hl.tri x y with h1|h1|h1
 · exact hl.tr _ _ _ h1 h'
 · subst h1;exact h'
 · rw[h]at h1;cases h1
theorem tV{x:α}: ∀{es:List α} {d:α},D1 lt (some d) es->lt d x=false->mem lt (scan p none es) x=false/\ ∀s,lt d s=false->mem lt (scan p (some s) es) x= !lt x s
 | [],_,_,_=>⟨rfl,fun s _=>by simp[scan,mem,dP,below]⟩
 |e::es,d,h,hx=>by
  have sh:lt x e=true:=Ri hl hx h.1;have ih:=tV h.2 (asymm hl sh)
  refine⟨?_,fun s hs=> ?_⟩
  · simp only[scan]
    split
    · rw[ih.2 e (hl.xD e),sh];rfl
    · exact ih.1
  · simp only[scan]
    split
    · exact ih.2 s (asymm hl (Ri hl hs h.1))
    · show(dP lt (s,some e) x||mem lt (scan p none es) x)=_
      rw[ih.1];simp[dP,below,sh]
theorem Bc{x:α}: ∀{es:List α} {d:α},D1 lt (some d) es->lt x d=false->
 (p d=false->mem lt (scan p none es) x=((floor lt (some d) es x).map p).getD false)/\
 (p d=true-> ∀s,lt d s=false->mem lt (scan p (some s) es) x=((floor lt (some d) es x).map p).getD false)
 | [],d,_,hx=>⟨fun h=>by simp[scan,mem,floor,h],fun h s hs=>by simp[scan,mem,dP,below,floor,h,jB hl hx hs]⟩
 |e::es,d,h,hx=>by
  refine⟨fun hp=> ?_,fun hp s hs=> ?_⟩
  · cases sh:lt x e
    · have ih:=Bc h.2 sh
      cases he:p e
      · simp only[floor,scan,sh,he,Bool.false_eq_true,↓reduceIte];exact ih.1 he
      · simp only[floor,scan,sh,he,Bool.false_eq_true,↓reduceIte];exact ih.2 he e (hl.xD e)
    · have lo:=tV (p:=p) hl h.2 (asymm hl sh)
      cases he:p e
      · simp only[floor,scan,sh,he,hp,Bool.false_eq_true,↓reduceIte,Option.map_some,Option.getD_some];exact lo.1
      · simp only[floor,scan,sh,he,hp,Bool.false_eq_true,↓reduceIte,Option.map_some,Option.getD_some]
        rw[lo.2 e (hl.xD e),sh];rfl
  · have Zu:=Ri hl hs h.1
    cases sh:lt x e
    · have ih:=Bc h.2 sh
      cases he:p e
      · simp only[floor,scan,sh,he,Bool.false_eq_true,↓reduceIte]
        rw[<-ih.1 he]
        show(dP lt (s,some e) x||mem lt (scan p none es) x)=_;simp[dP,below,sh]
      · simp only[floor,scan,sh,he,Bool.false_eq_true,↓reduceIte];exact ih.2 he s (asymm hl Zu)
    · have lo:=tV (p:=p) hl h.2 (asymm hl sh)
      cases he:p e
      · simp only[floor,scan,sh,he,hp,Bool.false_eq_true,↓reduceIte,Option.map_some,Option.getD_some]
        show(dP lt (s,some e) x||mem lt (scan p none es) x)=_;simp[dP,below,sh,jB hl hx hs]
      · simp only[floor,scan,sh,he,hp,Bool.false_eq_true,↓reduceIte,Option.map_some,Option.getD_some]
        rw[lo.2 s (asymm hl Zu),jB hl hx hs];rfl
theorem WA{x:α}: ∀{es:List α},D1 lt none es->mem lt (scan p none es) x=((floor lt none es x).map p).getD false
 | [],_=>rfl
 |e::es,h=>by
  cases sh:lt x e
  · have ih:=Bc (p:=p) hl h sh
    cases he:p e
    · simp only[floor,scan,sh,he,Bool.false_eq_true,↓reduceIte];exact ih.1 he
    · simp only[floor,scan,sh,he,Bool.false_eq_true,↓reduceIte];exact ih.2 he e (hl.xD e)
  · have lo:=tV (p:=p) hl h (asymm hl sh)
    cases he:p e
    · simp only[floor,scan,sh,he,Bool.false_eq_true,↓reduceIte,Option.map_none,Option.getD_none];exact lo.1
    · simp only[floor,scan,sh,he,Bool.false_eq_true,↓reduceIte,Option.map_none,Option.getD_none]
      rw[lo.2 e (hl.xD e),sh];rfl
theorem Lw: ∀{es:List α} {d:α},D1 lt (some d) es->
 (Can lt (scan p none es)/\ ∀j l,scan p none es=j::l->lt d j.1=true)/\ ∀s,lt d s=false->Can lt (scan p (some s) es)/\ ∀j l,scan p (some s) es=j::l->j.1=s
 | [],d,_=>⟨⟨trivial,fun _ _ h=>by simp[scan]at h⟩,fun s _=>⟨rfl,fun j l h=>by simp only[scan,List.cons.injEq]at h;rw[<-h.1]⟩⟩
 |e::es,d,h=>by
  have ih:=Lw h.2;refine⟨?_,fun s hs=> ?_⟩
  · simp only[scan]
    split
    · have:=ih.2 e (hl.xD e)
      exact⟨this.1,fun j l hj=>by rw[this.2 j l hj];exact h.1⟩
    · exact⟨ih.1.1,fun j l hj=>hl.tr _ _ _ h.1 (ih.1.2 j l hj)⟩
  · have Zu:=Ri hl hs h.1
    simp only[scan]
    split
    · exact ih.2 s (asymm hl Zu)
    · refine⟨?_,fun j l hj=>by simp only[List.cons.injEq]at hj;rw[<-hj.1]⟩
      cases hr:scan p none es with
      |nil=>exact Zu
      |cons j l=>exact⟨Zu,⟨e,rfl,ih.1.2 j l hr⟩,by rw[<-hr];exact ih.1.1⟩
theorem WB: ∀{es:List α},D1 lt none es->Can lt (scan p none es)
 | [],_=>trivial
 |e::es,h=>by
  have:=Lw (p:=p) hl h;simp only[scan]
  split
  · exact(this.2 e (hl.xD e)).1
  · exact this.1.1
theorem WC{es:List α}(h:D1 lt none es){P:α->Bool}(hP: ∀x,P x=((floor lt none es x).map P).getD false): ∀x,mem lt (scan P none es) x=P x:=fun x=>by rw[WA hl h,<-hP x]
end
def yo{α:Type}(lt:α->α->Bool):Option α->Option α->Option α
 |some a,some b=>if lt a b then some b else some a
 |_,_=>none
def Lx{α:Type}(lt:α->α->Bool)(c:Option α)(r:α):Bool:=
 match c with
 |none=>true
 |some h=> !lt h r
def WD{α:Type}(lt:α->α->Bool):α×Option α->List (α×Option α)->List (α×Option α)
 |c,[]=>[c]
 |c,r::rs=>if Lx lt c.2 r.1 then WD lt (c.1,yo lt c.2 r.2) rs else c::WD lt r rs
section
variable{α:Type}{lt:α->α->Bool}(hl:Lin lt)
include hl
theorem TB{x:α}(c r:Option α):below lt x (yo lt c r)=(below lt x c||below lt x r):=by
 cases c with
 |none=>cases r<;>simp[yo,below]
 |some a=>
  cases r with
  |none=>simp[yo,below]
  |some b=>
   cases Rj:lt a b
   · simp only[yo,Rj,Bool.false_eq_true,↓reduceIte,below]
     cases hxb:lt x b
     · simp
     · have Vi:lt x a=true:=by
        cases e:lt x a
        · have:=jB hl e Rj;rw[hxb]at this;cases this
        · rfl
       rw[Vi];rfl
   · simp only[yo,Rj,↓reduceIte,below]
     cases Vi:lt x a
     · simp
     · rw[hl.tr _ _ _ Vi Rj];rfl
theorem TD{c r:α×Option α}{x:α}(h:lt r.1 c.1=false)(ht:Lx lt c.2 r.1=true):dP lt (c.1,yo lt c.2 r.2) x=(dP lt c x||dP lt r x):=by
 simp only[dP,TB hl]
 cases h1:lt x c.1
 · cases h2:below lt x c.2
   · cases h3:lt x r.1
     · simp
     · cases hc:c.2 with
       |none=>rw[hc]at h2;cases h2
       |some e=>
        rw[hc]at h2 ht;simp only[below]at h2;simp only[Lx,Bool.not_eq_true']at ht;have:=jB hl h2 ht;rw[h3]at this;cases this
   · simp
 · have:lt x r.1=true:=j5 hl h1 h
   simp[this]
end
end Go.Iv
namespace Go.Proofs.YtihgnfmoafjakaaGreat
open Go.bJ
set_option linter.unusedSimpArgs false
set_option linter.unusedVariables false
theorem oL:Iv.Lin aQ:=⟨lt_irrefl,fun _ _ _ h1 h2=>bW h1 h2,me⟩
def lK(r:ax):List UInt8×Option (List UInt8):=(r.lo,if r.op then none else some r.hi)
def ar(l:List ax)(s:List UInt8):Bool:=l.any (cg · s)
def nG:Option ax->List ax->Bool
 |_,[]=>true
 |p,r::rs=>ay r&&(match p with|none=>true|some q=> !(q.op|| !aQ q.hi r.lo))&&nG (some r) rs
def aO(l:List ax):Bool:=nG none l
def RS:List ax->Prop
 | []=>True
 | [r]=>ay r=true
 |r::q::l=>ay r=true/\(q.op=false/\aQ q.hi r.lo=true)/\RS (q::l)
theorem Gp: ∀(l:List ax) (p:Option ax) (q r:ax),nG p (l++[q,r])=(nG p (l++[q])&&(ay r&& !(q.op|| !aQ q.hi r.lo)))
 | [],p,q,r=>by cases p<;>simp[nG,Bool.and_assoc]
 |x::l,p,q,r=>by simp only[List.cons_append,nG,Gp l (some x) q r,Bool.and_assoc]
theorem xE: ∀{l:List ax},aO l.reverse=true ↔ RS l
 | []=>by simp[aO,nG,RS]
 | [r]=>by simp[aO,nG,RS]
 |r::q::l=>by
  have ih:= @xE (q::l)
  simp only[List.reverse_cons,List.append_assoc,List.cons_append,List.nil_append,aO]at ih⊢;rw[Gp,Bool.and_eq_true,ih,RS,Bool.and_eq_true]
  simp;exact⟨fun⟨a,b,c,d⟩=>⟨b,⟨c,d⟩,a⟩,fun⟨b,⟨c,d⟩,a⟩=>⟨a,b,c,d⟩⟩
theorem rs_tail{r:ax}: ∀{l:List ax},RS (r::l)->RS l
 | [],_=>trivial
 |_::_,h=>h.2.2
theorem WE{r:ax}: ∀{l:List ax},RS (r::l)->ay r=true
 | [],h=>h
 |_::_,h=>h.1
theorem Rk{r:ax}(h:ay r=true):Iv.below aQ r.lo (lK r).2=true:=by
 have:=(cj h).2.2.2;unfold lK;cases ho:r.op
 · simp only[Bool.false_eq_true,if_false,Iv.below];exact this ho
 · rfl
theorem WG{r q:ax}(hr:ay r=true)(hq:ay q=true)(h:lK r=lK q):r=q:=by
 obtain⟨_,_,h1,_⟩:=cj hr;obtain⟨_,_,h2,_⟩:=cj hq;obtain⟨lo,hi,op⟩:=r;obtain⟨gm,eW,lW⟩:=q;simp only[lK,Prod.mk.injEq]at h;obtain⟨rfl,h⟩:=h;cases op<;>cases lW<;>simp at h h1 h2
 · rw[h]
 · rw[h1,h2]
theorem nH(r:ax)(s:List UInt8):cg r s=(ay r&&Iv.dP aQ (lK r) s):=by unfold cg Iv.dP lK;cases r.op<;>simp[Iv.below,Bool.and_assoc]
theorem tW(l:List ax)(s:List UInt8):ar l s=Iv.mem aQ ((l.filter ay).map lK) s:=by
 induction l with
 |nil=>rfl
 |cons r l ih=>
  simp only[ar,List.any_cons]at ih⊢;rw[ih,nH]
  cases h:ay r
  · simp[List.filter_cons,h]
  · simp[List.filter_cons,h,Iv.mem]
theorem Ly: ∀{l:List ax} {p:Option ax},nG p l=true ↔ (∀r∈l,ay r=true)/\Iv.Can aQ (l.map lK)/\ ∀q,p=some q-> ∀r,l.head? =some r->q.op=false/\aQ q.hi r.lo=true
 | [],p=>by simp[nG,Iv.Can]
 |r::l,p=>by
  have ih:= @Ly l (some r)
  simp only[nG,Bool.and_eq_true,ih]
  constructor
  · rintro⟨⟨h1,h2⟩,h3,h4,h5⟩
    refine⟨fun q hq=> ?_, ?_,fun q hq r' Ak=> ?_⟩
    · rcases List.mem_cons.1 hq with rfl|hq
      · exact h1
      · exact h3 q hq
    · cases l with
      |nil=>exact Rk h1
      |cons r' l=>
       obtain⟨k1,k2⟩:=h5 r rfl r' rfl;exact⟨Rk h1,⟨r.hi,by simp[lK,k1],k2⟩,h4⟩
    · subst hq
      simp at Ak;subst Ak;simpa using h2
  · rintro⟨h1,h2,h3⟩
    refine⟨⟨h1 r (by simp), ?_⟩,fun q hq=>h1 q (by simp[hq]),Iv.lh oL h2,fun q hq r' Ak=> ?_⟩
    · cases p with
      |none=>rfl
      |some q=>have:=h3 q rfl r rfl;simp[this]
    · obtain rfl:=Option.some.inj hq
      cases l with
      |nil=>simp at Ak
      |cons r'' l=>
       simp at Ak;subst Ak;obtain⟨_,⟨h,k1,k2⟩,_⟩:=h2;simp only[lK]at k1;cases ho:r.op with
       |true=>rw[ho]at k1;simp at k1
       |false=>
        rw[ho]at k1;simp at k1;subst k1;exact⟨rfl,k2⟩
theorem eH{l:List ax}:aO l=true ↔ (∀r∈l,ay r=true)/\Iv.Can aQ (l.map lK):=by
 unfold aO;rw[Ly]
 simp
theorem km{l:List ax}(h: ∀r∈l,ay r=true):l.filter ay=l:=List.filter_eq_self.2 h
theorem Be: ∀{l m:List ax},(∀r∈l,ay r=true)->(∀r∈m,ay r=true)->l.map lK=m.map lK->l=m
 | [],[],_,_,_=>rfl
 | [],_::_,_,_,h=>by simp at h
 |_::_,[],_,_,h=>by simp at h
 |r::l,q::m,h1,h2,h=>by simp only[List.map_cons,List.cons.injEq]at h;rw[WG (h1 r (by simp)) (h2 q (by simp)) h.1,Be (fun x hx=>h1 x (by simp[hx])) (fun x hx=>h2 x (by simp[hx])) h.2]
theorem Bf{l m:List ax}(h:aO l=true)(h':aO m=true)(hm: ∀s,ar l s=ar m s):l=m:=by
 obtain⟨a1,a2⟩:=eH.1 h;obtain⟨b1,b2⟩:=eH.1 h';refine Be a1 b1 (Iv.Bb oL a2 b2 fun s=> ?_)
 have:=hm s
 rwa [tW,tW,km a1,km b1]at this
open Classical in
/-- The right list of the texts that are meant, if there is one. -/
def dd(p:List UInt8->Bool):List ax:=if h: ∃l,aO l=true/\ ∀n,ar l n=p n then Classical.choose h else []
def IsS(p:List UInt8->Bool):Prop:= ∃l,aO l=true/\ ∀n,ar l n=p n
theorem lj(p:List UInt8->Bool):aO (dd p)=true:=by
 unfold dd;split
 · rename_i h;exact(Classical.choose_spec h).1
 · rfl
theorem Bg{p:List UInt8->Bool}(h:IsS p)(n:List UInt8):ar (dd p) n=p n:=by unfold dd;rw[dif_pos (show∃l,aO l=true/\ ∀n,ar l n=p n from h)];exact(Classical.choose_spec h).2 n
theorem HS{p:List UInt8->Bool}{l:List ax}(h:aO l=true)(hp: ∀n,ar l n=p n):l=dd p:=
 Bf h (lj p) fun n=>by rw[hp,Bg ⟨l,h,hp⟩]
theorem il(r:ax)(l:List ax)(s:List UInt8):ar (r::l) s=(cg r s||ar l s):=rfl
theorem TE(l:List ax)(s:List UInt8):ar l.reverse s=ar l s:=by simp[ar]
theorem iL{l:List ax}{s:List UInt8}:ar l s=true ↔∃r∈l,cg r s=true:=by simp[ar]
theorem O2{l m:List ax}(h:l.Perm m)(s:List UInt8):ar l s=ar m s:=by
 rw[Bool.eq_iff_iff,iL,iL]
 exact⟨fun⟨r,hr,h1⟩=>⟨r,h.mem_iff.1 hr,h1⟩,fun⟨r,hr,h1⟩=>⟨r,h.mem_iff.2 hr,h1⟩⟩
theorem O3{r:ax}{s:List UInt8}(h:cg r s=true):ay r=true:=by rw[jK]at h;simp only[Bool.and_eq_true]at h;exact h.1
theorem HT(l:List ax)(s:List UInt8):ar (l.filter ay) s=ar l s:=by
 rw[Bool.eq_iff_iff,iL,iL]
 exact⟨fun⟨r,hr,h1⟩=>⟨r,(List.mem_filter.1 hr).1,h1⟩,fun⟨r,hr,h1⟩=>⟨r,List.mem_filter.2 ⟨hr,O3 h1⟩,h1⟩⟩
def fZ(q r:ax):ax:=if oq q r<0 then⟨q.lo,r.hi,r.op⟩else q
def dM:List ax->ax->List ax
 | [],r=>[r]
 |q::qs,r=>if q.op|| !aQ q.hi r.lo then fZ q r::qs else r::q::qs
def lowS(l:List ax)(x:List UInt8):Prop:=match l with| []=>True|q::_=>aQ x q.lo=false
theorem Lz(q r:ax):(fZ q r).lo=q.lo:=by unfold fZ;split<;>rfl
theorem WH{q r:ax}(hq:ay q=true)(hr:ay r=true):lK (fZ q r)=(q.lo,Iv.yo aQ (lK q).2 (lK r).2):=by
 have he:=Rg hq hr;unfold fZ;by_cases h:oq q r<0
 · rw[if_pos h]
   obtain⟨h1,h2⟩:=he.1 h;unfold lK;rw[h1]
   cases ho:r.op with
   |true=>simp[Iv.yo]
   |false=>
    rw[ho]at h2;have h3:aQ q.hi r.hi=true:=by simpa using h2
    simp[Iv.yo,h3]
 · rw[if_neg h]
   unfold lK;cases ho:q.op with
   |true=>simp[Iv.yo]
   |false=>
    have h2: ¬(r.op=true\/aQ q.hi r.hi=true):=fun h3=>h (he.2 ⟨ho,h3⟩)
    have h3:r.op=false:=by
     cases hx:r.op
     · rfl
     · exact absurd (.inl hx) h2
    have h4:aQ q.hi r.hi=false:=by
     cases hx:aQ q.hi r.hi
     · rfl
     · exact absurd (.inr hx) h2
    simp[Iv.yo,h3,h4]
theorem merge_right{q r:ax}(hq:ay q=true)(hr:ay r=true):ay (fZ q r)=true:=by
 obtain⟨a1,a2,a3,a4⟩:=cj hq;obtain⟨b1,b2,b3,b4⟩:=cj hr;have he:=Rg hq hr;unfold fZ;by_cases h:oq q r<0
 · rw[if_pos h]
   obtain⟨h1,h2⟩:=he.1 h;refine pD a1 b2 b3 fun ho=> ?_;have vm:r.op=false:=ho;rw[vm]at h2;have h3:aQ q.hi r.hi=true:=by simpa using h2
   exact bW (a4 h1) h3
 · rw[if_neg h];exact hq
theorem TF{q r:ax}:(q.op|| !aQ q.hi r.lo)=Iv.Lx aQ (lK q).2 (lK r).1:=by unfold lK;cases q.op<;>simp[Iv.Lx]
theorem LA{l:List ax}{r:ax}(h:RS l)(hr:ay r=true)(hf:lowS l r.lo):RS (dM l r)/\lowS (dM l r) r.lo/\ ∀s,ar (dM l r) s=(ar l s||cg r s):=by
 cases l with
 |nil=>exact⟨hr,lt_irrefl _,fun s=>by simp[dM,ar]⟩
 |cons q qs=>
  have hq:=WE h;have Q1:aQ r.lo q.lo=false:=hf;simp only[dM]
  cases hc:(q.op|| !aQ q.hi r.lo)with
  |true=>
   rw[if_pos rfl]
   have hm:=merge_right hq hr;refine⟨?_, ?_,fun s=> ?_⟩
   · cases qs with
     |nil=>exact hm
     |cons p ps=>exact⟨hm,⟨h.2.1.1,by rw[Lz];exact h.2.1.2⟩,h.2.2⟩
   · show aQ r.lo (fZ q r).lo=false
     rw[Lz];exact Q1
   · rw[il,il,nH,nH q,nH r,hm,hq,hr]
     simp only[Bool.true_and]
     rw[WH hq hr]
     have:=Iv.TD oL (c:=lK q) (r:=lK r) (x:=s) Q1 (by rw[<-TF];exact hc)
     have e:(lK q).1=q.lo:=rfl;rw[e]at this;rw[this]
     cases Iv.dP aQ (lK q) s<;>cases Iv.dP aQ (lK r) s<;>cases ar qs s<;>rfl
  |false=>
   rw[if_neg (by simp)]
   have u4:q.op=false/\aQ q.hi r.lo=true:=by simpa using hc
   refine⟨⟨hr,u4,h⟩,lt_irrefl _,fun s=> ?_⟩
   rw[il r];cases cg r s<;>cases ar (q::qs) s<;>rfl
theorem TG(l:List ax)(r:ax):(dM l r).length<=l.length+1:=by
 cases l with
 |nil=>simp[dM]
 |cons q qs=>simp only[dM];split<;>simp
theorem sn: ∀{l:List ax} {a:List ax},RS a->(∀r∈l,ay r=true)->l.Pairwise (fun x y=>aQ y.lo x.lo=false)->(∀r∈l,lowS a r.lo)->RS (l.foldl dM a)/\ ∀s,ar (l.foldl dM a) s=(ar a s||ar l s)
 | [],a,h,_,_,_=>⟨h,fun s=>by simp[ar]⟩
 |r::l,a,h,ho,hs,hf=>by
  obtain⟨h1,h2,h3⟩:=LA h (ho r (by simp)) (hf r (by simp))
  rw[List.pairwise_cons]at hs
  obtain⟨h4,h5⟩:=sn (l:=l) h1 (fun q hq=>ho q (by simp[hq])) hs.2 (fun q hq=>by
   have:=hs.1 q hq;revert h2;cases dM a r with
   |nil=>intro _;trivial
   |cons p ps=>intro h2;exact kj h2 this)
  refine⟨h4,fun n=> ?_⟩
  rw[List.foldl_cons,h5,h3,il]
  simp only[Bool.or_assoc]
theorem TH{l:List ax}(ho: ∀r∈l,ay r=true)(hs:l.Pairwise (fun x y=>aQ y.lo x.lo=false)):(l.foldl dM []).reverse=dd (ar l):=by
 obtain⟨h1,h2⟩:=sn (a:=[]) trivial ho hs (fun _ _=>trivial)
 exact HS (xE.2 h1) fun n=>by rw[TE,h2];simp[ar]
def toR(i:List UInt8×Option (List UInt8)):ax:=⟨i.1,i.2.getD [],i.2.isNone⟩
theorem iv_toR(i:List UInt8×Option (List UInt8)):lK (toR i)=i:=by obtain⟨a,b⟩:=i;cases b<;>rfl
def O4(P:List UInt8->Bool)(st:List ax×Bool)(e:List UInt8):List ax×Bool:=
 (if P e&& !st.2 then⟨e,[],true⟩::st.1 else if !P e&&st.2 then(match st.1 with|q::qs=>⟨q.lo,e,false⟩::qs| []=>[])else st.1,P e)
def D2(P:List UInt8->Bool)(es:List (List UInt8)):List ax×Bool:=es.foldl (O4 P) ([],false)
theorem pE(P:List UInt8->Bool): ∀(es:List (List UInt8)) (acc:List ax),(es.foldl (O4 P) (acc,false)).1.reverse=acc.reverse++(Iv.scan P none es).map toR/\
 ∀s,(es.foldl (O4 P) (⟨s,[],true⟩::acc,true)).1.reverse=acc.reverse++(Iv.scan P (some s) es).map toR
 | [],acc=>⟨by simp[Iv.scan],fun s=>by simp[Iv.scan,toR]⟩
 |e::es,acc=>by
  refine⟨?_,fun s=> ?_⟩
  · simp only[List.foldl_cons,O4,Iv.scan]
    cases hp:P e with
    |true=>simp only[Bool.not_false,Bool.and_self,if_true];exact(pE P es acc).2 e
    |false=>simp only[Bool.not_false,Bool.and_true,Bool.and_false,Bool.false_eq_true,if_false];exact(pE P es acc).1
  · simp only[List.foldl_cons,O4,Iv.scan]
    cases hp:P e with
    |true=>simp only[Bool.not_true,Bool.and_false,Bool.false_and,Bool.false_eq_true,if_false,if_true];exact(pE P es acc).2 s
    |false=>
     simp only[Bool.not_true,Bool.and_self,Bool.and_false,Bool.not_false,Bool.false_eq_true,if_false,if_true]
     rw[(pE P es (⟨s,e,false⟩::acc)).1]
     simp[toR]
theorem WI(P:List UInt8->Bool)(es:List (List UInt8)):(D2 P es).1.reverse=(Iv.scan P none es).map toR:=by have:=(pE P es []).1;rw[List.reverse_nil,List.nil_append]at this;exact this
theorem WJ(P:List UInt8->Bool)(es:List (List UInt8))(k:Nat)(h:k<es.length):D2 P (es.take (k+1))=O4 P (D2 P (es.take k)) es[k]:=by unfold D2;rw[<-List.take_append_getElem h,List.foldl_append];rfl
theorem aaB(P:List UInt8->Bool)(st:List ax×Bool)(e:List UInt8):(O4 P st e).1.length<=st.1.length+1:=by
 simp only[O4]
 split
 · simp
 · split
   · split<;>simp_all
   · omega
theorem Rl(P:List UInt8->Bool): ∀(es:List (List UInt8)) (st:List ax×Bool),(es.foldl (O4 P) st).1.length<=st.1.length+es.length
 | [],st=>by simp
 |e::es,st=>by
  have h1:=Rl P es (O4 P st e)
  have h2:=aaB P st e;simp only[List.foldl_cons,List.length_cons];omega
theorem Rm(P:List UInt8->Bool): ∀(es:List (List UInt8)) (st:List ax×Bool),(st.2=true->st.1≠ [])->(es.foldl (O4 P) st).2=true->(es.foldl (O4 P) st).1≠ []
 | [],st,h,h'=>h h'
 |e::es,st,h,h'=>by
  refine Rm P es (O4 P st e) (fun h2=> ?_) h';have hp:P e=true:=h2;simp only[O4,hp]
  cases hs:st.2 with
  |true=>simp;exact h hs
  |false=>simp
theorem Rn: ∀{es:List (List UInt8)},es.Pairwise (fun x y=>aQ x y=true)->Iv.D1 aQ none es
 | [],_=>trivial
 |e::es,h=>by
  have key: ∀{es:List (List UInt8)} {d:List UInt8},(d::es).Pairwise (fun x y=>aQ x y=true)->Iv.D1 aQ (some d) es:=by
   intro es;induction es with
   |nil=>intro d _;trivial
   |cons e es ih=>
    intro d h;rw[List.pairwise_cons]at h;exact⟨h.1 e (by simp),ih h.2⟩
  exact key h
theorem Bh: ∀{es:List (List UInt8)} {x:List UInt8} {d:Option (List UInt8)},es.Pairwise (fun a b=>aQ a b=true)->(∀e,d=some e->aQ x e=false/\ ∀y∈es,aQ e y=true)->
  match Iv.floor aQ d es x with
  |none=>d=none/\ ∀y∈es,aQ x y=true
  |some e=>(d=some e\/e∈es)/\aQ x e=false/\ ∀y∈es,aQ e y=true->aQ x y=true
 | [],x,d,_,h=>by
  cases d with
  |none=>exact⟨rfl,fun y hy=>by cases hy⟩
  |some e=>exact⟨.inl rfl,(h e rfl).1,fun y hy=>by cases hy⟩
 |e::es,x,d,hp,h=>by
  rw[List.pairwise_cons]at hp;simp only[Iv.floor]
  cases hx:aQ x e with
  |true=>
   rw[if_pos rfl]
   have mE: ∀y∈e::es,aQ x y=true:=fun y hy=>by
    rcases List.mem_cons.1 hy with rfl|hy
    · exact hx
    · exact bW hx (hp.1 y hy)
   cases d with
   |none=>exact⟨rfl,mE⟩
   |some e'=>exact⟨.inl rfl,(h e' rfl).1,fun y hy _=>mE y hy⟩
  |false=>
   rw[if_neg (by simp)]
   have ih:= @Bh es x (some e) hp.2 (fun e' u5=>by obtain rfl:=Option.some.inj u5;exact⟨hx,hp.1⟩)
   cases hf:Iv.floor aQ (some e) es x with
   |none=>rw[hf]at ih;exact absurd ih.1 (by simp)
   |some e'=>
    rw[hf]at ih;obtain⟨h1,h2,h3⟩:=ih;refine⟨.inr ?_,h2,fun y hy hl=> ?_⟩
    · rcases h1 with h1|h1
      · obtain rfl:=Option.some.inj h1;simp
      · simp[h1]
    · rcases List.mem_cons.1 hy with rfl|hy
      · rcases h1 with h1|h1
        · obtain rfl:=Option.some.inj h1
          rw[lt_irrefl]at hl;cases hl
        · have:=hp.1 e' h1
          rw[eR this]at hl;cases hl
      · exact h3 y hy hl
theorem Gr: ∀{l:List (List UInt8×Option (List UInt8))},Iv.Can aQ l-> ∀i∈l,Iv.below aQ i.1 i.2=true
 | [],_,i,hi=>by cases hi
 |j::l,h,i,hi=>by
  rcases List.mem_cons.1 hi with rfl|hi
  · exact Iv.Ba oL h
  · exact Gr (Iv.lh oL h) i hi
theorem tX(P:List UInt8->Bool): ∀(es:List (List UInt8)) (st:Option (List UInt8)),∀i∈Iv.scan P st es,(i.1∈es\/st=some i.1)/\ ∀e,i.2=some e->e∈es
 | [],none,i,hi=>by cases hi
 | [],some s,i,hi=>by simp only[Iv.scan,List.mem_singleton]at hi;subst hi;exact⟨.inr rfl,fun e he=>by cases he⟩
 |x::es,none,i,hi=>by
  simp only[Iv.scan]at hi;split at hi
  · obtain⟨h1,h2⟩:=tX P es (some x) i hi
    refine⟨.inl ?_,fun e he=>by simp[h2 e he]⟩
    rcases h1 with h1|h1
    · simp[h1]
    · obtain rfl:=Option.some.inj h1;simp
  · obtain⟨h1,h2⟩:=tX P es none i hi
    refine⟨.inl ?_,fun e he=>by simp[h2 e he]⟩
    rcases h1 with h1|h1
    · simp[h1]
    · cases h1
 |x::es,some s,i,hi=>by
  simp only[Iv.scan]at hi;split at hi
  · obtain⟨h1,h2⟩:=tX P es (some s) i hi
    refine⟨?_,fun e he=>by simp[h2 e he]⟩
    rcases h1 with h1|h1
    · exact .inl (by simp[h1])
    · exact .inr h1
  · rcases List.mem_cons.1 hi with rfl|hi
    · exact⟨.inr rfl,fun e he=>by
       have:x=e:=by simpa using he
       simp[this]⟩
    · obtain⟨h1,h2⟩:=tX P es none i hi
      refine⟨.inl ?_,fun e he=>by simp[h2 e he]⟩
      rcases h1 with h1|h1
      · simp[h1]
      · cases h1
theorem aaC{P:List UInt8->Bool}{es:List (List UInt8)}(up:es.Pairwise (fun x y=>aQ x y=true))(HC: []∈es)(hlen: ∀e∈es,e.length<=17)
 (flat: ∀x,∀e∈es,aQ x e=false->(∀y∈es,aQ e y=true->aQ x y=true)->P x=P e):(D2 P es).1.reverse=dd P/\IsS P:=by
 have gZ:=Iv.WC oL (Rn up) (P:=P) (fun x=>by
  have hf:=Bh (x:=x) (d:=none) up (fun e he=>by cases he)
  cases hx:Iv.floor aQ none es x with
  |none=>
   rw[hx]at hf;have:=hf.2 [] HC;rw[aaz]at this;cases this
  |some e=>
   rw[hx]at hf;obtain⟨h1,h2,h3⟩:=hf;rcases h1 with h1|h1
   · cases h1
   · exact flat x e h1 h2 h3)
 have hcan:=Iv.WB oL (p:=P) (Rn up)
 have gW:=tX P es none;rw[WI]
 generalize Iv.scan P none es=L at*
 have e:(L.map toR).map lK=L:=by
  rw[List.map_map]
  have:(lK∘toR)=id:=funext iv_toR;rw[this,List.map_id]
 have hr: ∀r∈L.map toR,ay r=true:=fun r hr=>by
  obtain⟨i,hi,rfl⟩:=List.mem_map.1 hr;obtain⟨h1,h2⟩:=gW i hi;have hv:=Gr hcan i hi;obtain⟨a,b⟩:=i
  have ha:a∈es:=by
   rcases h1 with h1|h1
   · exact h1
   · cases h1
  cases b with
  |none=>exact pD (hlen a ha) (by simp[toR]) (fun _=>rfl) (fun h=>by simp[toR]at h)
  |some b=>exact pD (hlen a ha) (hlen b (h2 b rfl)) (fun h=>by simp[toR]at h) (fun _=>hv)
 have h1:aO (L.map toR)=true:=eH.2 ⟨hr,by rw[e];exact hcan⟩
 have h2: ∀s,ar (L.map toR) s=P s:=fun s=>by rw[tW,km hr,e];exact gZ s
 exact⟨HS h1 h2,⟨_,h1,h2⟩⟩
theorem so{l:List ax}{es:List (List UInt8)}(he: ∀r∈l,ay r=true->r.lo∈es/\(r.op=false->r.hi∈es)){x e:List UInt8}(h1:aQ x e=false)(h2: ∀y∈es,aQ e y=true->aQ x y=true):ar l x=ar l e:=by
 have same: ∀y∈es,aQ x y=aQ e y:=fun y hy=>by
  cases h:aQ e y
  · exact kj h h1
  · exact h2 y hy h
 have key: ∀r∈l,cg r x=cg r e:=fun r hr=>by
  cases Ti:ay r with
  |false=>rw[jK,jK,Ti];rfl
  |true=>
   obtain⟨k1,k2⟩:=he r hr Ti;rw[jK,jK,same _ k1]
   unfold Lt;cases ho:r.op with
   |true=>rfl
   |false=>rw[same _ (k2 ho)]
 clear he;induction l with
 |nil=>rfl
 |cons r l ih=>
  rw[il,il,key r (by simp),ih (fun q hq=>key q (by simp[hq]))]
def im:List (List UInt8)->List UInt8->List (List UInt8)
 | [],n=>[n]
 |x::xs,n=>if aQ x n then x::im xs n else if x=n then x::xs else n::x::xs
theorem tY(l:List (List UInt8))(n:List UInt8):(im l n).length<=l.length+1:=by
 induction l with
 |nil=>simp[im]
 |cons x xs ih=>
  simp only[im]
  split
  · simp;omega
  · split<;>simp
theorem pF(l:List (List UInt8))(n x:List UInt8):x∈im l n ↔ x=n\/x∈l:=by
 induction l with
 |nil=>simp[im]
 |cons y ys ih=>
  simp only[im]
  split
  · rw[List.mem_cons,ih,List.mem_cons]
    exact⟨fun h=>by rcases h with h|h|h<;>simp[h],fun h=>by rcases h with h|h|h<;>simp[h]⟩
  · split
    · rename_i h1 h2;subst h2;simp
    · simp
theorem HU{l:List (List UInt8)}{n:List UInt8}(h:l.Pairwise (fun x y=>aQ x y=true)):(im l n).Pairwise (fun x y=>aQ x y=true):=by
 induction l with
 |nil=>simp[im]
 |cons y ys ih=>
  rw[List.pairwise_cons]at h;simp only[im]
  split
  · rename_i h1
    rw[List.pairwise_cons]
    refine⟨fun x hx=> ?_,ih h.2⟩
    rcases(pF ys n x).1 hx with rfl|hx
    · exact h1
    · exact h.1 x hx
  · split
    · exact List.pairwise_cons.2 h
    · rename_i h1 h2
      have aw:aQ n y=true:=by
       rcases me y n with h3|h3|h3
       · exact absurd h3 (by simpa using h1)
       · exact absurd h3 h2
       · exact h3
      rw[List.pairwise_cons]
      refine⟨fun x hx=> ?_,List.pairwise_cons.2 h⟩
      rcases List.mem_cons.1 hx with rfl|hx
      · exact aw
      · exact bW aw (h.1 x hx)
def jR(es:List (List UInt8))(r:ax):List (List UInt8):=if ay r then(if r.op then im es r.lo else im (im es r.lo) r.hi)else es
def iq(a b:List ax):List (List UInt8):=(a++b).foldl jR [[]]
theorem aaD{es:List (List UInt8)}{r:ax}(h:es.Pairwise (fun x y=>aQ x y=true)):(jR es r).Pairwise (fun x y=>aQ x y=true):=by
 unfold jR;split
 · split
   · exact HU h
   · exact HU (HU h)
 · exact h
theorem WK(es:List (List UInt8))(r:ax)(x:List UInt8):x∈jR es r ↔ x∈es\/(ay r=true/\(x=r.lo\/(r.op=false/\x=r.hi))):=by
 unfold jR;cases h:ay r with
 |false=>simp
 |true=>
  cases ho:r.op with
  |true=>simp[pF];exact⟨fun h=>h.symm,fun h=>h.symm⟩
  |false=>
   simp[pF]
   constructor
   · rintro(h|h|h)
     · exact .inr (.inr h)
     · exact .inr (.inl h)
     · exact .inl h
   · rintro(h|h|h)
     · exact .inr (.inr h)
     · exact .inr (.inl h)
     · exact .inl h
theorem WL(es:List (List UInt8))(r:ax):(jR es r).length<=es.length+2:=by
 have h1:=tY es r.lo;have h2:=tY (im es r.lo) r.hi;unfold jR;split
 · split<;>omega
 · omega
theorem vC: ∀(l:List ax) (es:List (List UInt8)),(l.foldl jR es).length<=es.length+2*l.length
 | [],es=>by simp
 |r::l,es=>by
  have h1:=vC l (jR es r)
  have h2:=WL es r;simp only[List.foldl_cons,List.length_cons];omega
theorem LB: ∀(l:List ax) (es:List (List UInt8)),es.Pairwise (fun x y=>aQ x y=true)->(l.foldl jR es).Pairwise (fun x y=>aQ x y=true)
 | [],es,h=>h
 |r::l,es,h=>LB l _ (aaD h)
theorem kI: ∀(l:List ax) (es:List (List UInt8)) (x:List UInt8),x∈l.foldl jR es ↔ x∈es\/ ∃r∈l,ay r=true/\(x=r.lo\/(r.op=false/\x=r.hi))
 | [],es,x=>by simp
 |r::l,es,x=>by
  rw[List.foldl_cons,kI l,WK]
  simp only[List.mem_cons,exists_eq_or_imp,or_assoc]
theorem Gs(a b:List ax):(iq a b).Pairwise (fun x y=>aQ x y=true):=LB _ _ (by simp)
theorem Bi(a b:List ax): []∈iq a b:=(kI _ _ _).2 (.inl (by simp))
theorem tZ(a b:List ax): ∀e∈iq a b,e.length<=17:=fun e he=>by
 rcases(kI _ _ _).1 he with h|⟨r,_,h1,h2⟩
 · simp at h;subst h;simp
 · obtain⟨k1,k2,_,_⟩:=cj h1
   rcases h2 with rfl|⟨_,rfl⟩
   · exact k1
   · exact k2
theorem sq(a b:List ax): ∀r∈a++b,ay r=true->r.lo∈iq a b/\(r.op=false->r.hi∈iq a b):=fun r hr h=>⟨(kI _ _ _).2 (.inr ⟨r,hr,h,.inl rfl⟩),fun ho=>(kI _ _ _).2 (.inr ⟨r,hr,h,.inr ⟨ho,rfl⟩⟩)⟩
theorem O5(a b:List ax):(iq a b).length<=1+2*(a.length+b.length):=by
 have:=vC (a++b) [[]]
 rw[List.length_append]at this;exact this
theorem mk_of{kp:Bool->Bool->Bool}{a b:List ax}{es:List (List UInt8)}(up:es.Pairwise (fun x y=>aQ x y=true))(HC: []∈es)(hlen: ∀e∈es,e.length<=17)
 (ha: ∀r∈a,ay r=true->r.lo∈es/\(r.op=false->r.hi∈es)) (hb: ∀r∈b,ay r=true->r.lo∈es/\(r.op=false->r.hi∈es)):
 (D2 (fun s=>kp (ar a s) (ar b s)) es).1.reverse=dd (fun s=>kp (ar a s) (ar b s))/\IsS (fun s=>kp (ar a s) (ar b s)):=
 aaC up HC hlen fun x e _ h1 h2=>by rw[so ha h1 h2,so hb h1 h2]
theorem isS_kp(kp:Bool->Bool->Bool)(a b:List ax):IsS (fun s=>kp (ar a s) (ar b s)):=
 (mk_of (Gs a b) (Bi a b) (tZ a b) (fun r hr=>sq a b r (by simp[hr])) (fun r hr=>sq a b r (by simp[hr]))).2
theorem Ro(l:List ax):IsS (ar l):=isS_kp (fun x _=>x) l l
theorem t_(l:List ax)(s:List UInt8):ar (dd (ar l)) s=ar l s:=Bg (Ro l) s
theorem TI{l:List ax}(h:aO l=true):dd (ar l)=l:=(HS h (fun _=>rfl)).symm
set_option maxRecDepth 20000
set_option maxHeartbeats 4000000
def D3:aj:=vy
theorem iZ:ag Tryz.prog D3:=HG _
@[go_sem] theorem T13z_eq:D3=vy:=rfl
structure aC where
 f:Int
 t:Int
 deriving DecidableEq,Inhabited
def aC.cells(r:aC):List A:=[.int .i64 r.f,.int .i64 r.t]
def aC.enc(r:aC):A:= .agg r.cells
@[go_sem] theorem aC.sm{a b:Int}:aC.enc ⟨a,b⟩= .agg [.int .i64 a,.int .i64 b]:=rfl
theorem aC.d_(v w:aC)(h:v.enc=w.enc):v=w:=by cases v;cases w;simpa[aC.enc,aC.cells]using h
@[simp] theorem map_run_inj{l m:List aC}:(l.map aC.enc=m.map aC.enc)=(l=m):=map_inj aC.d_
def cq(r:aC):Bool:=decide (1<=r.f)&&decide (r.f<=r.t)&&decide (r.t<=1099511627776)
theorem iM{r:aC}(h:cq r=true):1<=r.f/\r.f<=r.t/\r.t<=1099511627776:=by simpa[cq,and_assoc]using h
theorem D4:ai Tryz.prog D3 Tryz.f199.ntmps (Tryz.f199.body.getD .skip)=true:=by kernel_rfl
theorem HV(f t:Int):az Tryz.prog 199 [.agg [.int .i64 f,.int .i64 t]] (· = .bool (cq ⟨f,t⟩)):=by
 refine aa iZ mixed Tryz.func199 rfl (Nat.le_of_ble_eq_true rfl) D4 ?_;unfold Tryz.f199;by_cases h1:1<=f
 · by_cases h2:f<=t
   · simp-implicitDefEqProofs (disch:=(first|omega|decide)) only[go_sem,↓reduceIte,seval,h1,h2,cq]
   · simp-implicitDefEqProofs (disch:=(first|omega|decide)) only[go_sem,↓reduceIte,seval,h1,h2,cq]
 · simp-implicitDefEqProofs (disch:=(first|omega|decide)) only[go_sem,↓reduceIte,seval,h1,cq]
theorem HW:ai Tryz.prog D3 Tryz.f200.ntmps (Tryz.f200.body.getD .skip)=true:=by kernel_rfl
theorem LC(f t:Int):az Tryz.prog 200 [.agg [.int .i64 f,.int .i64 t]] (· = .bool (cq ⟨f,t⟩)):=by
 refine aa iZ mixed Tryz.func200 rfl (Nat.le_of_ble_eq_true rfl) HW ?_;unfold Tryz.f200;by_cases h1:1<=f
 · by_cases h2:f<=t
   · simp-implicitDefEqProofs (disch:=(first|omega|decide)) only[go_sem,↓reduceIte,seval,h1,h2,cq]
   · simp-implicitDefEqProofs (disch:=(first|omega|decide)) only[go_sem,↓reduceIte,seval,h1,h2,cq]
 · simp-implicitDefEqProofs (disch:=(first|omega|decide)) only[go_sem,↓reduceIte,seval,h1,cq]
def O6:aj:=D3.add 199 (entry (fun(v:Int×Int)=>[.agg [.int .i64 v.1,.int .i64 v.2]]) (fun v=>True) (fun v=> .bool (cq ⟨v.1,v.2⟩)))
theorem aaE:ag Tryz.prog O6:=iZ.bG Tryz.func199 (by kernel_rfl) (by kernel_rfl) fun v h=>HV v.1 v.2
theorem yp(v:Int×Int)(h:True):O6.f 199 [.agg [.int .i64 v.1,.int .i64 v.2]]=some (.bool (cq ⟨v.1,v.2⟩)):=aj.an (Γ:=D3) (fun i j h=>by simpa[Prod.ext_iff,and_assoc]using h) v h
def pG:aj:=O6.add 200 (entry (fun(v:Int×Int)=>[.agg [.int .i64 v.1,.int .i64 v.2]]) (fun v=>True) (fun v=> .bool (cq ⟨v.1,v.2⟩)))
theorem nI:ag Tryz.prog pG:=aaE.bG Tryz.func200 (by kernel_rfl) (by kernel_rfl) fun v h=>LC v.1 v.2
@[go_sem] theorem T13b_old{g:FuncId}{xs:List A}(h:g≠200):pG.f g xs=O6.f g xs:=aj.ak h
@[go_sem] theorem T13b_s:pG.pl O6:=⟨fun _=>rfl,fun _=>rfl,rfl,fun _=>rfl,rfl,fun _=>rfl,rfl⟩
theorem Bj(v:Int×Int)(h:True):pG.f 200 [.agg [.int .i64 v.1,.int .i64 v.2]]=some (.bool (cq ⟨v.1,v.2⟩)):=aj.an (Γ:=O6) (fun i j h=>by simpa[Prod.ext_iff,and_assoc]using h) v h
@[go_sem] theorem aaF{f t:Int}:O6.f 199 [.agg [.int .i64 f,.int .i64 t]]=some (.bool (cq ⟨f,t⟩)):=yp (f,t) trivial
@[go_sem] theorem t_ref13_One{f t:Int}:pG.f 200 [.agg [.int .i64 f,.int .i64 t]]=some (.bool (cq ⟨f,t⟩)):=Bj (f,t) trivial
def N3:Option Int->List aC->Bool
 |_,[]=>true
 |p,r::rs=>cq r&&(match p with|none=>true|some t=>decide (t+2<=r.f))&&N3 (some r.t) rs
def bm(l:List aC):Bool:=N3 none l
def ah(l:List aC)(n:Int):Bool:=l.any fun r=>cq r&&decide (r.f<=n)&&decide (n<=r.t)
def fy(a b:List aC):Bool:=decide (a=b)
theorem run_get{l:List aC}{k:Nat}(h:k<l.length):(l.map aC.enc)[k]? =some (.agg [.int .i64 l[k].f,.int .i64 l[k].t]):=by rw[List.getElem?_map,List.getElem?_eq_getElem h];rfl
theorem D5:ai Tryz.prog pG Tryz.f165.ntmps (Tryz.f165.body.getD .skip)=true:=by kernel_rfl
theorem HX(l:List aC)(n:Int)(hl:l.length<=4611686018427387904):az Tryz.prog 165 [.ad (l.map aC.enc),.int .i64 n] (· = .bool (ah l n)):=by
 refine aa nI mixed Tryz.func165 rfl (Nat.le_of_ble_eq_true rfl) D5 ?_;unfold Tryz.f165;simp-implicitDefEqProofs (disch:=(first|omega|decide)) only[go_sem,↓reduceIte,seval,List.length_map]
 refine ao [0,1,7,8] (ι:={k:Nat//k<=l.length/\ah l n=ah (l.drop k) n}) (fun p=>[(9,.int .i64 p.1),(4,.bool false)]) (fun _=>[]) (fun p=>l.length-p.1) ⟨0,by omega,rfl⟩ (Nat.zero_le _) ?_ ?_
 · simp-implicitDefEqProofs (disch:=(first|omega|decide)) only[go_sem,↓reduceIte,seval]
 · rintro⟨k,hk,hd⟩
   simp only;by_cases aw:k<l.length
   · have ae:(k:Int)<(l.length:Int):=by omega
     have e1:=run_get aw;rw[List.drop_eq_getElem_cons aw]at hd;generalize hx:l[k]=x at*;obtain⟨f,t⟩:=x;simp only[ah,List.any_cons]at hd;have next:ah l n=ah (l.drop (k+1)) n-> ∃j:{k:Nat//k<=l.length/\ah l n=ah (l.drop k) n},(k:Int)+1=(j.1:Int)/\l.length-j.1<l.length-k:=fun h=>⟨⟨k+1,aw,h⟩,by simp,by show l.length-(k+1)<l.length-k;omega⟩
     cases h1:cq ⟨f,t⟩with
     |false=>
      simp-implicitDefEqProofs (disch:=(first|omega|decide)) only[go_sem,↓reduceIte,seval,ae,e1,h1,wrap_i64,List.length_map]
      exact next (by rw[h1]at hd;simpa[ah]using hd)
     |true=>
      by_cases h2:f<=n
      · by_cases h3:n<=t
        · have hh:ah l n=true:=by unfold ah;rw[hd];simp[h1,h2,h3]
          simp-implicitDefEqProofs (disch:=(first|omega|decide)) only[go_sem,↓reduceIte,seval,ae,e1,h1,h2,h3,hh,wrap_i64,List.length_map]
        · simp-implicitDefEqProofs (disch:=(first|omega|decide)) only[go_sem,↓reduceIte,seval,ae,e1,h1,h2,h3,wrap_i64,List.length_map]
          exact next (by rw[h1]at hd;simpa[ah,h2,h3]using hd)
      · simp-implicitDefEqProofs (disch:=(first|omega|decide)) only[go_sem,↓reduceIte,seval,ae,e1,h1,h2,wrap_i64,List.length_map]
        exact next (by rw[h1]at hd;simpa[ah,h2]using hd)
   · have ae: ¬(k:Int)<(l.length:Int):=by omega
     have hh:ah l n=false:=by rw[hd,List.drop_of_length_le (by omega)];rfl
     simp-implicitDefEqProofs (disch:=(first|omega|decide)) only[go_sem,↓reduceIte,seval,ae,hh,List.length_map]
theorem bA:ai Tryz.prog D3 Tryz.f206.ntmps (Tryz.f206.body.getD .skip)=true:=by kernel_rfl
theorem LD(l:List aC)(hl:l.length<=4398046511104):az Tryz.prog 206 [.ad (l.map aC.enc)] (· = .ad (l.map aC.enc)):=by
 cases l with
 |nil=>
  refine Gj ?_ ?_
  · refine aa iZ mixed Tryz.func206 rfl (Nat.le_of_ble_eq_true rfl) bA ?_
    unfold Tryz.f206;simp-implicitDefEqProofs (disch:=(first|omega|decide)) only[go_sem,↓reduceIte,seval]
  · refine aa iZ mixed Tryz.func206 rfl (Nat.le_of_ble_eq_true rfl) bA ?_
    unfold Tryz.f206;simp-implicitDefEqProofs (disch:=(first|omega|decide)) only[go_sem,↓reduceIte,seval]
 |cons r l=>
  refine aa iZ mixed Tryz.func206 rfl (Nat.le_of_ble_eq_true rfl) bA ?_;unfold Tryz.f206;obtain⟨f,t⟩:=r;simp only[List.length_cons]at hl;simp-implicitDefEqProofs (disch:=(first|omega|decide)) only[go_sem,↓reduceIte,seval,List.length_map]
  exact⟨by omega,Nat.le_refl _,by rw[List.take_of_length_le (by simp)]⟩
theorem D6:ai Tryz.prog D3 Tryz.f140.ntmps (Tryz.f140.body.getD .skip)=true:=by kernel_rfl
theorem HY(a b:List aC)(hl:a.length<=4611686018427387904)(hb:b.length<=4611686018427387904):az Tryz.prog 140 [.ad (a.map aC.enc),.ad (b.map aC.enc)] (· = .bool (fy a b)):=by
 refine aa iZ mixed Tryz.func140 rfl (Nat.le_of_ble_eq_true rfl) D6 ?_;unfold Tryz.f140;cases h0:((a.length:Int)==(b.length:Int))with
 |false=>
  have bU:a.length≠b.length:=by
   have:(a.length:Int)≠(b.length:Int):=by simpa using h0
   omega
  have hh:fy a b=false:=by unfold fy;simp;intro e;exact bU (by rw[e])
  simp-implicitDefEqProofs (disch:=(first|omega|decide)) only[go_sem,↓reduceIte,seval,h0,hh,List.length_map]
 |true=>
  have he:a.length=b.length:=by
   have:(a.length:Int)=(b.length:Int):=by simpa using h0
   omega
  simp-implicitDefEqProofs (disch:=(first|omega|decide)) only[go_sem,↓reduceIte,seval,h0,List.length_map]
  refine ao [0,1] (ι:={k:Nat//k<=a.length/\a.take k=b.take k}) (fun p=>[(5,.int .i64 p.1)]) (fun _=>[]) (fun p=>a.length-p.1) ⟨0,by omega,rfl⟩ (Nat.zero_le _) ?_ ?_
  · simp-implicitDefEqProofs (disch:=(first|omega|decide)) only[go_sem,↓reduceIte,seval]
  · rintro⟨k,hk,hd⟩
    simp only;by_cases aw:k<a.length
    · have ae:(k:Int)<(a.length:Int):=by omega
      have kh:(k:Int)<(b.length:Int):=by omega
      have gQ:k<b.length:=by omega
      have e1:=run_get aw;have e2:=run_get gQ;have t1:=(List.take_append_getElem aw).symm;have t2:=(List.take_append_getElem gQ).symm;have qF:a[k]≠b[k]->fy a b=false:=fun h=>by unfold fy;simp;intro e;subst e;exact h rfl
      generalize hx:a[k]=x at*;generalize hy:b[k]=y at*;obtain⟨f,t⟩:=x;obtain⟨f',t'⟩:=y;cases h1:f==f' with
      |false=>
       have hh:=qF (by have:f≠f':=by simpa using h1
                       simp[this])
       simp-implicitDefEqProofs (disch:=(first|omega|decide)) only[go_sem,↓reduceIte,seval,ae,kh,e1,e2,h1,hh,List.length_map]
      |true=>
       cases h2:t==t' with
       |false=>
        have hh:=qF (by have:t≠t':=by simpa using h2
                        simp[this])
        simp-implicitDefEqProofs (disch:=(first|omega|decide)) only[go_sem,↓reduceIte,seval,ae,kh,e1,e2,h1,h2,hh,List.length_map]
       |true=>
        obtain rfl:f=f':=by simpa using h1
        obtain rfl:t=t':=by simpa using h2
        simp-implicitDefEqProofs (disch:=(first|omega|decide)) only[go_sem,↓reduceIte,seval,ae,kh,e1,e2,h1,h2,wrap_i64,List.length_map]
        exact⟨⟨k+1,aw,by rw[t1,t2,hd]⟩,by simp,by show a.length-(k+1)<a.length-k;omega⟩
    · have ae: ¬(k:Int)<(a.length:Int):=by omega
      have hh:fy a b=true:=by rw[List.take_of_length_le (by omega),List.take_of_length_le (by omega)]at hd;simp[fy,hd]
      simp-implicitDefEqProofs (disch:=(first|omega|decide)) only[go_sem,↓reduceIte,seval,ae,hh,List.length_map]
end Go.Proofs.YtihgnfmoafjakaaGreat
