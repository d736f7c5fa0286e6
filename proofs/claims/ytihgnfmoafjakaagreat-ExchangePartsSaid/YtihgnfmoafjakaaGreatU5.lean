/- What the laws of this claim rest on: the abstract executor, its soundness, and what the functions compute on pure data. No condition. -/
import Derived.Test.YtihgnfmoafjakaaGreatU4
import Derived.Shelf.SlSortCmp.NoneTotal
import Derived.Ground.SlsfProg
import Derived.Test.YtihgnfmoafjakaaGreatProg
noncomputable section
set_option linter.unusedVariables false
set_option linter.unusedSimpArgs false
namespace Go.Proofs.YtihgnfmoafjakaaGreat
open Go.bo
set_option linter.unusedSimpArgs false
set_option linter.unusedVariables false
set_option maxRecDepth 20000
set_option maxHeartbeats 4000000
def lp(l:List aF)(k:Nat):Option Int:=if k=0 then none else(l[k-1]?).map aF.t
theorem Ak:ah Tryz.prog qG Tryz.f179.ntmps (Tryz.f179.body.getD .skip)=true:=by kernel_rfl
theorem qH(l:List aF)(hl:l.length<=4611686018427387904):ay Tryz.prog 179 [.ab (l.map aF.enc)] (· = .bool (bz l)):=by
 refine aa oP mixed Tryz.func179 rfl (Nat.le_of_ble_eq_true rfl) Ak ?_;unfold Tryz.f179;simp-implicitDefEqProofs (disch:=(first|omega|decide)) only[go_sem,↓reduceIte,seval,List.length_map]
 refine ar [0,5,6] (ι:={k:Nat//k<=l.length/\bz l=Qe (lp l k) (l.drop k)/\ ∀h:k-1<l.length,0<k->cF l[k-1]=true}) (fun p=>[(7,.int .i64 p.1),(2,.bool false)]) (fun _=>[]) (fun p=>l.length-p.1) ⟨0,by omega,rfl,fun _ h=>absurd h (by omega)⟩ (Nat.zero_le _) ?_ ?_
 · simp-implicitDefEqProofs (disch:=(first|omega|decide)) only[go_sem,↓reduceIte,seval]
 · rintro⟨k,hk,hd,hp⟩
   simp only;by_cases aw:k<l.length
   · have ae:(k:Int)<(l.length:Int):=by omega
     have e1:=run_get aw;have Da:lp l (k+1)=some l[k].t:=by unfold lp;rw[if_neg (by omega),show k+1-1=k by omega,List.getElem?_eq_getElem aw];rfl
     rw[List.drop_eq_getElem_cons aw]at hd;simp only[Qe]at hd;have next:bz l=Qe (some l[k].t) (l.drop (k+1))->cF l[k]=true-> ∃j:{k:Nat//k<=l.length/\bz l=Qe (lp l k) (l.drop k)/\ ∀h:k-1<l.length,0<k->cF l[k-1]=true},(k:Int)+1=(j.1:Int)/\l.length-j.1<l.length-k:=fun h h'=>⟨⟨k+1,aw,by rw[Da];exact h,fun _ _=>h'⟩,by simp,by show l.length-(k+1)<l.length-k;omega⟩
     generalize hx:l[k]=x at*;obtain⟨f,t⟩:=x;cases h1:cF ⟨f,t⟩with
     |false=>
      have hh:bz l=false:=by rw[hd,h1];rfl
      simp-implicitDefEqProofs (disch:=(first|omega|decide)) only[go_sem,↓reduceIte,seval,ae,e1,h1,hh,wrap_i64,List.length_map]
     |true=>
      obtain⟨o1,o2,o3⟩:=ju h1;simp only at o1 o2 o3;by_cases h0:0<k
      · have Gj:(0:Int)<(k:Int):=by omega
        have lC:k-1<l.length:=by omega
        have e0:=run_get lC;have hpo:=hp lC h0;have hpt:lp l k=some l[k-1].t:=by unfold lp;rw[if_neg (by omega),List.getElem?_eq_getElem lC];rfl
        have t0:((k:Int)-1).toNat=k-1:=by omega
        have b0:(0:Int)<=(k:Int)-1:=by omega
        have b1:(k:Int)-1<(l.length:Int):=by omega
        rw[hpt]at hd;generalize hy:l[k-1]=y at*;obtain⟨f',t'⟩:=y;obtain⟨p1,p2,p3⟩:=ju hpo;simp only at p1 p2 p3 hd;by_cases h2:f-t'<2
        · have hh:bz l=false:=by
           rw[hd];have: ¬t'+2<=f:=by omega
           simp[this]
          simp-implicitDefEqProofs (disch:=(first|omega|decide)) only[go_sem,↓reduceIte,seval,ae,e1,e0,h1,Gj,t0,b0,b1,h2,hh,wrap_i64,List.length_map]
        · simp-implicitDefEqProofs (disch:=(first|omega|decide)) only[go_sem,↓reduceIte,seval,ae,e1,e0,h1,Gj,t0,b0,b1,h2,wrap_i64,List.length_map]
          have h3:t'+2<=f:=by omega
          exact next (by rw[hd,h1];simp[h3]) h1
      · have Gj: ¬(0:Int)<(k:Int):=by omega
        simp-implicitDefEqProofs (disch:=(first|omega|decide)) only[go_sem,↓reduceIte,seval,ae,e1,h1,Gj,wrap_i64,List.length_map]
        have xg:k=0:=by omega
        exact next (by rw[hd,h1];simp[lp,xg]) h1
   · have ae: ¬(k:Int)<(l.length:Int):=by omega
     have hh:bz l=true:=by rw[hd,List.drop_of_length_le (by omega)];cases lp l k<;>rfl
     simp-implicitDefEqProofs (disch:=(first|omega|decide)) only[go_sem,↓reduceIte,seval,ae,hh,List.length_map]
theorem Db:ah Tryz.prog qG Tryz.f169.ntmps (Tryz.f169.body.getD .skip)=true:=by kernel_rfl
theorem Gk(l:List aF)(hl:l.length<=4611686018427387904):ay Tryz.prog 169 [.ab (l.map aF.enc)] (· = .bool (bz l)):=by
 refine aa oP mixed Tryz.func169 rfl (Nat.le_of_ble_eq_true rfl) Db ?_;unfold Tryz.f169;simp-implicitDefEqProofs (disch:=(first|omega|decide)) only[go_sem,↓reduceIte,seval,List.length_map]
 refine ar [0] (ι:={k:Nat//k<=l.length/\bz l=Qe (lp l k) (l.drop k)/\ ∀h:k-1<l.length,0<k->cF l[k-1]=true}) (fun p=>[(3,.int .i64 p.1),(2,.bool false)]) (fun _=>[]) (fun p=>l.length-p.1) ⟨0,by omega,rfl,fun _ h=>absurd h (by omega)⟩ (Nat.zero_le _) ?_ ?_
 · simp-implicitDefEqProofs (disch:=(first|omega|decide)) only[go_sem,↓reduceIte,seval]
 · rintro⟨k,hk,hd,hp⟩
   simp only;by_cases aw:k<l.length
   · have ae:(k:Int)<(l.length:Int):=by omega
     have e1:=run_get aw;have Da:lp l (k+1)=some l[k].t:=by unfold lp;rw[if_neg (by omega),show k+1-1=k by omega,List.getElem?_eq_getElem aw];rfl
     rw[List.drop_eq_getElem_cons aw]at hd;simp only[Qe]at hd;have next:bz l=Qe (some l[k].t) (l.drop (k+1))->cF l[k]=true-> ∃j:{k:Nat//k<=l.length/\bz l=Qe (lp l k) (l.drop k)/\ ∀h:k-1<l.length,0<k->cF l[k-1]=true},(k:Int)+1=(j.1:Int)/\l.length-j.1<l.length-k:=fun h h'=>⟨⟨k+1,aw,by rw[Da];exact h,fun _ _=>h'⟩,by simp,by show l.length-(k+1)<l.length-k;omega⟩
     generalize hx:l[k]=x at*;obtain⟨f,t⟩:=x;cases h1:cF ⟨f,t⟩with
     |false=>
      have hh:bz l=false:=by rw[hd,h1];rfl
      simp-implicitDefEqProofs (disch:=(first|omega|decide)) only[go_sem,↓reduceIte,seval,ae,e1,h1,hh,wrap_i64,List.length_map]
     |true=>
      obtain⟨o1,o2,o3⟩:=ju h1;simp only at o1 o2 o3;by_cases h0:0<k
      · have Gj:(0:Int)<(k:Int):=by omega
        have lC:k-1<l.length:=by omega
        have e0:=run_get lC;have hpo:=hp lC h0;have hpt:lp l k=some l[k-1].t:=by unfold lp;rw[if_neg (by omega),List.getElem?_eq_getElem lC];rfl
        have t0:((k:Int)-1).toNat=k-1:=by omega
        have b0:(0:Int)<=(k:Int)-1:=by omega
        have b1:(k:Int)-1<(l.length:Int):=by omega
        rw[hpt]at hd;generalize hy:l[k-1]=y at*;obtain⟨f',t'⟩:=y;obtain⟨p1,p2,p3⟩:=ju hpo;simp only at p1 p2 p3 hd;by_cases h2:f<t'+2
        · have hh:bz l=false:=by
           rw[hd];have: ¬t'+2<=f:=by omega
           simp[this]
          simp-implicitDefEqProofs (disch:=(first|omega|decide)) only[go_sem,↓reduceIte,seval,ae,e1,e0,h1,Gj,t0,b0,b1,h2,hh,wrap_i64,List.length_map]
        · simp-implicitDefEqProofs (disch:=(first|omega|decide)) only[go_sem,↓reduceIte,seval,ae,e1,e0,h1,Gj,t0,b0,b1,h2,wrap_i64,List.length_map]
          have h3:t'+2<=f:=by omega
          exact next (by rw[hd,h1];simp[h3]) h1
      · have Gj: ¬(0:Int)<(k:Int):=by omega
        simp-implicitDefEqProofs (disch:=(first|omega|decide)) only[go_sem,↓reduceIte,seval,ae,e1,h1,Gj,wrap_i64,List.length_map]
        have xg:k=0:=by omega
        exact next (by rw[hd,h1];simp[lp,xg]) h1
   · have ae: ¬(k:Int)<(l.length:Int):=by omega
     have hh:bz l=true:=by rw[hd,List.drop_of_length_le (by omega)];cases lp l k<;>rfl
     simp-implicitDefEqProofs (disch:=(first|omega|decide)) only[go_sem,↓reduceIte,seval,ae,hh,List.length_map]
theorem J7:ah Tryz.prog qG Tryz.f167.ntmps (Tryz.f167.body.getD .skip)=true:=by kernel_rfl
theorem NQ(l:List aF)(n:Int)(hl:l.length<=4611686018427387904):ay Tryz.prog 167 [.ab (l.map aF.enc),.int .i64 n] (· = .bool (ai l n)):=by
 refine aa oP mixed Tryz.func167 rfl (Nat.le_of_ble_eq_true rfl) J7 ?_;unfold Tryz.f167;simp-implicitDefEqProofs (disch:=(first|omega|decide)) only[go_sem,↓reduceIte,seval,List.length_map]
 refine ar [0,1] (ι:={k:Nat//k<=l.length/\ai l n=ai (l.drop k) n}) (fun p=>[(5,.int .i64 p.1),(4,.bool false)]) (fun _=>[]) (fun p=>l.length-p.1) ⟨0,by omega,rfl⟩ (Nat.zero_le _) ?_ ?_
 · simp-implicitDefEqProofs (disch:=(first|omega|decide)) only[go_sem,↓reduceIte,seval]
 · rintro⟨k,hk,hd⟩
   simp only;by_cases aw:k<l.length
   · have ae:(k:Int)<(l.length:Int):=by omega
     have e1:=run_get aw;rw[List.drop_eq_getElem_cons aw]at hd;generalize hx:l[k]=x at*;obtain⟨f,t⟩:=x;simp only[ai,List.any_cons]at hd;have next:ai l n=ai (l.drop (k+1)) n-> ∃j:{k:Nat//k<=l.length/\ai l n=ai (l.drop k) n},(k:Int)+1=(j.1:Int)/\l.length-j.1<l.length-k:=fun h=>⟨⟨k+1,aw,h⟩,by simp,by show l.length-(k+1)<l.length-k;omega⟩
     cases h1:cF ⟨f,t⟩with
     |false=>
      simp-implicitDefEqProofs (disch:=(first|omega|decide)) only[go_sem,↓reduceIte,seval,ae,e1,h1,wrap_i64,List.length_map]
      exact next (by rw[h1]at hd;simpa[ai]using hd)
     |true=>
      by_cases h2:f<=n
      · by_cases h3:n<=t
        · have hh:ai l n=true:=by unfold ai;rw[hd];simp[h1,h2,h3]
          simp-implicitDefEqProofs (disch:=(first|omega|decide)) only[go_sem,↓reduceIte,seval,ae,e1,h1,h2,h3,hh,wrap_i64,List.length_map]
        · simp-implicitDefEqProofs (disch:=(first|omega|decide)) only[go_sem,↓reduceIte,seval,ae,e1,h1,h2,h3,wrap_i64,List.length_map]
          exact next (by rw[h1]at hd;simpa[ai,h2,h3]using hd)
      · simp-implicitDefEqProofs (disch:=(first|omega|decide)) only[go_sem,↓reduceIte,seval,ae,e1,h1,h2,wrap_i64,List.length_map]
        exact next (by rw[h1]at hd;simpa[ai,h2]using hd)
   · have ae: ¬(k:Int)<(l.length:Int):=by omega
     have hh:ai l n=false:=by rw[hd,List.drop_of_length_le (by omega)];rfl
     simp-implicitDefEqProofs (disch:=(first|omega|decide)) only[go_sem,↓reduceIte,seval,ae,hh,List.length_map]
def Qf(r:aF)(n:Int):Bool:=decide (r.f<=n)&&decide (n<=r.t)
def RR:List aF->Prop
 | []=>True
 | [r]=>cF r=true
 |r::q::l=>cF r=true/\q.t+2<=r.f/\RR (q::l)
theorem cG{r:aF}:cF r=true ↔ 1<=r.f/\r.f<=r.t/\r.t<=1099511627776:=by simp[cF,and_assoc]
theorem NR: ∀(l:List aF) (p:Option Int) (q r:aF),Qe p (l++[q,r])=(Qe p (l++[q])&&(cF r&&decide (q.t+2<=r.f)))
 | [],p,q,r=>by cases p<;>simp[Qe,Bool.and_assoc]
 |x::l,p,q,r=>by simp only[List.cons_append,Qe,NR l (some x.t) q r,Bool.and_assoc]
theorem sk: ∀{l:List aF},bz l.reverse=true ↔ RR l
 | []=>by simp[bz,Qe,RR]
 | [r]=>by simp[bz,Qe,RR]
 |r::q::l=>by
  have ih:= @sk (q::l)
  simp only[List.reverse_cons,List.append_assoc,List.cons_append,List.nil_append,bz]at ih⊢;rw[NR,Bool.and_eq_true,ih,RR,Bool.and_eq_true,decide_eq_true_iff]
  exact⟨fun⟨a,b,c⟩=>⟨b,c,a⟩,fun⟨b,c,a⟩=>⟨a,b,c⟩⟩
theorem lY{l:List aF}:bz l=true ↔ RR l.reverse:=by
 have:= @sk l.reverse
 rwa [List.reverse_reverse]at this
theorem vD{r:aF}: ∀{l:List aF},RR (r::l)->RR l
 | [],_=>trivial
 |_::_,h=>h.2.2
theorem fc{r:aF}: ∀{l:List aF},RR (r::l)->cF r=true
 | [],h=>h
 |_::_,h=>h.1
theorem Y5: ∀{l:List aF},RR l-> ∀r∈l,cF r=true
 | [],_,r,hr=>by cases hr
 |q::l,h,r,hr=>by
  rcases List.mem_cons.1 hr with rfl|hr
  · exact fc h
  · exact Y5 (vD h) r hr
theorem qI: ∀{l:List aF} {r:aF},RR (r::l)-> ∀q∈l,q.t+2<=r.f
 | [],_,_,q,hq=>by cases hq
 |p::l,r,h,q,hq=>by
  rcases List.mem_cons.1 hq with rfl|hq
  · exact h.2.1
  · have h1:=qI h.2.2 q hq
    have h2:=cG.1 (fc h.2.2)
    have h3:=h.2.1;omega
theorem qJ(r:aF)(l:List aF)(n:Int):ai (r::l) n=(cF r&&Qf r n||ai l n):=by simp[ai,Qf,Bool.and_assoc]
theorem sm(n:Int):ai [] n=false:=rfl
theorem fL(l m:List aF)(n:Int):ai (l++m) n=(ai l n||ai m n):=by simp[ai]
theorem sn(l:List aF)(n:Int):ai l.reverse n=ai l n:=by simp[ai]
theorem dV{l:List aF}{n:Int}:ai l n=true ↔∃r∈l,cF r=true/\r.f<=n/\n<=r.t:=by simp[ai,and_assoc]
theorem V7{l:List aF}{n:Int}(h:ai l n=true):1<=n/\n<=1099511627776:=by obtain⟨r,_,h1,h2,h3⟩:=dV.1 h;have:=cG.1 h1;omega
theorem Y6{l m:List aF}(h:l.Perm m)(n:Int):ai l n=ai m n:=by
 rw[Bool.eq_iff_iff,dV,dV]
 exact⟨fun⟨r,hr,h1⟩=>⟨r,h.mem_iff.1 hr,h1⟩,fun⟨r,hr,h1⟩=>⟨r,h.mem_iff.2 hr,h1⟩⟩
theorem Rf(l:List aF)(n:Int):ai (l.filter cF) n=ai l n:=by
 rw[Bool.eq_iff_iff,dV,dV]
 exact⟨fun⟨r,hr,h1⟩=>⟨r,(List.mem_filter.1 hr).1,h1⟩,fun⟨r,hr,h1⟩=>⟨r,List.mem_filter.2 ⟨hr,h1.1⟩,h1⟩⟩
theorem Rg{r:aF}{l:List aF}(h:RR (r::l)): ∀n,ai (r::l) n=true->n<=r.t:=fun n hn=>by
 obtain⟨q,hq,h1,h2,h3⟩:=dV.1 hn;rcases List.mem_cons.1 hq with rfl|hq
 · exact h3
 · have:=qI h q hq
   have:=cG.1 (fc h)
   omega
theorem Y7{r:aF}{l:List aF}(h:RR (r::l))(n:Int):ai l n=(ai (r::l) n&&decide (n+2<=r.f)):=by
 rw[Bool.eq_iff_iff,Bool.and_eq_true,decide_eq_true_iff,dV,dV]
 constructor
 · rintro⟨q,hq,h1,h2,h3⟩
   have:=qI h q hq;exact⟨⟨q,List.mem_cons_of_mem _ hq,h1,h2,h3⟩,by omega⟩
 · rintro⟨⟨q,hq,h1,h2,h3⟩,h4⟩
   rcases List.mem_cons.1 hq with rfl|hq
   · omega
   · exact⟨q,hq,h1,h2,h3⟩
theorem IB: ∀{l m:List aF},RR l->RR m->(∀n,ai l n=ai m n)->l=m
 | [],[],_,_,_=>rfl
 | [],r::m,_,h,hm=>by
  have h1:=cG.1 (fc h)
  have h2:ai (r::m) r.t=true:=dV.2 ⟨r,by simp,fc h,h1.2.1,Int.le_refl _⟩
  rw[<-hm]at h2;cases h2
 |r::l,[],h,_,hm=>by
  have h1:=cG.1 (fc h)
  have h2:ai (r::l) r.t=true:=dV.2 ⟨r,by simp,fc h,h1.2.1,Int.le_refl _⟩
  rw[hm]at h2;cases h2
 |r::l,q::m,h,h',hm=>by
  have o1:=cG.1 (fc h)
  have o2:=cG.1 (fc h')
  have a1:ai (r::l) r.t=true:=dV.2 ⟨r,by simp,fc h,o1.2.1,Int.le_refl _⟩
  have a2:ai (q::m) q.t=true:=dV.2 ⟨q,by simp,fc h',o2.2.1,Int.le_refl _⟩
  rw[hm]at a1;rw[<-hm]at a2;have b1:=Rg h' _ a1;have b2:=Rg h _ a2;have et:r.t=q.t:=by omega
  -- what begins lower has the count ahead of the other's beginning
  have key: ∀{r q:aF} {l m:List aF},RR (r::l)->RR (q::m)->(∀n,ai (r::l) n=ai (q::m) n)->r.t=q.t->r.f<=q.f:=by
   intro r q l m h h' hm et;rcases Int.lt_or_le q.f r.f with aw|hle
   · exfalso
     have o1:=cG.1 (fc h)
     have o2:=cG.1 (fc h')
     have c1:ai (q::m) (r.f-1)=true:=dV.2 ⟨q,by simp,fc h',by omega,by omega⟩
     rw[<-hm]at c1;obtain⟨p,hp,h1,h2,h3⟩:=dV.1 c1;rcases List.mem_cons.1 hp with rfl|hp
     · omega
     · have:=qI h p hp;omega
   · exact hle
  have ef:r.f=q.f:=by have:=key h h' hm et;have:=key h' h (fun n=>(hm n).symm) et.symm;omega
  have e:r=q:=by cases r;cases q;simp_all
  subst e;rw[IB (vD h) (vD h') fun n=>by rw[Y7 h,Y7 h',hm]]
theorem J8{l m:List aF}(h:bz l=true)(h':bz m=true)(hm: ∀n,ai l n=ai m n):l=m:=by
 have:=IB (lY.1 h) (lY.1 h') (fun n=>by rw[sn,sn,hm])
 simpa using this
open Classical in
/-- The right list of what is meant, if there is one. -/
def cJ(p:Int->Bool):List aF:=if h: ∃l,bz l=true/\ ∀n,ai l n=p n then Classical.choose h else []
def IsR(p:Int->Bool):Prop:= ∃l,bz l=true/\ ∀n,ai l n=p n
theorem ig(p:Int->Bool):bz (cJ p)=true:=by
 unfold cJ;split
 · rename_i h;exact(Classical.choose_spec h).1
 · rfl
theorem nO{p:Int->Bool}(h:IsR p)(n:Int):ai (cJ p) n=p n:=by unfold cJ;rw[dif_pos (show∃l,bz l=true/\ ∀n,ai l n=p n from h)];exact(Classical.choose_spec h).2 n
theorem so{p:Int->Bool}{l:List aF}(h:bz l=true)(hp: ∀n,ai l n=p n):l=cJ p:=
 J8 h (ig p) fun n=>by rw[hp,nO ⟨l,h,hp⟩]
def cP:List aF->aF->List aF
 | [],r=>[r]
 |q::qs,r=>if r.f<q.t+2 then⟨q.f,if r.t>q.t then r.t else q.t⟩::qs else r::q::qs
def lowF(l:List aF)(x:Int):Prop:=match l with| []=>True|q::_=>q.f<=x
theorem zA{l:List aF}{r:aF}(h:RR l)(hr:cF r=true)(hf:lowF l r.f):RR (cP l r)/\lowF (cP l r) r.f/\ ∀n,ai (cP l r) n=(ai l n||Qf r n):=by
 cases l with
 |nil=>exact⟨hr,Int.le_refl _,fun n=>by simp[cP,ai,hr,Qf]⟩
 |cons q qs=>
  have o1:=cG.1 hr;have o2:=cG.1 (fc h)
  have MY:q.f<=r.f:=hf;simp only[cP]
  by_cases hc:r.f<q.t+2
  · rw[if_pos hc]
    generalize ht:(if r.t>q.t then r.t else q.t)=t;have ht':(t=r.t/\q.t<r.t)\/(t=q.t/\r.t<=q.t):=by split at ht<;>omega
    have ho:cF ⟨q.f,t⟩=true:=cG.2 ⟨o2.1,by show q.f<=t;omega,by show t<=_;omega⟩
    refine⟨?_,MY,fun n=> ?_⟩
    · cases qs with
      |nil=>exact ho
      |cons p ps=>exact⟨ho,h.2.1,h.2.2⟩
    · rw[qJ,qJ,ho,fc h]
      have:Qf ⟨q.f,t⟩ n=(Qf q n||Qf r n):=by rw[Bool.eq_iff_iff];simp only[Qf,Bool.and_eq_true,Bool.or_eq_true,decide_eq_true_iff];omega
      rw[this];simp only[Bool.true_and]
      cases Qf q n<;>cases Qf r n<;>cases ai qs n<;>rfl
  · rw[if_neg hc]
    refine⟨⟨hr,by omega,h⟩,Int.le_refl _,fun n=> ?_⟩
    rw[qJ,hr];simp only[Bool.true_and];cases Qf r n<;>cases ai (q::qs) n<;>rfl
theorem IC(l:List aF)(r:aF):(cP l r).length<=l.length+1:=by
 cases l with
 |nil=>simp[cP]
 |cons q qs=>simp only[cP];split<;>simp
theorem fold_push: ∀{l:List aF} {a:List aF},RR a->(∀r∈l,cF r=true)->l.Pairwise (fun x y=>x.f<=y.f)->(∀r∈l,lowF a r.f)->RR (l.foldl cP a)/\ ∀n,ai (l.foldl cP a) n=(ai a n||ai l n)
 | [],a,h,_,_,_=>⟨h,fun n=>by simp[ai]⟩
 |r::l,a,h,ho,hs,hf=>by
  obtain⟨h1,h2,h3⟩:=zA h (ho r (by simp)) (hf r (by simp))
  rw[List.pairwise_cons]at hs
  obtain⟨h4,h5⟩:=fold_push (l:=l) h1 (fun q hq=>ho q (by simp[hq])) hs.2 (fun q hq=>by
   have:=hs.1 q hq;revert h2;cases cP a r with
   |nil=>intro _;trivial
   |cons p ps=>intro h2;exact Int.le_trans h2 this)
  refine⟨h4,fun n=> ?_⟩
  rw[List.foldl_cons,h5,h3,qJ,ho r (by simp)]
  simp only[Bool.true_and,Bool.or_assoc]
theorem Gl{l:List aF}(ho: ∀r∈l,cF r=true)(hs:l.Pairwise (fun x y=>x.f<=y.f)):(l.foldl cP []).reverse=cJ (ai l):=by
 obtain⟨h1,h2⟩:=fold_push (a:=[]) trivial ho hs (fun _ _=>trivial)
 exact so (sk.2 h1) fun n=>by rw[sn,h2];simp[ai]
end Go.Proofs.YtihgnfmoafjakaaGreat
namespace Go.Proofs.YtihgnfmoafjakaaGreat
open Go.bo
set_option linter.unusedSimpArgs false
set_option linter.unusedVariables false
def jL:List Int->Int->List Int
 | [],n=>[n]
 |x::xs,n=>if x<n then x::jL xs n else if x=n then x::xs else n::x::xs
theorem vE(l:List Int)(n:Int):(jL l n).length<=l.length+1:=by
 induction l with
 |nil=>simp[jL]
 |cons x xs ih=>
  simp only[jL]
  split
  · simp;omega
  · split<;>simp
theorem TV(l:List Int)(n:Int):jL l n≠ []:=by
 cases l with
 |nil=>simp[jL]
 |cons x xs=>
  simp only[jL]
  split
  · simp
  · split<;>simp
theorem Dc(l:List Int)(n x:Int):x∈jL l n ↔ x=n\/x∈l:=by
 induction l with
 |nil=>simp[jL]
 |cons y ys ih=>
  simp only[jL]
  split
  · rw[List.mem_cons,ih,List.mem_cons]
    exact⟨fun h=>by rcases h with h|h|h<;>simp[h],fun h=>by rcases h with h|h|h<;>simp[h]⟩
  · split
    · rename_i h1 h2;subst h2;simp
    · simp
theorem TW{l:List Int}{n:Int}(h:l.Pairwise (· < ·)):(jL l n).Pairwise (· < ·):=by
 induction l with
 |nil=>simp[jL]
 |cons y ys ih=>
  rw[List.pairwise_cons]at h;simp only[jL]
  split
  · rename_i h1
    rw[List.pairwise_cons]
    refine⟨fun x hx=> ?_,ih h.2⟩
    rcases(Dc ys n x).1 hx with rfl|hx
    · exact h1
    · exact h.1 x hx
  · split
    · exact List.pairwise_cons.2 h
    · rename_i h1 h2
      rw[List.pairwise_cons]
      refine⟨fun x hx=> ?_,List.pairwise_cons.2 h⟩
      rcases List.mem_cons.1 hx with rfl|hx
      · omega
      · have:=h.1 x hx;omega
def dM:List Int->List aF->List Int
 |e,[]=>e
 |e,r::rs=>dM (if cF r then jL (jL e r.f) (r.t+1)else e) rs
theorem oQ(e:List Int)(l:List aF):(dM e l).length<=e.length+2*l.length:=by
 induction l generalizing e with
 |nil=>simp[dM]
 |cons r rs ih=>
  simp only[dM,List.length_cons]
  refine Nat.le_trans (ih _) ?_;split
  · have h1:=vE e r.f
    have h2:=vE (jL e r.f) (r.t+1)
    omega
  · omega
theorem zB(e:List Int)(l:List aF)(r:aF):dM e (l++[r])=if cF r then jL (jL (dM e l) r.f) (r.t+1)else dM e l:=by
 induction l generalizing e with
 |nil=>simp[dM]
 |cons q rs ih=>simp only[List.cons_append,dM];exact ih _
theorem ID{e:List Int}{l:List aF}(h:e.Pairwise (· < ·)):(dM e l).Pairwise (· < ·):=by
 induction l generalizing e with
 |nil=>exact h
 |cons r rs ih=>
  simp only[dM]
  apply ih;split
  · exact TW (TW h)
  · exact h
theorem Dd{l:List aF}{x:Int}: ∀{e:List Int},x∈dM e l ↔ x∈e\/ ∃r∈l,cF r=true/\(x=r.f\/x=r.t+1):=by
 induction l with
 |nil=>intro e;simp[dM]
 |cons r rs ih=>
  intro e;simp only[dM]
  rw[ih]
  cases h:cF r with
  |false=>
   rw[if_neg (by simp)]
   constructor
   · rintro(h1|⟨q,hq,h2⟩)
     · exact .inl h1
     · exact .inr ⟨q,by simp[hq],h2⟩
   · rintro(h1|⟨q,hq,h2⟩)
     · exact .inl h1
     · rcases List.mem_cons.1 hq with rfl|hq
       · rw[h]at h2;simp at h2
       · exact .inr ⟨q,hq,h2⟩
  |true=>
   rw[if_pos rfl,Dc,Dc]
   constructor
   · rintro((h1|h1|h1)|⟨q,hq,h2⟩)
     · exact .inr ⟨r,by simp,h,.inr h1⟩
     · exact .inr ⟨r,by simp,h,.inl h1⟩
     · exact .inl h1
     · exact .inr ⟨q,by simp[hq],h2⟩
   · rintro(h1|⟨q,hq,h2⟩)
     · exact .inl (.inr (.inr h1))
     · rcases List.mem_cons.1 hq with rfl|hq
       · rcases h2.2 with h3|h3
         · exact .inl (.inr (.inl h3))
         · exact .inl (.inl h3)
       · exact .inr ⟨q,hq,h2⟩
def bh(a b:List aF):List Int:=dM (dM [] a) b
theorem ki(a b:List aF):(bh a b).Pairwise (· < ·):=ID (ID List.Pairwise.nil)
theorem jb{a b:List aF}{x:Int}:x∈bh a b ↔∃r∈a++b,cF r=true/\(x=r.f\/x=r.t+1):=by
 unfold bh;rw[Dd,Dd]
 constructor
 · rintro((h|⟨r,hr,h⟩)|⟨r,hr,h⟩)
   · cases h
   · exact⟨r,by simp[hr],h⟩
   · exact⟨r,by simp[hr],h⟩
 · rintro⟨r,hr,h⟩
   rcases List.mem_append.1 hr with hr|hr
   · exact .inl (.inr ⟨r,hr,h⟩)
   · exact .inr ⟨r,hr,h⟩
theorem oR{a b:List aF}{x:Int}(h:x∈bh a b):1<=x/\x<=1099511627777:=by obtain⟨r,_,h1,h2⟩:=jb.1 h;have:=cG.1 h1;omega
theorem De(a b:List aF):(bh a b).length<=2*a.length+2*b.length:=by have h1:=oQ [] a;have h2:=oQ (dM [] a) b;simp only[List.length_nil]at h1;unfold bh;omega
theorem NS{l:List aF}{x n:Int}(hx:x<=n)(h: ∀r∈l,cF r=true-> ¬(x<r.f/\r.f<=n)/\ ¬(x<r.t+1/\r.t+1<=n)):ai l n=ai l x:=by
 rw[Bool.eq_iff_iff,dV,dV]
 constructor
 · rintro⟨r,hr,h1,h2,h3⟩
   have:=h r hr h1;exact⟨r,hr,h1,by omega,by omega⟩
 · rintro⟨r,hr,h1,h2,h3⟩
   have:=h r hr h1;exact⟨r,hr,h1,by omega,by omega⟩
def XA(op:Int)(x y:Bool):Bool:=if op=1 then x||y else if op=2 then x&&y else x&& !y
theorem Y8(op:Int):XA op false false=false:=by unfold XA;split<;>(try split)<;>rfl
def jA(op:Int)(a b:List aF)(n:Int):Bool:=XA op (ai a n) (ai b n)
section
variable{op:Int}{a b:List aF}
theorem Y9{x n:Int}(hx:x<=n)(h: ∀y∈bh a b,¬(x<y/\y<=n)):jA op a b n=jA op a b x:=by
 have e1:ai a n=ai a x:=NS hx fun r hr h1=>⟨h _ (jb.2 ⟨r,by simp[hr],h1,.inl rfl⟩),h _ (jb.2 ⟨r,by simp[hr],h1,.inr rfl⟩)⟩
 have e2:ai b n=ai b x:=NS hx fun r hr h1=>⟨h _ (jb.2 ⟨r,by simp[hr],h1,.inl rfl⟩),h _ (jb.2 ⟨r,by simp[hr],h1,.inr rfl⟩)⟩
 unfold jA;rw[e1,e2]
theorem J9{n:Int}(h: ∀y∈bh a b,n<y):jA op a b n=false:=by
 have e: ∀l:List aF,(∀r∈l,r∈a++b)->ai l n=false:=fun l hl=>by
  rw[<-Bool.not_eq_true,dV]
  rintro⟨r,hr,h1,h2,h3⟩
  have:=h _ (jb.2 ⟨r,hl r hr,h1,.inl rfl⟩)
  omega
 unfold jA;rw[e a (fun r hr=>by simp[hr]),e b (fun r hr=>by simp[hr]),Y8]
theorem NT{n:Int}(h: ∀y∈bh a b,y<=n):jA op a b n=false:=by
 have e: ∀l:List aF,(∀r∈l,r∈a++b)->ai l n=false:=fun l hl=>by
  rw[<-Bool.not_eq_true,dV]
  rintro⟨r,hr,h1,h2,h3⟩
  have:=h _ (jb.2 ⟨r,hl r hr,h1,.inr rfl⟩)
  omega
 unfold jA;rw[e a (fun r hr=>by simp[hr]),e b (fun r hr=>by simp[hr]),Y8]
end
def xy(P:Int->Bool)(e:List Int):Nat->List aF
 |0=>[]
 |k+1=>if P (e[k]!)then cP (xy P e k) ⟨e[k]!,e[k+1]! -1⟩else xy P e k
def topT(l:List aF)(x:Int):Prop:=match l with| []=>True|q::_=>q.t<x
theorem J_(P:Int->Bool)(e:List Int): ∀k,(xy P e k).length<=k
 |0=>Nat.le_refl _
 |k+1=>by
  have h1:=J_ P e k;have h2:=IC (xy P e k) ⟨e[k]!,e[k+1]! -1⟩
  simp only[xy]
  split<;>omega
theorem tZ{e:List Int}(h:e.Pairwise (· < ·)){i j:Nat}(xo:i<j)(hj:j<e.length):e[i]! <e[j]! :=by
 rw[getElem!_pos e i (by omega),getElem!_pos e j hj]
 exact List.pairwise_iff_getElem.1 h i j (by omega) hj xo
theorem Y_{l:List aF}{r:aF}(h:topT l r.f)(hr:r.f<=r.t):topT (cP l r) (r.t+1):=by
 cases l with
 |nil=>show r.t<r.t+1;omega
 |cons q qs=>
  have h':q.t<r.f:=h;simp only[cP]
  split
  · show(if r.t>q.t then r.t else q.t)<r.t+1
    split<;>omega
  · show r.t<r.t+1;omega
theorem vF(op:Int)(a b:List aF): ∀k,k<(bh a b).length->RR (xy (jA op a b) (bh a b) k)/\topT (xy (jA op a b) (bh a b) k) ((bh a b)[k]!)/\lowF (xy (jA op a b) (bh a b) k) ((bh a b)[k]!)/\
 ∀n,ai (xy (jA op a b) (bh a b) k) n=(decide (n<(bh a b)[k]!)&&jA op a b n)
 |0,hk=>by
  refine⟨trivial,trivial,trivial,fun n=> ?_⟩
  by_cases h:n<(bh a b)[0]!
  · rw[J9]
    · show ai [] n=_
      rw[sm,Bool.and_false]
    intro y hy;obtain⟨i,hi,rfl⟩:=List.mem_iff_getElem.1 hy;have:(bh a b)[i]! =(bh a b)[i]:=getElem!_pos _ i hi;rcases Nat.eq_zero_or_pos i with rfl|hp
    · omega
    · have:=tZ (ki a b) hp hi;omega
  · show ai [] n=_
    rw[sm,decide_eq_false h,Bool.false_and]
 |k+1,hk=>by
  obtain⟨h1,h2,h3,h4⟩:=vF op a b k (by omega)
  have aw:=tZ (ki a b) (Nat.lt_succ_self k) hk;have r1:=oR (a:=a) (b:=b) (x:=(bh a b)[k]!) (by rw[getElem!_pos _ k (by omega)];exact List.getElem_mem _)
  have r2:=oR (a:=a) (b:=b) (x:=(bh a b)[k+1]!) (by rw[getElem!_pos _ (k+1) hk];exact List.getElem_mem _)
  have flat: ∀n,(bh a b)[k]! <=n->n<(bh a b)[k+1]! ->jA op a b n=jA op a b ((bh a b)[k]!):=fun n hn ka=>Y9 hn fun y hy=>by
   obtain⟨i,hi,rfl⟩:=List.mem_iff_getElem.1 hy;have e:(bh a b)[i]! =(bh a b)[i]:=getElem!_pos _ i hi;rintro⟨g1,g2⟩
   rcases Nat.lt_trichotomy i (k+1)with hh|hh|hh
   · rcases Nat.lt_or_eq_of_le (Nat.lt_succ_iff.1 hh)with hh'|hh'
     · have:=tZ (ki a b) hh' (by omega);omega
     · subst hh';omega
   · subst hh;omega
   · have:=tZ (ki a b) hh hi;omega
  simp only[xy]
  generalize hx:(bh a b)[k]! =x at*;generalize hy:(bh a b)[k+1]! =y at*;generalize hm:xy (jA op a b) (bh a b) k=m at*;cases hp:jA op a b x with
  |false=>
   rw[if_neg (by simp)]
   refine⟨h1, ?_, ?_,fun n=> ?_⟩
   · cases m with
     |nil=>trivial
     |cons q qs=>show q.t<y;have:q.t<x:=h2;omega
   · cases m with
     |nil=>trivial
     |cons q qs=>show q.f<=y;have:q.f<=x:=h3;omega
   · rw[h4]
     by_cases c1:n<x
     · have:n<y:=by omega
       simp[c1,this]
     · by_cases c2:n<y
       · rw[flat n (by omega) c2,hp];simp
       · simp[c1,c2]
  |true=>
   rw[if_pos rfl]
   have ho:cF ⟨x,y-1⟩=true:=cG.2 ⟨r1.1,by show x<=y-1;omega,by show y-1<=_;omega⟩
   obtain⟨g1,g2,g3⟩:=zA h1 ho h3;refine⟨g1, ?_, ?_,fun n=> ?_⟩
   · have:=Y_ (r:=⟨x,y-1⟩) h2 (by show x<=y-1;omega)
     simpa using this
   · revert g2
     cases cP m ⟨x,y-1⟩with
     |nil=>intro _;trivial
     |cons q qs=>intro g2;have:q.f<=x:=g2;show q.f<=y;omega
   · rw[g3,h4]
     by_cases c1:n<x
     · have:n<y:=by omega
       have c3: ¬x<=n:=by omega
       simp[c1,this,Qf,c3]
     · by_cases c2:n<y
       · rw[flat n (by omega) c2,hp]
         have c3:x<=n:=by omega
         have c4:n<=y-1:=by omega
         simp[Qf,c1,c2,c3,c4]
       · have c4: ¬n<=y-1:=by omega
         simp[Qf,c1,c2,c4]
theorem J'(op:Int)(a b:List aF):(xy (jA op a b) (bh a b) ((bh a b).length-1)).reverse=cJ (jA op a b):=by
 by_cases h:(bh a b).length=0
 · have e:bh a b=[]:=List.length_eq_zero_iff.1 h
   rw[h]
   refine so rfl fun n=> ?_;rw[J9 (fun y hy=>by rw[e]at hy;cases hy)];rfl
 · obtain⟨h1,_,_,h4⟩:=vF op a b ((bh a b).length-1) (by omega)
   refine so (sk.2 h1) fun n=> ?_;rw[sn,h4]
   by_cases c:n<(bh a b)[(bh a b).length-1]!
   · rw[decide_eq_true c,Bool.true_and]
   · rw[NT]
     · simp
     · intro y hy
       obtain⟨i,hi,rfl⟩:=List.mem_iff_getElem.1 hy;have e:(bh a b)[i]! =(bh a b)[i]:=getElem!_pos _ i hi;rcases Nat.lt_or_eq_of_le (show i<=(bh a b).length-1 by omega)with hh|hh
       · have:=tZ (ki a b) hh (by omega);omega
       · subst hh;omega
theorem Y'(op:Int)(a b:List aF):IsR (jA op a b):=by
 by_cases h:(bh a b).length=0
 · have e:bh a b=[]:=List.length_eq_zero_iff.1 h
   exact⟨[],rfl,fun n=>by rw[J9 (fun y hy=>by rw[e]at hy;cases hy)];rfl⟩
 · refine⟨cJ (jA op a b),ig _,fun n=> ?_⟩
   have h0:=J' op a b;obtain⟨h1,_,_,h4⟩:=vF op a b ((bh a b).length-1) (by omega)
   rw[<-h0,sn,h4]
   by_cases c:n<(bh a b)[(bh a b).length-1]!
   · rw[decide_eq_true c,Bool.true_and]
   · rw[NT]
     · simp
     · intro y hy
       obtain⟨i,hi,rfl⟩:=List.mem_iff_getElem.1 hy;have e:(bh a b)[i]! =(bh a b)[i]:=getElem!_pos _ i hi;rcases Nat.lt_or_eq_of_le (show i<=(bh a b).length-1 by omega)with hh|hh
       · have:=tZ (ki a b) hh (by omega);omega
       · subst hh;omega
theorem BB(l:List aF):IsR (ai l):=by
 obtain⟨m,h1,h2⟩:=Y' 1 l []
 exact⟨m,h1,fun n=>by rw[h2];simp[jA,XA,ai]⟩
end Go.Proofs.YtihgnfmoafjakaaGreat
namespace Go.Proofs.YtihgnfmoafjakaaGreat
open Go.bo
set_option linter.unusedSimpArgs false
set_option linter.unusedVariables false
theorem Rh: ∀{l:List aF},RR l ↔ l.Pairwise (fun r q=>q.t+2<=r.f)/\ ∀r∈l,cF r=true
 | []=>by simp[RR]
 |r::l=>by
  constructor
  · intro h
    obtain⟨h1,h2⟩:=Rh.1 (vD h)
    exact⟨List.pairwise_cons.2 ⟨qI h,h1⟩,Y5 h⟩
  · rintro⟨h1,h2⟩
    rw[List.pairwise_cons]at h1;have ih:=Rh.2 ⟨h1.2,fun q hq=>h2 q (by simp[hq])⟩
    cases l with
    |nil=>exact h2 r (by simp)
    |cons q l=>exact⟨h2 r (by simp),h1.1 q (by simp),ih⟩
theorem V8{l:List aF}:bz l=true ↔ l.Pairwise (fun r q=>r.t+2<=q.f)/\ ∀r∈l,cF r=true:=by
 rw[lY,Rh,List.pairwise_reverse]
 simp
def qK(l:List aF):Int:=(l.map fun r=>r.t-r.f+1).sum
theorem TX: ∀{l:List aF} {p:Int},l.Pairwise (fun r q=>r.t+2<=q.f)->(∀r∈l,cF r=true)->(∀r∈l,p<=r.f)->1<=p->0<=qK l/\(l.length:Int)<=qK l/\qK l<=1099511627777-p\/l=[]
 | [],_,_,_,_,_=> .inr rfl
 |r::l,p,h,ho,hp,h1=>by
  rw[List.pairwise_cons]at h;have o:=cG.1 (ho r (by simp))
  have hf:=hp r (by simp)
  have e:qK (r::l)=(r.t-r.f+1)+qK l:=by simp[qK]
  rcases TX (l:=l) (p:=r.t+2) h.2 (fun q hq=>ho q (by simp[hq])) h.1 (by omega)with⟨g1,g2,g3⟩|rfl
  · refine .inl ⟨by omega, ?_,by omega⟩
    rw[e];simp only[List.length_cons];omega
  · have e0:qK []=0:=rfl
    rw[e0]at e;refine .inl ⟨by omega, ?_,by omega⟩
    rw[e];simp only[List.length_cons,List.length_nil];omega
theorem Ri{l:List aF}(h:bz l=true):0<=qK l/\(l.length:Int)<=qK l/\qK l<=1099511627776:=by
 obtain⟨h1,h2⟩:=V8.1 h;rcases TX (p:=1) h1 h2 (fun r hr=>(cG.1 (h2 r hr)).1) (Int.le_refl _)with g|rfl
 · omega
 · simp[qK]
theorem TY{l:List aF}(h:bz l=true):l.length<=1099511627776:=by have:=Ri h;omega
structure ad where
 n:Int
 rs:List aF
 deriving DecidableEq
instance:Inhabited ad:=⟨⟨0,[]⟩⟩
def ad.cells(k:ad):List A:=[.int .i64 k.n,.ab (k.rs.map aF.enc)]
def ad.enc(k:ad):A:= .agg k.cells
def aD:List ad->Int->List aF
 | [],_=>[]
 |k::s,n=>if k.n=n then k.rs++aD s n else aD s n
theorem dw: ∀(s t:List ad) (n:Int),aD (s++t) n=aD s n++aD t n
 | [],_,_=>rfl
 |k::s,t,n=>by
  simp only[List.cons_append,aD,dw s t n]
  split
  · rw[List.append_assoc]
  · rfl
def bE(n:Int):Bool:=decide (1<=n)&&decide (n<=16)
theorem bL{n:Int}:bE n=true ↔ 1<=n/\n<=16:=by simp[bE]
def oS(s:List ad)(n c:Int):Bool:=bE n&&ai (aD s n) c
def NU(p:Int)(k:ad):Bool:=bE k.n&&decide (p<k.n)&& !k.rs.isEmpty&&bz k.rs
def Df:Int->List ad->Bool
 |_,[]=>true
 |p,k::s=>NU p k&&Df k.n s
def bc(s:List ad):Bool:=Df 0 s
def mV(t:Int->List aF):Nat->List ad
 |0=>[]
 |k+1=>if(t (k+1)).isEmpty then mV t k else mV t k++[⟨k+1,t (k+1)⟩]
def mJ(t:Int->List aF):List ad:=mV t 16
theorem oT(t:Int->List aF): ∀k,(mV t k).length<=k
 |0=>Nat.le_refl _
 |k+1=>by
  have:=oT t k;simp only[mV];split
  · omega
  · simp;omega
theorem NV(t:Int->List aF)(n:Int): ∀k:Nat,aD (mV t k) n=if 1<=n/\n<=k then t n else []
 |0=>by rw[if_neg (by omega)];rfl
 |k+1=>by
  have ih:=NV t n k;simp only[mV]
  by_cases e:n=k+1
  · subst e
    rw[if_neg (by omega)]at ih;rw[if_pos (show 1<=(k:Int)+1/\(k:Int)+1<=((k+1:Nat):Int) by omega)]
    by_cases h:(t (k+1)).isEmpty=true
    · rw[if_pos h,ih];exact(List.isEmpty_iff.1 h).symm
    · rw[if_neg h,dw,ih];simp[aD]
  · have h2:(1<=n/\n<=((k+1:Nat):Int)) ↔ (1<=n/\n<=(k:Int)):=by omega
    split
    · rw[ih];simp only[h2]
    · rw[dw,ih]
      have:aD [⟨(k:Int)+1,t (k+1)⟩] n=[]:=by simp only[aD];rw[if_neg (by omega)]
      rw[this,List.append_nil];simp only[h2]
theorem sq(t:Int->List aF)(n:Int):aD (mJ t) n=if bE n=true then t n else []:=by
 unfold mJ;rw[NV]
 simp only[bL];rfl
theorem NW: ∀(s:List ad) (p:Int) (k:ad),Df p (s++[k])=(Df p s&&NU (match s.getLast? with|some q=>q.n|none=>p) k)
 | [],p,k=>by simp[Df]
 |q::s,p,k=>by
  simp only[List.cons_append,Df,NW s q.n k,Bool.and_assoc]
  congr 2
  cases h:s.getLast? with
  |none=>rw[List.getLast?_cons];simp[h]
  |some x=>rw[List.getLast?_cons];simp[h]
theorem vG{t:Int->List aF}{x:ad}: ∀{k:Nat},x∈mV t k->1<=x.n/\x.n<=k/\x.rs=t x.n/\x.rs≠ []
 |0,h=>by cases h
 |k+1,h=>by
  simp only[mV]at h;split at h
  · have:=vG h
    exact⟨this.1,by omega,this.2.2⟩
  · rename_i cg
    rcases List.mem_append.1 h with h|h
    · have:=vG h
      exact⟨this.1,by omega,this.2.2⟩
    · simp only[List.mem_singleton]at h
      subst h;exact⟨by show(1:Int)<=(k:Int)+1;omega,by show(k:Int)+1<=((k+1:Nat):Int);omega,rfl,fun e=>cg (List.isEmpty_iff.2 e)⟩
theorem IE{t:Int->List aF}(h: ∀n,bz (t n)=true): ∀{k:Nat},k<=16->Df 0 (mV t k)=true
 |0,_=>rfl
 |k+1,hk=>by
  have ih:=IE (t:=t) h (k:=k) (by omega)
  simp only[mV]
  split
  · exact ih
  · rename_i cg
    rw[NW,ih,Bool.true_and]
    simp only[NU,h,Bool.and_true,Bool.and_eq_true,decide_eq_true_iff,bL]
    refine⟨⟨by omega, ?_⟩,by simpa using cg⟩
    split
    · rename_i q hq
      have:=vG (List.mem_of_getLast? hq)
      omega
    · omega
theorem Dg{t:Int->List aF}(h: ∀n,bz (t n)=true):bc (mJ t)=true:=IE h (Nat.le_refl _)
theorem IF{t u:Int->List aF}: ∀{k:Nat},(∀n:Int,1<=n->n<=k->t n=u n)->mV t k=mV u k
 |0,_=>rfl
 |k+1,h=>by
  have ih:=IF (t:=t) (u:=u) (k:=k) (fun n h1 h2=>h n h1 (by omega))
  have e:=h (k+1) (by omega) (by omega)
  simp only[mV,ih,e]
theorem jc{t u:Int->List aF}(h: ∀n,bE n=true->t n=u n):mJ t=mJ u:=IF fun n h1 h2=>h n (bL.2 ⟨h1,by omega⟩)
theorem qL: ∀{s:List ad} {p n:Int},Df p s=true->n<=p->aD s n=[]
 | [],_,_,_,_=>rfl
 |k::s,p,n,h,hn=>by
  simp only[Df,NU,Bool.and_eq_true,decide_eq_true_iff]at h;simp only[aD]
  rw[if_neg (by omega)]
  exact qL h.2 (by omega)
theorem Za: ∀{s:List ad} {p:Int},Df p s=true-> ∀n,bz (aD s n)=true
 | [],_,_,_=>rfl
 |k::s,p,h,n=>by
  simp only[Df,NU,Bool.and_eq_true,decide_eq_true_iff]at h;simp only[aD]
  split
  · rename_i e
    rw[qL h.2 (Int.le_of_eq e.symm),List.append_nil];exact h.1.2
  · exact Za h.2 n
theorem Zb: ∀{s:List ad} {p:Nat},Df p s=true->p<=16->mJ (aD s)=(mV (aD s) p)++s
 | [],p,_,hp=>by
  have e: ∀k,mV (aD []) k=[]:=fun k=>by
   induction k with
   |zero=>rfl
   |succ k ih=>
    have e:(aD [] ((k:Int)+1)).isEmpty=true:=rfl;simp only[mV,e,if_true];exact ih
  unfold mJ;rw[e,e];rfl
 |k::s,p,h,hp=>by
  have h0:=h;simp only[Df,NU,Bool.and_eq_true,decide_eq_true_iff]at h;obtain⟨⟨⟨⟨h1,h2⟩,h3⟩,h4⟩,h5⟩:=h;rw[bL]at h1;obtain⟨m,hm⟩: ∃m:Nat,k.n=((m+1:Nat):Int):=⟨(k.n-1).toNat,by omega⟩
  have gZ:aD (k::s) k.n=k.rs:=by simp only[aD,if_true];rw[qL h5 (Int.le_refl _),List.append_nil]
  have X9: ∀n,k.n<n->aD (k::s) n=aD s n:=fun n hn=>by simp only[aD];rw[if_neg (by omega)]
  have nL: ∀n,n<k.n->aD (k::s) n=[]:=fun n hn=>by simp only[aD];rw[if_neg (by omega)];exact qL h5 (by omega)
  -- up to the first replica nothing
  have hz: ∀j:Nat,(j:Int)<k.n->mV (aD (k::s)) j=[]:=fun j=>by
   induction j with
   |zero=>intro _;rfl
   |succ j ih=>
    intro hj;simp only[mV]
    rw[ih (by omega),nL _ (by omega)];rfl
  have hzs: ∀j:Nat,(j:Int)<=k.n->mV (aD s) j=[]:=fun j=>by
   induction j with
   |zero=>intro _;rfl
   |succ j ih=>
    intro hj;simp only[mV]
    rw[ih (by omega),qL h5 (by omega)];rfl
  have V9: ∀j:Nat,m+1<=j->mV (aD (k::s)) j=k::mV (aD s) j:=fun j=>by
   induction j with
   |zero=>intro hj;omega
   |succ j ih=>
    intro hj;rcases Nat.lt_or_eq_of_le hj with hj|hj
    · have hh:=ih (by omega)
      have e:=X9 (((j:Nat):Int)+1) (by omega)
      simp only[mV]
      rw[hh,e]
      split<;>simp
    · have e1:j=m:=by omega
      subst e1;have e2:((j:Nat):Int)+1=k.n:=by omega
      rw[hzs (j+1) (by omega)]
      simp only[mV]
      rw[e2,gZ,hz j (by omega)]
      cases hrs:k.rs with
      |nil=>rw[hrs]at h3;simp at h3
      |cons r rs=>
       rw[if_neg (by simp)]
       cases k;simp_all
  have ih:=Zb (s:=s) (p:=m+1) (by rw[<-hm];exact h5) (by omega)
  rw[hzs (m+1) (by omega)]at ih;rw[hz p (by omega)]
  unfold mJ at ih⊢;rw[V9 16 (by omega),ih];rfl
theorem Dh{s:List ad}(h:bc s=true):mJ (aD s)=s:=by
 have:=Zb (s:=s) (p:=0) h (by omega)
 simpa[mV]using this
theorem Rj{s:List ad}(h:bc s=true):mJ (fun n=>cJ (ai (aD s n)))=s:=by
 have e:=Dh h;rw[<-jc (t:=aD s) fun n _=>so (Za h n) fun _=>rfl]
 exact e
end Go.Proofs.YtihgnfmoafjakaaGreat
namespace Go.Iv
set_option linter.unusedSimpArgs false
set_option linter.unusedVariables false
set_option linter.unusedSectionVars false
section
variable{α β:Type}(lt:α->α->Bool)
def xz(l:List ((α×Option α)×β))(x:α)(b:β):Prop:= ∃i∈l,ed lt i.1 x=true/\i.2=b
def NX(i j:(α×Option α)×β):Prop:= ∃e,i.1.2=some e/\lt j.1.1 e=false/\(e=j.1.1->i.2≠j.2)
def lK:List ((α×Option α)×β)->Prop
 | []=>True
 | [i]=>below lt i.1.1 i.1.2=true
 |i::j::l=>below lt i.1.1 i.1.2=true/\NX lt i j/\lK (j::l)
def zC:List ((α×Option α)×β)->Prop
 | []=>True
 | [i]=>below lt i.1.1 i.1.2=true
 |i::j::l=>below lt i.1.1 i.1.2=true/\NX lt j i/\zC (j::l)
def topL(l:List ((α×Option α)×β))(x:α):Prop:=match l with| []=>True|q::_=> ∃e,q.1.2=some e/\lt x e=false
def Di [DecidableEq α] [DecidableEq β](l:List ((α×Option α)×β))(r:(α×Option α)×β):List ((α×Option α)×β):=
 match l with
 | []=>[r]
 |q::qs=>if q.1.2=some r.1.1/\q.2=r.2 then((q.1.1,r.1.2),q.2)::qs else r::q::qs
end
section
variable{α β:Type}{lt:α->α->Bool}(hl:Lin lt)
theorem oU{x:α}{b:β}: ¬xz lt [] x b:=by rintro⟨_,h,_⟩;cases h
theorem fW{i:(α×Option α)×β}{l:List ((α×Option α)×β)}{x:α}{b:β}:xz lt (i::l) x b ↔ (ed lt i.1 x=true/\i.2=b)\/xz lt l x b:=by simp[xz]
theorem inL_rev{l:List ((α×Option α)×β)}{x:α}{b:β}:xz lt l.reverse x b ↔ xz lt l x b:=by simp[xz]
theorem xA: ∀(l:List ((α×Option α)×β)) (i j:(α×Option α)×β),lK lt (l++[i,j]) ↔ lK lt (l++[i])/\NX lt i j/\below lt j.1.1 j.1.2=true
 | [],i,j=>by simp[lK]
 | [x],i,j=>by have e:=xA [] i j;simp only[List.nil_append,List.cons_append,lK]at e⊢;exact⟨fun⟨a,b,c,d,e⟩=>⟨⟨a,b,c⟩,d,e⟩,fun⟨⟨a,b,c⟩,d,e⟩=>⟨a,b,c,d,e⟩⟩
 |x::y::l,i,j=>by
  have e:=xA (y::l) i j;simp only[List.cons_append,lK]at e⊢;rw[e]
  exact⟨fun⟨a,b,c,d,e⟩=>⟨⟨a,b,c⟩,d,e⟩,fun⟨⟨a,b,c⟩,d,e⟩=>⟨a,b,c,d,e⟩⟩
theorem IG: ∀{l:List ((α×Option α)×β)},lK lt l.reverse ↔ zC lt l
 | []=>by simp[lK,zC]
 | [i]=>by simp[lK,zC]
 |i::j::l=>by
  have ih:= @IG (j::l)
  simp only[List.reverse_cons,List.append_assoc,List.cons_append,List.nil_append]at ih⊢;rw[xA,ih,zC]
  exact⟨fun⟨a,b,c⟩=>⟨c,b,a⟩,fun⟨a,b,c⟩=>⟨c,b,a⟩⟩
theorem nP{i:(α×Option α)×β}: ∀{l:List ((α×Option α)×β)},lK lt (i::l)->lK lt l
 | [],_=>trivial
 |_::_,h=>h.2.2
theorem IH{i:(α×Option α)×β}: ∀{l:List ((α×Option α)×β)},lK lt (i::l)->below lt i.1.1 i.1.2=true
 | [],h=>h
 |_::_,h=>h.1
include hl
theorem qM: ∀{l:List ((α×Option α)×β)} {i:(α×Option α)×β} {x:α} {b:β},lK lt (i::l)->xz lt (i::l) x b->lt x i.1.1=false
 |l,i,x,b,h,hm=>by
  rcases fW.1 hm with⟨hm,_⟩|hm
  · simp only[ed,Bool.and_eq_true,Bool.not_eq_true']at hm;exact hm.1
  · cases l with
    |nil=>exact absurd hm oU
    |cons j l=>
     obtain⟨h1,⟨e,he,aw,_⟩,h2⟩:=h;have nL:=qM h2 hm;have hi:lt i.1.1 e=true:=by rw[he]at h1;exact h1
     have xo:lt i.1.1 j.1.1=true:=kV hl hi aw;cases hx:lt x i.1.1
     · rfl
     · have h4:=hl.tr _ _ _ hx xo
       rw[h4]at nL;cases nL
theorem NY{i:(α×Option α)×β}{l:List ((α×Option α)×β)}{x:α}{b:β}(h:lK lt (i::l))(hm:xz lt l x b): ∃e,i.1.2=some e/\lt x e=false/\(x=e->i.2≠b):=by
 cases l with
 |nil=>exact absurd hm oU
 |cons j l=>
  obtain⟨h1,⟨e,he,aw,cg⟩,h2⟩:=h;have nL:=qM hl h2 hm;refine⟨e,he,kh hl nL aw,fun hx=> ?_⟩
  subst hx;have hej:x=j.1.1:=nN hl nL aw
  have hb:j.2=b:=by
   rcases fW.1 hm with⟨_,hm⟩|hm
   · exact hm
   · exfalso
     cases l with
     |nil=>exact absurd hm oU
     |cons k l=>
      obtain⟨g1,⟨e',wR,ae,_⟩,g2⟩:=h2;have hlow':=qM hl g2 hm;rw[wR]at g1;have g1':lt j.1.1 e'=true:=g1;rw[<-hej]at g1';have:=kV hl g1' ae;rw[this]at hlow';cases hlow'
  rw[<-hb];exact cg hej
theorem lZ{i:(α×Option α)×β}{l:List ((α×Option α)×β)}{x:α}{b:β}(h:lK lt (i::l)):xz lt l x b ↔ xz lt (i::l) x b/\ed lt i.1 x=false:=by
 constructor
 · intro hm
   refine⟨fW.2 (.inr hm), ?_⟩
   obtain⟨e,he,hx,_⟩:=NY hl h hm;simp[ed,he,below,hx]
 · rintro⟨hm,h1⟩
   rcases fW.1 hm with⟨h2,_⟩|h2
   · rw[h1]at h2;cases h2
   · exact h2
theorem NZ: ∀{l:List ((α×Option α)×β)} {x:α} {b c:β},lK lt l->xz lt l x b->xz lt l x c->b=c
 | [],_,_,_,_,h,_=>absurd h oU
 |i::l,x,b,c,h,h1,h2=>by
  cases hi:ed lt i.1 x with
  |true=>
   have e: ∀d,xz lt (i::l) x d->i.2=d:=fun d hd=>by
    rcases fW.1 hd with⟨_,h3⟩|h3
    · exact h3
    · have:=(lZ hl h).1 h3
      rw[hi]at this;cases this.2
   rw[<-e b h1,<-e c h2]
  |false=>exact NZ (nP h) ((lZ hl h).2 ⟨h1,hi⟩) ((lZ hl h).2 ⟨h2,hi⟩)
theorem qN{i:(α×Option α)×β}{l:List ((α×Option α)×β)}(h:lK lt (i::l)):xz lt (i::l) i.1.1 i.2:=
 fW.2 (.inl ⟨by simp[ed,hl.zx,IH h],rfl⟩)
theorem Ka{i j:(α×Option α)×β}{l m:List ((α×Option α)×β)}(h:lK lt (i::l))(h':lK lt (j::m))(hm: ∀x b,xz lt (i::l) x b ↔ xz lt (j::m) x b)(h0:i.1.1=j.1.1)(hb:i.2=j.2){e:α}(he:i.1.2=some e): ∃e',j.1.2=some e'/\lt e e'=false:=by
 have hie:lt i.1.1 e=true:=by have:=IH h;rw[he]at this;exact this
 have hn: ¬xz lt (i::l) e i.2:=fun hi=>by
  rcases fW.1 hi with⟨h1,_⟩|h1
  · simp[ed,he,below,hl.zx]at h1
  · obtain⟨e',wR,_,cg⟩:=NY hl h h1
    rw[he]at wR;exact cg (Option.some.inj wR) rfl
 rw[hm]at hn;cases hj:j.1.2 with
 |none=>
  exact absurd (fW.2 (.inl ⟨by simp[ed,hj,below,<-h0,asymm hl hie],hb.symm⟩)) hn
 |some e'=>
  refine⟨e',rfl, ?_⟩
  cases hee:lt e e' with
  |false=>rfl
  |true=>exact absurd (fW.2 (.inl ⟨by simp[ed,hj,below,<-h0,asymm hl hie,hee],hb.symm⟩)) hn
theorem zD: ∀{l m:List ((α×Option α)×β)},lK lt l->lK lt m->(∀x b,xz lt l x b ↔ xz lt m x b)->l=m
 | [],[],_,_,_=>rfl
 | [],j::m,_,h,hm=>absurd ((hm _ _).2 (qN hl h)) oU
 |i::l,[],h,_,hm=>absurd ((hm _ _).1 (qN hl h)) oU
 |i::l,j::m,h,h',hm=>by
  have a1:=(hm _ _).1 (qN hl h)
  have a2:=(hm _ _).2 (qN hl h')
  have e0:i.1.1=j.1.1:=nN hl (qM hl h' a1) (qM hl h a2)
  have eb:i.2=j.2:=by have:=qN hl h';rw[<-e0]at this;exact NZ hl h' a1 this
  have e1:i.1.2=j.1.2:=by
   cases hi:i.1.2 with
   |none=>
    cases hj:j.1.2 with
    |none=>rfl
    |some e=>
     obtain⟨e',h1,_⟩:=Ka hl h' h (fun x b=>(hm x b).symm) e0.symm eb.symm hj;rw[hi]at h1;cases h1
   |some e=>
    obtain⟨e',h1,h2⟩:=Ka hl h h' hm e0 eb hi;obtain⟨e'',h3,h4⟩:=Ka hl h' h (fun x b=>(hm x b).symm) e0.symm eb.symm h1;rw[hi]at h3;obtain rfl:=Option.some.inj h3;rw[h1,nN hl h2 h4]
  have e:i=j:=by obtain⟨⟨a,b⟩,c⟩:=i;obtain⟨⟨a',b'⟩,c'⟩:=j;simp_all
  subst e;rw[zD (nP h) (nP h') fun x b=>by rw[lZ hl h,lZ hl h',hm]]
theorem N1 [DecidableEq α] [DecidableEq β]{l:List ((α×Option α)×β)}{r:(α×Option α)×β}(h:zC lt l)(hr:below lt r.1.1 r.1.2=true)(ht:topL lt l r.1.1):
 zC lt (Di l r)/\(∀x b,xz lt (Di l r) x b ↔ xz lt l x b\/(ed lt r.1 x=true/\r.2=b))/\ ∃q qs,Di l r=q::qs/\q.1.2=r.1.2:=by
 cases l with
 |nil=>exact⟨hr,fun x b=>by simp[Di,xz],r,[],rfl,rfl⟩
 |cons q qs=>
  obtain⟨e,he,hx⟩:=ht;simp only[Di]
  by_cases hc:q.1.2=some r.1.1/\q.2=r.2
  · rw[if_pos hc]
    have hq:lt q.1.1 r.1.1=true:=by
     have h0:below lt q.1.1 q.1.2=true:=by
      cases qs with
      |nil=>exact h
      |cons _ _=>exact h.1
     rw[hc.1]at h0;exact h0
    have TZ:below lt q.1.1 r.1.2=true:=by
     cases XB:r.1.2 with
     |none=>rfl
     |some e'=>rw[XB]at hr;exact hl.tr _ _ _ hq hr
    refine⟨?_,fun x b=> ?_,_,_,rfl,rfl⟩
    · cases qs with
      |nil=>exact TZ
      |cons p ps=>exact⟨TZ,h.2.1,h.2.2⟩
    · rw[fW,fW]
      have:ed lt (q.1.1,r.1.2) x=(ed lt q.1 x||ed lt r.1 x):=by
       have hb:below lt x (some r.1.1)=lt x r.1.1:=rfl;simp only[ed,hc.1,hb]
       cases h1:lt x q.1.1 with
       |true=>
        have h2:lt x r.1.1=true:=hl.tr _ _ _ h1 hq;simp[h2]
       |false=>
        cases h2:lt x r.1.1 with
        |true=>
         have:below lt x r.1.2=true:=by
          cases XB:r.1.2 with
          |none=>rfl
          |some e'=>rw[XB]at hr;exact hl.tr _ _ _ h2 hr
         simp[this]
        |false=>simp
      simp only[this,Bool.or_eq_true,hc.2]
      constructor
      · rintro(⟨h1|h1,h2⟩|h1)
        · exact .inl (.inl ⟨h1,h2⟩)
        · exact .inr ⟨h1,h2⟩
        · exact .inl (.inr h1)
      · rintro((⟨h1,h2⟩|h1)|⟨h1,h2⟩)
        · exact .inl ⟨.inl h1,h2⟩
        · exact .inr h1
        · exact .inl ⟨.inr h1,h2⟩
  · rw[if_neg hc]
    refine⟨⟨hr,⟨e,he,hx,fun hee hb=>hc ⟨by rw[he,hee],hb⟩⟩,h⟩,fun x b=> ?_,_,_,rfl,rfl⟩
    rw[fW]
    exact⟨fun h=>h.symm,fun h=>h.symm⟩
end
end Go.Iv
namespace Go.Proofs.YtihgnfmoafjakaaGreat
open Go.bo
set_option linter.unusedSimpArgs false
set_option linter.unusedVariables false
structure Pc where
 r:ax
 s:List ad
 deriving DecidableEq
instance:Inhabited Pc:=⟨⟨⟨[],[],true⟩,[]⟩⟩
def setAt(k:List Pc)(x:List UInt8):List ad:=(k.filter fun p=>b_ p.r x).flatMap (·.s)
theorem iA(k m:List Pc)(x:List UInt8):setAt (k++m) x=setAt k x++setAt m x:=by simp[setAt]
def bG(k:List Pc)(x:List UInt8)(n c:Int):Bool:=k.any fun p=>b_ p.r x&&oS p.s n c
theorem hasP_at(k:List Pc)(x:List UInt8)(n c:Int):bG k x n c=oS (setAt k x) n c:=by
 induction k with
 |nil=>simp[bG,setAt,oS,aD,ai]
 |cons p k ih=>
  have e:setAt (p::k) x=(if b_ p.r x=true then p.s else [])++setAt k x:=by
   unfold setAt;by_cases h:b_ p.r x=true
   · simp[h]
   · simp[h]
  have e2:bG (p::k) x n c=((b_ p.r x&&oS p.s n c)||bG k x n c):=rfl;rw[e,e2,ih]
  unfold oS;rw[dw,fL]
  cases b_ p.r x<;>cases bE n<;>simp[aD,ai]
def dS(p:Pc):Bool:=aA p.r&& !p.s.isEmpty&&bc p.s
def xB(q p:Pc):Bool:= !q.r.op&& !aV p.r.lo q.r.hi&& !(q.r.hi==p.r.lo&&decide (q.s=p.s))
def Kb:Option Pc->List Pc->Bool
 |_,[]=>true
 |q,p::k=>dS p&&(match q with|none=>true|some q=>xB q p)&&Kb (some p) k
def aR(k:List Pc):Bool:=Kb none k
def wT(p:Pc):(List UInt8×Option (List UInt8))×List ad:=(mG p.r,p.s)
theorem ivP_inj{p q:Pc}(hp:dS p=true)(hq:dS q=true)(h:wT p=wT q):p=q:=by simp only[dS,Bool.and_eq_true]at hp hq;have h1:mG p.r=mG q.r:=congrArg Prod.fst h;have h2:p.s=q.s:=congrArg Prod.snd h;have:=YX hp.1.1 hq.1.1 h1;cases p;cases q;simp_all
theorem T1{q p:Pc}:xB q p=true ↔ Iv.NX aV (wT q) (wT p):=by
 simp only[xB,Iv.NX,wT,mG,Bool.and_eq_true,Bool.not_eq_true',Bool.and_eq_false_iff,beq_eq_false_iff_ne,decide_eq_false_iff_not]
 constructor
 · rintro⟨⟨h1,h2⟩,h3⟩
   exact⟨q.r.hi,by simp[h1],h2,fun e=>by
    rcases h3 with h3|h3
    · exact absurd e h3
    · exact h3⟩
 · rintro⟨e,h1,h2,h3⟩
   cases ho:q.r.op with
   |true=>rw[ho]at h1;simp at h1
   |false=>
    rw[ho]at h1;simp at h1;subst h1;refine⟨⟨rfl,h2⟩, ?_⟩
    by_cases h:q.r.hi=p.r.lo
    · exact .inr (h3 h)
    · exact .inl h
theorem T2: ∀{k:List Pc} {q:Option Pc},Kb q k=true ↔ (∀p∈k,dS p=true)/\Iv.lK aV (k.map wT)/\ ∀u,q=some u-> ∀p,k.head? =some p->xB u p=true
 | [],q=>by simp[Kb,Iv.lK]
 |p::k,q=>by
  have ih:= @T2 k (some p)
  simp only[Kb,Bool.and_eq_true,ih]
  constructor
  · rintro⟨⟨h1,h2⟩,h3,h4,h5⟩
    refine⟨fun r hr=> ?_, ?_,fun u hu r hr=> ?_⟩
    · rcases List.mem_cons.1 hr with rfl|hr
      · exact h1
      · exact h3 r hr
    · have hb:Iv.below aV (wT p).1.1 (wT p).1.2=true:=by
       simp only[dS,Bool.and_eq_true]at h1;exact TP h1.1.1
      cases k with
      |nil=>exact hb
      |cons r k=>exact⟨hb,T1.1 (h5 p rfl r rfl),h4⟩
    · subst hu
      simp at hr;subst hr;exact h2
  · rintro⟨h1,h2,h3⟩
    refine⟨⟨h1 p (by simp), ?_⟩,fun r hr=>h1 r (by simp[hr]),Iv.nP h2,fun u hu r hr=> ?_⟩
    · cases q with
      |none=>rfl
      |some u=>exact h3 u rfl p rfl
    · obtain rfl:=Option.some.inj hu
      cases k with
      |nil=>cases hr
      |cons w k=>
       simp at hr;subst hr;exact T1.2 h2.2.1
theorem dN{k:List Pc}:aR k=true ↔ (∀p∈k,dS p=true)/\Iv.lK aV (k.map wT):=by
 unfold aR;rw[T2]
 simp
def qO(k:List Pc)(x:List UInt8)(l:List ad):Prop:=Iv.xz aV (k.map wT) x l
theorem zF: ∀{k m:List Pc},(∀p∈k,dS p=true)->(∀p∈m,dS p=true)->k.map wT=m.map wT->k=m
 | [],[],_,_,_=>rfl
 | [],_::_,_,_,h=>by simp at h
 |_::_,[],_,_,h=>by simp at h
 |p::k,q::m,h1,h2,h=>by simp only[List.map_cons,List.cons.injEq]at h;rw[ivP_inj (h1 p (by simp)) (h2 q (by simp)) h.1,zF (fun r hr=>h1 r (by simp[hr])) (fun r hr=>h2 r (by simp[hr])) h.2]
theorem Gm{k m:List Pc}(h:aR k=true)(h':aR m=true)(hm: ∀x l,qO k x l ↔ qO m x l):k=m:=by rw[dN]at h h';exact zF h.1 h'.1 (Iv.zD pN h.2 h'.2 hm)
open Classical in
/-- THE right list of what is meant. -/
def aT(P:List UInt8->List ad):List Pc:=if h: ∃k,aR k=true/\ ∀x l,qO k x l ↔ P x=l/\l≠ []then Classical.choose h else []
def IsP(P:List UInt8->List ad):Prop:= ∃k,aR k=true/\ ∀x l,qO k x l ↔ P x=l/\l≠ []
theorem fe(P:List UInt8->List ad):aR (aT P)=true:=by
 unfold aT;split
 · rename_i h;exact(Classical.choose_spec h).1
 · rfl
theorem II{P:List UInt8->List ad}(h:IsP P)(x:List UInt8)(l:List ad):qO (aT P) x l ↔ P x=l/\l≠ []:=by unfold aT;rw[dif_pos (show∃k,aR k=true/\ ∀x l,qO k x l ↔ P x=l/\l≠ []from h)];exact(Classical.choose_spec h).2 x l
theorem T3{P:List UInt8->List ad}{k:List Pc}(h:aR k=true)(hp: ∀x l,qO k x l ↔ P x=l/\l≠ []):k=aT P:=
 Gm h (fe P) fun x l=>by rw[hp,II ⟨k,h,hp⟩]
theorem vH{k:List Pc}(hk: ∀p∈k,dS p=true){x:List UInt8}{l:List ad}:qO k x l ↔∃p∈k,b_ p.r x=true/\p.s=l:=by
 unfold qO Iv.xz;constructor
 · rintro⟨i,hi,h1,h2⟩
   obtain⟨p,hp,rfl⟩:=List.mem_map.1 hi;have:=hk p hp;simp only[dS,Bool.and_eq_true]at this;exact⟨p,hp,by rw[oO,this.1.1];exact h1,h2⟩
 · rintro⟨p,hp,h1,h2⟩
   refine⟨wT p,List.mem_map.2 ⟨p,hp,rfl⟩, ?_,h2⟩
   rw[oO,Bool.and_eq_true]at h1;exact h1.2
theorem qP: ∀{k:List Pc},aR k=true-> ∀{x:List UInt8} {p:Pc},p∈k->b_ p.r x=true->setAt k x=p.s
 | [],_,_,_,h,_=>by cases h
 |q::k,hr,x,p,hp,hx=>by
  have hc:=dN.1 hr;have ht:aR k=true:=dN.2 ⟨fun r h=>hc.1 r (by simp[h]),Iv.nP hc.2⟩
  have e:setAt (q::k) x=(if b_ q.r x=true then q.s else [])++setAt k x:=by
   unfold setAt;by_cases h:b_ q.r x=true
   · simp[h]
   · simp[h]
  rw[e]
  cases hq:b_ q.r x with
  |true=>
   -- no later piece has it
   have sj: ∀r∈k,b_ r.r x=false:=fun r XB=>by
    rw[<-Bool.not_eq_true]
    intro hrx;have h1:Iv.xz aV (k.map wT) x r.s:=(vH (fun r h=>hc.1 r (by simp[h]))).2 ⟨r,XB,hrx,rfl⟩
    have h2:=(Iv.lZ pN hc.2).1 h1;rw[oO,Bool.and_eq_true]at hq;have h3:Iv.ed aV (wT q).1 x=true:=hq.2;rw[h2.2]at h3;cases h3
   have h0:setAt k x=[]:=by unfold setAt;rw[List.filter_eq_nil_iff.2 (fun r h=>by rw[sj r h];simp)];rfl
   have hpq:p=q:=by
    rcases List.mem_cons.1 hp with h|h
    · exact h
    · rw[sj p h]at hx;cases hx
   rw[h0,hpq];simp
  |false=>
   have Qg:p∈k:=by
    rcases List.mem_cons.1 hp with h|h
    · subst h;rw[hq]at hx;cases hx
    · exact h
   simp only[Bool.false_eq_true,if_false,List.nil_append]
   exact qP ht Qg hx
def cq:List Pc->Pc->List Pc
 | [],r=>[r]
 |q::qs,r=>if(!q.r.op&&q.r.hi==r.r.lo&&decide (q.s=r.s))=true then⟨⟨q.r.lo,r.r.hi,r.r.op⟩,q.s⟩::qs else r::q::qs
theorem Zc(l:List Pc)(r:Pc):(cq l r).map wT=Iv.Di (l.map wT) (wT r):=by
 cases l with
 |nil=>rfl
 |cons q qs=>
  simp only[cq,List.map_cons,Iv.Di]
  have:((!q.r.op&&q.r.hi==r.r.lo&&decide (q.s=r.s))=true) ↔ ((wT q).1.2=some (wT r).1.1/\(wT q).2=(wT r).2):=by
   simp only[wT,mG,Bool.and_eq_true,Bool.not_eq_true',beq_iff_eq,decide_eq_true_iff]
   cases q.r.op<;>simp
  by_cases h:(!q.r.op&&q.r.hi==r.r.lo&&decide (q.s=r.s))=true
  · rw[if_pos h,if_pos (this.1 h)];rfl
  · rw[if_neg h,if_neg (fun e=>h (this.2 e))];rfl
theorem V_(l:List Pc)(r:Pc):(cq l r).length<=l.length+1:=by
 cases l with
 |nil=>simp[cq]
 |cons q qs=>simp only[cq];split<;>simp
def kI(es:List (List UInt8))(k:Nat):ax:=if k+1<es.length then⟨es[k]!,es[k+1]!,false⟩else⟨es[k]!,[],true⟩
def lL(P:List UInt8->List ad)(es:List (List UInt8)):Nat->List Pc
 |0=>[]
 |k+1=>if P (es[k]!)=[]then lL P es k else cq (lL P es k) ⟨kI es k,P (es[k]!)⟩
theorem vI(P:List UInt8->List ad)(es:List (List UInt8)): ∀k,(lL P es k).length<=k
 |0=>Nat.le_refl _
 |k+1=>by
  have h1:=vI P es k;have h2:=V_ (lL P es k) ⟨kI es k,P (es[k]!)⟩
  simp only[lL]
  split<;>omega
theorem sr{e:List (List UInt8)}(h:e.Pairwise (fun x y=>aV x y=true)){i j:Nat}(xo:i<j)(hj:j<e.length):aV (e[i]!) (e[j]!)=true:=by
 rw[getElem!_pos e i (by omega),getElem!_pos e j hj]
 exact List.pairwise_iff_getElem.1 h i j (by omega) hj xo
structure Kc(P:List UInt8->List ad)(es:List (List UInt8)):Prop where
 up:es.Pairwise (fun x y=>aV x y=true)
 nil: []∈es
 len: ∀e∈es,e.length<=17
 flat: ∀x e,e∈es->aV x e=false->(∀y∈es,aV e y=true->aV x y=true)->P x=P e
 right: ∀x,bc (P x)=true
theorem Kd(x:List UInt8):aV x []=false:=by cases x<;>rfl
theorem N2{P:List UInt8->List ad}{es:List (List UInt8)}(h:Kc P es):es[0]! =[]/\0<es.length:=by
 obtain⟨i,hi,he⟩:=List.mem_iff_getElem.1 h.nil;refine⟨?_,by omega⟩
 rcases Nat.eq_zero_or_pos i with rfl|hp
 · rw[getElem!_pos es 0 hi,he]
 · have:=sr h.up hp hi
   rw[getElem!_pos es i hi,he,Kd]at this;cases this
theorem Rk{P:List UInt8->List ad}{es:List (List UInt8)}(h:Kc P es){k:Nat}(hk:k<es.length):aA (kI es k)=true:=by
 have h1:=h.len (es[k]!) (by rw[getElem!_pos es k hk];exact List.getElem_mem _)
 unfold kI;by_cases hn:k+1<es.length
 · have h2:=h.len (es[k+1]!) (by rw[getElem!_pos es (k+1) hn];exact List.getElem_mem _)
   rw[if_pos hn]
   exact qD h1 h2 (fun e=>by cases e) (fun _=>sr h.up (Nat.lt_succ_self k) hn)
 · rw[if_neg hn]
   exact qD h1 (by simp) (fun _=>rfl) (fun e=>by cases e)
theorem rngE_lo{es:List (List UInt8)}{k:Nat}:(kI es k).lo=es[k]! :=by unfold kI;split<;>rfl
theorem V'{l:List Pc}{r:Pc}(hl: ∀p∈l,dS p=true)(hr:dS r=true): ∀p∈cq l r,dS p=true:=by
 cases l with
 |nil=>intro p hp;simp only[cq,List.mem_singleton]at hp;subst hp;exact hr
 |cons q qs=>
  intro p hp;simp only[cq]at hp;split at hp
  · rename_i hc
    rcases List.mem_cons.1 hp with rfl|hp
    · have hq:=hl q (by simp)
      simp only[Bool.and_eq_true,Bool.not_eq_true',beq_iff_eq,decide_eq_true_iff]at hc;simp only[dS,Bool.and_eq_true]at hq hr⊢;refine⟨⟨?_,hq.1.2⟩,hq.2⟩
      have a:=hq.1.1;have b:=hr.1.1;simp only[aA,Bool.and_eq_true,decide_eq_true_iff,hc.1.1,Bool.false_eq_true,if_false]at a b⊢;refine⟨⟨a.1.1,b.1.2⟩, ?_⟩
      cases ho:r.r.op with
      |true=>have:=b.2;rw[ho]at this;simpa using this
      |false=>
       have:=b.2;rw[ho]at this;simp only[Bool.false_eq_true,if_false]at this⊢;rw[<-hc.1.2]at this;exact ck a.2 this
    · exact hl p (by simp[hp])
  · rcases List.mem_cons.1 hp with rfl|hp
    · exact hr
    · exact hl p hp
theorem qQ{P:List UInt8->List ad}{es:List (List UInt8)}(h:Kc P es): ∀k,k<=es.length->
 (∀p∈lL P es k,dS p=true)/\Iv.zC aV ((lL P es k).map wT)/\(k<es.length->Iv.topL aV ((lL P es k).map wT) (es[k]!))/\
 ∀x l,Iv.xz aV ((lL P es k).map wT) x l ↔ (0<k/\(k<es.length->aV x (es[k]!)=true))/\P x=l/\l≠ []
 |0,_=>⟨fun p hp=>(by cases hp),trivial,fun _=>trivial,fun x l=>⟨fun hi=>absurd hi Iv.oU,fun hi=>by omega⟩⟩
 |k+1,hk=>by
  obtain⟨h0,h1,h2,h3⟩:=qQ h k (by omega)
  have nI:=h2 (by omega)
  have hek:es[k]! ∈es:=by rw[getElem!_pos es k (by omega)];exact List.getElem_mem _
  -- what lies from this edge to the next
  have Rl: ∀x,Iv.ed aV (mG (kI es k)) x=true ↔ (aV x (es[k]!)=false/\(k+1<es.length->aV x (es[k+1]!)=true)):=fun x=>by
   unfold kI;by_cases hn:k+1<es.length
   · rw[if_pos hn];simp[Iv.ed,mG,Iv.below,hn]
   · rw[if_neg hn];simp[Iv.ed,mG,Iv.below,hn]
  have va: ∀x,Iv.ed aV (mG (kI es k)) x=true->P x=P (es[k]!):=fun x hx=>by
   obtain⟨a,b⟩:=(Rl x).1 hx;refine h.flat x _ hek a fun y hy hly=> ?_;obtain⟨i,hi,rfl⟩:=List.mem_iff_getElem.1 hy;have e:es[i]! =es[i]:=getElem!_pos _ i hi;rw[<-e]at hly⊢;rcases Nat.lt_trichotomy i k with hh|hh|hh
   · have:=sr h.up hh (by omega)
     rw[fo this]at hly;cases hly
   · subst hh;rw[lt_irrefl]at hly;cases hly
   · have hb:=b (by omega)
     rcases Nat.lt_or_eq_of_le (show k+1<=i by omega)with hh'|hh'
     · exact ck hb (sr h.up hh' hi)
     · subst hh';exact hb
  have mg: ∀x,(0<k+1/\(k+1<es.length->aV x (es[k+1]!)=true)) ↔ (0<k/\(k<es.length->aV x (es[k]!)=true))\/Iv.ed aV (mG (kI es k)) x=true:=fun x=>by
   rw[Rl]
   constructor
   · rintro⟨_,hb⟩
     cases hx:aV x (es[k]!)with
     |false=>exact .inr ⟨rfl,hb⟩
     |true=>
      refine .inl ⟨?_,fun _=>rfl⟩
      rcases Nat.eq_zero_or_pos k with h0|h0
      · subst h0;rw[(N2 h).1,Kd]at hx;cases hx
      · exact h0
   · rintro(⟨h4,h5⟩|⟨_,h5⟩)
     · exact⟨by omega,fun hn=>ck (h5 (by omega)) (sr h.up (Nat.lt_succ_self k) hn)⟩
     · exact⟨by omega,h5⟩
  simp only[lL]
  by_cases hP:P (es[k]!)=[]
  · rw[if_pos hP]
    refine⟨h0,h1,fun hn=> ?_,fun x l=> ?_⟩
    · revert nI
      cases hm:(lL P es k).map wT with
      |nil=>intro _;trivial
      |cons q qs=>
       rintro⟨e,he,aw⟩
       exact⟨e,he,Iv.kh pN (fo (sr h.up (Nat.lt_succ_self k) hn)) aw⟩
    · rw[h3,mg]
      constructor
      · rintro⟨a,b⟩;exact⟨.inl a,b⟩
      · rintro⟨a|a,b⟩
        · exact⟨a,b⟩
        · rw[va x a,hP]at b
          exact absurd b.1.symm b.2
  · rw[if_neg hP]
    have VE:=Rk h (k:=k) (by omega)
    have da:dS ⟨kI es k,P (es[k]!)⟩=true:=by
     simp only[dS,VE,h.right,Bool.true_and,Bool.and_true,Bool.not_eq_true']
     cases hPk:P (es[k]!)with
     |nil=>exact absurd hPk hP
     |cons _ _=>rfl
    obtain⟨g1,g2,q,qs,g3,g4⟩:=Iv.N1 pN (r:=wT ⟨kI es k,P (es[k]!)⟩) h1 (TP VE) (by show Iv.topL aV _ (kI es k).lo;rw[rngE_lo];exact nI)
    rw[<-Zc]at g1 g2 g3;refine⟨fun p hp=>V' h0 da p hp,g1,fun hn=> ?_,fun x l=> ?_⟩
    · rw[g3]
      refine⟨es[k+1]!, ?_,lt_irrefl _⟩
      rw[g4]
      show(mG (kI es k)).2=_;unfold kI;rw[if_pos hn];rfl
    · rw[g2,h3,mg]
      constructor
      · rintro(⟨a,b⟩|⟨a,b⟩)
        · exact⟨.inl a,b⟩
        · have a':Iv.ed aV (mG (kI es k)) x=true:=a
          have b':P (es[k]!)=l:=b;exact⟨.inr a',by rw[va x a'];exact b',by rw[<-b'];exact hP⟩
      · rintro⟨a|a,b⟩
        · exact .inl ⟨a,b⟩
        · exact .inr ⟨a,by rw[<-va x a];exact b.1⟩
theorem mW{P:List UInt8->List ad}{es:List (List UInt8)}(h:Kc P es):(lL P es es.length).reverse=aT P/\IsP P:=by
 obtain⟨h0,h1,_,h3⟩:=qQ h es.length (Nat.le_refl _)
 have hr:aR (lL P es es.length).reverse=true:=by
  rw[dN]
  refine⟨fun p hp=>h0 p (List.mem_reverse.1 hp), ?_⟩
  rw[List.map_reverse]
  exact Iv.IG.2 h1
 have hs: ∀x l,qO (lL P es es.length).reverse x l ↔ P x=l/\l≠ []:=fun x l=>by
  unfold qO;rw[List.map_reverse,Iv.inL_rev,h3]
  have:=(N2 h).2;exact⟨fun h=>h.2,fun h=>⟨⟨this,fun hn=>by omega⟩,h⟩⟩
 exact⟨T3 hr hs,_,hr,hs⟩
set_option maxRecDepth 20000
set_option maxHeartbeats 4000000
theorem strI{q:IntKind}(l:List Int):((l.map (A.int q)).isEmpty||cd (l.map (A.int q))==1)=true:=by cases l<;>rfl
theorem IJ{l:List Int}{n:Int}{k:Nat}(hk:k<=l.length)(hd:jL l n=l.take k++n::l.drop k):k+1<=((l.take k).map (A.int .i64)++[A.int .i64 n]).length/\k+1+(l.length-k)<=(((l.take k).map (A.int .i64)++[A.int .i64 n]).take (k+1)++(l.drop k).map (A.int .i64)).length/\
 (((l.take k).map (A.int .i64)++[A.int .i64 n]).take (k+1)++(l.drop k).map (A.int .i64)).take (k+1+(l.length-k))=(jL l n).map (A.int .i64):=by
 have e:((l.take k).map (A.int .i64)++[A.int .i64 n]).length=k+1:=by simp;omega
 rw[List.take_of_length_le (Nat.le_of_eq e)]
 have e2:((l.take k).map (A.int .i64)++[A.int .i64 n]++(l.drop k).map (A.int .i64)).length=k+1+(l.length-k):=by rw[List.length_append,e,List.length_map,List.length_drop]
 rw[List.take_of_length_le (Nat.le_of_eq e2)]
 exact⟨by omega,by omega,by rw[hd];simp⟩
theorem Ke:ah Tryz.prog qG Tryz.f246.ntmps (Tryz.f246.body.getD .skip)=true:=by kernel_rfl
theorem N3(l:List Int)(n:Int)(hl:l.length<=1000000):ay Tryz.prog 246 [.ab (l.map (A.int .i64)),.int .i64 n] (· = .ab ((jL l n).map (A.int .i64))):=by
 refine aa oP mixed Tryz.func246 rfl (Nat.le_of_ble_eq_true rfl) Ke ?_;unfold Tryz.f246;simp-implicitDefEqProofs (disch:=(first|omega|decide)) only[go_sem,↓reduceIte,seval,List.length_map]
 refine ar [0,1,4] (ι:={k:Nat//k<=l.length/\jL l n=l.take k++jL (l.drop k) n}) (fun p=>[(5,.int .i64 p.1)]) (fun _=>[]) (fun p=>l.length-p.1) ⟨0,by omega,rfl⟩ (Nat.zero_le _) ?_ ?_
 · simp-implicitDefEqProofs (disch:=(first|omega|decide)) only[go_sem,↓reduceIte,seval]
 · rintro⟨k,hk,hd⟩
   simp only;by_cases aw:k<l.length
   · have ae:(k:Int)<(l.length:Int):=by omega
     have e1:(l.map (A.int .i64))[k]? =some (.int .i64 l[k]):=by rw[List.getElem?_map,List.getElem?_eq_getElem aw];rfl
     have tk:(l.take k).length=k:=by rw[List.length_take];omega
     have t1:=(List.take_append_getElem aw).symm;rw[List.drop_eq_getElem_cons aw]at hd;generalize hx:l[k]=x at*;simp only[jL]at hd;by_cases h1:x<n
     · rw[if_pos h1]at hd
       simp-implicitDefEqProofs (disch:=(first|omega|decide)) only[go_sem,↓reduceIte,seval,ae,e1,h1,wrap_i64,List.length_map]
       exact⟨⟨k+1,aw,by rw[hd,t1,List.append_assoc];rfl⟩,by simp,by show l.length-(k+1)<l.length-k;omega⟩
     · rw[if_neg h1]at hd
       cases h2:x==n with
       |true=>
        simp-implicitDefEqProofs (disch:=(first|omega|decide)) only[go_sem,↓reduceIte,seval,ae,e1,h1,h2,wrap_i64,List.length_map]
        have hxn:x=n:=by simpa using h2
        rw[if_pos hxn,<-hx,<-List.drop_eq_getElem_cons aw,List.take_append_drop]at hd;rw[hd]
       |false=>
        have hxn:x≠n:=by simpa using h2
        have l1:(l.take k).length=k:=tk;have l2:(l.drop k).length=l.length-k:=List.length_drop ..;simp-implicitDefEqProofs (disch:=(first|omega|decide)) only[go_sem,↓reduceIte,seval,ae,e1,h1,h2,wrap_i64,<-List.map_take,<-List.map_drop,strI,List.length_map,List.take_length,l1,l2]
        obtain⟨c1,c2,c3⟩:=IJ hk (by rw[hd,if_neg hxn,<-hx,<-List.drop_eq_getElem_cons aw])
        exact⟨by omega,by omega,⟨by omega,by omega⟩,⟨by omega,by omega⟩,⟨c1,by omega⟩,c2,c3⟩
   · have ae: ¬(k:Int)<(l.length:Int):=by omega
     have l1:(l.take k).length=k:=by rw[List.length_take];omega
     have l2:(l.drop k).length=l.length-k:=List.length_drop ..;have l3:l.drop k=[]:=List.drop_of_length_le (by omega)
     obtain⟨c1,c2,c3⟩:=IJ hk (by rw[hd,l3];rfl)
     simp-implicitDefEqProofs (disch:=(first|omega|decide)) only[go_sem,↓reduceIte,seval,ae,wrap_i64,<-List.map_take,<-List.map_drop,strI,List.length_map,List.take_length,l1,l2]
     exact⟨by omega,by omega,⟨by omega,by omega⟩,⟨by omega,by omega⟩,⟨c1,by omega⟩,c2,c3⟩
def N4:an:=qG.add 246 (entry (fun(v:List Int×Int)=>[.ab (v.1.map (A.int .i64)),.int .i64 v.2]) (fun v=>v.1.length<=1000000) (fun v=> .ab ((jL v.1 v.2).map (A.int .i64))))
theorem T4:ag Tryz.prog N4:=oP.bN Tryz.func246 (by kernel_rfl) (by kernel_rfl) fun v h=>N3 v.1 v.2 h
@[go_sem] theorem T13c_old{g:FuncId}{xs:List A}(h:g≠246):N4.f g xs=qG.f g xs:=an.ak h
@[go_sem] theorem T13c_s:N4.pl qG:=⟨fun _=>rfl,fun _=>rfl,rfl,fun _=>rfl,rfl,fun _=>rfl,rfl⟩
theorem Dj(v:List Int×Int)(h:v.1.length<=1000000):N4.f 246 [.ab (v.1.map (A.int .i64)),.int .i64 v.2]=some (.ab ((jL v.1 v.2).map (A.int .i64))):=an.ao (Γ:=qG) (fun i j h=>by simpa[Prod.ext_iff,and_assoc]using h) v h
@[go_sem] theorem t_ref13_put{l:List Int}{n:Int}(h:l.length<=1000000):N4.f 246 [.ab (l.map (A.int .i64)),.int .i64 n]=some (.ab ((jL l n).map (A.int .i64))):=Dj (l,n) h
def slI:List Int->A
 | []=> .bT
 |x::xs=> .ab ((x::xs).map (A.int .i64))
theorem Zd{l:List Int}(h:l≠ []):slI l= .ab (l.map (A.int .i64)):=by
 cases l with
 |nil=>exact absurd rfl h
 |cons x xs=>rfl
theorem xC{m:Nat}(l:List Int):(slI l).under m=true:=by cases l<;>rfl
@[go_sem] theorem view_slI{H:List Go.bo.Obj}{l:List Int}:view H (slI l)=some (.ab (l.map (A.int .i64))):=by cases l<;>rfl
@[go_sem] theorem pure_slI{l:List Int}:(slI l).pure=true:=by cases l<;>rfl
theorem Dk:ah Tryz.prog N4 Tryz.f215.ntmps (Tryz.f215.body.getD .skip)=true:=by kernel_rfl
theorem Gn(a b:List aF)(ha:a.length<=50000)(hb:b.length<=50000):ay Tryz.prog 215 [.ab (a.map aF.enc),.ab (b.map aF.enc)] (· = .ab ((bh a b).map (A.int .i64))):=by
 refine aa T4 mixed Tryz.func215 rfl (Nat.le_of_ble_eq_true rfl) Dk ?_;unfold Tryz.f215;simp-implicitDefEqProofs (disch:=(first|omega|decide)) only[go_sem,↓reduceIte,seval,List.length_map]
 refine ar [0,1,4] (ι:={k:Nat//k<=a.length}) (fun p=>[(6,.int .i64 p.1),(5,slI (dM [] (a.take p.1)))]) (fun _=>[]) (fun p=>a.length-p.1) ⟨0,by omega⟩ (Nat.zero_le _) ?_ ?_
 · simp-implicitDefEqProofs (disch:=(first|omega|decide)) only[go_sem,↓reduceIte,seval]
   simp[dM,slI,A.under]
 · rintro⟨k,hk⟩
   simp only;have hlen:=oQ [] (a.take k)
   have ME:(a.take k).length=k:=by rw[List.length_take];omega
   by_cases aw:k<a.length
   · have ae:(k:Int)<(a.length:Int):=by omega
     have e1:=run_get aw;have ht:a.take (k+1)=a.take k++[a[k]]:=(List.take_append_getElem aw).symm;generalize hx:a[k]=x at*;obtain⟨f,t⟩:=x;have hs:=zB [] (a.take k) ⟨f,t⟩
     rw[<-ht]at hs;generalize Ci:dM [] (a.take k)=es at*;simp only[List.length_nil]at hlen;cases h1:cF ⟨f,t⟩with
     |false=>
      rw[h1]at hs;simp-implicitDefEqProofs (disch:=(first|omega|decide)) only[go_sem,↓reduceIte,seval,ae,e1,h1,wrap_i64,List.length_map]
      exact⟨⟨k+1,aw⟩,by simp[hs,xC],by show a.length-(k+1)<a.length-k;omega⟩
     |true=>
      rw[h1,if_pos rfl]at hs;obtain⟨o1,o2,o3⟩:=ju h1;simp only at o1 o2 o3 hs;have p1:=vE es f;have iB:=Zd (TV (jL es f) (t+1))
      simp-implicitDefEqProofs (disch:=(first|omega|decide)) only[go_sem,↓reduceIte,seval,ae,e1,h1,wrap_i64,List.length_map]
      exact⟨⟨k+1,aw⟩,by simp[hs,iB,A.under],by show a.length-(k+1)<a.length-k;omega⟩
   · have ae: ¬(k:Int)<(a.length:Int):=by omega
     rw[List.take_of_length_le (by omega)]at*;simp-implicitDefEqProofs (disch:=(first|omega|decide)) only[go_sem,↓reduceIte,seval,ae,List.length_map]
     generalize hea:dM [] a=ea at*;simp only[List.length_nil]at hlen;refine ar [1,4] (ι:={k:Nat//k<=b.length}) (fun p=>[(7,.int .i64 p.1),(5,slI (dM ea (b.take p.1)))]) (fun _=>[]) (fun p=>b.length-p.1) ⟨0,by omega⟩ (Nat.zero_le _) ?_ ?_
     · simp-implicitDefEqProofs (disch:=(first|omega|decide)) only[go_sem,↓reduceIte,seval]
       simp[dM,xC]
     · rintro⟨j,hj⟩
       simp only;have hlen2:=oQ ea (b.take j)
       have htj:(b.take j).length=j:=by rw[List.length_take];omega
       by_cases iH:j<b.length
       · have Dl:(j:Int)<(b.length:Int):=by omega
         have e1:=run_get iH;have ht:b.take (j+1)=b.take j++[b[j]]:=(List.take_append_getElem iH).symm;generalize hx:b[j]=x at*;obtain⟨f,t⟩:=x;have hs:=zB ea (b.take j) ⟨f,t⟩
         rw[<-ht]at hs;generalize Ci:dM ea (b.take j)=es at*;cases h1:cF ⟨f,t⟩with
         |false=>
          rw[h1]at hs;simp-implicitDefEqProofs (disch:=(first|omega|decide)) only[go_sem,↓reduceIte,seval,Dl,e1,h1,wrap_i64,List.length_map]
          exact⟨⟨j+1,iH⟩,by simp[hs,xC],by show b.length-(j+1)<b.length-j;omega⟩
         |true=>
          rw[h1,if_pos rfl]at hs;obtain⟨o1,o2,o3⟩:=ju h1;simp only at o1 o2 o3 hs;have p1:=vE es f;have iB:=Zd (TV (jL es f) (t+1))
          simp-implicitDefEqProofs (disch:=(first|omega|decide)) only[go_sem,↓reduceIte,seval,Dl,e1,h1,wrap_i64,List.length_map]
          exact⟨⟨j+1,iH⟩,by simp[hs,iB,A.under],by show b.length-(j+1)<b.length-j;omega⟩
       · have Dl: ¬(j:Int)<(b.length:Int):=by omega
         rw[List.take_of_length_le (by omega)]at*;have iB:dM ea b=bh a b:=by rw[<-hea];rfl
         simp-implicitDefEqProofs (disch:=(first|omega|decide)) only[go_sem,↓reduceIte,seval,Dl,iB,List.length_map]
def Rm:an:=N4.add 167 (entry (fun(v:List aF×Int)=>[.ab (v.1.map aF.enc),.int .i64 v.2]) (fun v=>v.1.length<=4611686018427387904) (fun v=> .bool (ai v.1 v.2)))
theorem T13d_ok:ag Tryz.prog Rm:=T4.bN Tryz.func167 (by kernel_rfl) (by kernel_rfl) fun v h=>NQ v.1 v.2 h
theorem Dm(v:List aF×Int)(h:v.1.length<=4611686018427387904):Rm.f 167 [.ab (v.1.map aF.enc),.int .i64 v.2]=some (.bool (ai v.1 v.2)):=an.ao (Γ:=N4) (fun i j h=>by simpa[Prod.ext_iff,and_assoc]using h) v h
@[go_sem] theorem t_ref13_Has{l:List aF}{n:Int}(h:l.length<=4611686018427387904):Rm.f 167 [.ab (l.map aF.enc),.int .i64 n]=some (.bool (ai l n)):=Dm (l,n) h
def Kf:an:=Rm.add 215 (entry (fun(v:List aF×List aF)=>[.ab (v.1.map aF.enc),.ab (v.2.map aF.enc)]) (fun v=>v.1.length<=50000/\v.2.length<=50000) (fun v=> .ab ((bh v.1 v.2).map (A.int .i64))))
theorem T5:ag Tryz.prog Kf:=T13d_ok.bN Tryz.func215 (by kernel_rfl) (by kernel_rfl) fun v h=>Gn v.1 v.2 h.1 h.2
@[go_sem] theorem T13e_old{g:FuncId}{xs:List A}(h:g≠215):Kf.f g xs=Rm.f g xs:=an.ak h
@[go_sem] theorem T13e_s:Kf.pl Rm:=⟨fun _=>rfl,fun _=>rfl,rfl,fun _=>rfl,rfl,fun _=>rfl,rfl⟩
theorem xD(v:List aF×List aF)(h:v.1.length<=50000/\v.2.length<=50000):Kf.f 215 [.ab (v.1.map aF.enc),.ab (v.2.map aF.enc)]=some (.ab ((bh v.1 v.2).map (A.int .i64))):=an.ao (Γ:=Rm) (fun i j h=>by simpa[Prod.ext_iff,and_assoc]using h) v h
@[go_sem] theorem t_ref13_Edges{a b:List aF}(h:a.length<=50000/\b.length<=50000):Kf.f 215 [.ab (a.map aF.enc),.ab (b.map aF.enc)]=some (.ab ((bh a b).map (A.int .i64))):=xD (a,b) h
theorem Dn{α:List A}{x v:A}: ∀{l:List A},cC (l++[x]) l.length v=l++[v]
 | []=>rfl
 |y::l=>by simp only[List.cons_append,List.length_cons,cC,Dn (α:=α)]
theorem ij{x:A}: ∀{l:List A},(l++[x])[l.length]? =some x
 | []=>rfl
 |y::l=>by simp[ij]
theorem T6{l:List Int}{k:Nat}(h:k<l.length):(l.map (A.int .i64))[k]? =some (.int .i64 (l[k]!)):=by rw[List.getElem?_map,List.getElem?_eq_getElem h,getElem!_pos l k h];rfl
def nQ(acc:List aF):List A:=acc.reverse.map aF.enc
theorem ss(q:aF)(qs:List aF):nQ (q::qs)=nQ qs++[.agg [.int .i64 q.f,.int .i64 q.t]]:=by simp[nQ,aF.enc,aF.cells]
theorem vJ(l:List aF):(nQ l).length=l.length:=by simp[nQ]
theorem N5:nQ []=[]:=rfl
def Kg(op:Int):Prop:=op=1\/op=2\/op=3
theorem Gp:ah Tryz.prog Kf Tryz.f201.ntmps (Tryz.f201.body.getD .skip)=true:=by kernel_rfl
theorem Kh(op:Int)(a b:List aF)(ho:Kg op)(ha:a.length<=50000)(hb:b.length<=50000):ay Tryz.prog 201 [.int .i64 op,.ab (a.map aF.enc),.ab (b.map aF.enc)] (· = .ab ((cJ (jA op a b)).map aF.enc)):=by
 refine aa T5 mixed Tryz.func201 rfl (Nat.le_of_ble_eq_true rfl) Gp ?_;unfold Tryz.f201;have hel:=De a b;have iO:=J' op a b;have Dp:=vF op a b;have V9:=ki a b;have hrng: ∀k,k<(bh a b).length->1<=(bh a b)[k]! /\(bh a b)[k]! <=1099511627777:=fun k hk=>oR (a:=a) (b:=b) (by rw[getElem!_pos _ k hk];exact List.getElem_mem _)
 simp-implicitDefEqProofs (disch:=(first|omega|decide)) only[go_sem,↓reduceIte,seval,List.length_map,ha,hb]
 generalize he:bh a b=e at*;refine aW 8 2 rfl ?_;refine ar [0,1,2,6,7] (ι:={k:Nat//k<=e.length-1}) (fun p=>[(9,.int .i64 p.1),(8,.row 0 0 2 (xy (jA op a b) e p.1).length false)]) (fun p=>[(0,.row 2 (nQ (xy (jA op a b) e p.1)))]) (fun p=>e.length-p.1) ⟨0,by omega⟩ (Nat.zero_le _) ?_ ?_
 · simp-implicitDefEqProofs (disch:=(first|omega|decide)) only[go_sem,↓reduceIte,seval,xy,N5]
   done
 · rintro⟨k,hk⟩
   simp only;have hlen:=J_ (jA op a b) e k;by_cases aw:k+1<e.length
   · have ae:(k:Int)+1<(e.length:Int):=by omega
     have e1:=T6 (l:=e) (k:=k) (by omega)
     have e2:=T6 (l:=e) (k:=k+1) aw;obtain⟨s1,s2,s3,s4⟩:=Dp k (by omega)
     have N6:=tZ V9 (Nat.lt_succ_self k) aw;have r1:=hrng k (by omega)
     have r2:=hrng (k+1) aw;have hmk:xy (jA op a b) e (k+1)=if jA op a b (e[k]!)then cP (xy (jA op a b) e k) ⟨e[k]!,e[k+1]! -1⟩else xy (jA op a b) e k:=rfl
     generalize hx:e[k]! =x at*;generalize hy:e[k+1]! =y at*;generalize hm:xy (jA op a b) e k=m at*;have hP:jA op a b x=XA op (ai a x) (ai b x):=rfl;have t1:((k:Int)+1).toNat=k+1:=by omega
     have t2:(0:Int)<=(k:Int)+1:=by omega
     have t3:(0:Int)<=(k:Int):=by omega
     have skip:jA op a b x=false->xy (jA op a b) e (k+1)=m:=fun h=>by rw[hmk,h];rfl
     have fin: ∀m',xy (jA op a b) e (k+1)=m'-> ∃j:{k:Nat//k<=e.length-1},(((k:Int)+1=(j.1:Int)/\m'.length=(xy (jA op a b) e j.1).length)/\nQ m'=nQ (xy (jA op a b) e j.1))/\e.length-j.1<e.length-k:=fun m' jz=>⟨⟨k+1,by omega⟩,⟨⟨by simp,by rw[jz]⟩,by rw[jz]⟩,by show e.length-(k+1)<e.length-k;omega⟩
     cases hp:jA op a b x with
     |false=>
      have hs:=skip hp;rcases ho with rfl|rfl|rfl<;>cases Ze:ai a x<;>cases Zf:ai b x<;>rw[Ze,Zf]at hP<;>simp[XA,hp]at hP<;>simp-implicitDefEqProofs (maxSteps:=600000) (disch:=(first|omega|decide)) only[go_sem,↓reduceIte,seval,ae,e1,e2,Ze,Zf,t1,t2,t3,wrap_i64,List.length_map]
      all_goals exact fin m hs
     |true=>
      have hs:xy (jA op a b) e (k+1)=cP m ⟨x,y-1⟩:=by rw[hmk,hp];rfl
      have mj:=fin _ hs;cases m with
      |nil=>
       rw[N5]
       rcases ho with rfl|rfl|rfl<;>cases Ze:ai a x<;>cases Zf:ai b x<;>rw[Ze,Zf]at hP<;>simp[XA,hp]at hP<;>simp-implicitDefEqProofs (maxSteps:=600000) (disch:=(first|omega|decide)) only[go_sem,↓reduceIte,seval,ae,e1,e2,Ze,Zf,t1,t2,t3,wrap_i64,List.length_map]
       all_goals exact mj
      |cons q qs=>
       have hqt:q.t<x:=s2;rw[ss]at*;have hlq:qs.length+1<=k:=hlen;have c0:(0:Int)<((qs.length+1:Nat):Int):=by omega
       have c1:(((qs.length+1:Nat):Int)-1).toNat=qs.length:=by omega
       have c2:(0:Int)<=((qs.length+1:Nat):Int)-1:=by omega
       have c3:((qs.length+1:Nat):Int)-1<((qs.length+1:Nat):Int):=by omega
       have g1:(nQ qs++[A.agg [.int .i64 q.f,.int .i64 q.t]])[qs.length]? =some (.agg [.int .i64 q.f,.int .i64 q.t]):=by
          have:=ij (x:=A.agg [.int .i64 q.f,.int .i64 q.t]) (l:=nQ qs)
          rwa [vJ]at this
       have g2: ∀v,cC (nQ qs++[A.agg [.int .i64 q.f,.int .i64 q.t]]) qs.length v=nQ qs++[v]:=fun v=>by
          have:=Dn (x:=A.agg [.int .i64 q.f,.int .i64 q.t]) (v:=v) (l:=nQ qs) (α:=[])
          rwa [vJ]at this
       have gl:(nQ qs++[A.agg [.int .i64 q.f,.int .i64 q.t]]).length=qs.length+1:=by rw[List.length_append,vJ];rfl
       have gt:(nQ qs++[A.agg [.int .i64 q.f,.int .i64 q.t]]).take (qs.length+1)=nQ qs++[A.agg [.int .i64 q.f,.int .i64 q.t]]:=List.take_of_length_le (Nat.le_of_eq gl)
       cases hq:(q.t==x-1)with
       |true=>
          have MD:q.t=x-1:=by simpa using hq
          have Ki:cP (q::qs) ⟨x,y-1⟩=⟨q.f,y-1⟩::qs:=by
           simp only[cP]
           rw[if_pos (by omega),if_pos (by omega)]
          rw[Ki,ss]at mj;rcases ho with rfl|rfl|rfl<;>cases Ze:ai a x<;>cases Zf:ai b x<;>rw[Ze,Zf]at hP<;>simp[XA,hp]at hP<;>simp-implicitDefEqProofs (maxSteps:=600000) (disch:=(first|omega|decide)) only[go_sem,↓reduceIte,seval,ae,e1,e2,Ze,Zf,t1,t2,t3,c0,c1,c2,c3,g1,g2,hq,wrap_i64,List.length_map]
          all_goals exact mj
       |false=>
          have MD:q.t≠x-1:=by simpa using hq
          have Ki:cP (q::qs) ⟨x,y-1⟩=⟨x,y-1⟩::q::qs:=by
           simp only[cP]
           rw[if_neg (by omega)]
          rw[Ki,ss,ss]at mj;rcases ho with rfl|rfl|rfl<;>cases Ze:ai a x<;>cases Zf:ai b x<;>rw[Ze,Zf]at hP<;>simp[XA,hp]at hP<;>simp-implicitDefEqProofs (maxSteps:=600000) (disch:=(first|omega|decide)) only[go_sem,↓reduceIte,seval,ae,e1,e2,Ze,Zf,t1,t2,t3,c0,c1,c2,c3,g1,g2,gl,gt,hq,wrap_i64,List.length_map]
          all_goals exact⟨⟨Nat.le_refl _,by omega⟩,mj⟩
   · have ae: ¬(k:Int)+1<(e.length:Int):=by omega
     have FY:k=e.length-1:=by omega
     subst FY;have iB:(nQ (xy (jA op a b) e (e.length-1)))=(cJ (jA op a b)).map aF.enc:=by unfold nQ;rw[iO]
     have Rn:(xy (jA op a b) e (e.length-1)).length=(nQ (xy (jA op a b) e (e.length-1))).length:=by rw[vJ]
     simp-implicitDefEqProofs (disch:=(first|omega|decide)) only[go_sem,↓reduceIte,seval,ae,wrap_i64,Rn,List.length_map,List.take_length]
     rw[iB]
     exact⟨Nat.le_refl _,rfl⟩
end Go.Proofs.YtihgnfmoafjakaaGreat
namespace Go.bo
theorem Wa{P:Program}{f:FuncId}{xs:List A}{S:List Nat}(k:Nat)(h:dR P f xs [] .bT [] S):dR P f xs [] (.row 0 0 k 0 false) [.row k []] S:=by
 intro N φ w vs hN iy bI cS;refine Calls.mono (h N φ w vs hN iy bI cS) ?_;rintro e w' ⟨v,eT,rfl,hv,hrel',ht,hl⟩
 have e1:φ=[]:=List.length_eq_zero_iff.1 iy.len;have e2:eT=[]:=List.length_eq_zero_iff.1 hrel'.len;subst e1;subst e2;refine⟨v,[.nil],rfl, ?_, ?_, ?_,Nat.zero_le _⟩
 · simp only[aJ]at hv⊢
   exact .inl ⟨.nil,rfl,by simp,trivial,fun _=>trivial,none,hv⟩
 · exact{
    len:=rfl
    c7:=fun n o p ho hp=>by
     cases n with
     |succ n=>simp[cn]at ho
     |zero=>
      simp only[cn,Option.some.injEq]at ho;simp at hp;subst ho;subst hp;simp[aL]
    own:=fun n b k' hn=>by cases n<;>simp at hn
    inj:=fun n m b k' FP hn=>by cases n<;>simp at hn}
 · exact{
    os:=ht.os
    tape:=ht.tape
    output:=ht.output
    drawn:=ht.drawn
    size:=ht.size
    block:=ht.block
    shape:=ht.shape
    own:=fun n b k' hn=>by cases n<;>simp at hn
    stay:=fun n p _ hn=>by simp at hn}
theorem Wb{P:Program}{f:FuncId}{H H':List Obj}{r:A}{S:List Nat}(h1:dR P f [.emp true] H r H' S)(h2:dR P f [.emp false] H r H' S):dR P f [.ab []] H r H' S:=fun N φ w vs hN iy bI hr=>by
 simp only[aQ,aJ]at hr;obtain⟨v,_,rfl,⟨_,a,cap,rfl,_,_⟩,rfl⟩:=hr;cases a with
 |none=>exact h1 N φ w _ hN iy bI (by simp only[aQ,aJ];exact⟨_,_,rfl,⟨none,cap,rfl,rfl⟩,rfl⟩)
 |some q=>exact h2 N φ w _ hN iy bI (by simp only[aQ,aJ];exact⟨_,_,rfl,⟨some q,cap,rfl,rfl⟩,rfl⟩)
theorem Dq{P:Program}{f:FuncId}{xs ys:List A}{r:A}(h:ay P f ys (· =r))(hx: ∀(E:Env) (vs:List Value),aQ E xs vs->aQ E ys vs)(hp:r.pure=true):dR P f xs [] r [] []:=by
 intro N φ w vs hN iy bI cS;have e1:φ=[]:=List.length_eq_zero_iff.1 iy.len;subst e1
 have Ro: ∀b,(aB N [] w).N b->b<w.heap.size:=fun b hb=>by
  rcases hb with hb|⟨n,k,hn⟩
  · exact hN b hb
  · simp at hn
 refine Calls.mono (h (aB N [] w).N w vs Ro (hx _ _ cS)) ?_;rintro e w' ⟨v,r',rfl,rfl,hr,hg⟩
 refine⟨v,[],rfl, ?_, ?_, ?_,Nat.le_refl _⟩
 · exact hr
 · exact{len:=rfl,c7:=fun n o p ho=>by cases n<;>simp[cn]at ho,own:=fun n b k hn=>by simp at hn,inj:=fun n m b k k' hn=>by simp at hn}
 · exact{
    os:=hg.os
    tape:=hg.tape
    output:=hg.output
    drawn:=hg.drawn
    size:=hg.size
    block:=fun b hb _=>hg.block b hb
    shape:=fun b c e fr hb=>⟨c,fr,by rw[hg.block b (Array.getElem?_eq_some_iff.1 hb).1];exact hb,rfl⟩
    own:=fun n b k hn=>by simp at hn
    stay:=fun n p _ hn=>hn}
theorem Kj{E:Env}{es:List A}{v:Value}(h:aJ E (.clip es) v):aJ E (.ab es) v:=by simp only[aJ]at h⊢;obtain⟨hp,a,hv,hl⟩:=h;exact⟨hp,a,_,hv,Nat.le_refl _,hl⟩
theorem ik{x v:A}: ∀{l:List A},cC (l++[x]) l.length v=l++[v]
 | []=>rfl
 |y::l=>by simp only[List.cons_append,List.length_cons,cC,ik]
theorem ij{x:A}: ∀{l:List A},(l++[x])[l.length]? =some x
 | []=>rfl
 |y::l=>by simp[ij]
open Go.RowKit
structure N7(b:Nat)(D:List Value)(w w':World):Prop where
 os:w'.os=w.os
 tape:w'.tape=w.tape
 output:w'.output=w.output
 drawn:w.drawn<=w'.drawn
 size:w.heap.size<=w'.heap.size
 block: ∀c,c<w.heap.size->c≠b->w'.heap[c]? =w.heap[c]?
 self: ∀(cc:Array Value) (e:TypeId) (fr:Nat×Nat),w.heap[b]? =some (.cells cc e fr)-> ∃M0,w'.heap[b]? =some (.cells M0 e fr)/\M0.size=cc.size
 cells:w'.rangeAt b 0 D
theorem vK{P:Program}{f g:FuncId}{k:Nat}{c:Bool}{es z_:List A}{D:List Value}(hk:0<k)(hD: ∀E,aG E k z_ D)(hp:A.pure.a_ z_=true)(h1: ∀u∈D,u.oneCell'=true)(hlen:z_.length=es.length)
 (JJ:es=[]-> ∀(w:World) (q:Option Addr) (cap:Nat),Calls P f #[.slice q 0 cap,.func (.func g) #[] #[]] w fun e w'=>e= .returned (.tuple #[])/\w'=w)
 (qm: ∀(E:Env) (b cap:Nat) (cc:Array Value) (e:TypeId) (fr:Nat×Nat),es≠ []->E.w.heap[b]? =some (.cells cc e fr)->nE cc fr->eJ E k b 0 es->k*cap<=cc.size->es.length<=cap->
  Calls P f #[.slice (some ⟨b,0,none⟩) es.length cap,.func (.func g) #[] #[]] E.w fun e w'=>e= .returned (.tuple #[])/\N7 b D E.w w'):
 dR P f [.row 0 0 k es.length c,.fn g []] [.row k es] (.cD []) [.row k z_] []:=by
 intro N φ w vs hN iy bI cS;simp only[aQ]at cS;obtain⟨v0,_,rfl,hv0,v1,_,rfl,Yh,rfl⟩:=cS;simp only[aJ,aQ]at Yh;obtain⟨us,rfl,rfl⟩:=Yh;have hφl:φ.length=1:=iy.len;have stay: ∀(w':World),w'=w-> ∃v eT,(Ending.returned (.tuple #[]):Ending)= .returned v/\aJ (aB N eT w') (.cD []) v/\oE N eT [.row k es] w'/\M_ φ w [] eT w'/\1<=1:=by rintro w' rfl;exact⟨_,φ,rfl,by simp[aJ,aQ],iy,⟨rfl,rfl,rfl,Nat.le_refl _,Nat.le_refl _,fun _ _ _=>rfl,fun _ c _ fr h=>⟨c,fr,h,rfl⟩,fun n b k hn=> .inr ⟨n,k,hn⟩,fun _ _ _ h=>h⟩,Nat.le_refl _⟩
 have vn:es=[]-> ∀(q:Option Addr) (cap:Nat),Calls P f #[.slice q 0 cap,.func (.func g) #[] #[]] w fun e w'=> ∃v eT,e= .returned v/\aJ (aB N eT w') (.cD []) v/\oE N eT [.row k z_] w'/\M_ φ w [] eT w'/\ [Obj.row k es].length<=[Obj.row k z_].length:=by
  intro Ci q cap;have hes':z_=es:=by subst Ci;exact List.length_eq_zero_iff.1 (by simpa using hlen)
  rw[hes']
  refine Calls.mono (JJ Ci w q cap) ?_;rintro e w' ⟨rfl,hw⟩
  exact stay w' hw
 by_cases Ci:es=[]
 · have hl0:es.length=0:=by rw[Ci];rfl
   simp only[aJ]at hv0;rcases hv0 with⟨o,_,_,_,_,q,rfl⟩|⟨b,cap,c',e',fr,fA,rfl,rQ,_,hb,F4⟩
   · exact vn Ci q 0
   · rw[hl0];exact vn Ci _ cap
 · simp only[aJ]at hv0
   rcases hv0 with⟨o,_,_,h0,_⟩|⟨b,cap,c',e',fr,fA,rfl,rQ,_,hb,F4⟩
   · exact absurd (List.length_eq_zero_iff.1 h0) Ci
   · have fC:=iy.c7 0 (.row k es) (.loc b k) rfl fA
     simp only[aL]at fC;obtain⟨_,Qc,⟨cc,ee,ffr,Qd,Wc⟩,hE⟩:=fC;have qi:w.heap[b]? =some (.cells c' e' fr):=hb;have ql:w.heap[b]? =some (.cells cc ee ffr):=Qd;rw[qi]at ql;simp only[Option.some.injEq,Go.Obj.cells.injEq]at ql;obtain⟨rfl,rfl,rfl⟩:=ql;rw[Nat.zero_mul]at F4⊢;refine Calls.mono (qm (aB N φ w) b cap c' e' fr Ci qi Wc hE (by omega) rQ) ?_;rintro e w' ⟨rfl,hT⟩
     obtain⟨M0,ql,lT⟩:=hT.self c' e' fr qi;have hwid:w'.heap.size>=w.heap.size:=hT.size;refine⟨_,φ,rfl,by simp[aJ,aQ], ?_, ?_,Nat.le_refl _⟩
     · exact{
        len:=by simpa using hφl
        c7:=fun n o p ho tb=>by
         cases n with
         |succ n=>simp[cn]at ho
         |zero=>
          simp only[cn,Option.some.injEq]at ho;subst ho;have Jx:φ[0]? =some (dj.loc b k):=fA;rw[Jx]at tb;obtain rfl:=Option.some.inj tb;simp only[aL]
          refine⟨trivial,hp,⟨M0,e',fr,ql,fun j hj=>Wc j (by omega)⟩, ?_⟩
          exact aG.mem (hD (aB N φ w')) hT.cells h1
        own:=fun n b' k' hn=>⟨Nat.lt_of_lt_of_le (iy.own n b' k' hn).1 hT.size,(iy.own n b' k' hn).2⟩
        inj:=iy.inj}
     · exact{
        os:=hT.os
        tape:=hT.tape
        output:=hT.output
        drawn:=hT.drawn
        size:=hT.size
        block:=fun b' qi sj=>hT.block b' qi fun e=>by subst e;exact sj 0 k fA
        shape:=fun b' c₁ e₁ Zg h₁=>by
         by_cases X8:b'=b
         · subst X8
           obtain⟨c₂,h₂,h₃⟩:=hT.self c₁ e₁ Zg h₁;exact⟨c₂,Zg,h₂,h₃⟩
         · have:b'<w.heap.size:=(Array.getElem?_eq_some_iff.1 h₁).1
           exact⟨c₁,Zg,by rw[hT.block b' this X8];exact h₁,rfl⟩
        own:=fun n b' k' hn=> .inr ⟨n,k',hn⟩
        stay:=fun _ _ _ h=>h}
def iC:A->Value
 | .int k n=> .int k n
 | .bool b=> .bool b
 | .str s=> .string ⟨s.toArray⟩
 |_=>undef
def scalar:A->Bool
 | .int _ _=>true
 | .bool _=>true
 | .str _=>true
 |_=>false
theorem kj{E:Env}{x:A}{v:Value}(h:scalar x=true):aJ E x v ↔ v=iC x:=by cases x<;>simp[scalar]at h<;>simp[aJ,iC]
theorem t_{x:A}(h:scalar x=true):(iC x).oneCell'=true:=by cases x<;>simp[scalar]at h<;>rfl
theorem zG{x:A}(h:scalar x=true):x.pure=true:=by cases x<;>simp[scalar]at h<;>simp[A.pure]
theorem lM{E:Env}: ∀{xs:List A},(∀x∈xs,scalar x=true)->aQ E xs (xs.map iC)
 | [],_=>by simp[aQ]
 |x::xs,h=>by
  simp only[List.map_cons,aQ]
  exact⟨_,_,rfl,(kj (h x (by simp))).2 rfl,lM fun y hy=>h y (by simp[hy])⟩
theorem ti: ∀{xs:List A},(∀x∈xs,scalar x=true)->A.pure.a_ xs=true
 | [],_=>rfl
 |x::xs,h=>by
  simp only[A.pure.a_,Bool.and_eq_true]
  exact⟨zG (h x (by simp)),ti fun y hy=>h y (by simp[hy])⟩
theorem zH{α:Type}{k:Nat}(hk:0<k): ∀{ls:List (List α)},(∀l∈ls,l.length=k)-> ∀j:Nat,ls.flatten[j]? =(ls[j/k]?).bind fun l=>l[j % k]?
 | [],_,j=>by simp
 |l::ls,h,j=>by
  have hl:=h l (by simp)
  rw[List.flatten_cons]
  by_cases hj:j<k
  · rw[List.getElem?_append_left (by omega),Nat.div_eq_of_lt hj,Nat.mod_eq_of_lt hj];simp
  · rw[List.getElem?_append_right (by omega),zH hk (fun x hx=>h x (by simp[hx])) (j-l.length),hl]
    have h1:j/k=(j-k)/k+1:=by rw[Nat.div_eq_sub_div hk (by omega)]
    have h2:j % k=(j-k) % k:=by rw[Nat.mod_eq_sub_mod (by omega)]
    rw[h1,h2];simp
theorem zI{E:Env}{k:Nat}{β:Type}{enc:β->List A}(hk: ∀x,(enc x).length=k)(hs: ∀x,∀a∈enc x,scalar a=true): ∀l:List β,aG E k (l.map fun x=> .agg (enc x)) ((l.map fun x=>(enc x).map iC).flatten)
 | []=>by simp[aG]
 |x::l=>by
  have h1:((enc x).map iC).length=k:=by rw[List.length_map,hk]
  simp only[List.map_cons,aG,A.cells,List.flatten_cons]
  refine⟨hk x,by rw[List.length_append];omega, ?_, ?_⟩
  · rw[List.take_append_of_le_length (by omega),List.take_of_length_le (by omega)]
    exact lM (hs x)
  · rw[List.drop_append_of_le_length (by omega),List.drop_of_length_le (by omega)]
    exact zI hk hs l
theorem Dr{E:Env}{β:Type}{enc:β->A}(hs: ∀x,scalar (enc x)=true): ∀l:List β,aG E 1 (l.map enc) (l.map fun x=>iC (enc x))
 | []=>by simp[aG]
 |x::l=>by
  have hc:(enc x).cells=[enc x]:=by have:=hs x;cases h:enc x<;>rw[h]at this<;>simp[scalar]at this<;>rfl
  simp only[List.map_cons,aG,hc]
  refine⟨rfl,by simp, ?_, ?_⟩
  · simp only[List.take_succ_cons,List.take_zero,aQ]
    exact⟨_,[],rfl,(kj (hs x)).2 rfl,rfl⟩
  · simpa using Dr hs l
theorem xE{β:Type}{f:β->A}(h: ∀x,(f x).pure=true): ∀l:List β,A.pure.a_ (l.map f)=true
 | []=>rfl
 |x::l=>by simp[A.pure.a_,h x,xE h l]
open Go.Sort in
theorem IK{w w':World}(g:eL w w'): ∃q os,w'=Sort.grow (w.drewN q) os:=by
 refine⟨w'.drawn-w.drawn,w'.heap.extract w.heap.size w'.heap.size, ?_⟩
 have hh:w.heap++w'.heap.extract w.heap.size w'.heap.size=w'.heap:=by
  have lT:=g.size;apply Array.ext_getElem?;intro i;by_cases hi:i<w.heap.size
  · rw[Array.getElem?_append_left hi,g.block i hi]
  · rw[Array.getElem?_append_right (by omega),Array.getElem?_extract]
    by_cases h2:i<w'.heap.size
    · rw[if_pos (by omega),show w.heap.size+(i-w.heap.size)=i by omega]
    · rw[if_neg (by omega),Array.getElem?_eq_none (by omega)]
 have hd:=g.drawn;unfold Sort.grow World.drewN;rw[show w.drawn+(w'.drawn-w.drawn)=w'.drawn by omega]
 obtain⟨heap,tape,drawn,os,output⟩:=w';have h1:=g.os;have h2:=g.tape;have h3:=g.output;simp only at h1 h2 h3 hh⊢;rw[hh,h1,h2,h3]
open Go.Sort in
theorem zJ{w:World}{b n:Nat}{F F0:Array Value}{os:Array Go.Obj}(h0:Holds id w b 0 F0)(hs:F.size=F0.size)(hb:b<w.heap.size):N7 b F.toList w (Sort.grow (putRow id (Sort.ahead w n) b 0 F) os) where
 os:=rfl
 tape:=rfl
 output:=rfl
 drawn:=Nat.le_add_right _ _
 size:=by show w.heap.size<=((w.heap.modify b _)++os).size;simp
 block:=fun c hc cg=>by show((w.heap.modify b _)++os)[c]? =_;rw[Array.getElem?_append_left (by simpa using hc),Array.getElem?_modify,if_neg (Ne.symm cg)]
 self:=fun cc e fr Qd=>by
  refine⟨putCells id 0 F cc, ?_,by simp[putCells]⟩
  show((w.heap.modify b _)++os)[b]? =_;rw[Array.getElem?_append_left (by simpa using hb),Array.getElem?_modify,if_pos rfl,Qd]
  rfl
 cells:=fun j v hj=>by
  have hjF:j<F.size:=by have:=(List.getElem?_eq_some_iff.1 hj).1;simpa using this
  have h1:=cell?_putRow id (Sort.ahead w n) b 0 F0 F (holds_ahead id w n b 0 F0 h0) hs j hjF
  have h2:(Sort.grow (putRow id (Sort.ahead w n) b 0 F) os).cell? ⟨b,0+j,none⟩=(putRow id (Sort.ahead w n) b 0 F).cell? ⟨b,0+j,none⟩:=by
   unfold World.cell?;show(match((putRow id (Sort.ahead w n) b 0 F).heap++os)[b]? with|some (.cells c _ _)=>_|_=>none)=_;rw[Array.getElem?_append_left (by simpa using hb)]
   rfl
  rw[h2,h1]
  have:F[j]! =v:=by
   rw[getElem!_pos F j hjF]
   have:=(List.getElem?_eq_some_iff.1 hj).2;simpa using this
  rw[this];rfl
theorem zK{w:World}{b:Nat}{c:Array Value}{e:TypeId}{fr:Nat×Nat}(hb:w.heap[b]? =some (.cells c e fr))(hf:nE c fr){j:Nat}(hj:j<c.size):w.frozen? ⟨b,j,none⟩=false:=by have:=(qk (w:=w) (b:=b) (off:=j) (n:=1) hb hf (by omega) 0 (by omega)).2;simpa using this
def df{β:Type} [Inhabited β](cf:β->β->Int)(l:List β):List β:=(Sort.pdq (Go.Proofs.ltOf cf) l.toArray 0 l.toArray.size (Lib.bitLen l.toArray.size) true true).toList
theorem dO{β:Type} [Inhabited β]{cf:β->β->Int}(hO:Sort.SWO (Go.Proofs.ltOf cf))(l:List β):(df cf l).Perm l/\(df cf l).Pairwise (fun x y=> ¬cf y x<0):=by
 obtain⟨⟨h1,_,h3⟩,h4⟩:=Sort.pdq_sorts (Go.Proofs.ltOf cf) hO l.toArray 0 l.toArray.size (Lib.bitLen l.toArray.size) true true (Nat.zero_le _) (Nat.le_refl _) (Or.inl rfl)
 refine⟨?_, ?_⟩
 · unfold df
   have e: ∀d:Array β,d.size=l.toArray.size->d.extract 0 l.toArray.size=d:=fun d hd=>by rw[<-hd];simp
   rw[e _ h1,e _ rfl]at h3;simpa using h3
 · unfold df
   rw[List.pairwise_iff_getElem]
   intro i j hi hj xo;have wS:j<l.toArray.size:=by rw[<-h1];simpa using hj
   have:=h4 i j (Nat.zero_le _) xo wS;have hi2:i<(Sort.pdq (Go.Proofs.ltOf cf) l.toArray 0 l.toArray.size (Lib.bitLen l.toArray.size) true true).size:=by simpa using hi
   have hj2:j<(Sort.pdq (Go.Proofs.ltOf cf) l.toArray 0 l.toArray.size (Lib.bitLen l.toArray.size) true true).size:=by simpa using hj
   rw[getElem!_pos _ i hi2,getElem!_pos _ j hj2]at this;simpa[Go.Proofs.ltOf]using this
open Go.Shelf Go.Lib Go.Sort Go.Proofs in
/-- slices.SortFunc of structs, by a function that captures nothing. -/
theorem qR{P:Program}{ρ:Ren}{β:Type} [Inhabited β](L:SlLaysF0.n6 P ρ){k:Nat}(xg:0<k)(aE: ∀w,(isAgg (ρ.t 24)).run P w= .ok true w)(zE: ∀w,(Go.sizeOf (ρ.t 24)).run P w= .ok k w)(enc:β->List A)(hk: ∀x,(enc x).length=k)(hs: ∀x,∀a∈enc x,scalar a=true)
 (cf:β->β->Int) (hO:SWO (ltOf cf)) {g:FuncId} (hg:jI P g) (hcmp: ∀x y,ay P g [.agg (enc x),.agg (enc y)] (· = .int .i64 (cf x y))) (l:List β) (lT:l.length<4611686018427387904) (c:Bool):
 dR P (ρ.f 6) [.row 0 0 k l.length c,.fn g []] [.row k (l.map fun x=> .agg (enc x))] (.cD []) [.row k ((df cf l).map fun x=> .agg (enc x))] []:=by
 have Zh:=(dO hO l).1;have Zi:(l.map fun x=>A.agg (enc x)).length=l.length:=List.length_map _;have hle: ∀x,((enc x).map iC).length=k:=fun x=>by rw[List.length_map,hk]
 have da: ∀x,∀v∈(enc x).map iC,v.oneCell'=true:=fun x v hv=>by obtain⟨a,ha,rfl⟩:=List.mem_map.1 hv;exact t_ (hs x a ha)
 have:=vK (P:=P) (f:=ρ.f 6) (g:=g) (k:=k) (c:=c) (es:=l.map fun x=>A.agg (enc x)) (z_:=(df cf l).map fun x=>A.agg (enc x)) (D:=((df cf l).map fun x=>(enc x).map iC).flatten) xg
  (fun E=>zI hk hs _) (xE (fun x=>by simp only[A.pure];exact ti (hs x)) _) (fun u hu=>by obtain⟨ys,yY,hu⟩:=List.mem_flatten.1 hu;obtain⟨x,_,rfl⟩:=List.mem_map.1 yY;exact da x u hu) (by rw[List.length_map,List.length_map];exact Zh.length_eq)
  (fun _ w q cap=>AnyF.slices_SortFunc_none L q cap _ w) ?_
 · rw[Zi]at this;exact this
 intro E b cap cc e fr cg hb Wc hE F4 rQ;rw[Zi]at rQ⊢;have hbs:b<E.w.heap.size:=(Array.getElem?_eq_some_iff.1 hb).1;have hmul:l.length*k<=cc.size:=Nat.le_trans (by rw[Nat.mul_comm];exact Nat.mul_le_mul_left _ rQ) F4
 have hH:HoldsK (fun x=>(enc x).map iC) k E.w b 0 l.toArray:=by
  intro j hj;rw[size_flatK]at hj;have wS:j<l.length*k:=by simpa using hj
  have hq:j/k<l.length:=(Nat.div_lt_iff_lt_mul xg).2 wS;have hr:j % k<k:=Nat.mod_lt _ xg;refine⟨?_,by rw[Nat.zero_add];exact zK hb Wc (by omega)⟩
  obtain⟨_,hM⟩:=dd.1 hE (j/k) (.agg (enc l[j/k])) (by simp[hq])
  have hrl:j % k<(enc l[j/k]).length:=by rw[hk];exact hr
  obtain⟨v,hv,_,cS⟩:=bg.1 hM (j % k) _ (List.getElem?_eq_getElem (by simpa[A.cells]using hrl))
  have xb:=(kj (hs _ _ (List.getElem_mem _))).1 cS;rw[show 0+j/k*k+j % k=0+j by rw[Nat.zero_add,Nat.zero_add,Nat.mul_comm];exact Nat.div_add_mod j k]at hv;rw[hv,xb,get_flatK _ _ _ _ hj]
  simp only[id]
  have e1:l.toArray[j/k]! =l[j/k]:=by rw[getElem!_pos _ _ (by simpa using hq)];simp
  rw[e1,getElem!_pos _ _ (by rw[List.length_map];exact hrl)]
  simp only[A.cells,List.getElem_map]
  rfl
 have jV:CmpLays P g #[] (fun x=>(enc x).map iC) k cf b 0 l.toArray.size E.w:=by
  intro m os dk hdk x y
  have cS:aQ ⟨fun _=>False,[],sortWorldK (fun x=>(enc x).map iC) k E.w b 0 m dk os⟩ [.agg (enc x),.agg (enc y)] [.agg ((enc x).map iC).toArray,.agg ((enc y).map iC).toArray]:=by
   simp only[aQ,aJ]
   exact⟨_,_,rfl,⟨_,rfl,lM (hs x),da x⟩,_,_,rfl,⟨_,rfl,lM (hs y),da y⟩,rfl⟩
  refine Calls.mono (hcmp x y (fun _=>False) _ _ (fun b h=>h.elim) cS) ?_;rintro e w' ⟨v,r,rfl,rfl,hr,Yj⟩
  simp only[aJ]at hr;subst hr;exact⟨rfl,IK Yj⟩
 have N8:=AnyQ.slices_SortFunc_eq L k aE zE (fun x=>(enc x).map iC) hle da cf hO g #[] b 0 cap l.toArray E.w (fun args w=>lE hg args w) jV hH hbs (by simpa using lT)
 have N9:(pdq (ltOf cf) l.toArray 0 l.toArray.size (Lib.bitLen l.toArray.size) true true).size=l.toArray.size:=(pdq_sorts (ltOf cf) hO l.toArray 0 l.toArray.size (Lib.bitLen l.toArray.size) true true (Nat.zero_le _) (Nat.le_refl _) (Or.inl rfl)).1.1;have pW:l.toArray.size=l.length:=by simp
 rw[pW]at N8;refine Calls.mono N8 ?_;rintro e w' ⟨rfl,n,os,rfl⟩
 refine⟨rfl, ?_⟩
 have va:((df cf l).map fun x=>(enc x).map iC).flatten=(flatK (fun x=>(enc x).map iC) k (pdq (ltOf cf) l.toArray 0 l.length (Lib.bitLen l.length) true true)).toList:=by
  rw[pW]at N9;have hsl2:(df cf l)=(pdq (ltOf cf) l.toArray 0 l.length (Lib.bitLen l.length) true true).toList:=by unfold df;rw[pW]
  rw[hsl2]
  generalize pdq (ltOf cf) l.toArray 0 l.length (Lib.bitLen l.length) true true=d at N9⊢;apply List.ext_getElem?;intro j;rw[zH xg (fun ys yY=>by obtain⟨x,_,rfl⟩:=List.mem_map.1 yY;exact hle x)]
  by_cases hj:j<d.size*k
  · have hq:j/k<d.size:=(Nat.div_lt_iff_lt_mul xg).2 hj
    have hr:j % k<k:=Nat.mod_lt _ xg;have e1:(flatK (fun x=>(enc x).map iC) k d).toList[j]? =some ((flatK (fun x=>(enc x).map iC) k d)[j]!):=by rw[getElem!_pos _ j (by rw[size_flatK];exact hj)];simp[hj]
    rw[e1,get_flatK _ _ _ _ hj]
    rw[getElem!_pos d _ hq]
    have MD:j/k<d.toList.length:=by simpa using hq
    simp only[List.getElem?_map,List.getElem?_eq_getElem MD,Option.map_some,Option.bind_some]
    rw[getElem!_pos _ _ (by simp only[List.length_map,hk];exact hr)]
    rw[List.getElem?_eq_getElem (by simp only[List.length_map,hk];exact hr)]
    simp
  · have hq:d.size<=j/k:=by
     rcases Nat.lt_or_ge (j/k) d.size with h|h
     · exact absurd ((Nat.div_lt_iff_lt_mul xg).1 h) hj
     · exact h
    have e1:(flatK (fun x=>(enc x).map iC) k d).toList[j]? =none:=by rw[List.getElem?_eq_none];rw[Array.length_toList,size_flatK];omega
    rw[e1]
    simp[hq]
 rw[va]
 unfold sortWorldK putRowK;exact zJ hH (by rw[size_flatK,size_flatK];rw[pW]at N9;rw[N9,pW]) hbs
open Go.Shelf Go.Lib Go.Sort Go.Proofs in
/-- slices.SortFunc of scalars. -/
theorem N_{P:Program}{ρ:Ren}{β:Type} [Inhabited β](L:SlLaysF.n6 P ρ)(L0:SlLaysF0.n6 P ρ)(enc:β->A)(hs: ∀x,scalar (enc x)=true)
 (cf:β->β->Int) (hO:SWO (ltOf cf)) {g:FuncId} (hg:jI P g) (hcmp: ∀x y,ay P g [enc x,enc y] (· = .int .i64 (cf x y))) (l:List β) (lT:l.length<4611686018427387904) (c:Bool):
 dR P (ρ.f 6) [.row 0 0 1 l.length c,.fn g []] [.row 1 (l.map enc)] (.cD []) [.row 1 ((df cf l).map enc)] []:=by
 have Zh:=(dO hO l).1;have Zi:(l.map enc).length=l.length:=List.length_map _;have hcell: ∀x,(enc x).cells=[enc x]:=fun x=>by have:=hs x;cases h:enc x<;>rw[h]at this<;>simp[scalar]at this<;>rfl
 have:=vK (P:=P) (f:=ρ.f 6) (g:=g) (k:=1) (c:=c) (es:=l.map enc) (z_:=(df cf l).map enc) (D:=(df cf l).map fun x=>iC (enc x)) (by omega)
  (fun E=>Dr hs _) (xE (fun x=>zG (hs x)) _) (fun u hu=>by obtain⟨x,_,rfl⟩:=List.mem_map.1 hu;exact t_ (hs x)) (by rw[List.length_map,List.length_map];exact Zh.length_eq)
  (fun _ w q cap=>AnyF.slices_SortFunc_none L0 q cap _ w) ?_
 · rw[Zi]at this;exact this
 intro E b cap cc e fr cg hb Wc hE F4 rQ;rw[Zi]at rQ⊢;have hbs:b<E.w.heap.size:=(Array.getElem?_eq_some_iff.1 hb).1
 have hH:Holds (fun x=>iC (enc x)) E.w b 0 l.toArray:=by
  intro j hj;have wS:j<l.length:=by simpa using hj
  refine⟨?_,by rw[Nat.zero_add];exact zK hb Wc (by omega)⟩
  obtain⟨_,hM⟩:=dd.1 hE j (enc l[j]) (by simp[wS])
  rw[hcell]at hM;obtain⟨v,hv,_,cS⟩:=MP.1 hM;have xb:=(kj (hs _)).1 cS;rw[Nat.mul_one]at hv;rw[hv,xb,getElem!_pos l.toArray j hj];simp
 have jV:CmpLays1 P g #[] (fun x=>iC (enc x)) cf b 0 l.toArray.size E.w:=by
  intro m os dk hdk x y
  have cS:aQ ⟨fun _=>False,[],sortWorld (fun x=>iC (enc x)) E.w b 0 m dk os⟩ [enc x,enc y] [iC (enc x),iC (enc y)]:=by
   simp only[aQ]
   exact⟨_,_,rfl,(kj (hs x)).2 rfl,_,_,rfl,(kj (hs y)).2 rfl,rfl⟩
  refine Calls.mono (hcmp x y (fun _=>False) _ _ (fun b h=>h.elim) cS) ?_;rintro e w' ⟨v,r,rfl,rfl,hr,Yj⟩
  simp only[aJ]at hr;subst hr;exact⟨rfl,IK Yj⟩
 have N8:=Any.slices_SortFunc_eq L (fun x=>iC (enc x)) (fun x=>t_ (hs x)) cf hO g #[] b 0 cap l.toArray E.w (fun args w=>lE hg args w) jV hH hbs (by simpa using lT)
 have N9:(pdq (ltOf cf) l.toArray 0 l.toArray.size (Lib.bitLen l.toArray.size) true true).size=l.toArray.size:=(pdq_sorts (ltOf cf) hO l.toArray 0 l.toArray.size (Lib.bitLen l.toArray.size) true true (Nat.zero_le _) (Nat.le_refl _) (Or.inl rfl)).1.1;have pW:l.toArray.size=l.length:=by simp
 rw[pW]at N8 N9;refine Calls.mono N8 ?_;rintro e w' ⟨rfl,n,os,rfl⟩
 refine⟨rfl, ?_⟩
 have hsl2:(df cf l)=(pdq (ltOf cf) l.toArray 0 l.length (Lib.bitLen l.length) true true).toList:=by unfold df;rw[pW]
 rw[hsl2]
 generalize pdq (ltOf cf) l.toArray 0 l.length (Lib.bitLen l.length) true true=d at N9⊢
 have hput: ∀(w:World) (d:Array β),putRow (fun x=>iC (enc x)) w b 0 d=putRow id w b 0 (d.map fun x=>iC (enc x)):=fun w d=>by
  unfold putRow
  congr 1
  funext c
  unfold putCells;apply Array.ext
  · simp
  · intro i h1 h2
    simp only[Array.getElem_mapIdx,Array.size_map,Nat.zero_le,true_and,Nat.zero_add,Nat.sub_zero,id]
    split
    · rename_i hi
      rw[getElem!_pos d i hi,getElem!_pos _ i (by simpa using hi)];simp
    · rfl
 have hH':Holds id E.w b 0 (l.toArray.map fun x=>iC (enc x)):=fun j hj=>by
  have wS:j<l.toArray.size:=by simpa using hj
  obtain⟨h1,h2⟩:=hH j wS;refine⟨?_,h2⟩
  rw[h1,getElem!_pos l.toArray j wS,getElem!_pos (l.toArray.map fun x=>iC (enc x)) j hj];simp
 have he:(d.toList.map fun x=>iC (enc x))=(d.map fun x=>iC (enc x)).toList:=by simp
 rw[he]
 unfold sortWorld;rw[hput]
 exact zJ hH' (by simp[N9]) hbs
end Go.bo
namespace Go.Proofs
open Go.Shelf
def YtihgnfmoafjakaaGreat.Oa:Go.Shelf.Ren:=⟨fun|6=>234|15=>203|14=>255|28=>224|29=>225|20=>262|21=>263|22=>264|23=>265|24=>266|25=>267|26=>268|27=>269|46=>271|47=>248|48=>249|49=>272|50=>273|57=>274|n=>n,fun|22=>125|24=>130|25=>227|3=>3|39=>199|0=>0|53=>46|55=>220|4=>4|46=>212|45=>211|50=>216|5=>5|9=>9|66=>234|70=>238|76=>246|77=>247|n=>n,fun|n=>n⟩
theorem YtihgnfmoafjakaaGreat.sortRun:Go.Proofs.SlLaysF0.n6 Tryz.prog YtihgnfmoafjakaaGreat.Oa:={
 mixed:=by kernel_rfl
 f6:=⟨Tryz.f234.name,by decide,Tryz.func234.trans (congrArg some (by kernel_rfl))⟩
 f14:=⟨Tryz.f255.name,by decide,Tryz.func255.trans (congrArg some (by kernel_rfl))⟩
 f15:=Tryz.func203.trans (congrArg some (by kernel_rfl))
 f20:=⟨Tryz.f262.name,by decide,Tryz.func262.trans (congrArg some (by kernel_rfl))⟩
 f21:=⟨Tryz.f263.name,by decide,Tryz.func263.trans (congrArg some (by kernel_rfl))⟩
 f22:=⟨Tryz.f264.name,by decide,Tryz.func264.trans (congrArg some (by kernel_rfl))⟩
 f23:=⟨Tryz.f265.name,by decide,Tryz.func265.trans (congrArg some (by kernel_rfl))⟩
 f24:=⟨Tryz.f266.name,by decide,Tryz.func266.trans (congrArg some (by kernel_rfl))⟩
 f25:=⟨Tryz.f267.name,by decide,Tryz.func267.trans (congrArg some (by kernel_rfl))⟩
 f26:=⟨Tryz.f268.name,by decide,Tryz.func268.trans (congrArg some (by kernel_rfl))⟩
 f27:=⟨Tryz.f269.name,by decide,Tryz.func269.trans (congrArg some (by kernel_rfl))⟩
 f28:=Tryz.func224.trans (congrArg some (by kernel_rfl))
 f29:=Tryz.func225.trans (congrArg some (by kernel_rfl))
 f46:=⟨Tryz.f271.name,by decide,Tryz.func271.trans (congrArg some (by kernel_rfl))⟩
 f47:=Tryz.func248.trans (congrArg some (by kernel_rfl))
 f48:=Tryz.func249.trans (congrArg some (by kernel_rfl))
 f49:=⟨Tryz.f272.name,by decide,Tryz.func272.trans (congrArg some (by kernel_rfl))⟩
 f50:=⟨Tryz.f273.name,by decide,Tryz.func273.trans (congrArg some (by kernel_rfl))⟩
 f57:=⟨Tryz.f274.name,by decide,Tryz.func274.trans (congrArg some (by kernel_rfl))⟩
 t0:=Tryz.underlying0
 a0:=Tryz.isAgg0
 z0:=Tryz.sizeOf0
 v0:=Tryz.zeroValue0
 t3:=Tryz.underlying3
 a3:=Tryz.isAgg3
 z3:=Tryz.sizeOf3
 v3:=Tryz.zeroValue3
 t4:=Tryz.underlying4
 a4:=Tryz.isAgg4
 z4:=Tryz.sizeOf4
 v4:=Tryz.zeroValue4
 t5:=Tryz.underlying5
 a5:=Tryz.isAgg5
 z5:=Tryz.sizeOf5
 v5:=Tryz.zeroValue5
 t9:=Tryz.underlying9
 a9:=Tryz.isAgg9
 z9:=Tryz.sizeOf9
 v9:=Tryz.zeroValue9
 t22:=Tryz.underlying125
 a22:=Tryz.isAgg125
 z22:=Tryz.sizeOf125
 v22:=Tryz.zeroValue125
 t25:=Tryz.underlying227
 a25:=Tryz.isAgg227
 z25:=Tryz.sizeOf227
 v25:=Tryz.zeroValue227
 t39:=Tryz.underlying199
 a39:=Tryz.isAgg199
 z39:=Tryz.sizeOf199
 v39:=Tryz.zeroValue199
 t45:=Tryz.underlying211
 a45:=Tryz.isAgg211
 z45:=Tryz.sizeOf211
 v45:=Tryz.zeroValue211
 t46:=Tryz.underlying212
 a46:=Tryz.isAgg212
 z46:=Tryz.sizeOf212
 v46:=Tryz.zeroValue212
 t50:=Tryz.underlying216
 a50:=Tryz.isAgg216
 z50:=Tryz.sizeOf216
 v50:=Tryz.zeroValue216
 t53:=Tryz.underlying46
 a53:=Tryz.isAgg46
 z53:=Tryz.sizeOf46
 v53:=Tryz.zeroValue46
 t55:=Tryz.underlying220
 a55:=Tryz.isAgg220
 z55:=Tryz.sizeOf220
 v55:=Tryz.zeroValue220
 t66:=Tryz.underlying234
 a66:=Tryz.isAgg234
 z66:=Tryz.sizeOf234
 v66:=Tryz.zeroValue234
 t70:=Tryz.underlying238
 a70:=Tryz.isAgg238
 z70:=Tryz.sizeOf238
 v70:=Tryz.zeroValue238
 t76:=Tryz.underlying246
 a76:=Tryz.isAgg246
 z76:=Tryz.sizeOf246
 v76:=Tryz.zeroValue246
 t77:=Tryz.underlying247
 a77:=Tryz.isAgg247
 z77:=Tryz.sizeOf247
 v77:=Tryz.zeroValue247}
end Go.Proofs
namespace Go.Proofs.YtihgnfmoafjakaaGreat
open Go.bo
set_option linter.unusedSimpArgs false
set_option linter.unusedVariables false
set_option maxRecDepth 20000
set_option maxHeartbeats 4000000
theorem xF:ah Tryz.prog Gf Tryz.f206.ntmps (Tryz.f206.body.getD .skip)=true:=by kernel_rfl
theorem zL(l:List aF)(hl:l.length<=4398046511104):dR Tryz.prog 206 [.ab (l.map aF.enc)] [] (.row 0 0 2 l.length false) [.row 2 (l.map aF.enc)] []:=by
 cases l with
 |nil=>
  refine Wb (Wa 2 ?_) ?_
  · refine cj jK mixed Tryz.func206 rfl (Nat.le_of_ble_eq_true rfl) (by simp) (by simp) (Nat.le_refl _) xF ?_
    unfold Tryz.f206;simp-implicitDefEqProofs (disch:=(first|omega|decide)) only[go_sem,↓reduceIte,seval]
  · refine cj jK mixed Tryz.func206 rfl (Nat.le_of_ble_eq_true rfl) (by simp) (by simp) (Nat.zero_le _) xF ?_
    unfold Tryz.f206;simp-implicitDefEqProofs (disch:=(first|omega|decide)) only[go_sem,↓reduceIte,seval]
 |cons r l=>
  refine cj jK mixed Tryz.func206 rfl (Nat.le_of_ble_eq_true rfl) (by simp) (by simp) (Nat.zero_le _) xF ?_;unfold Tryz.f206;obtain⟨f,t⟩:=r;simp only[List.length_cons]at hl;simp-implicitDefEqProofs (disch:=(first|omega|decide)) only[go_sem,↓reduceIte,seval,List.length_map]
  omega
theorem Ds:ah Tryz.prog Gf Tryz.f235.ntmps (Tryz.f235.body.getD .skip)=true:=by kernel_rfl
theorem c_Of1(f t f' t':Int)(h:0<=f/\f<=1099511627776/\0<=f'/\f'<=1099511627776):ay Tryz.prog 235 [.agg [.int .i64 f,.int .i64 t],.agg [.int .i64 f',.int .i64 t']] (· = .int .i64 (f-f')):=by refine aa jK mixed Tryz.func235 rfl (Nat.le_of_ble_eq_true rfl) Ds ?_;unfold Tryz.f235;simp-implicitDefEqProofs (disch:=(first|omega|decide)) only[go_sem,↓reduceIte,seval,wrap_i64]
abbrev vL:={r:aF//cF r=true}
instance:Inhabited vL:=⟨⟨⟨1,1⟩,by decide⟩⟩
def cfB(a b:vL):Int:=a.1.f-b.1.f
def vL.cells(r:vL):List A:=r.1.cells
theorem swoB:Go.Sort.SWO (Go.Proofs.ltOf cfB):=by
 have hl: ∀a b,Go.Proofs.ltOf cfB a b=decide (a.1.f<b.1.f):=fun a b=>by
  unfold Go.Proofs.ltOf cfB;by_cases h:a.1.f<b.1.f
  · have:a.1.f-b.1.f<0:=by omega
    simp[this,h]
  · have: ¬a.1.f-b.1.f<0:=by omega
    simp[this,h]
 refine⟨fun x=> ?_,fun x y z h1 h2=> ?_,fun x y z h1 h2=> ?_⟩
 · rw[hl];simp
 · rw[hl]at*
   rw[decide_eq_true_iff]at*;omega
 · rw[hl]at*
   rw[decide_eq_false_iff_not]at*;omega
theorem Dt(l:List vL)(hl:l.length<4611686018427387904):dR Tryz.prog 234 [.row 0 0 2 l.length false,.fn 235 []] [.row 2 (l.map fun x=> .agg x.cells)]
 (.cD []) [.row 2 ((df cfB l).map fun x=> .agg x.cells)] []:=
 qR Go.Proofs.YtihgnfmoafjakaaGreat.sortRun (by omega) Tryz.isAgg130 Tryz.sizeOf130 vL.cells (fun _=>rfl) (fun x a ha=>by simp only[vL.cells,aF.cells,List.mem_cons,List.not_mem_nil,or_false]at ha;rcases ha with rfl|rfl<;>rfl) cfB swoB (bB Tryz.func235 (by kernel_rfl) (by kernel_rfl)) (fun x y=>by have h1:=cG.1 x.2;have h2:=cG.1 y.2;exact c_Of1 x.1.f x.1.t y.1.f y.1.t (by omega)) l hl false
def j5(l:List aF):List vL:=(l.filter cF).attach.map fun x=>⟨x.1,(List.mem_filter.1 x.2).2⟩
theorem xG(l:List aF):(j5 l).map (·.1)=l.filter cF:=by
 unfold j5;rw[List.map_map]
 exact List.attach_map_subtype_val _
theorem Ob(l:List aF):(j5 l).map (fun x=>A.agg x.cells)=(l.filter cF).map aF.enc:=by rw[<-xG,List.map_map];rfl
def Al(l:List aF):List aF:=(df cfB (j5 l)).map (·.1)
theorem Rp(l:List aF):(df cfB (j5 l)).map (fun x=>A.agg x.cells)=(Al l).map aF.enc:=by unfold Al;rw[List.map_map];rfl
theorem xH(l:List aF):(Al l).Perm (l.filter cF):=by rw[<-xG];exact(dO swoB (j5 l)).1.map _
theorem Oc(l:List aF): ∀r∈Al l,cF r=true:=fun r hr=>by unfold Al at hr;obtain⟨x,_,rfl⟩:=List.mem_map.1 hr;exact x.2
theorem T7(l:List aF):(Al l).Pairwise (fun x y=>x.f<=y.f):=by
 unfold Al;rw[List.pairwise_map]
 exact(dO swoB (j5 l)).2.imp fun{x y} h=>by unfold cfB at h;omega
theorem Zj(l:List aF)(n:Int):ai (Al l) n=ai l n:=by rw[Y6 (xH l),Rf]
theorem Od(l:List aF):((Al l).foldl cP []).reverse=cJ (ai l):=by
 rw[Gl (Oc l) (T7 l)]
 congr 1;funext n;exact Zj l n
def srE(l:List vL):List A:=[.row 0 0 2 l.length false,.fn 235 []]
def Zk(l:List vL):List Go.bo.Obj:=[.row 2 (l.map fun x=> .agg x.cells)]
def srK(l:List vL):Prop:=l.length<4611686018427387904
def srR(l:List vL):A×List Go.bo.Obj×List Nat:=(.cD [],[.row 2 ((df cfB l).map fun x=> .agg x.cells)],[])
theorem Zl(x y:vL)(h:A.agg x.cells=A.agg y.cells):x=y:=Subtype.ext (aF.eD _ _ h)
theorem srO_inj(i j:List vL)(h:Zk i=Zk j):i=j:=by
 simp only[Zk,List.cons.injEq,Go.bo.Obj.row.injEq,true_and,and_true]at h
 rwa [map_inj Zl]at h
def Rq:an:=qG.add 179 (entry (fun(l:List aF)=>[.ab (l.map aF.enc)]) (fun l=>l.length<=4611686018427387904) (fun l=> .bool (bz l)))
theorem T13f_ok:ag Tryz.prog Rq:=oP.bN Tryz.func179 (by kernel_rfl) (by kernel_rfl) fun l h=>qH l h
@[go_sem] theorem T13f_old{g:FuncId}{xs:List A}(h:g≠179):Rq.f g xs=qG.f g xs:=an.ak h
theorem vM(l:List aF)(h:l.length<=4611686018427387904):Rq.f 179 [.ab (l.map aF.enc)]=some (.bool (bz l)):=an.ao (Γ:=qG) (fun i j h=>by simpa[Prod.ext_iff,and_assoc]using h) l h
def Kk:an:=Rq.add 206 (entry (fun(l:List aF)=>[.ab (l.map aF.enc)]) (fun l=>l.length<=4398046511104) (fun l=> .ab (l.map aF.enc)))
theorem T8:ag Tryz.prog Kk:=T13f_ok.bN Tryz.func206 (by kernel_rfl) (by kernel_rfl) fun l h=>NP l h
@[go_sem] theorem T13g_old{g:FuncId}{xs:List A}(h:g≠206):Kk.f g xs=Rq.f g xs:=an.ak h
theorem eh(l:List aF)(h:l.length<=4398046511104):Kk.f 206 [.ab (l.map aF.enc)]=some (.ab (l.map aF.enc)):=an.ao (Γ:=Rq) (fun i j h=>by simpa[Prod.ext_iff,and_assoc]using h) l h
@[go_sem] theorem Zm{l:List aF}(h:l.length<=4611686018427387904):Rq.f 179 [.ab (l.map aF.enc)]=some (.bool (bz l)):=vM l h
@[go_sem] theorem t_Clone_Run{l:List aF}(h:l.length<=4398046511104):Kk.f 206 [.ab (l.map aF.enc)]=some (.ab (l.map aF.enc)):=eh l h
def Zn:an:=Kk.fj 234 (bC srE Zk srK srR)
def Kl:an:={Zn with mH:=fun f=>f==234}
theorem Oe:ag Tryz.prog Zn:=T8.fj (bB Tryz.func234 (by kernel_rfl) (by kernel_rfl)) (cX fun l h=>Dt l h)
theorem C13S_ok:ag Tryz.prog Kl:=⟨Oe.f,Oe.hp⟩
@[go_sem] theorem C13S_f:Kl.f=Kk.f:=rfl
@[go_sem] theorem C13S_eff{g:FuncId}:Kl.mH g=(g==234):=rfl
@[go_sem] theorem C13S_frz{g:FuncId}:Kl.pZ g=false:=rfl
@[go_sem] theorem C13S_fix{n:Nat}:Kl.fix n=false:=rfl
@[go_sem] theorem C13S_ords{n:Nat}:Kl.c6 n=[]:=rfl
theorem Wd{l:List aF}{n:Nat}(hn:n=(l.filter cF).length)(h:l.length<4611686018427387904):Kl.hp 234 [.row 0 0 2 n false,.fn 235 []] [.row 2 ((l.filter cF).map aF.enc)]=some (.cD [],[.row 2 ((Al l).map aF.enc)],[]):=by
 subst hn;have hlen:(j5 l).length=(l.filter cF).length:=by rw[<-xG];simp
 have h0:Zn.hp 234 (srE (j5 l)) (Zk (j5 l))=bC srE Zk srK srR (srE (j5 l)) (Zk (j5 l)):=an.eC;have h1:Kl.hp 234 (srE (j5 l)) (Zk (j5 l))=bC srE Zk srK srR (srE (j5 l)) (Zk (j5 l)):=h0;have h2:=h1.trans (cY (fun i j _ h=>srO_inj i j h) (j5 l) (show(j5 l).length<4611686018427387904 by rw[hlen];exact Nat.lt_of_le_of_lt (List.length_filter_le _ _) h))
 simp only[srE,Zk,srR,hlen,Ob,Rp]at h2;exact h2
def nr(acc:List aF):List A:=acc.reverse.map aF.enc
theorem su(q:aF)(qs:List aF):nr (q::qs)=nr qs++[.agg [.int .i64 q.f,.int .i64 q.t]]:=by simp[nr,aF.enc,aF.cells]
theorem vN(l:List aF):(nr l).length=l.length:=by simp[nr]
theorem Zo:nr []=[]:=rfl
theorem We(l:List aF)(k:Nat)(h:k<l.length):(l.take (k+1)).foldl cP []=cP ((l.take k).foldl cP []) l[k]:=by rw[<-List.take_append_getElem h,List.foldl_append];rfl
theorem Du: ∀(l:List aF) (a:List aF),(l.foldl cP a).length<=a.length+l.length
 | [],a=>by simp
 |r::l,a=>by
  have h1:=Du l (cP a r)
  have h2:=IC a r;simp only[List.foldl_cons,List.length_cons];omega
theorem Km:ah Tryz.prog Kl Tryz.f205.ntmps (Tryz.f205.body.getD .skip)=true:=by kernel_rfl
theorem zM(l:List aF)(hl:l.length<=4398046511104):ay Tryz.prog 205 [.ab (l.map aF.enc)] (· = .ab ((cJ (ai l)).map aF.enc)):=by
 refine aa C13S_ok mixed Tryz.func205 rfl (Nat.le_of_ble_eq_true rfl) Km ?_;unfold Tryz.f205;cases hr:bz l with
 |true=>
  have e:=so hr (fun _=>rfl)
  simp-implicitDefEqProofs (disch:=(first|omega|decide)) only[go_sem,↓reduceIte,seval,hr,List.length_map]
  rw[<-e]
 |false=>
  simp-implicitDefEqProofs (disch:=(first|omega|decide)) only[go_sem,↓reduceIte,seval,hr,List.length_map]
  refine aW 3 2 rfl ?_;refine ar [2,14,15] (ι:={k:Nat//k<=l.length}) (fun p=>[(16,.int .i64 p.1),(3,.row 0 0 2 ((l.take p.1).filter cF).length false)]) (fun p=>[(0,.row 2 (((l.take p.1).filter cF).map aF.enc))]) (fun p=>l.length-p.1) ⟨0,by omega⟩ (Nat.zero_le _) ?_ ?_
  · simp-implicitDefEqProofs (disch:=(first|omega|decide)) only[go_sem,↓reduceIte,seval]
    simp
  · rintro⟨k,hk⟩
    simp only;have hf:((l.take k).filter cF).length<=k:=Nat.le_trans (List.length_filter_le _ _) (by rw[List.length_take];omega)
    by_cases aw:k<l.length
    · have ae:(k:Int)<(l.length:Int):=by omega
      have ht:l.take (k+1)=l.take k++[l[k]]:=(List.take_append_getElem aw).symm;have e1:=run_get aw;generalize hx:l[k]=x at*;obtain⟨f,t⟩:=x;cases h1:cF ⟨f,t⟩with
      |true=>
       simp-implicitDefEqProofs (disch:=(first|omega|decide)) only[go_sem,↓reduceIte,seval,ae,e1,h1,wrap_i64,List.length_map]
       refine⟨⟨Nat.le_refl _,by omega⟩,⟨k+1,aw⟩,⟨⟨by simp, ?_⟩, ?_⟩,by show l.length-(k+1)<l.length-k;omega⟩
       · rw[ht,List.filter_append];simp[h1]
       · rw[ht,List.filter_append,List.take_of_length_le (by simp)];simp[h1,aF.enc,aF.cells]
      |false=>
       simp-implicitDefEqProofs (disch:=(first|omega|decide)) only[go_sem,↓reduceIte,seval,ae,e1,h1,wrap_i64,List.length_map]
       refine⟨⟨k+1,aw⟩,⟨⟨by simp, ?_⟩, ?_⟩,by show l.length-(k+1)<l.length-k;omega⟩
       · rw[ht,List.filter_append];simp[h1]
       · rw[ht,List.filter_append];simp[h1]
    · have ae: ¬(k:Int)<(l.length:Int):=by omega
      rw[List.take_of_length_le (by omega)]at*;have hs:=Wd (l:=l) rfl (by omega)
      have hp:=(xH l).length_eq;have iO:=Od l;have da:=Oc l;have V9:=T7 l;rw[<-hp]at hf;simp-implicitDefEqProofs (disch:=(first|omega|decide)) only[go_sem,↓reduceIte,seval,ae,hs,List.length_map,List.contains_nil,List.contains_cons]
      rw[<-hp]
      generalize Al l=s at*;refine aW 6 2 rfl ?_;refine ar [2,29,30] (ι:={j:Nat//j<=s.length}) (fun p=>[(31,.int .i64 p.1),(6,.row 1 0 2 ((s.take p.1).foldl cP []).length false)]) (fun p=>[(1,.row 2 (nr ((s.take p.1).foldl cP [])))]) (fun p=>s.length-p.1) ⟨0,by omega⟩ (Nat.zero_le _) ?_ ?_
      · simp-implicitDefEqProofs (disch:=(first|omega|decide)) only[go_sem,↓reduceIte,seval]
        simp[nr]
      · rintro⟨j,hj⟩
        simp only;have rX:=Du (s.take j) []
        rw[List.length_take,List.length_nil,Nat.min_eq_left hj,Nat.zero_add]at rX;by_cases Kn:j<s.length
        · have mX:(j:Int)<(s.length:Int):=by omega
          have e2:=run_get Kn;have b9:=We s j Kn;have ho:=da _ (List.getElem_mem Kn)
          have hR:RR ((s.take j).foldl cP []):=(fold_push (a:=[]) trivial (fun r hr=>da r (List.mem_of_mem_take hr)) (V9.sublist (List.take_sublist _ _)) (fun _ _=>trivial)).1;have fin: ∀m',(s.take (j+1)).foldl cP []=m'-> ∃i:{j:Nat//j<=s.length},(((j:Int)+1=(i.1:Int)/\m'.length=((s.take i.1).foldl cP []).length)/\nr m'=nr ((s.take i.1).foldl cP []))/\s.length-i.1<s.length-j:=fun m' jz=>⟨⟨j+1,Kn⟩,⟨⟨by simp,by rw[jz]⟩,by rw[jz]⟩,by show s.length-(j+1)<s.length-j;omega⟩
          generalize hx:s[j]=x at*;generalize(s.take j).foldl cP []=m at*;obtain⟨f,t⟩:=x;obtain⟨o1,o2,o3⟩:=ju ho;simp only at o1 o2 o3;have mj:=fin _ b9;cases m with
          |nil=>
           rw[Zo]
           simp-implicitDefEqProofs (disch:=(first|omega|decide)) only[go_sem,↓reduceIte,seval,mX,e2,wrap_i64,List.length_map]
           exact mj
          |cons q qs=>
           obtain⟨p1,p2,p3⟩:=ju (fc hR)
           rw[su]at*;have hlq:qs.length+1<=j:=rX;have c0:(0:Int)<((qs.length+1:Nat):Int):=by omega
           have c1:(((qs.length+1:Nat):Int)-1).toNat=qs.length:=by omega
           have c2:(0:Int)<=((qs.length+1:Nat):Int)-1:=by omega
           have c3:((qs.length+1:Nat):Int)-1<((qs.length+1:Nat):Int):=by omega
           have g1:(nr qs++[A.agg [.int .i64 q.f,.int .i64 q.t]])[qs.length]? =some (.agg [.int .i64 q.f,.int .i64 q.t]):=by
            have:=ij (x:=A.agg [.int .i64 q.f,.int .i64 q.t]) (l:=nr qs)
            rwa [vN]at this
           have g2: ∀v,cC (nr qs++[A.agg [.int .i64 q.f,.int .i64 q.t]]) qs.length v=nr qs++[v]:=fun v=>by
            have:=ik (x:=A.agg [.int .i64 q.f,.int .i64 q.t]) (v:=v) (l:=nr qs)
            rwa [vN]at this
           have gl:(nr qs++[A.agg [.int .i64 q.f,.int .i64 q.t]]).length=qs.length+1:=by rw[List.length_append,vN];rfl
           have gt:(nr qs++[A.agg [.int .i64 q.f,.int .i64 q.t]]).take (qs.length+1)=nr qs++[A.agg [.int .i64 q.f,.int .i64 q.t]]:=List.take_of_length_le (Nat.le_of_eq gl)
           by_cases hq:f-q.t<2
           · have Ki:cP (q::qs) ⟨f,t⟩=⟨q.f,if t>q.t then t else q.t⟩::qs:=by
               simp only[cP]
               rw[if_pos (by omega)]
             rw[Ki,su]at mj;simp-implicitDefEqProofs (disch:=(first|omega|decide)) only[go_sem,↓reduceIte,seval,mX,e2,c0,c1,c2,c3,g1,g2,hq,wrap_i64,List.length_map]
             exact mj
           · have Ki:cP (q::qs) ⟨f,t⟩=⟨f,t⟩::q::qs:=by
               simp only[cP]
               rw[if_neg (by omega)]
             rw[Ki,su,su]at mj;simp-implicitDefEqProofs (disch:=(first|omega|decide)) only[go_sem,↓reduceIte,seval,mX,e2,c0,c1,c2,c3,g1,g2,gl,gt,hq,wrap_i64,List.length_map]
             exact⟨⟨Nat.le_refl _,by omega⟩,mj⟩
        · have mX: ¬(j:Int)<(s.length:Int):=by omega
          rw[List.take_of_length_le (by omega)]at*;have iB:nr (s.foldl cP [])=(cJ (ai l)).map aF.enc:=by unfold nr;rw[iO]
          have Rn:(s.foldl cP []).length=(nr (s.foldl cP [])).length:=by rw[vN]
          simp-implicitDefEqProofs (disch:=(first|omega|decide)) only[go_sem,↓reduceIte,seval,mX,wrap_i64,Rn,List.length_map,List.take_length]
          rw[iB]
          exact⟨Nat.le_refl _,rfl⟩
end Go.Proofs.YtihgnfmoafjakaaGreat
namespace Go.Proofs.YtihgnfmoafjakaaGreat
open Go.bo
set_option linter.unusedSimpArgs false
set_option linter.unusedVariables false
set_option linter.unusedSectionVars false
set_option maxRecDepth 20000
set_option maxHeartbeats 8000000
section
variable{D:List aF}{p e:Int}
end
section
variable{kp:Bool->Bool->Bool}{a b:List aF}(hra:bz a=true)(hrb:bz b=true)
include hra hrb
end
end Go.Proofs.YtihgnfmoafjakaaGreat
namespace Go.Proofs.YtihgnfmoafjakaaGreat
open Go.bo
set_option linter.unusedSimpArgs false
set_option linter.unusedVariables false
set_option maxRecDepth 20000
set_option maxHeartbeats 8000000
theorem of_len{l:List aF}(h:bz l=true):l.length<=1099511627776:=by
 have key: ∀m:List aF,RR m->match m with| []=>True|r::l=>((r::l).length:Int)<=r.t:=by
  intro m;induction m with
  |nil=>intro _;trivial
  |cons r l ih=>
   intro h;have o:=cG.1 (fc h)
   have ih:=ih (vD h)
   cases l with
   |nil=>show((1:Nat):Int)<=r.t;omega
   |cons q l=>
    have h2:=h.2.1;have ih':((q::l).length:Int)<=q.t:=ih;show(((q::l).length+1:Nat):Int)<=r.t;omega
 have h1:=key l.reverse (lY.1 h)
 cases hm:l.reverse with
 |nil=>
  have:l=[]:=by simpa using hm
  subst this;simp
 |cons r m=>
  rw[hm]at h1;have o:=cG.1 (fc (by rw[<-hm];exact lY.1 h))
  have hl:l.length=(r::m).length:=by rw[<-hm];simp
  have nj:((r::m).length:Int)<=r.t:=h1;omega
def Rr:an:=Kk.add 205 (entry (fun(l:List aF)=>[.ab (l.map aF.enc)]) (fun l=>l.length<=4398046511104) (fun l=> .ab ((cJ (ai l)).map aF.enc)))
theorem T9:ag Tryz.prog Rr:=T8.bN Tryz.func205 (by kernel_rfl) (by kernel_rfl) fun l h=>zM l h
@[go_sem] theorem T13u_s:Rr.pl Kk:=⟨fun _=>rfl,fun _=>rfl,rfl,fun _=>rfl,rfl,fun _=>rfl,rfl⟩
theorem Dv(l:List aF)(h:l.length<=4398046511104):Rr.f 205 [.ab (l.map aF.enc)]=some (.ab ((cJ (ai l)).map aF.enc)):=an.ao (Γ:=Kk) (fun i j h=>by simpa[Prod.ext_iff,and_assoc]using h) l h
@[go_sem] theorem Of{l:List aF}(h:l.length<=4398046511104):Rr.f 205 [.ab (l.map aF.enc)]=some (.ab ((cJ (ai l)).map aF.enc)):=Dv l h
def eV(l:List aF):Int:=match l.getLast? with|none=>0|some r=>r.t
theorem Dw:ah Tryz.prog Rr Tryz.f181.ntmps (Tryz.f181.body.getD .skip)=true:=by kernel_rfl
theorem Gq(l:List aF)(hl:l.length<=4398046511104):ay Tryz.prog 181 [.ab (l.map aF.enc)] (· = .int .i64 (eV (cJ (ai l)))):=by
 refine aa T9 mixed Tryz.func181 rfl (Nat.le_of_ble_eq_true rfl) Dw ?_;unfold Tryz.f181;have hu:= @Of l hl;have hn:(cJ (ai l)).length<=1099511627776:=TY (ig (ai l))
 generalize cJ (ai l)=s at*;rcases List.eq_nil_or_concat s with rfl|⟨rs,r,rfl⟩
 · simp-implicitDefEqProofs (disch:=(first|omega|decide)) only[go_sem,↓reduceIte,seval,hu,eV,List.length_map,List.getLast?_nil]
 · rw[List.concat_eq_append]at*
   obtain⟨f,t⟩:=r;have hm:(rs++[(⟨f,t⟩:aF)]).map aF.enc=rs.map aF.enc++[.agg [.int .i64 f,.int .i64 t]]:=by simp[aF.enc,aF.cells]
   have Zi:(rs.map aF.enc++[A.agg [.int .i64 f,.int .i64 t]]).length=rs.length+1:=by simp
   have hv:eV (rs++[⟨f,t⟩])=t:=by simp[eV]
   rw[hm]at hu;rw[hv]
   have c0:(0:Int)<((rs.length+1:Nat):Int):=by omega
   have c1:(((rs.length+1:Nat):Int)-1).toNat=rs.length:=by omega
   have c2:(0:Int)<=((rs.length+1:Nat):Int)-1:=by omega
   have g1:(rs.map aF.enc++[A.agg [.int .i64 f,.int .i64 t]])[rs.length]? =some (.agg [.int .i64 f,.int .i64 t]):=by
    have:=ij (x:=A.agg [.int .i64 f,.int .i64 t]) (l:=rs.map aF.enc)
    rwa [List.length_map]at this
   simp only[List.length_append,List.length_singleton]at hn;simp-implicitDefEqProofs (disch:=(first|omega|decide)) only[go_sem,↓reduceIte,seval,hu,Zi,c0,c1,c2,g1,wrap_i64,List.length_map]
def bu(p:Int->Bool):Nat->Int
 |0=>0
 |N+1=>bu p N+if p ((N:Int)+1)then 1 else 0
theorem Wf{s:List aF}(h:bz s=true):0<=eV s/\eV s<=1099511627776/\(0<eV s->ai s (eV s)=true)/\ ∀n,ai s n=true->n<=eV s:=by
 rcases List.eq_nil_or_concat s with rfl|⟨rs,r,rfl⟩
 · exact⟨Int.le_refl _,by simp[eV],fun h=>by simp[eV]at h,fun n h=>by simp[sm]at h⟩
 · rw[List.concat_eq_append]at*
   have hv:eV (rs++[r])=r.t:=by simp[eV]
   have h1:=lY.1 h;rw[List.reverse_append]at h1;have nj:RR (r::rs.reverse):=h1;have o:=cG.1 (fc nj)
   rw[hv]
   refine⟨by omega,o.2.2,fun _=> ?_,fun n hn=> ?_⟩
   · rw[fL,qJ,fc nj,Bool.true_and]
     have:Qf r r.t=true:=by simp[Qf];omega
     rw[this];simp
   · refine Rg nj n ?_
     rw[<-sn]at hn;rw[List.reverse_append]at hn;exact hn
def Wg:an:=Kf.add 201 (entry (fun(v:Int×List aF×List aF)=>[.int .i64 v.1,.ab (v.2.1.map aF.enc),.ab (v.2.2.map aF.enc)]) (fun v=>Kg v.1/\v.2.1.length<=50000/\v.2.2.length<=50000) (fun v=> .ab ((cJ (jA v.1 v.2.1 v.2.2)).map aF.enc)))
theorem T13m_ok:ag Tryz.prog Wg:=T5.bN Tryz.func201 (by kernel_rfl) (by kernel_rfl) fun v h=>Kh v.1 v.2.1 v.2.2 h.1 h.2.1 h.2.2
@[go_sem] theorem T13m_old{g:FuncId}{xs:List A}(h:g≠201):Wg.f g xs=Kf.f g xs:=an.ak h
theorem Am(v:Int×List aF×List aF)(h:Kg v.1/\v.2.1.length<=50000/\v.2.2.length<=50000):Wg.f 201 [.int .i64 v.1,.ab (v.2.1.map aF.enc),.ab (v.2.2.map aF.enc)]=some (.ab ((cJ (jA v.1 v.2.1 v.2.2)).map aF.enc)):=an.ao (Γ:=Kf) (fun i j h=>by simpa[Prod.ext_iff,and_assoc]using h) v h
theorem op2(a b:List aF):jA 2 a b=fun n=>ai a n&&ai b n:=rfl
def Zp:an:=Rr.fj 206 (bC (fun l:List aF=>[.ab (l.map aF.enc)]) (fun _=>[]) (fun l=>l.length<=4398046511104) (fun l=>(.row 0 0 2 l.length false,[.row 2 (l.map aF.enc)],[])))
def Og:an:={Zp with mH:=fun f=>f==205||f==206,pZ:=fun f=>f==205}
theorem Oh:ag Tryz.prog Zp:=T9.fj (bB Tryz.func206 (by kernel_rfl) (by kernel_rfl)) (cX fun l h=>zL l h)
theorem C13A_ok:ag Tryz.prog Og:=⟨Oh.f,Oh.hp⟩
@[go_sem] theorem C13A_f:Og.f=Rr.f:=rfl
@[go_sem] theorem C13A_eff{g:FuncId}:Og.mH g=(g==205||g==206):=rfl
@[go_sem] theorem C13A_frz{g:FuncId}:Og.pZ g=(g==205):=rfl
@[go_sem] theorem C13A_fix{n:Nat}:Og.fix n=false:=rfl
@[go_sem] theorem C13A_ords{n:Nat}:Og.c6 n=[]:=rfl
theorem Rs{l:List aF}(h:l.length<=4398046511104):Og.hp 206 [.ab (l.map aF.enc)] []=some (.row 0 0 2 l.length false,[.row 2 (l.map aF.enc)],[]):=by have h0:Zp.hp 206 [.ab (l.map aF.enc)] []=bC (fun l:List aF=>[A.ab (l.map aF.enc)]) (fun _=>[]) (fun l=>l.length<=4398046511104) (fun l=>(.row 0 0 2 l.length false,[.row 2 (l.map aF.enc)],[])) [.ab (l.map aF.enc)] []:=an.eC;exact h0.trans (cY (enc:=fun l:List aF=>[A.ab (l.map aF.enc)]) (FO:=fun _=>[]) (fun i j h _=>by simpa using h) l h)
def mK(m:List Int):List aF:=m.map fun n=>⟨n,n⟩
theorem Gr:ah Tryz.prog Og Tryz.f189.ntmps (Tryz.f189.body.getD .skip)=true:=by kernel_rfl
theorem Ko(l:List aF)(m:List Int)(hl:l.length<=1000000)(hm:m.length<=1000000):ay Tryz.prog 189 [.ab (l.map aF.enc),.ab (m.map (A.int .i64))] (· = .ab ((cJ (ai (l++mK m))).map aF.enc)):=by
 refine aa C13A_ok mixed Tryz.func189 rfl (Nat.le_of_ble_eq_true rfl) Gr ?_;unfold Tryz.f189;have h0:=Rs (l:=l) (by omega)
 simp-implicitDefEqProofs (disch:=(first|omega|decide)) only[go_sem,↓reduceIte,seval,h0,List.length_map,List.contains_nil,List.contains_cons]
 refine ar [4,10,11] (ι:={k:Nat//k<=m.length}) (fun p=>[(12,.int .i64 p.1),(5,.row 0 0 2 (l.length+p.1) false)]) (fun p=>[(0,.row 2 ((l++mK (m.take p.1)).map aF.enc))]) (fun p=>m.length-p.1) ⟨0,by omega⟩ (Nat.zero_le _) ?_ ?_
 · simp-implicitDefEqProofs (disch:=(first|omega|decide)) only[go_sem,↓reduceIte,seval]
   simp[mK]
 · rintro⟨k,hk⟩
   simp only;have hlen:(l++mK (m.take k)).length=l.length+k:=by simp[mK];omega
   by_cases aw:k<m.length
   · have ae:(k:Int)<(m.length:Int):=by omega
     have e1:(m.map (A.int .i64))[k]? =some (.int .i64 m[k]):=by rw[List.getElem?_map,List.getElem?_eq_getElem aw];rfl
     have ht:m.take (k+1)=m.take k++[m[k]]:=(List.take_append_getElem aw).symm;have hh:l++mK (m.take (k+1))=(l++mK (m.take k))++[⟨m[k],m[k]⟩]:=by rw[ht];unfold mK;rw[List.map_append,<-List.append_assoc];rfl
     have tl:((l++mK (m.take k)).map aF.enc).take (l.length+k)=(l++mK (m.take k)).map aF.enc:=List.take_of_length_le (Nat.le_of_eq (by rw[List.length_map,hlen]))
     simp-implicitDefEqProofs (disch:=(first|omega|decide)) only[go_sem,↓reduceIte,seval,ae,e1,tl,hlen,wrap_i64,List.length_map]
     exact⟨⟨Nat.le_refl _,by omega⟩,⟨k+1,aw⟩,⟨⟨by simp,by show l.length+k+1=l.length+(k+1);omega⟩,by rw[hh,List.map_append (l₁:=l++mK (m.take k))];rfl⟩,by show m.length-(k+1)<m.length-k;omega⟩
   · have ae: ¬(k:Int)<(m.length:Int):=by omega
     have tl:((l++mK (m.take k)).map aF.enc).take (l.length+k)=(l++mK (m.take k)).map aF.enc:=List.take_of_length_le (Nat.le_of_eq (by rw[List.length_map,hlen]))
     rw[List.take_of_length_le (show m.length<=k by omega)]at*;simp-implicitDefEqProofs (disch:=(first|omega|decide)) only[go_sem,↓reduceIte,seval,ae,tl,hlen,List.length_map,List.contains_nil,List.contains_cons]
     exact Nat.le_refl _
def Dx:an:=Wg.add 179 (entry (fun(l:List aF)=>[.ab (l.map aF.enc)]) (fun l=>l.length<=4398046511104) (fun l=> .bool (bz l)))
theorem Zq:ag Tryz.prog Dx:=T13m_ok.bN Tryz.func179 (by kernel_rfl) (by kernel_rfl) fun l h=>qH l (by omega)
@[go_sem] theorem C13L0_old{g:FuncId}{xs:List A}(h:g≠179):Dx.f g xs=Wg.f g xs:=an.ak h
theorem ua(l:List aF)(h:l.length<=4398046511104):Dx.f 179 [.ab (l.map aF.enc)]=some (.bool (bz l)):=an.ao (Γ:=Wg) (fun i j h=>by simpa[Prod.ext_iff,and_assoc]using h) l h
@[go_sem] theorem Zr{l:List aF}(h:l.length<=4398046511104):Dx.f 179 [.ab (l.map aF.enc)]=some (.bool (bz l)):=ua l h
def Dy:an:=Dx.add 169 (entry (fun(l:List aF)=>[.ab (l.map aF.enc)]) (fun l=>l.length<=4398046511104) (fun l=> .bool (bz l)))
theorem Zs:ag Tryz.prog Dy:=Zq.bN Tryz.func169 (by kernel_rfl) (by kernel_rfl) fun l h=>Gk l (by omega)
@[go_sem] theorem C13L1_old{g:FuncId}{xs:List A}(h:g≠169):Dy.f g xs=Dx.f g xs:=an.ak h
theorem vO(l:List aF)(h:l.length<=4398046511104):Dy.f 169 [.ab (l.map aF.enc)]=some (.bool (bz l)):=an.ao (Γ:=Dx) (fun i j h=>by simpa[Prod.ext_iff,and_assoc]using h) l h
@[go_sem] theorem l_ref13_Right{l:List aF}(h:l.length<=4398046511104):Dy.f 169 [.ab (l.map aF.enc)]=some (.bool (bz l)):=vO l h
def Dz:an:=Dy.add 165 (entry (fun(v:List aF×Int)=>[.ab (v.1.map aF.enc),.int .i64 v.2]) (fun v=>v.1.length<=4398046511104) (fun v=> .bool (ai v.1 v.2)))
theorem Zt:ag Tryz.prog Dz:=Zs.bN Tryz.func165 (by kernel_rfl) (by kernel_rfl) fun v h=>J5 v.1 v.2 (by omega)
@[go_sem] theorem C13L2_old{g:FuncId}{xs:List A}(h:g≠165):Dz.f g xs=Dy.f g xs:=an.ak h
theorem xI(v:List aF×Int)(h:v.1.length<=4398046511104):Dz.f 165 [.ab (v.1.map aF.enc),.int .i64 v.2]=some (.bool (ai v.1 v.2)):=an.ao (Γ:=Dy) (fun i j h=>by simpa[Prod.ext_iff,and_assoc]using h) v h
@[go_sem] theorem l_counts_Has{a:List aF}{b:Int}(h:a.length<=4398046511104):Dz.f 165 [.ab (a.map aF.enc),.int .i64 b]=some (.bool (ai a b)):=xI (a,b) h
def DA:an:=Dz.add 140 (entry (fun(v:List aF×List aF)=>[.ab (v.1.map aF.enc),.ab (v.2.map aF.enc)]) (fun v=>v.1.length<=4398046511104/\v.2.length<=4398046511104) (fun v=> .bool (fV v.1 v.2)))
theorem Zu:ag Tryz.prog DA:=Zt.bN Tryz.func140 (by kernel_rfl) (by kernel_rfl) fun v h=>J6 v.1 v.2 (by omega) (by omega)
@[go_sem] theorem C13L3_old{g:FuncId}{xs:List A}(h:g≠140):DA.f g xs=Dz.f g xs:=an.ak h
theorem xJ(v:List aF×List aF)(h:v.1.length<=4398046511104/\v.2.length<=4398046511104):DA.f 140 [.ab (v.1.map aF.enc),.ab (v.2.map aF.enc)]=some (.bool (fV v.1 v.2)):=an.ao (Γ:=Dz) (fun i j h=>by simpa[Prod.ext_iff,and_assoc]using h) v h
@[go_sem] theorem l_ref13_Same{a:List aF}{b:List aF}(h:a.length<=4398046511104/\b.length<=4398046511104):DA.f 140 [.ab (a.map aF.enc),.ab (b.map aF.enc)]=some (.bool (fV a b)):=xJ (a,b) h
def IL:an:=DA.add 205 (entry (fun(l:List aF)=>[.ab (l.map aF.enc)]) (fun l=>l.length<=4398046511104) (fun l=> .ab ((cJ (ai l)).map aF.enc)))
theorem Zv:ag Tryz.prog IL:=Zu.bN Tryz.func205 (by kernel_rfl) (by kernel_rfl) fun l h=>zM l h
@[go_sem] theorem C13L4_old{g:FuncId}{xs:List A}(h:g≠205):IL.f g xs=DA.f g xs:=an.ak h
theorem An(l:List aF)(h:l.length<=4398046511104):IL.f 205 [.ab (l.map aF.enc)]=some (.ab ((cJ (ai l)).map aF.enc)):=an.ao (Γ:=DA) (fun i j h=>by simpa[Prod.ext_iff,and_assoc]using h) l h
@[go_sem] theorem l_counts_Of{l:List aF}(h:l.length<=4398046511104):IL.f 205 [.ab (l.map aF.enc)]=some (.ab ((cJ (ai l)).map aF.enc)):=An l h
def Oi:an:=IL
theorem Zw:ag Tryz.prog Oi:=Zv
@[go_sem] theorem C13L5_old{g:FuncId}{xs:List A}:Oi.f g xs=IL.f g xs:=rfl
def IM:an:=Oi.add 189 (entry (fun(v:List aF×List Int)=>[.ab (v.1.map aF.enc),.ab (v.2.map (A.int .i64))]) (fun v=>v.1.length<=1000000/\v.2.length<=1000000) (fun v=> .ab ((cJ (ai (v.1++mK v.2))).map aF.enc)))
theorem Zx:ag Tryz.prog IM:=Zw.bN Tryz.func189 (by kernel_rfl) (by kernel_rfl) fun v h=>Ko v.1 v.2 h.1 h.2
@[go_sem] theorem C13L6_old{g:FuncId}{xs:List A}(h:g≠189):IM.f g xs=Oi.f g xs:=an.ak h
theorem xK(v:List aF×List Int)(h:v.1.length<=1000000/\v.2.length<=1000000):IM.f 189 [.ab (v.1.map aF.enc),.ab (v.2.map (A.int .i64))]=some (.ab ((cJ (ai (v.1++mK v.2))).map aF.enc)):=an.ao (Γ:=Oi) (fun i j h=>by simpa[Prod.ext_iff,and_assoc]using h) v h
@[go_sem] theorem Kp{a:List aF}{b:List Int}(h:a.length<=1000000/\b.length<=1000000):IM.f 189 [.ab (a.map aF.enc),.ab (b.map (A.int .i64))]=some (.ab ((cJ (ai (a++mK b))).map aF.enc)):=xK (a,b) h
def T_:an:=IM
theorem Zy:ag Tryz.prog T_:=Zx
@[go_sem] theorem C13L7_old{g:FuncId}{xs:List A}:T_.f g xs=IM.f g xs:=rfl
def Ua:an:=T_
theorem Zz:ag Tryz.prog Ua:=Zy
@[go_sem] theorem C13L8_old{g:FuncId}{xs:List A}:Ua.f g xs=T_.f g xs:=rfl
def Ub:an:=Ua
theorem ZA:ag Tryz.prog Ub:=Zz
@[go_sem] theorem C13L9_old{g:FuncId}{xs:List A}:Ub.f g xs=Ua.f g xs:=rfl
def DB:an:=Ub
theorem Wh:ag Tryz.prog DB:=ZA
@[go_sem] theorem C13L10_old{g:FuncId}{xs:List A}:DB.f g xs=Ub.f g xs:=rfl
def ub:an:=DB.add 181 (entry (fun(l:List aF)=>[.ab (l.map aF.enc)]) (fun l=>l.length<=4398046511104) (fun l=> .int .i64 (eV (cJ (ai l)))))
theorem Wi:ag Tryz.prog ub:=Wh.bN Tryz.func181 (by kernel_rfl) (by kernel_rfl) fun l h=>Gq l h
@[go_sem] theorem C13L11_old{g:FuncId}{xs:List A}(h:g≠181):ub.f g xs=DB.f g xs:=an.ak h
theorem uc(l:List aF)(h:l.length<=4398046511104):ub.f 181 [.ab (l.map aF.enc)]=some (.int .i64 (eV (cJ (ai l)))):=an.ao (Γ:=DB) (fun i j h=>by simpa[Prod.ext_iff,and_assoc]using h) l h
@[go_sem] theorem l_counts_Most{l:List aF}(h:l.length<=4398046511104):ub.f 181 [.ab (l.map aF.enc)]=some (.int .i64 (eV (cJ (ai l)))):=uc l h
def ud:an:=ub
theorem IN:ag Tryz.prog ud:=Wi
@[go_sem] theorem C13L12_old{g:FuncId}{xs:List A}:ud.f g xs=ub.f g xs:=rfl
@[go_sem] theorem C13L12_s:ud.pl ub:=⟨fun _=>rfl,fun _=>rfl,rfl,fun _=>rfl,rfl,fun _=>rfl,rfl⟩
theorem ZB{x:List A}(h:cI [.int .i64,.int .i64] x): ∃f t:Int,x=[.int .i64 f,.int .i64 t]:=by simp only[cI,fits]at h;obtain⟨y,zs,rfl,⟨n,rfl,_⟩,y2,zs2,rfl,⟨m,rfl,_⟩,rfl⟩:=h;exact⟨n,m,rfl⟩
theorem Wj{x:A}(h:fits (.rows [.int .i64,.int .i64]) x): ∃l:List aF,x= .ab (l.map aF.enc)/\l.length<=maxLen:=by
 simp only[fits]at h;obtain⟨es,rfl,hl,he⟩:=h
 obtain⟨l,rfl,_⟩:=sh (f:=aF.enc) (P:=fun _=>True) (es:=es) (fun e hx=>by
  obtain⟨ys,rfl,hy⟩:=he e hx;obtain⟨r,c,rfl⟩:=ZB (by simpa only[cI,fits]using hy)
  exact⟨⟨r,c⟩,rfl,trivial⟩)
 exact⟨l,rfl,by simpa using hl⟩
set_option maxHeartbeats 4000000
def Kq:an:=xq
theorem oV:ag Tryz.prog Kq:=JN _
@[go_sem] theorem T12z_eq:Kq=xq:=rfl
structure ca where
 r:Int
 c:Int
 deriving DecidableEq,Inhabited
def ca.cells(v:ca):List A:=[.int .i64 v.r,.int .i64 v.c]
def ca.enc(v:ca):A:= .agg v.cells
@[go_sem] theorem ca.tV{a b:Int}:ca.enc ⟨a,b⟩= .agg [.int .i64 a,.int .i64 b]:=rfl
theorem ca.eD(v w:ca)(h:v.enc=w.enc):v=w:=by cases v;cases w;simpa[ca.enc,ca.cells]using h
@[simp] theorem map_ver_inj{l m:List ca}:(l.map ca.enc=m.map ca.enc)=(l=m):=map_inj ca.eD
def aN(v:ca):Bool:=decide (1<=v.r)&&decide (v.r<=16)&&decide (1<=v.c)&&decide (v.c<=1099511627776)
def Ao(a b:ca):Bool:=decide (a.r<b.r)||(a.r==b.r)&&decide (a.c<b.c)
def fX(a b:ca):Int:=if a=b then 0 else if Ao a b then-1 else 1
theorem xL:ah Tryz.prog Kq Tryz.f125.ntmps (Tryz.f125.body.getD .skip)=true:=by kernel_rfl
theorem pv(r c:Int):ay Tryz.prog 125 [.agg [.int .i64 r,.int .i64 c]] (· = .bool (aN ⟨r,c⟩)):=by
 refine aa oV mixed Tryz.func125 rfl (Nat.le_of_ble_eq_true rfl) xL ?_;unfold Tryz.f125;by_cases h1:1<=r
 · by_cases h2:r<=16
   · by_cases h3:1<=c
     · simp-implicitDefEqProofs (disch:=(first|omega|decide)) only[go_sem,↓reduceIte,seval,h1,h2,h3,aN]
     · simp-implicitDefEqProofs (disch:=(first|omega|decide)) only[go_sem,↓reduceIte,seval,h1,h2,h3,aN]
   · simp-implicitDefEqProofs (disch:=(first|omega|decide)) only[go_sem,↓reduceIte,seval,h1,h2,aN]
 · simp-implicitDefEqProofs (disch:=(first|omega|decide)) only[go_sem,↓reduceIte,seval,h1,aN]
theorem DC:ah Tryz.prog Kq Tryz.f94.ntmps (Tryz.f94.body.getD .skip)=true:=by kernel_rfl
theorem nu(r c:Int):ay Tryz.prog 94 [.agg [.int .i64 r,.int .i64 c]] (· = .bool (aN ⟨r,c⟩)):=by
 refine aa oV mixed Tryz.func94 rfl (Nat.le_of_ble_eq_true rfl) DC ?_;unfold Tryz.f94;by_cases h1:1<=r
 · by_cases h2:r<=16
   · by_cases h3:1<=c
     · simp-implicitDefEqProofs (disch:=(first|omega|decide)) only[go_sem,↓reduceIte,seval,h1,h2,h3,aN]
     · simp-implicitDefEqProofs (disch:=(first|omega|decide)) only[go_sem,↓reduceIte,seval,h1,h2,h3,aN]
   · simp-implicitDefEqProofs (disch:=(first|omega|decide)) only[go_sem,↓reduceIte,seval,h1,h2,aN]
 · simp-implicitDefEqProofs (disch:=(first|omega|decide)) only[go_sem,↓reduceIte,seval,h1,aN]
theorem DD:ah Tryz.prog Kq Tryz.f166.ntmps (Tryz.f166.body.getD .skip)=true:=by kernel_rfl
theorem nv(a b:ca):ay Tryz.prog 166 [.agg [.int .i64 a.r,.int .i64 a.c],.agg [.int .i64 b.r,.int .i64 b.c]] (· = .int .i64 (fX a b)):=by
 refine aa oV mixed Tryz.func166 rfl (Nat.le_of_ble_eq_true rfl) DD ?_;unfold Tryz.f166;obtain⟨r,c⟩:=a;obtain⟨r',c'⟩:=b;by_cases h1:r=r'
 · subst h1
   by_cases h2:c=c'
   · subst h2
     have e:fX ⟨r,c⟩ ⟨r,c⟩=0:=by simp[fX]
     have e1:(r==r)=true:=by simp
     have e2:(c==c)=true:=by simp
     simp-implicitDefEqProofs (disch:=(first|omega|decide)) only[go_sem,↓reduceIte,seval,e,e1,e2]
   · have h3:(c==c')=false:=by simpa using h2
     have e1:(r==r)=true:=by simp
     have h4: ¬r<r:=by omega
     by_cases h5:c<c'
     · have e:fX ⟨r,c⟩ ⟨r,c'⟩= -1:=by simp[fX,Ao,h2,h5]
       simp-implicitDefEqProofs (disch:=(first|omega|decide)) only[go_sem,↓reduceIte,seval,e,e1,h3,h4,h5]
     · have e:fX ⟨r,c⟩ ⟨r,c'⟩=1:=by simp[fX,Ao,h2,h5]
       simp-implicitDefEqProofs (disch:=(first|omega|decide)) only[go_sem,↓reduceIte,seval,e,e1,h3,h4,h5]
 · have h3:(r==r')=false:=by simpa using h1
   by_cases h4:r<r'
   · have e:fX ⟨r,c⟩ ⟨r',c'⟩= -1:=by simp[fX,Ao,h1,h4]
     simp-implicitDefEqProofs (disch:=(first|omega|decide)) only[go_sem,↓reduceIte,seval,e,h3,h4]
   · have e:fX ⟨r,c⟩ ⟨r',c'⟩=1:=by simp[fX,Ao,h1,h4]
     simp-implicitDefEqProofs (disch:=(first|omega|decide)) only[go_sem,↓reduceIte,seval,e,h3,h4]
theorem Gs:ah Tryz.prog Kq Tryz.f124.ntmps (Tryz.f124.body.getD .skip)=true:=by kernel_rfl
theorem vP(a b:ca):ay Tryz.prog 124 [.agg [.int .i64 a.r,.int .i64 a.c],.agg [.int .i64 b.r,.int .i64 b.c]] (· = .bool (Ao a b)):=by
 refine aa oV mixed Tryz.func124 rfl (Nat.le_of_ble_eq_true rfl) Gs ?_;unfold Tryz.f124;obtain⟨r,c⟩:=a;obtain⟨r',c'⟩:=b;by_cases h4:r<r'
 · simp-implicitDefEqProofs (disch:=(first|omega|decide)) only[go_sem,↓reduceIte,seval,h4,Ao]
 · cases h3:r==r'<;>simp-implicitDefEqProofs (disch:=(first|omega|decide)) only[go_sem,↓reduceIte,seval,h3,h4,Ao]
def ZC:an:=Kq.add 125 (entry (fun(v:Int×Int)=>[.agg [.int .i64 v.1,.int .i64 v.2]]) (fun v=>True) (fun v=> .bool (aN ⟨v.1,v.2⟩)))
theorem T12a_ok:ag Tryz.prog ZC:=oV.bN Tryz.func125 (by kernel_rfl) (by kernel_rfl) fun v h=>pv v.1 v.2
theorem ue(v:Int×Int)(h:True):ZC.f 125 [.agg [.int .i64 v.1,.int .i64 v.2]]=some (.bool (aN ⟨v.1,v.2⟩)):=an.ao (Γ:=Kq) (fun i j h=>by simpa[Prod.ext_iff,and_assoc]using h) v h
def T12b:an:=ZC.add 94 (entry (fun(v:Int×Int)=>[.agg [.int .i64 v.1,.int .i64 v.2]]) (fun v=>True) (fun v=> .bool (aN ⟨v.1,v.2⟩)))
theorem T12b_ok:ag Tryz.prog T12b:=T12a_ok.bN Tryz.func94 (by kernel_rfl) (by kernel_rfl) fun v h=>nu v.1 v.2
@[go_sem] theorem T12b_old{g:FuncId}{xs:List A}(h:g≠94):T12b.f g xs=ZC.f g xs:=an.ak h
def T12c:an:=T12b.add 166 (entry (fun(v:(Int×Int)×(Int×Int))=>[.agg [.int .i64 v.1.1,.int .i64 v.1.2],.agg [.int .i64 v.2.1,.int .i64 v.2.2]]) (fun v=>True) (fun v=> .int .i64 (fX ⟨v.1.1,v.1.2⟩ ⟨v.2.1,v.2.2⟩)))
theorem T12c_ok:ag Tryz.prog T12c:=T12b_ok.bN Tryz.func166 (by kernel_rfl) (by kernel_rfl) fun v h=>nv ⟨v.1.1,v.1.2⟩ ⟨v.2.1,v.2.2⟩
@[go_sem] theorem T12c_old{g:FuncId}{xs:List A}(h:g≠166):T12c.f g xs=T12b.f g xs:=an.ak h
def T12d:an:=T12c.add 124 (entry (fun(v:(Int×Int)×(Int×Int))=>[.agg [.int .i64 v.1.1,.int .i64 v.1.2],.agg [.int .i64 v.2.1,.int .i64 v.2.2]]) (fun v=>True) (fun v=> .bool (Ao ⟨v.1.1,v.1.2⟩ ⟨v.2.1,v.2.2⟩)))
theorem T12d_ok:ag Tryz.prog T12d:=T12c_ok.bN Tryz.func124 (by kernel_rfl) (by kernel_rfl) fun v h=>vP ⟨v.1.1,v.1.2⟩ ⟨v.2.1,v.2.2⟩
@[go_sem] theorem T12d_old{g:FuncId}{xs:List A}(h:g≠124):T12d.f g xs=T12c.f g xs:=an.ak h
@[go_sem] theorem XC{r c:Int}:ZC.f 125 [.agg [.int .i64 r,.int .i64 c]]=some (.bool (aN ⟨r,c⟩)):=ue (r,c) trivial
def T12e:an:=T12d
theorem T12e_ok:ag Tryz.prog T12e:=T12d_ok
@[go_sem] theorem T12e_old{g:FuncId}{xs:List A}:T12e.f g xs=T12d.f g xs:=rfl
end Go.Proofs.YtihgnfmoafjakaaGreat
