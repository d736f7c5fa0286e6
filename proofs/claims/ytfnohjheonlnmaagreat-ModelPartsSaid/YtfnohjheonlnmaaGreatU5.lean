/- What the laws of this claim rest on: the abstract executor, its soundness, and what the functions compute on pure data. No condition. -/
import Derived.Test.YtfnohjheonlnmaaGreatU4
import Derived.Shelf.SlSortCmp.NoneTotal
import Derived.Ground.SlsfProg
import Derived.Test.YtfnohjheonlnmaaGreatProg
noncomputable section
set_option linter.unusedVariables false
set_option linter.unusedSimpArgs false
namespace Go.Proofs.YtfnohjheonlnmaaGreat
open Go.dF
set_option linter.unusedSimpArgs false
set_option linter.unusedVariables false
set_option maxRecDepth 20000
set_option maxHeartbeats 4000000
def qw(l:List bH)(k:Nat):Option Int:=if k=0 then none else(l[k-1]?).map bH.t
theorem EJ:aQ Tryz.prog wj Tryz.f209.ntmps (Tryz.f209.body.getD .skip)=true:=by kernel_rfl
theorem wm(l:List bH)(hl:l.length<=4611686018427387904):bp Tryz.prog 209 [.ay (l.map bH.enc)] (· = .bool (dC l)):=by
 refine ah uH mixed Tryz.func209 rfl (ab rfl) EJ ?_;unfold Tryz.f209;simp-implicitDefEqProofs (disch:=(first|omega|decide)) only[go_sem,↓reduceIte,seval,aa]
 refine a_ [0,5,6] (ι:={k:Nat//k<=l.length/\dC l=VK (qw l k) (l.drop k)/\ ∀h:k-1<l.length,0<k->fG l[k-1]=true}) (fun p=>[(7,.int .i64 p.1),(2,.bool false)]) (fun _=>[]) (fun p=>l.length-p.1) ⟨0,by omega,rfl,fun _ h=>absurd h (by omega)⟩ (aw _) ?_ ?_
 · simp-implicitDefEqProofs (disch:=(first|omega|decide)) only[go_sem,↓reduceIte,seval]
 · rintro⟨k,hk,hd,hp⟩
   simp only;by_cases bo:k<l.length
   · have aH:(k:Int)<(l.length:Int):=by omega
     have e1:=run_get bo;have HP:qw l (k+1)=some l[k].t:=by unfold qw;rw[if_neg (by omega),show k+1-1=k by omega,ae bo];rfl
     rw[ax bo]at hd;simp only[VK]at hd;have next:dC l=VK (some l[k].t) (l.drop (k+1))->fG l[k]=true-> ∃j:{k:Nat//k<=l.length/\dC l=VK (qw l k) (l.drop k)/\ ∀h:k-1<l.length,0<k->fG l[k-1]=true},(k:Int)+1=(j.1:Int)/\l.length-j.1<l.length-k:=fun h h'=>⟨⟨k+1,bo,by rw[HP];exact h,fun _ _=>h'⟩,by simp,by show l.length-(k+1)<l.length-k;omega⟩
     generalize hx:l[k]=x at*;obtain⟨f,t⟩:=x;cases h1:fG ⟨f,t⟩with
     |false=>
      have hh:dC l=false:=by rw[hd,h1];rfl
      simp-implicitDefEqProofs (disch:=(first|omega|decide)) only[go_sem,↓reduceIte,seval,aH,e1,h1,hh,wrap_i64,aa]
     |true=>
      obtain⟨o1,o2,o3⟩:=nZ h1;simp only at o1 o2 o3;by_cases h0:0<k
      · have KZ:(0:Int)<(k:Int):=by omega
        have qD:k-1<l.length:=by omega
        have e0:=run_get qD;have hpo:=hp qD h0;have hpt:qw l k=some l[k-1].t:=by unfold qw;rw[if_neg (by omega),ae qD];rfl
        have t0:((k:Int)-1).toNat=k-1:=by omega
        have b0:(0:Int)<=(k:Int)-1:=by omega
        have b1:(k:Int)-1<(l.length:Int):=by omega
        rw[hpt]at hd;generalize hy:l[k-1]=y at*;obtain⟨f',t'⟩:=y;obtain⟨p1,p2,p3⟩:=nZ hpo;simp only at p1 p2 p3 hd;by_cases h2:f-t'<2
        · have hh:dC l=false:=by
           rw[hd];have: ¬t'+2<=f:=by omega
           simp[this]
          simp-implicitDefEqProofs (disch:=(first|omega|decide)) only[go_sem,↓reduceIte,seval,aH,e1,e0,h1,KZ,t0,b0,b1,h2,hh,wrap_i64,aa]
        · simp-implicitDefEqProofs (disch:=(first|omega|decide)) only[go_sem,↓reduceIte,seval,aH,e1,e0,h1,KZ,t0,b0,b1,h2,wrap_i64,aa]
          have h3:t'+2<=f:=by omega
          exact next (by rw[hd,h1];simp[h3]) h1
      · have KZ: ¬(0:Int)<(k:Int):=by omega
        simp-implicitDefEqProofs (disch:=(first|omega|decide)) only[go_sem,↓reduceIte,seval,aH,e1,h1,KZ,wrap_i64,aa]
        have Ey:k=0:=by omega
        exact next (by rw[hd,h1];simp[qw,Ey]) h1
   · have aH: ¬(k:Int)<(l.length:Int):=by omega
     have hh:dC l=true:=by rw[hd,aC (by omega)];cases qw l k<;>rfl
     simp-implicitDefEqProofs (disch:=(first|omega|decide)) only[go_sem,↓reduceIte,seval,aH,hh,aa]
theorem HQ:aQ Tryz.prog wj Tryz.f194.ntmps (Tryz.f194.body.getD .skip)=true:=by kernel_rfl
theorem K0(l:List bH)(hl:l.length<=4611686018427387904):bp Tryz.prog 194 [.ay (l.map bH.enc)] (· = .bool (dC l)):=by
 refine ah uH mixed Tryz.func194 rfl (ab rfl) HQ ?_;unfold Tryz.f194;simp-implicitDefEqProofs (disch:=(first|omega|decide)) only[go_sem,↓reduceIte,seval,aa]
 refine a_ [0] (ι:={k:Nat//k<=l.length/\dC l=VK (qw l k) (l.drop k)/\ ∀h:k-1<l.length,0<k->fG l[k-1]=true}) (fun p=>[(3,.int .i64 p.1),(2,.bool false)]) (fun _=>[]) (fun p=>l.length-p.1) ⟨0,by omega,rfl,fun _ h=>absurd h (by omega)⟩ (aw _) ?_ ?_
 · simp-implicitDefEqProofs (disch:=(first|omega|decide)) only[go_sem,↓reduceIte,seval]
 · rintro⟨k,hk,hd,hp⟩
   simp only;by_cases bo:k<l.length
   · have aH:(k:Int)<(l.length:Int):=by omega
     have e1:=run_get bo;have HP:qw l (k+1)=some l[k].t:=by unfold qw;rw[if_neg (by omega),show k+1-1=k by omega,ae bo];rfl
     rw[ax bo]at hd;simp only[VK]at hd;have next:dC l=VK (some l[k].t) (l.drop (k+1))->fG l[k]=true-> ∃j:{k:Nat//k<=l.length/\dC l=VK (qw l k) (l.drop k)/\ ∀h:k-1<l.length,0<k->fG l[k-1]=true},(k:Int)+1=(j.1:Int)/\l.length-j.1<l.length-k:=fun h h'=>⟨⟨k+1,bo,by rw[HP];exact h,fun _ _=>h'⟩,by simp,by show l.length-(k+1)<l.length-k;omega⟩
     generalize hx:l[k]=x at*;obtain⟨f,t⟩:=x;cases h1:fG ⟨f,t⟩with
     |false=>
      have hh:dC l=false:=by rw[hd,h1];rfl
      simp-implicitDefEqProofs (disch:=(first|omega|decide)) only[go_sem,↓reduceIte,seval,aH,e1,h1,hh,wrap_i64,aa]
     |true=>
      obtain⟨o1,o2,o3⟩:=nZ h1;simp only at o1 o2 o3;by_cases h0:0<k
      · have KZ:(0:Int)<(k:Int):=by omega
        have qD:k-1<l.length:=by omega
        have e0:=run_get qD;have hpo:=hp qD h0;have hpt:qw l k=some l[k-1].t:=by unfold qw;rw[if_neg (by omega),ae qD];rfl
        have t0:((k:Int)-1).toNat=k-1:=by omega
        have b0:(0:Int)<=(k:Int)-1:=by omega
        have b1:(k:Int)-1<(l.length:Int):=by omega
        rw[hpt]at hd;generalize hy:l[k-1]=y at*;obtain⟨f',t'⟩:=y;obtain⟨p1,p2,p3⟩:=nZ hpo;simp only at p1 p2 p3 hd;by_cases h2:f<t'+2
        · have hh:dC l=false:=by
           rw[hd];have: ¬t'+2<=f:=by omega
           simp[this]
          simp-implicitDefEqProofs (disch:=(first|omega|decide)) only[go_sem,↓reduceIte,seval,aH,e1,e0,h1,KZ,t0,b0,b1,h2,hh,wrap_i64,aa]
        · simp-implicitDefEqProofs (disch:=(first|omega|decide)) only[go_sem,↓reduceIte,seval,aH,e1,e0,h1,KZ,t0,b0,b1,h2,wrap_i64,aa]
          have h3:t'+2<=f:=by omega
          exact next (by rw[hd,h1];simp[h3]) h1
      · have KZ: ¬(0:Int)<(k:Int):=by omega
        simp-implicitDefEqProofs (disch:=(first|omega|decide)) only[go_sem,↓reduceIte,seval,aH,e1,h1,KZ,wrap_i64,aa]
        have Ey:k=0:=by omega
        exact next (by rw[hd,h1];simp[qw,Ey]) h1
   · have aH: ¬(k:Int)<(l.length:Int):=by omega
     have hh:dC l=true:=by rw[hd,aC (by omega)];cases qw l k<;>rfl
     simp-implicitDefEqProofs (disch:=(first|omega|decide)) only[go_sem,↓reduceIte,seval,aH,hh,aa]
theorem Pe:aQ Tryz.prog wj Tryz.f183.ntmps (Tryz.f183.body.getD .skip)=true:=by kernel_rfl
theorem Td(l:List bH)(n:Int)(hl:l.length<=4611686018427387904):bp Tryz.prog 183 [.ay (l.map bH.enc),.int .i64 n] (· = .bool (aX l n)):=by
 refine ah uH mixed Tryz.func183 rfl (ab rfl) Pe ?_;unfold Tryz.f183;simp-implicitDefEqProofs (disch:=(first|omega|decide)) only[go_sem,↓reduceIte,seval,aa]
 refine a_ [0,1] (ι:={k:Nat//k<=l.length/\aX l n=aX (l.drop k) n}) (fun p=>[(5,.int .i64 p.1),(4,.bool false)]) (fun _=>[]) (fun p=>l.length-p.1) ⟨0,by omega,rfl⟩ (aw _) ?_ ?_
 · simp-implicitDefEqProofs (disch:=(first|omega|decide)) only[go_sem,↓reduceIte,seval]
 · rintro⟨k,hk,hd⟩
   simp only;by_cases bo:k<l.length
   · have aH:(k:Int)<(l.length:Int):=by omega
     have e1:=run_get bo;rw[ax bo]at hd;generalize hx:l[k]=x at*;obtain⟨f,t⟩:=x;simp only[aX,cI]at hd;have next:aX l n=aX (l.drop (k+1)) n-> ∃j:{k:Nat//k<=l.length/\aX l n=aX (l.drop k) n},(k:Int)+1=(j.1:Int)/\l.length-j.1<l.length-k:=fun h=>⟨⟨k+1,bo,h⟩,by simp,by show l.length-(k+1)<l.length-k;omega⟩
     cases h1:fG ⟨f,t⟩with
     |false=>
      simp-implicitDefEqProofs (disch:=(first|omega|decide)) only[go_sem,↓reduceIte,seval,aH,e1,h1,wrap_i64,aa]
      exact next (by rw[h1]at hd;simpa[aX]using hd)
     |true=>
      by_cases h2:f<=n
      · by_cases h3:n<=t
        · have hh:aX l n=true:=by unfold aX;rw[hd];simp[h1,h2,h3]
          simp-implicitDefEqProofs (disch:=(first|omega|decide)) only[go_sem,↓reduceIte,seval,aH,e1,h1,h2,h3,hh,wrap_i64,aa]
        · simp-implicitDefEqProofs (disch:=(first|omega|decide)) only[go_sem,↓reduceIte,seval,aH,e1,h1,h2,h3,wrap_i64,aa]
          exact next (by rw[h1]at hd;simpa[aX,h2,h3]using hd)
      · simp-implicitDefEqProofs (disch:=(first|omega|decide)) only[go_sem,↓reduceIte,seval,aH,e1,h1,h2,wrap_i64,aa]
        exact next (by rw[h1]at hd;simpa[aX,h2]using hd)
   · have aH: ¬(k:Int)<(l.length:Int):=by omega
     have hh:aX l n=false:=by rw[hd,aC (by omega)];rfl
     simp-implicitDefEqProofs (disch:=(first|omega|decide)) only[go_sem,↓reduceIte,seval,aH,hh,aa]
def VL(r:bH)(n:Int):Bool:=decide (r.f<=n)&&decide (n<=r.t)
def RR:List bH->Prop
 | []=>True
 | [r]=>fG r=true
 |r::q::l=>fG r=true/\q.t+2<=r.f/\RR (q::l)
theorem fH{r:bH}:fG r=true ↔ 1<=r.f/\r.f<=r.t/\r.t<=1099511627776:=by simp[fG,and_assoc]
theorem Te: ∀(l:List bH) (p:Option Int) (q r:bH),VK p (l++[q,r])=(VK p (l++[q])&&(fG r&&decide (q.t+2<=r.f)))
 | [],p,q,r=>by cases p<;>simp[VK,eI]
 |x::l,p,q,r=>by simp only[bF,VK,Te l (some x.t) q r,eI]
theorem xE: ∀{l:List bH},dC l.reverse=true ↔ RR l
 | []=>by simp[dC,VK,RR]
 | [r]=>by simp[dC,VK,RR]
 |r::q::l=>by
  have ih:= @xE (q::l)
  simp only[mB,ba,bF,bx,dC]at ih⊢;rw[Te,ak,ih,RR,ak,decide_eq_true_iff]
  exact⟨fun⟨a,b,c⟩=>⟨b,c,a⟩,fun⟨b,c,a⟩=>⟨a,b,c⟩⟩
theorem ri{l:List bH}:dC l=true ↔ RR l.reverse:=by
 have:= @xE l.reverse
 rwa [List.reverse_reverse]at this
theorem AQ{r:bH}: ∀{l:List bH},RR (r::l)->RR l
 | [],_=>trivial
 |_::_,h=>h.2.2
theorem kj{r:bH}: ∀{l:List bH},RR (r::l)->fG r=true
 | [],h=>h
 |_::_,h=>h.1
theorem rr_all: ∀{l:List bH},RR l-> ∀r∈l,fG r=true
 | [],_,r,hr=>by cases hr
 |q::l,h,r,hr=>by
  rcases aD.1 hr with rfl|hr
  · exact kj h
  · exact rr_all (AQ h) r hr
theorem wq: ∀{l:List bH} {r:bH},RR (r::l)-> ∀q∈l,q.t+2<=r.f
 | [],_,_,q,hq=>by cases hq
 |p::l,r,h,q,hq=>by
  rcases aD.1 hq with rfl|hq
  · exact h.2.1
  · have h1:=wq h.2.2 q hq
    have h2:=fH.1 (kj h.2.2)
    have h3:=h.2.1;omega
theorem wv(r:bH)(l:List bH)(n:Int):aX (r::l) n=(fG r&&VL r n||aX l n):=by simp[aX,VL,eI]
theorem xF(n:Int):aX [] n=false:=rfl
theorem lj(l m:List bH)(n:Int):aX (l++m) n=(aX l n||aX m n):=by simp[aX]
theorem xG(l:List bH)(n:Int):aX l.reverse n=aX l n:=by simp[aX]
theorem jj{l:List bH}{n:Int}:aX l n=true ↔∃r∈l,fG r=true/\r.f<=n/\n<=r.t:=by simp[aX,and_assoc]
theorem has_range{l:List bH}{n:Int}(h:aX l n=true):1<=n/\n<=1099511627776:=by obtain⟨r,_,h1,h2,h3⟩:=jj.1 h;have:=fH.1 h1;omega
theorem has_perm{l m:List bH}(h:l.Perm m)(n:Int):aX l n=aX m n:=by
 rw[bS,jj,jj]
 exact⟨fun⟨r,hr,h1⟩=>⟨r,h.mem_iff.1 hr,h1⟩,fun⟨r,hr,h1⟩=>⟨r,h.mem_iff.2 hr,h1⟩⟩
theorem WN(l:List bH)(n:Int):aX (l.filter fG) n=aX l n:=by
 rw[bS,jj,jj]
 exact⟨fun⟨r,hr,h1⟩=>⟨r,(aP.1 hr).1,h1⟩,fun⟨r,hr,h1⟩=>⟨r,aP.2 ⟨hr,h1.1⟩,h1⟩⟩
theorem WO{r:bH}{l:List bH}(h:RR (r::l)): ∀n,aX (r::l) n=true->n<=r.t:=fun n hn=>by
 obtain⟨q,hq,h1,h2,h3⟩:=jj.1 hn;rcases aD.1 hq with rfl|hq
 · exact h3
 · have:=wq h q hq
   have:=fH.1 (kj h)
   omega
theorem rr_has{r:bH}{l:List bH}(h:RR (r::l))(n:Int):aX l n=(aX (r::l) n&&decide (n+2<=r.f)):=by
 rw[bS,ak,decide_eq_true_iff,jj,jj]
 constructor
 · rintro⟨q,hq,h1,h2,h3⟩
   have:=wq h q hq;exact⟨⟨q,eF _ hq,h1,h2,h3⟩,by omega⟩
 · rintro⟨⟨q,hq,h1,h2,h3⟩,h4⟩
   rcases aD.1 hq with rfl|hq
   · omega
   · exact⟨q,hq,h1,h2,h3⟩
theorem Nz: ∀{l m:List bH},RR l->RR m->(∀n,aX l n=aX m n)->l=m
 | [],[],_,_,_=>rfl
 | [],r::m,_,h,hm=>by
  have h1:=fH.1 (kj h)
  have h2:aX (r::m) r.t=true:=jj.2 ⟨r,by simp,kj h,h1.2.1,cT _⟩
  rw[<-hm]at h2;cases h2
 |r::l,[],h,_,hm=>by
  have h1:=fH.1 (kj h)
  have h2:aX (r::l) r.t=true:=jj.2 ⟨r,by simp,kj h,h1.2.1,cT _⟩
  rw[hm]at h2;cases h2
 |r::l,q::m,h,h',hm=>by
  have o1:=fH.1 (kj h)
  have o2:=fH.1 (kj h')
  have a1:aX (r::l) r.t=true:=jj.2 ⟨r,by simp,kj h,o1.2.1,cT _⟩
  have a2:aX (q::m) q.t=true:=jj.2 ⟨q,by simp,kj h',o2.2.1,cT _⟩
  rw[hm]at a1;rw[<-hm]at a2;have b1:=WO h' _ a1;have b2:=WO h _ a2;have et:r.t=q.t:=by omega
  -- what begins lower has the count ahead of the other's beginning
  have key: ∀{r q:bH} {l m:List bH},RR (r::l)->RR (q::m)->(∀n,aX (r::l) n=aX (q::m) n)->r.t=q.t->r.f<=q.f:=by
   intro r q l m h h' hm et;rcases Int.lt_or_le q.f r.f with bo|hle
   · exfalso
     have o1:=fH.1 (kj h)
     have o2:=fH.1 (kj h')
     have c1:aX (q::m) (r.f-1)=true:=jj.2 ⟨q,by simp,kj h',by omega,by omega⟩
     rw[<-hm]at c1;obtain⟨p,hp,h1,h2,h3⟩:=jj.1 c1;rcases aD.1 hp with rfl|hp
     · omega
     · have:=wq h p hp;omega
   · exact hle
  have ef:r.f=q.f:=by have:=key h h' hm et;have:=key h' h (fun n=>(hm n).symm) et.symm;omega
  have e:r=q:=by cases r;cases q;simp_all
  subst e;rw[Nz (AQ h) (AQ h') fun n=>by rw[rr_has h,rr_has h',hm]]
theorem Pf{l m:List bH}(h:dC l=true)(h':dC m=true)(hm: ∀n,aX l n=aX m n):l=m:=by
 have:=Nz (ri.1 h) (ri.1 h') (fun n=>by rw[xG,xG,hm])
 simpa using this
open Classical in
/-- The right list of what is meant, if there is one. -/
def fM(p:Int->Bool):List bH:=if h: ∃l,dC l=true/\ ∀n,aX l n=p n then Classical.choose h else []
def IsR(p:Int->Bool):Prop:= ∃l,dC l=true/\ ∀n,aX l n=p n
theorem mD(p:Int->Bool):dC (fM p)=true:=by
 unfold fM;split
 · rename_i h;exact(c_ h).1
 · rfl
theorem tL{p:Int->Bool}(h:IsR p)(n:Int):aX (fM p) n=p n:=by unfold fM;rw[dif_pos (show∃l,dC l=true/\ ∀n,aX l n=p n from h)];exact(c_ h).2 n
theorem xH{p:Int->Bool}{l:List bH}(h:dC l=true)(hp: ∀n,aX l n=p n):l=fM p:=
 Pf h (mD p) fun n=>by rw[hp,tL ⟨l,h,hp⟩]
def fW:List bH->bH->List bH
 | [],r=>[r]
 |q::qs,r=>if r.f<q.t+2 then⟨q.f,if r.t>q.t then r.t else q.t⟩::qs else r::q::qs
def lowF(l:List bH)(x:Int):Prop:=match l with| []=>True|q::_=>q.f<=x
theorem D8{l:List bH}{r:bH}(h:RR l)(hr:fG r=true)(hf:lowF l r.f):RR (fW l r)/\lowF (fW l r) r.f/\ ∀n,aX (fW l r) n=(aX l n||VL r n):=by
 cases l with
 |nil=>exact⟨hr,cT _,fun n=>by simp[fW,aX,hr,VL]⟩
 |cons q qs=>
  have o1:=fH.1 hr;have o2:=fH.1 (kj h)
  have Sh:q.f<=r.f:=hf;simp only[fW]
  by_cases hc:r.f<q.t+2
  · rw[if_pos hc]
    generalize ht:(if r.t>q.t then r.t else q.t)=t;have ht':(t=r.t/\q.t<r.t)\/(t=q.t/\r.t<=q.t):=by split at ht<;>omega
    have ho:fG ⟨q.f,t⟩=true:=fH.2 ⟨o2.1,by show q.f<=t;omega,by show t<=_;omega⟩
    refine⟨?_,Sh,fun n=> ?_⟩
    · cases qs with
      |nil=>exact ho
      |cons p ps=>exact⟨ho,h.2.1,h.2.2⟩
    · rw[wv,wv,ho,kj h]
      have:VL ⟨q.f,t⟩ n=(VL q n||VL r n):=by rw[bS];simp only[VL,ak,bE,decide_eq_true_iff];omega
      rw[this];simp only[aB]
      cases VL q n<;>cases VL r n<;>cases aX qs n<;>rfl
  · rw[if_neg hc]
    refine⟨⟨hr,by omega,h⟩,cT _,fun n=> ?_⟩
    rw[wv,hr];simp only[aB];cases VL r n<;>cases aX (q::qs) n<;>rfl
theorem NA(l:List bH)(r:bH):(fW l r).length<=l.length+1:=by
 cases l with
 |nil=>simp[fW]
 |cons q qs=>simp only[fW];split<;>simp
theorem fold_push: ∀{l:List bH} {a:List bH},RR a->(∀r∈l,fG r=true)->l.Pairwise (fun x y=>x.f<=y.f)->(∀r∈l,lowF a r.f)->RR (l.foldl fW a)/\ ∀n,aX (l.foldl fW a) n=(aX a n||aX l n)
 | [],a,h,_,_,_=>⟨h,fun n=>by simp[aX]⟩
 |r::l,a,h,ho,hs,hf=>by
  obtain⟨h1,h2,h3⟩:=D8 h (ho r (by simp)) (hf r (by simp))
  rw[aR]at hs
  obtain⟨h4,h5⟩:=fold_push (l:=l) h1 (fun q hq=>ho q (by simp[hq])) hs.2 (fun q hq=>by
   have:=hs.1 q hq;revert h2;cases fW a r with
   |nil=>intro _;trivial
   |cons p ps=>intro h2;exact Int.le_trans h2 this)
  refine⟨h4,fun n=> ?_⟩
  rw[cg,h5,h3,wv,ho r (by simp)]
  simp only[aB,tK]
theorem K7{l:List bH}(ho: ∀r∈l,fG r=true)(hs:l.Pairwise (fun x y=>x.f<=y.f)):(l.foldl fW []).reverse=fM (aX l):=by
 obtain⟨h1,h2⟩:=fold_push (a:=[]) trivial ho hs (fun _ _=>trivial)
 exact xH (xE.2 h1) fun n=>by rw[xG,h2];simp[aX]
end Go.Proofs.YtfnohjheonlnmaaGreat
namespace Go.Proofs.YtfnohjheonlnmaaGreat
open Go.dF
set_option linter.unusedSimpArgs false
set_option linter.unusedVariables false
def oL:List Int->Int->List Int
 | [],n=>[n]
 |x::xs,n=>if x<n then x::oL xs n else if x=n then x::xs else n::x::xs
theorem AR(l:List Int)(n:Int):(oL l n).length<=l.length+1:=by
 induction l with
 |nil=>simp[oL]
 |cons x xs ih=>
  simp only[oL]
  split
  · simp;omega
  · split<;>simp
theorem Zp(l:List Int)(n:Int):oL l n≠ []:=by
 cases l with
 |nil=>simp[oL]
 |cons x xs=>
  simp only[oL]
  split
  · simp
  · split<;>simp
theorem HR(l:List Int)(n x:Int):x∈oL l n ↔ x=n\/x∈l:=by
 induction l with
 |nil=>simp[oL]
 |cons y ys ih=>
  simp only[oL]
  split
  · rw[aD,ih,aD]
    exact⟨fun h=>by rcases h with h|h|h<;>simp[h],fun h=>by rcases h with h|h|h<;>simp[h]⟩
  · split
    · rename_i h1 h2;subst h2;simp
    · simp
theorem Zq{l:List Int}{n:Int}(h:l.Pairwise (· < ·)):(oL l n).Pairwise (· < ·):=by
 induction l with
 |nil=>simp[oL]
 |cons y ys ih=>
  rw[aR]at h;simp only[oL]
  split
  · rename_i h1
    rw[aR]
    refine⟨fun x hx=> ?_,ih h.2⟩
    rcases(HR ys n x).1 hx with rfl|hx
    · exact h1
    · exact h.1 x hx
  · split
    · exact aR.2 h
    · rename_i h1 h2
      rw[aR]
      refine⟨fun x hx=> ?_,aR.2 h⟩
      rcases aD.1 hx with rfl|hx
      · omega
      · have:=h.1 x hx;omega
def iY:List Int->List bH->List Int
 |e,[]=>e
 |e,r::rs=>iY (if fG r then oL (oL e r.f) (r.t+1)else e) rs
theorem uI(e:List Int)(l:List bH):(iY e l).length<=e.length+2*l.length:=by
 induction l generalizing e with
 |nil=>simp[iY]
 |cons r rs ih=>
  simp only[iY,aG]
  refine aL (ih _) ?_;split
  · have h1:=AR e r.f
    have h2:=AR (oL e r.f) (r.t+1)
    omega
  · omega
theorem D9(e:List Int)(l:List bH)(r:bH):iY e (l++[r])=if fG r then oL (oL (iY e l) r.f) (r.t+1)else iY e l:=by
 induction l generalizing e with
 |nil=>simp[iY]
 |cons q rs ih=>simp only[bF,iY];exact ih _
theorem NB{e:List Int}{l:List bH}(h:e.Pairwise (· < ·)):(iY e l).Pairwise (· < ·):=by
 induction l generalizing e with
 |nil=>exact h
 |cons r rs ih=>
  simp only[iY]
  apply ih;split
  · exact Zq (Zq h)
  · exact h
theorem HS{l:List bH}{x:Int}: ∀{e:List Int},x∈iY e l ↔ x∈e\/ ∃r∈l,fG r=true/\(x=r.f\/x=r.t+1):=by
 induction l with
 |nil=>intro e;simp[iY]
 |cons r rs ih=>
  intro e;simp only[iY]
  rw[ih]
  cases h:fG r with
  |false=>
   rw[if_neg (by simp)]
   constructor
   · rintro(h1|⟨q,hq,h2⟩)
     · exact .inl h1
     · exact .inr ⟨q,by simp[hq],h2⟩
   · rintro(h1|⟨q,hq,h2⟩)
     · exact .inl h1
     · rcases aD.1 hq with rfl|hq
       · rw[h]at h2;simp at h2
       · exact .inr ⟨q,hq,h2⟩
  |true=>
   rw[if_pos rfl,HR,HR]
   constructor
   · rintro((h1|h1|h1)|⟨q,hq,h2⟩)
     · exact .inr ⟨r,by simp,h,.inr h1⟩
     · exact .inr ⟨r,by simp,h,.inl h1⟩
     · exact .inl h1
     · exact .inr ⟨q,by simp[hq],h2⟩
   · rintro(h1|⟨q,hq,h2⟩)
     · exact .inl (.inr (.inr h1))
     · rcases aD.1 hq with rfl|hq
       · rcases h2.2 with h3|h3
         · exact .inl (.inr (.inl h3))
         · exact .inl (.inl h3)
       · exact .inr ⟨q,hq,h2⟩
def de(a b:List bH):List Int:=iY (iY [] a) b
theorem pH(a b:List bH):(de a b).Pairwise (· < ·):=NB (NB List.Pairwise.nil)
theorem nI{a b:List bH}{x:Int}:x∈de a b ↔∃r∈a++b,fG r=true/\(x=r.f\/x=r.t+1):=by
 unfold de;rw[HS,HS]
 constructor
 · rintro((h|⟨r,hr,h⟩)|⟨r,hr,h⟩)
   · cases h
   · exact⟨r,by simp[hr],h⟩
   · exact⟨r,by simp[hr],h⟩
 · rintro⟨r,hr,h⟩
   rcases aJ.1 hr with hr|hr
   · exact .inl (.inr ⟨r,hr,h⟩)
   · exact .inr ⟨r,hr,h⟩
theorem uJ{a b:List bH}{x:Int}(h:x∈de a b):1<=x/\x<=1099511627777:=by obtain⟨r,_,h1,h2⟩:=nI.1 h;have:=fH.1 h1;omega
theorem HT(a b:List bH):(de a b).length<=2*a.length+2*b.length:=by have h1:=uI [] a;have h2:=uI (iY [] a) b;simp only[bC]at h1;unfold de;omega
theorem Tf{l:List bH}{x n:Int}(hx:x<=n)(h: ∀r∈l,fG r=true-> ¬(x<r.f/\r.f<=n)/\ ¬(x<r.t+1/\r.t+1<=n)):aX l n=aX l x:=by
 rw[bS,jj,jj]
 constructor
 · rintro⟨r,hr,h1,h2,h3⟩
   have:=h r hr h1;exact⟨r,hr,h1,by omega,by omega⟩
 · rintro⟨r,hr,h1,h2,h3⟩
   have:=h r hr h1;exact⟨r,hr,h1,by omega,by omega⟩
def opF(op:Int)(x y:Bool):Bool:=if op=1 then x||y else if op=2 then x&&y else x&& !y
theorem opF_ff(op:Int):opF op false false=false:=by unfold opF;split<;>(try split)<;>rfl
def oq(op:Int)(a b:List bH)(n:Int):Bool:=opF op (aX a n) (aX b n)
section
variable{op:Int}{a b:List bH}
theorem opP_flat{x n:Int}(hx:x<=n)(h: ∀y∈de a b,¬(x<y/\y<=n)):oq op a b n=oq op a b x:=by
 have e1:aX a n=aX a x:=Tf hx fun r hr h1=>⟨h _ (nI.2 ⟨r,by simp[hr],h1,.inl rfl⟩),h _ (nI.2 ⟨r,by simp[hr],h1,.inr rfl⟩)⟩
 have e2:aX b n=aX b x:=Tf hx fun r hr h1=>⟨h _ (nI.2 ⟨r,by simp[hr],h1,.inl rfl⟩),h _ (nI.2 ⟨r,by simp[hr],h1,.inr rfl⟩)⟩
 unfold oq;rw[e1,e2]
theorem Pg{n:Int}(h: ∀y∈de a b,n<y):oq op a b n=false:=by
 have e: ∀l:List bH,(∀r∈l,r∈a++b)->aX l n=false:=fun l hl=>by
  rw[<-dI,jj]
  rintro⟨r,hr,h1,h2,h3⟩
  have:=h _ (nI.2 ⟨r,hl r hr,h1,.inl rfl⟩)
  omega
 unfold oq;rw[e a (fun r hr=>by simp[hr]),e b (fun r hr=>by simp[hr]),opF_ff]
theorem Tg{n:Int}(h: ∀y∈de a b,y<=n):oq op a b n=false:=by
 have e: ∀l:List bH,(∀r∈l,r∈a++b)->aX l n=false:=fun l hl=>by
  rw[<-dI,jj]
  rintro⟨r,hr,h1,h2,h3⟩
  have:=h _ (nI.2 ⟨r,hl r hr,h1,.inr rfl⟩)
  omega
 unfold oq;rw[e a (fun r hr=>by simp[hr]),e b (fun r hr=>by simp[hr]),opF_ff]
end
def Cl(P:Int->Bool)(e:List Int):Nat->List bH
 |0=>[]
 |k+1=>if P (e[k]!)then fW (Cl P e k) ⟨e[k]!,e[k+1]! -1⟩else Cl P e k
def topT(l:List bH)(x:Int):Prop:=match l with| []=>True|q::_=>q.t<x
theorem Ph(P:Int->Bool)(e:List Int): ∀k,(Cl P e k).length<=k
 |0=>ai _
 |k+1=>by
  have h1:=Ph P e k;have h2:=NA (Cl P e k) ⟨e[k]!,e[k+1]! -1⟩
  simp only[Cl]
  split<;>omega
theorem ze{e:List Int}(h:e.Pairwise (· < ·)){i j:Nat}(Cc:i<j)(hj:j<e.length):e[i]! <e[j]! :=by
 rw[getElem!_pos e i (by omega),getElem!_pos e j hj]
 exact b9.1 h i j (by omega) hj Cc
theorem top_push{l:List bH}{r:bH}(h:topT l r.f)(hr:r.f<=r.t):topT (fW l r) (r.t+1):=by
 cases l with
 |nil=>show r.t<r.t+1;omega
 |cons q qs=>
  have h':q.t<r.f:=h;simp only[fW]
  split
  · show(if r.t>q.t then r.t else q.t)<r.t+1
    split<;>omega
  · show r.t<r.t+1;omega
theorem AS(op:Int)(a b:List bH): ∀k,k<(de a b).length->RR (Cl (oq op a b) (de a b) k)/\topT (Cl (oq op a b) (de a b) k) ((de a b)[k]!)/\lowF (Cl (oq op a b) (de a b) k) ((de a b)[k]!)/\
 ∀n,aX (Cl (oq op a b) (de a b) k) n=(decide (n<(de a b)[k]!)&&oq op a b n)
 |0,hk=>by
  refine⟨trivial,trivial,trivial,fun n=> ?_⟩
  by_cases h:n<(de a b)[0]!
  · rw[Pg]
    · show aX [] n=_
      rw[xF,bN]
    intro y hy;obtain⟨i,hi,rfl⟩:=dZ.1 hy;have:(de a b)[i]! =(de a b)[i]:=getElem!_pos _ i hi;rcases l7 i with rfl|hp
    · omega
    · have:=ze (pH a b) hp hi;omega
  · show aX [] n=_
    rw[xF,decide_eq_false h,aI]
 |k+1,hk=>by
  obtain⟨h1,h2,h3,h4⟩:=AS op a b k (by omega)
  have bo:=ze (pH a b) (kC k) hk;have r1:=uJ (a:=a) (b:=b) (x:=(de a b)[k]!) (by rw[getElem!_pos _ k (by omega)];exact ao _)
  have r2:=uJ (a:=a) (b:=b) (x:=(de a b)[k+1]!) (by rw[getElem!_pos _ (k+1) hk];exact ao _)
  have flat: ∀n,(de a b)[k]! <=n->n<(de a b)[k+1]! ->oq op a b n=oq op a b ((de a b)[k]!):=fun n hn pz=>opP_flat hn fun y hy=>by
   obtain⟨i,hi,rfl⟩:=dZ.1 hy;have e:(de a b)[i]! =(de a b)[i]:=getElem!_pos _ i hi;rintro⟨g1,g2⟩
   rcases j6 i (k+1)with hh|hh|hh
   · rcases fN (Nat.lt_succ_iff.1 hh)with hh'|hh'
     · have:=ze (pH a b) hh' (by omega);omega
     · subst hh';omega
   · subst hh;omega
   · have:=ze (pH a b) hh hi;omega
  simp only[Cl]
  generalize hx:(de a b)[k]! =x at*;generalize hy:(de a b)[k+1]! =y at*;generalize hm:Cl (oq op a b) (de a b) k=m at*;cases hp:oq op a b x with
  |false=>
   rw[if_neg (by simp)]
   refine⟨h1, ?_, ?_,fun n=> ?_⟩
   · cases m with
     |nil=>trivial
     |cons q qs=>show q.t<y;have:q.t<x:=h2;omega
   · cases m with
     |nil=>trivial
     |cons q qs=>show q.f<=y;have:q.f<=x:=h3;omega
   · rw[h4]
     by_cases c1:n<x
     · have:n<y:=by omega
       simp[c1,this]
     · by_cases c2:n<y
       · rw[flat n (by omega) c2,hp];simp
       · simp[c1,c2]
  |true=>
   rw[if_pos rfl]
   have ho:fG ⟨x,y-1⟩=true:=fH.2 ⟨r1.1,by show x<=y-1;omega,by show y-1<=_;omega⟩
   obtain⟨g1,g2,g3⟩:=D8 h1 ho h3;refine⟨g1, ?_, ?_,fun n=> ?_⟩
   · have:=top_push (r:=⟨x,y-1⟩) h2 (by show x<=y-1;omega)
     simpa using this
   · revert g2
     cases fW m ⟨x,y-1⟩with
     |nil=>intro _;trivial
     |cons q qs=>intro g2;have:q.f<=x:=g2;show q.f<=y;omega
   · rw[g3,h4]
     by_cases c1:n<x
     · have:n<y:=by omega
       have c3: ¬x<=n:=by omega
       simp[c1,this,VL,c3]
     · by_cases c2:n<y
       · rw[flat n (by omega) c2,hp]
         have c3:x<=n:=by omega
         have c4:n<=y-1:=by omega
         simp[VL,c1,c2,c3,c4]
       · have c4: ¬n<=y-1:=by omega
         simp[VL,c1,c2,c4]
theorem Pj(op:Int)(a b:List bH):(Cl (oq op a b) (de a b) ((de a b).length-1)).reverse=fM (oq op a b):=by
 by_cases h:(de a b).length=0
 · have e:de a b=[]:=aV.1 h
   rw[h]
   refine xH rfl fun n=> ?_;rw[Pg (fun y hy=>by rw[e]at hy;cases hy)];rfl
 · obtain⟨h1,_,_,h4⟩:=AS op a b ((de a b).length-1) (by omega)
   refine xH (xE.2 h1) fun n=> ?_;rw[xG,h4]
   by_cases c:n<(de a b)[(de a b).length-1]!
   · rw[decide_eq_true c,aB]
   · rw[Tg]
     · simp
     · intro y hy
       obtain⟨i,hi,rfl⟩:=dZ.1 hy;have e:(de a b)[i]! =(de a b)[i]:=getElem!_pos _ i hi;rcases fN (show i<=(de a b).length-1 by omega)with hh|hh
       · have:=ze (pH a b) hh (by omega);omega
       · subst hh;omega
theorem isR_op(op:Int)(a b:List bH):IsR (oq op a b):=by
 by_cases h:(de a b).length=0
 · have e:de a b=[]:=aV.1 h
   exact⟨[],rfl,fun n=>by rw[Pg (fun y hy=>by rw[e]at hy;cases hy)];rfl⟩
 · refine⟨fM (oq op a b),mD _,fun n=> ?_⟩
   have h0:=Pj op a b;obtain⟨h1,_,_,h4⟩:=AS op a b ((de a b).length-1) (by omega)
   rw[<-h0,xG,h4]
   by_cases c:n<(de a b)[(de a b).length-1]!
   · rw[decide_eq_true c,aB]
   · rw[Tg]
     · simp
     · intro y hy
       obtain⟨i,hi,rfl⟩:=dZ.1 hy;have e:(de a b)[i]! =(de a b)[i]:=getElem!_pos _ i hi;rcases fN (show i<=(de a b).length-1 by omega)with hh|hh
       · have:=ze (pH a b) hh (by omega);omega
       · subst hh;omega
theorem Gf(l:List bH):IsR (aX l):=by
 obtain⟨m,h1,h2⟩:=isR_op 1 l []
 exact⟨m,h1,fun n=>by rw[h2];simp[oq,opF,aX]⟩
end Go.Proofs.YtfnohjheonlnmaaGreat
namespace Go.Proofs.YtfnohjheonlnmaaGreat
open Go.dF
set_option linter.unusedSimpArgs false
set_option linter.unusedVariables false
theorem WQ: ∀{l:List bH},RR l ↔ l.Pairwise (fun r q=>q.t+2<=r.f)/\ ∀r∈l,fG r=true
 | []=>by simp[RR]
 |r::l=>by
  constructor
  · intro h
    obtain⟨h1,h2⟩:=WQ.1 (AQ h)
    exact⟨aR.2 ⟨wq h,h1⟩,rr_all h⟩
  · rintro⟨h1,h2⟩
    rw[aR]at h1;have ih:=WQ.2 ⟨h1.2,fun q hq=>h2 q (by simp[hq])⟩
    cases l with
    |nil=>exact h2 r (by simp)
    |cons q l=>exact⟨h2 r (by simp),h1.1 q (by simp),ih⟩
theorem right_pw'{l:List bH}:dC l=true ↔ l.Pairwise (fun r q=>r.t+2<=q.f)/\ ∀r∈l,fG r=true:=by
 rw[ri,WQ,s7]
 simp
def wx(l:List bH):Int:=(l.map fun r=>r.t-r.f+1).sum
theorem Zr: ∀{l:List bH} {p:Int},l.Pairwise (fun r q=>r.t+2<=q.f)->(∀r∈l,fG r=true)->(∀r∈l,p<=r.f)->1<=p->0<=wx l/\(l.length:Int)<=wx l/\wx l<=1099511627777-p\/l=[]
 | [],_,_,_,_,_=> .inr rfl
 |r::l,p,h,ho,hp,h1=>by
  rw[aR]at h;have o:=fH.1 (ho r (by simp))
  have hf:=hp r (by simp)
  have e:wx (r::l)=(r.t-r.f+1)+wx l:=by simp[wx]
  rcases Zr (l:=l) (p:=r.t+2) h.2 (fun q hq=>ho q (by simp[hq])) h.1 (by omega)with⟨g1,g2,g3⟩|rfl
  · refine .inl ⟨by omega, ?_,by omega⟩
    rw[e];simp only[aG];omega
  · have e0:wx []=0:=rfl
    rw[e0]at e;refine .inl ⟨by omega, ?_,by omega⟩
    rw[e];simp only[aG,bC];omega
theorem WR{l:List bH}(h:dC l=true):0<=wx l/\(l.length:Int)<=wx l/\wx l<=1099511627776:=by
 obtain⟨h1,h2⟩:=right_pw'.1 h;rcases Zr (p:=1) h1 h2 (fun r hr=>(fH.1 (h2 r hr)).1) (cT _)with g|rfl
 · omega
 · simp[wx]
theorem Zs{l:List bH}(h:dC l=true):l.length<=1099511627776:=by have:=WR h;omega
structure aF where
 n:Int
 rs:List bH
 deriving DecidableEq
instance:Inhabited aF:=⟨⟨0,[]⟩⟩
def aF.cells(k:aF):List A:=[.int .i64 k.n,.ay (k.rs.map bH.enc)]
def aF.enc(k:aF):A:= .agg k.cells
def bJ:List aF->Int->List bH
 | [],_=>[]
 |k::s,n=>if k.n=n then k.rs++bJ s n else bJ s n
theorem iD: ∀(s t:List aF) (n:Int),bJ (s++t) n=bJ s n++bJ t n
 | [],_,_=>rfl
 |k::s,t,n=>by
  simp only[bF,bJ,iD s t n]
  split
  · rw[ba]
  · rfl
def dJ(n:Int):Bool:=decide (1<=n)&&decide (n<=16)
theorem eo{n:Int}:dJ n=true ↔ 1<=n/\n<=16:=by simp[dJ]
def uK(s:List aF)(n c:Int):Bool:=dJ n&&aX (bJ s n) c
def Th(p:Int)(k:aF):Bool:=dJ k.n&&decide (p<k.n)&& !k.rs.isEmpty&&dC k.rs
def HU:Int->List aF->Bool
 |_,[]=>true
 |p,k::s=>Th p k&&HU k.n s
def c6(s:List aF):Bool:=HU 0 s
def sG(t:Int->List bH):Nat->List aF
 |0=>[]
 |k+1=>if(t (k+1)).isEmpty then sG t k else sG t k++[⟨k+1,t (k+1)⟩]
def sk(t:Int->List bH):List aF:=sG t 16
theorem uL(t:Int->List bH): ∀k,(sG t k).length<=k
 |0=>ai _
 |k+1=>by
  have:=uL t k;simp only[sG];split
  · omega
  · simp;omega
theorem Ti(t:Int->List bH)(n:Int): ∀k:Nat,bJ (sG t k) n=if 1<=n/\n<=k then t n else []
 |0=>by rw[if_neg (by omega)];rfl
 |k+1=>by
  have ih:=Ti t n k;simp only[sG]
  by_cases e:n=k+1
  · subst e
    rw[if_neg (by omega)]at ih;rw[if_pos (show 1<=(k:Int)+1/\(k:Int)+1<=((k+1:Nat):Int) by omega)]
    by_cases h:(t (k+1)).isEmpty=true
    · rw[if_pos h,ih];exact(List.isEmpty_iff.1 h).symm
    · rw[if_neg h,iD,ih];simp[bJ]
  · have h2:(1<=n/\n<=((k+1:Nat):Int)) ↔ (1<=n/\n<=(k:Int)):=by omega
    split
    · rw[ih];simp only[h2]
    · rw[iD,ih]
      have:bJ [⟨(k:Int)+1,t (k+1)⟩] n=[]:=by simp only[bJ];rw[if_neg (by omega)]
      rw[this,bj];simp only[h2]
theorem xI(t:Int->List bH)(n:Int):bJ (sk t) n=if dJ n=true then t n else []:=by
 unfold sk;rw[Ti]
 simp only[eo];rfl
theorem Tj: ∀(s:List aF) (p:Int) (k:aF),HU p (s++[k])=(HU p s&&Th (match s.getLast? with|some q=>q.n|none=>p) k)
 | [],p,k=>by simp[HU]
 |q::s,p,k=>by
  simp only[bF,HU,Tj s q.n k,eI]
  congr 2
  cases h:s.getLast? with
  |none=>rw[List.getLast?_cons];simp[h]
  |some x=>rw[List.getLast?_cons];simp[h]
theorem AT{t:Int->List bH}{x:aF}: ∀{k:Nat},x∈sG t k->1<=x.n/\x.n<=k/\x.rs=t x.n/\x.rs≠ []
 |0,h=>by cases h
 |k+1,h=>by
  simp only[sG]at h;split at h
  · have:=AT h
    exact⟨this.1,by omega,this.2.2⟩
  · rename_i eH
    rcases aJ.1 h with h|h
    · have:=AT h
      exact⟨this.1,by omega,this.2.2⟩
    · simp only[bc]at h
      subst h;exact⟨by show(1:Int)<=(k:Int)+1;omega,by show(k:Int)+1<=((k+1:Nat):Int);omega,rfl,fun e=>eH (List.isEmpty_iff.2 e)⟩
theorem NC{t:Int->List bH}(h: ∀n,dC (t n)=true): ∀{k:Nat},k<=16->HU 0 (sG t k)=true
 |0,_=>rfl
 |k+1,hk=>by
  have ih:=NC (t:=t) h (k:=k) (by omega)
  simp only[sG]
  split
  · exact ih
  · rename_i eH
    rw[Tj,ih,aB]
    simp only[Th,h,cv,ak,decide_eq_true_iff,eo]
    refine⟨⟨by omega, ?_⟩,by simpa using eH⟩
    split
    · rename_i q hq
      have:=AT (List.mem_of_getLast? hq)
      omega
    · omega
theorem HV{t:Int->List bH}(h: ∀n,dC (t n)=true):c6 (sk t)=true:=NC h (ai _)
theorem ND{t u:Int->List bH}: ∀{k:Nat},(∀n:Int,1<=n->n<=k->t n=u n)->sG t k=sG u k
 |0,_=>rfl
 |k+1,h=>by
  have ih:=ND (t:=t) (u:=u) (k:=k) (fun n h1 h2=>h n h1 (by omega))
  have e:=h (k+1) (by omega) (by omega)
  simp only[sG,ih,e]
theorem nJ{t u:Int->List bH}(h: ∀n,dJ n=true->t n=u n):sk t=sk u:=ND fun n h1 h2=>h n (eo.2 ⟨h1,by omega⟩)
theorem wy: ∀{s:List aF} {p n:Int},HU p s=true->n<=p->bJ s n=[]
 | [],_,_,_,_=>rfl
 |k::s,p,n,h,hn=>by
  simp only[HU,Th,ak,decide_eq_true_iff]at h;simp only[bJ]
  rw[if_neg (by omega)]
  exact wy h.2 (by omega)
theorem goK_rr: ∀{s:List aF} {p:Int},HU p s=true-> ∀n,dC (bJ s n)=true
 | [],_,_,_=>rfl
 |k::s,p,h,n=>by
  simp only[HU,Th,ak,decide_eq_true_iff]at h;simp only[bJ]
  split
  · rename_i e
    rw[wy h.2 (Int.le_of_eq e.symm),bj];exact h.1.2
  · exact goK_rr h.2 n
theorem goK_mk: ∀{s:List aF} {p:Nat},HU p s=true->p<=16->sk (bJ s)=(sG (bJ s) p)++s
 | [],p,_,hp=>by
  have e: ∀k,sG (bJ []) k=[]:=fun k=>by
   induction k with
   |zero=>rfl
   |succ k ih=>
    have e:(bJ [] ((k:Int)+1)).isEmpty=true:=rfl;simp only[sG,e,if_true];exact ih
  unfold sk;rw[e,e];rfl
 |k::s,p,h,hp=>by
  have h0:=h;simp only[HU,Th,ak,decide_eq_true_iff]at h;obtain⟨⟨⟨⟨h1,h2⟩,h3⟩,h4⟩,h5⟩:=h;rw[eo]at h1;obtain⟨m,hm⟩: ∃m:Nat,k.n=((m+1:Nat):Int):=⟨(k.n-1).toNat,by omega⟩
  have mo:bJ (k::s) k.n=k.rs:=by simp only[bJ,if_true];rw[wy h5 (cT _),bj]
  have hrest: ∀n,k.n<n->bJ (k::s) n=bJ s n:=fun n hn=>by simp only[bJ];rw[if_neg (by omega)]
  have tH: ∀n,n<k.n->bJ (k::s) n=[]:=fun n hn=>by simp only[bJ];rw[if_neg (by omega)];exact wy h5 (by omega)
  -- up to the first replica nothing
  have hz: ∀j:Nat,(j:Int)<k.n->sG (bJ (k::s)) j=[]:=fun j=>by
   induction j with
   |zero=>intro _;rfl
   |succ j ih=>
    intro hj;simp only[sG]
    rw[ih (by omega),tH _ (by omega)];rfl
  have hzs: ∀j:Nat,(j:Int)<=k.n->sG (bJ s) j=[]:=fun j=>by
   induction j with
   |zero=>intro _;rfl
   |succ j ih=>
    intro hj;simp only[sG]
    rw[ih (by omega),wy h5 (by omega)];rfl
  have hup: ∀j:Nat,m+1<=j->sG (bJ (k::s)) j=k::sG (bJ s) j:=fun j=>by
   induction j with
   |zero=>intro hj;omega
   |succ j ih=>
    intro hj;rcases fN hj with hj|hj
    · have hh:=ih (by omega)
      have e:=hrest (((j:Nat):Int)+1) (by omega)
      simp only[sG]
      rw[hh,e]
      split<;>simp
    · have e1:j=m:=by omega
      subst e1;have e2:((j:Nat):Int)+1=k.n:=by omega
      rw[hzs (j+1) (by omega)]
      simp only[sG]
      rw[e2,mo,hz j (by omega)]
      cases hrs:k.rs with
      |nil=>rw[hrs]at h3;simp at h3
      |cons r rs=>
       rw[if_neg (by simp)]
       cases k;simp_all
  have ih:=goK_mk (s:=s) (p:=m+1) (by rw[<-hm];exact h5) (by omega)
  rw[hzs (m+1) (by omega)]at ih;rw[hz p (by omega)]
  unfold sk at ih⊢;rw[hup 16 (by omega),ih];rfl
theorem HW{s:List aF}(h:c6 s=true):sk (bJ s)=s:=by
 have:=goK_mk (s:=s) (p:=0) h (by omega)
 simpa[sG]using this
theorem WS{s:List aF}(h:c6 s=true):sk (fun n=>fM (aX (bJ s n)))=s:=by
 have e:=HW h;rw[<-nJ (t:=bJ s) fun n _=>xH (goK_rr h n) fun _=>rfl]
 exact e
end Go.Proofs.YtfnohjheonlnmaaGreat
namespace Go.Iv
set_option linter.unusedSimpArgs false
set_option linter.unusedVariables false
set_option linter.unusedSectionVars false
section
variable{α β:Type}(lt:α->α->Bool)
def Cm(l:List ((α×Option α)×β))(x:α)(b:β):Prop:= ∃i∈l,ju lt i.1 x=true/\i.2=b
def Tk(i j:(α×Option α)×β):Prop:= ∃e,i.1.2=some e/\lt j.1.1 e=false/\(e=j.1.1->i.2≠j.2)
def qM:List ((α×Option α)×β)->Prop
 | []=>True
 | [i]=>below lt i.1.1 i.1.2=true
 |i::j::l=>below lt i.1.1 i.1.2=true/\Tk lt i j/\qM (j::l)
def D_:List ((α×Option α)×β)->Prop
 | []=>True
 | [i]=>below lt i.1.1 i.1.2=true
 |i::j::l=>below lt i.1.1 i.1.2=true/\Tk lt j i/\D_ (j::l)
def topL(l:List ((α×Option α)×β))(x:α):Prop:=match l with| []=>True|q::_=> ∃e,q.1.2=some e/\lt x e=false
def HX [DecidableEq α] [DecidableEq β](l:List ((α×Option α)×β))(r:(α×Option α)×β):List ((α×Option α)×β):=
 match l with
 | []=>[r]
 |q::qs=>if q.1.2=some r.1.1/\q.2=r.2 then((q.1.1,r.1.2),q.2)::qs else r::q::qs
end
section
variable{α β:Type}{lt:α->α->Bool}(hl:Lin lt)
theorem sH{x:α}{b:β}: ¬Cm lt [] x b:=by rintro⟨_,h,_⟩;cases h
theorem lK{i:(α×Option α)×β}{l:List ((α×Option α)×β)}{x:α}{b:β}:Cm lt (i::l) x b ↔ (ju lt i.1 x=true/\i.2=b)\/Cm lt l x b:=by simp[Cm]
theorem inL_rev{l:List ((α×Option α)×β)}{x:α}{b:β}:Cm lt l.reverse x b ↔ Cm lt l x b:=by simp[Cm]
theorem Cn: ∀(l:List ((α×Option α)×β)) (i j:(α×Option α)×β),qM lt (l++[i,j]) ↔ qM lt (l++[i])/\Tk lt i j/\below lt j.1.1 j.1.2=true
 | [],i,j=>by simp[qM]
 | [x],i,j=>by have e:=Cn [] i j;simp only[bx,bF,qM]at e⊢;exact⟨fun⟨a,b,c,d,e⟩=>⟨⟨a,b,c⟩,d,e⟩,fun⟨⟨a,b,c⟩,d,e⟩=>⟨a,b,c,d,e⟩⟩
 |x::y::l,i,j=>by
  have e:=Cn (y::l) i j;simp only[bF,qM]at e⊢;rw[e]
  exact⟨fun⟨a,b,c,d,e⟩=>⟨⟨a,b,c⟩,d,e⟩,fun⟨⟨a,b,c⟩,d,e⟩=>⟨a,b,c,d,e⟩⟩
theorem NF: ∀{l:List ((α×Option α)×β)},qM lt l.reverse ↔ D_ lt l
 | []=>by simp[qM,D_]
 | [i]=>by simp[qM,D_]
 |i::j::l=>by
  have ih:= @NF (j::l)
  simp only[mB,ba,bF,bx]at ih⊢;rw[Cn,ih,D_]
  exact⟨fun⟨a,b,c⟩=>⟨c,b,a⟩,fun⟨a,b,c⟩=>⟨c,b,a⟩⟩
theorem tN{i:(α×Option α)×β}: ∀{l:List ((α×Option α)×β)},qM lt (i::l)->qM lt l
 | [],_=>trivial
 |_::_,h=>h.2.2
theorem NG{i:(α×Option α)×β}: ∀{l:List ((α×Option α)×β)},qM lt (i::l)->below lt i.1.1 i.1.2=true
 | [],h=>h
 |_::_,h=>h.1
include hl
theorem wz: ∀{l:List ((α×Option α)×β)} {i:(α×Option α)×β} {x:α} {b:β},qM lt (i::l)->Cm lt (i::l) x b->lt x i.1.1=false
 |l,i,x,b,h,hm=>by
  rcases lK.1 hm with⟨hm,_⟩|hm
  · simp only[ju,ak,bT]at hm;exact hm.1
  · cases l with
    |nil=>exact absurd hm sH
    |cons j l=>
     obtain⟨h1,⟨e,he,bo,_⟩,h2⟩:=h;have tH:=wz h2 hm;have hi:lt i.1.1 e=true:=by rw[he]at h1;exact h1
     have Cc:lt i.1.1 j.1.1=true:=qi hl hi bo;cases hx:lt x i.1.1
     · rfl
     · have h4:=hl.tr _ _ _ hx Cc
       rw[h4]at tH;cases tH
theorem Tl{i:(α×Option α)×β}{l:List ((α×Option α)×β)}{x:α}{b:β}(h:qM lt (i::l))(hm:Cm lt l x b): ∃e,i.1.2=some e/\lt x e=false/\(x=e->i.2≠b):=by
 cases l with
 |nil=>exact absurd hm sH
 |cons j l=>
  obtain⟨h1,⟨e,he,bo,eH⟩,h2⟩:=h;have tH:=wz hl h2 hm;refine⟨e,he,pG hl tH bo,fun hx=> ?_⟩
  subst hx;have hej:x=j.1.1:=tJ hl tH bo
  have hb:j.2=b:=by
   rcases lK.1 hm with⟨_,hm⟩|hm
   · exact hm
   · exfalso
     cases l with
     |nil=>exact absurd hm sH
     |cons k l=>
      obtain⟨g1,⟨e',BL,aH,_⟩,g2⟩:=h2;have hlow':=wz hl g2 hm;rw[BL]at g1;have g1':lt j.1.1 e'=true:=g1;rw[<-hej]at g1';have:=qi hl g1' aH;rw[this]at hlow';cases hlow'
  rw[<-hb];exact eH hej
theorem rm{i:(α×Option α)×β}{l:List ((α×Option α)×β)}{x:α}{b:β}(h:qM lt (i::l)):Cm lt l x b ↔ Cm lt (i::l) x b/\ju lt i.1 x=false:=by
 constructor
 · intro hm
   refine⟨lK.2 (.inr hm), ?_⟩
   obtain⟨e,he,hx,_⟩:=Tl hl h hm;simp[ju,he,below,hx]
 · rintro⟨hm,h1⟩
   rcases lK.1 hm with⟨h2,_⟩|h2
   · rw[h1]at h2;cases h2
   · exact h2
theorem Tm: ∀{l:List ((α×Option α)×β)} {x:α} {b c:β},qM lt l->Cm lt l x b->Cm lt l x c->b=c
 | [],_,_,_,_,h,_=>absurd h sH
 |i::l,x,b,c,h,h1,h2=>by
  cases hi:ju lt i.1 x with
  |true=>
   have e: ∀d,Cm lt (i::l) x d->i.2=d:=fun d hd=>by
    rcases lK.1 hd with⟨_,h3⟩|h3
    · exact h3
    · have:=(rm hl h).1 h3
      rw[hi]at this;cases this.2
   rw[<-e b h1,<-e c h2]
  |false=>exact Tm (tN h) ((rm hl h).2 ⟨h1,hi⟩) ((rm hl h).2 ⟨h2,hi⟩)
theorem wA{i:(α×Option α)×β}{l:List ((α×Option α)×β)}(h:qM lt (i::l)):Cm lt (i::l) i.1.1 i.2:=
 lK.2 (.inl ⟨by simp[ju,hl.D6,NG h],rfl⟩)
theorem Pk{i j:(α×Option α)×β}{l m:List ((α×Option α)×β)}(h:qM lt (i::l))(h':qM lt (j::m))(hm: ∀x b,Cm lt (i::l) x b ↔ Cm lt (j::m) x b)(h0:i.1.1=j.1.1)(hb:i.2=j.2){e:α}(he:i.1.2=some e): ∃e',j.1.2=some e'/\lt e e'=false:=by
 have hie:lt i.1.1 e=true:=by have:=NG h;rw[he]at this;exact this
 have hn: ¬Cm lt (i::l) e i.2:=fun hi=>by
  rcases lK.1 hi with⟨h1,_⟩|h1
  · simp[ju,he,below,hl.D6]at h1
  · obtain⟨e',BL,_,eH⟩:=Tl hl h h1
    rw[he]at BL;exact eH (an BL) rfl
 rw[hm]at hn;cases hj:j.1.2 with
 |none=>
  exact absurd (lK.2 (.inl ⟨by simp[ju,hj,below,<-h0,asymm hl hie],hb.symm⟩)) hn
 |some e'=>
  refine⟨e',rfl, ?_⟩
  cases hee:lt e e' with
  |false=>rfl
  |true=>exact absurd (lK.2 (.inl ⟨by simp[ju,hj,below,<-h0,asymm hl hie,hee],hb.symm⟩)) hn
theorem Ea: ∀{l m:List ((α×Option α)×β)},qM lt l->qM lt m->(∀x b,Cm lt l x b ↔ Cm lt m x b)->l=m
 | [],[],_,_,_=>rfl
 | [],j::m,_,h,hm=>absurd ((hm _ _).2 (wA hl h)) sH
 |i::l,[],h,_,hm=>absurd ((hm _ _).1 (wA hl h)) sH
 |i::l,j::m,h,h',hm=>by
  have a1:=(hm _ _).1 (wA hl h)
  have a2:=(hm _ _).2 (wA hl h')
  have e0:i.1.1=j.1.1:=tJ hl (wz hl h' a1) (wz hl h a2)
  have eb:i.2=j.2:=by have:=wA hl h';rw[<-e0]at this;exact Tm hl h' a1 this
  have e1:i.1.2=j.1.2:=by
   cases hi:i.1.2 with
   |none=>
    cases hj:j.1.2 with
    |none=>rfl
    |some e=>
     obtain⟨e',h1,_⟩:=Pk hl h' h (fun x b=>(hm x b).symm) e0.symm eb.symm hj;rw[hi]at h1;cases h1
   |some e=>
    obtain⟨e',h1,h2⟩:=Pk hl h h' hm e0 eb hi;obtain⟨e'',h3,h4⟩:=Pk hl h' h (fun x b=>(hm x b).symm) e0.symm eb.symm h1;rw[hi]at h3;obtain rfl:=an h3;rw[h1,tJ hl h2 h4]
  have e:i=j:=by obtain⟨⟨a,b⟩,c⟩:=i;obtain⟨⟨a',b'⟩,c'⟩:=j;simp_all
  subst e;rw[Ea (tN h) (tN h') fun x b=>by rw[rm hl h,rm hl h',hm]]
theorem Tn [DecidableEq α] [DecidableEq β]{l:List ((α×Option α)×β)}{r:(α×Option α)×β}(h:D_ lt l)(hr:below lt r.1.1 r.1.2=true)(ht:topL lt l r.1.1):
 D_ lt (HX l r)/\(∀x b,Cm lt (HX l r) x b ↔ Cm lt l x b\/(ju lt r.1 x=true/\r.2=b))/\ ∃q qs,HX l r=q::qs/\q.1.2=r.1.2:=by
 cases l with
 |nil=>exact⟨hr,fun x b=>by simp[HX,Cm],r,[],rfl,rfl⟩
 |cons q qs=>
  obtain⟨e,he,hx⟩:=ht;simp only[HX]
  by_cases hc:q.1.2=some r.1.1/\q.2=r.2
  · rw[if_pos hc]
    have hq:lt q.1.1 r.1.1=true:=by
     have h0:below lt q.1.1 q.1.2=true:=by
      cases qs with
      |nil=>exact h
      |cons _ _=>exact h.1
     rw[hc.1]at h0;exact h0
    have Zt:below lt q.1.1 r.1.2=true:=by
     cases hr2:r.1.2 with
     |none=>rfl
     |some e'=>rw[hr2]at hr;exact hl.tr _ _ _ hq hr
    refine⟨?_,fun x b=> ?_,_,_,rfl,rfl⟩
    · cases qs with
      |nil=>exact Zt
      |cons p ps=>exact⟨Zt,h.2.1,h.2.2⟩
    · rw[lK,lK]
      have:ju lt (q.1.1,r.1.2) x=(ju lt q.1 x||ju lt r.1 x):=by
       have hb:below lt x (some r.1.1)=lt x r.1.1:=rfl;simp only[ju,hc.1,hb]
       cases h1:lt x q.1.1 with
       |true=>
        have h2:lt x r.1.1=true:=hl.tr _ _ _ h1 hq;simp[h2]
       |false=>
        cases h2:lt x r.1.1 with
        |true=>
         have:below lt x r.1.2=true:=by
          cases hr2:r.1.2 with
          |none=>rfl
          |some e'=>rw[hr2]at hr;exact hl.tr _ _ _ h2 hr
         simp[this]
        |false=>simp
      simp only[this,bE,hc.2]
      constructor
      · rintro(⟨h1|h1,h2⟩|h1)
        · exact .inl (.inl ⟨h1,h2⟩)
        · exact .inr ⟨h1,h2⟩
        · exact .inl (.inr h1)
      · rintro((⟨h1,h2⟩|h1)|⟨h1,h2⟩)
        · exact .inl ⟨.inl h1,h2⟩
        · exact .inr h1
        · exact .inl ⟨.inr h1,h2⟩
  · rw[if_neg hc]
    refine⟨⟨hr,⟨e,he,hx,fun hee hb=>hc ⟨by rw[he,hee],hb⟩⟩,h⟩,fun x b=> ?_,_,_,rfl,rfl⟩
    rw[lK]
    exact⟨fun h=>h.symm,fun h=>h.symm⟩
end
end Go.Iv
namespace Go.Proofs.YtfnohjheonlnmaaGreat
open Go.dF
set_option linter.unusedSimpArgs false
set_option linter.unusedVariables false
structure Pc where
 r:bk
 s:List aF
 deriving DecidableEq
instance:Inhabited Pc:=⟨⟨⟨[],[],true⟩,[]⟩⟩
def setAt(k:List Pc)(x:List UInt8):List aF:=(k.filter fun p=>eT p.r x).flatMap (·.s)
theorem lk(k m:List Pc)(x:List UInt8):setAt (k++m) x=setAt k x++setAt m x:=by simp[setAt]
def dq(k:List Pc)(x:List UInt8)(n c:Int):Bool:=k.any fun p=>eT p.r x&&uK p.s n c
theorem hasP_at(k:List Pc)(x:List UInt8)(n c:Int):dq k x n c=uK (setAt k x) n c:=by
 induction k with
 |nil=>simp[dq,setAt,uK,bJ,aX]
 |cons p k ih=>
  have e:setAt (p::k) x=(if eT p.r x=true then p.s else [])++setAt k x:=by
   unfold setAt;by_cases h:eT p.r x=true
   · simp[h]
   · simp[h]
  have e2:dq (p::k) x n c=((eT p.r x&&uK p.s n c)||dq k x n c):=rfl;rw[e,e2,ih]
  unfold uK;rw[iD,lj]
  cases eT p.r x<;>cases dJ n<;>simp[bJ,aX]
def jc(p:Pc):Bool:=bw p.r&& !p.s.isEmpty&&c6 p.s
def Co(q p:Pc):Bool:= !q.r.op&& !cL p.r.lo q.r.hi&& !(q.r.hi==p.r.lo&&decide (q.s=p.s))
def Pm:Option Pc->List Pc->Bool
 |_,[]=>true
 |q,p::k=>jc p&&(match q with|none=>true|some q=>Co q p)&&Pm (some p) k
def cD(k:List Pc):Bool:=Pm none k
def BN(p:Pc):(List UInt8×Option (List UInt8))×List aF:=(sf p.r,p.s)
theorem ivP_inj{p q:Pc}(hp:jc p=true)(hq:jc q=true)(h:BN p=BN q):p=q:=by simp only[jc,ak]at hp hq;have h1:sf p.r=sf q.r:=congrArg Prod.fst h;have h2:p.s=q.s:=congrArg Prod.snd h;have:=iv_inj hp.1.1 hq.1.1 h1;cases p;cases q;simp_all
theorem Zu{q p:Pc}:Co q p=true ↔ Iv.Tk cL (BN q) (BN p):=by
 simp only[Co,Iv.Tk,BN,sf,ak,bT,Bool.and_eq_false_iff,beq_eq_false_iff_ne,decide_eq_false_iff_not]
 constructor
 · rintro⟨⟨h1,h2⟩,h3⟩
   exact⟨q.r.hi,by simp[h1],h2,fun e=>by
    rcases h3 with h3|h3
    · exact absurd e h3
    · exact h3⟩
 · rintro⟨e,h1,h2,h3⟩
   cases ho:q.r.op with
   |true=>rw[ho]at h1;simp at h1
   |false=>
    rw[ho]at h1;simp at h1;subst h1;refine⟨⟨rfl,h2⟩, ?_⟩
    by_cases h:q.r.hi=p.r.lo
    · exact .inr (h3 h)
    · exact .inl h
theorem Zv: ∀{k:List Pc} {q:Option Pc},Pm q k=true ↔ (∀p∈k,jc p=true)/\Iv.qM cL (k.map BN)/\ ∀u,q=some u-> ∀p,k.head? =some p->Co u p=true
 | [],q=>by simp[Pm,Iv.qM]
 |p::k,q=>by
  have ih:= @Zv k (some p)
  simp only[Pm,ak,ih]
  constructor
  · rintro⟨⟨h1,h2⟩,h3,h4,h5⟩
    refine⟨fun r hr=> ?_, ?_,fun u hu r hr=> ?_⟩
    · rcases aD.1 hr with rfl|hr
      · exact h1
      · exact h3 r hr
    · have hb:Iv.below cL (BN p).1.1 (BN p).1.2=true:=by
       simp only[jc,ak]at h1;exact Zk h1.1.1
      cases k with
      |nil=>exact hb
      |cons r k=>exact⟨hb,Zu.1 (h5 p rfl r rfl),h4⟩
    · subst hu
      simp at hr;subst hr;exact h2
  · rintro⟨h1,h2,h3⟩
    refine⟨⟨h1 p (by simp), ?_⟩,fun r hr=>h1 r (by simp[hr]),Iv.tN h2,fun u hu r hr=> ?_⟩
    · cases q with
      |none=>rfl
      |some u=>exact h3 u rfl p rfl
    · obtain rfl:=an hu
      cases k with
      |nil=>cases hr
      |cons w k=>
       simp at hr;subst hr;exact Zu.2 h2.2.1
theorem iZ{k:List Pc}:cD k=true ↔ (∀p∈k,jc p=true)/\Iv.qM cL (k.map BN):=by
 unfold cD;rw[Zv]
 simp
def wB(k:List Pc)(x:List UInt8)(l:List aF):Prop:=Iv.Cm cL (k.map BN) x l
theorem Eb: ∀{k m:List Pc},(∀p∈k,jc p=true)->(∀p∈m,jc p=true)->k.map BN=m.map BN->k=m
 | [],[],_,_,_=>rfl
 | [],_::_,_,_,h=>by simp at h
 |_::_,[],_,_,h=>by simp at h
 |p::k,q::m,h1,h2,h=>by simp only[aS,dr]at h;rw[ivP_inj (h1 p (by simp)) (h2 q (by simp)) h.1,Eb (fun r hr=>h1 r (by simp[hr])) (fun r hr=>h2 r (by simp[hr])) h.2]
theorem K8{k m:List Pc}(h:cD k=true)(h':cD m=true)(hm: ∀x l,wB k x l ↔ wB m x l):k=m:=by rw[iZ]at h h';exact Eb h.1 h'.1 (Iv.Ea vu h.2 h'.2 hm)
open Classical in
/-- THE right list of what is meant. -/
def cF(P:List UInt8->List aF):List Pc:=if h: ∃k,cD k=true/\ ∀x l,wB k x l ↔ P x=l/\l≠ []then Classical.choose h else []
def IsP(P:List UInt8->List aF):Prop:= ∃k,cD k=true/\ ∀x l,wB k x l ↔ P x=l/\l≠ []
theorem km(P:List UInt8->List aF):cD (cF P)=true:=by
 unfold cF;split
 · rename_i h;exact(c_ h).1
 · rfl
theorem NH{P:List UInt8->List aF}(h:IsP P)(x:List UInt8)(l:List aF):wB (cF P) x l ↔ P x=l/\l≠ []:=by unfold cF;rw[dif_pos (show∃k,cD k=true/\ ∀x l,wB k x l ↔ P x=l/\l≠ []from h)];exact(c_ h).2 x l
theorem Pn{P:List UInt8->List aF}{k:List Pc}(h:cD k=true)(hp: ∀x l,wB k x l ↔ P x=l/\l≠ []):k=cF P:=
 K8 h (km P) fun x l=>by rw[hp,NH ⟨k,h,hp⟩]
theorem AU{k:List Pc}(hk: ∀p∈k,jc p=true){x:List UInt8}{l:List aF}:wB k x l ↔∃p∈k,eT p.r x=true/\p.s=l:=by
 unfold wB Iv.Cm;constructor
 · rintro⟨i,hi,h1,h2⟩
   obtain⟨p,hp,rfl⟩:=bZ.1 hi;have:=hk p hp;simp only[jc,ak]at this;exact⟨p,hp,by rw[uG,this.1.1];exact h1,h2⟩
 · rintro⟨p,hp,h1,h2⟩
   refine⟨BN p,bZ.2 ⟨p,hp,rfl⟩, ?_,h2⟩
   rw[uG,ak]at h1;exact h1.2
theorem wC: ∀{k:List Pc},cD k=true-> ∀{x:List UInt8} {p:Pc},p∈k->eT p.r x=true->setAt k x=p.s
 | [],_,_,_,h,_=>by cases h
 |q::k,hr,x,p,hp,hx=>by
  have hc:=iZ.1 hr;have ht:cD k=true:=iZ.2 ⟨fun r h=>hc.1 r (by simp[h]),Iv.tN hc.2⟩
  have e:setAt (q::k) x=(if eT q.r x=true then q.s else [])++setAt k x:=by
   unfold setAt;by_cases h:eT q.r x=true
   · simp[h]
   · simp[h]
  rw[e]
  cases hq:eT q.r x with
  |true=>
   -- no later piece has it
   have th: ∀r∈k,eT r.r x=false:=fun r hr2=>by
    rw[<-dI]
    intro hrx;have h1:Iv.Cm cL (k.map BN) x r.s:=(AU (fun r h=>hc.1 r (by simp[h]))).2 ⟨r,hr2,hrx,rfl⟩
    have h2:=(Iv.rm vu hc.2).1 h1;rw[uG,ak]at hq;have h3:Iv.ju cL (BN q).1 x=true:=hq.2;rw[h2.2]at h3;cases h3
   have h0:setAt k x=[]:=by unfold setAt;rw[cy.2 (fun r h=>by rw[th r h];simp)];rfl
   have hpq:p=q:=by
    rcases aD.1 hp with h|h
    · exact h
    · rw[th p h]at hx;cases hx
   rw[h0,hpq];simp
  |false=>
   have VM:p∈k:=by
    rcases aD.1 hp with h|h
    · subst h;rw[hq]at hx;cases hx
    · exact h
   simp only[az,if_false,bx]
   exact wC ht VM hx
def fi:List Pc->Pc->List Pc
 | [],r=>[r]
 |q::qs,r=>if(!q.r.op&&q.r.hi==r.r.lo&&decide (q.s=r.s))=true then⟨⟨q.r.lo,r.r.hi,r.r.op⟩,q.s⟩::qs else r::q::qs
theorem pushP_iv(l:List Pc)(r:Pc):(fi l r).map BN=Iv.HX (l.map BN) (BN r):=by
 cases l with
 |nil=>rfl
 |cons q qs=>
  simp only[fi,aS,Iv.HX]
  have:((!q.r.op&&q.r.hi==r.r.lo&&decide (q.s=r.s))=true) ↔ ((BN q).1.2=some (BN r).1.1/\(BN q).2=(BN r).2):=by
   simp only[BN,sf,ak,bT,beq_iff_eq,decide_eq_true_iff]
   cases q.r.op<;>simp
  by_cases h:(!q.r.op&&q.r.hi==r.r.lo&&decide (q.s=r.s))=true
  · rw[if_pos h,if_pos (this.1 h)];rfl
  · rw[if_neg h,if_neg (fun e=>h (this.2 e))];rfl
theorem pushP_len(l:List Pc)(r:Pc):(fi l r).length<=l.length+1:=by
 cases l with
 |nil=>simp[fi]
 |cons q qs=>simp only[fi];split<;>simp
def p_(es:List (List UInt8))(k:Nat):bk:=if k+1<es.length then⟨es[k]!,es[k+1]!,false⟩else⟨es[k]!,[],true⟩
def qN(P:List UInt8->List aF)(es:List (List UInt8)):Nat->List Pc
 |0=>[]
 |k+1=>if P (es[k]!)=[]then qN P es k else fi (qN P es k) ⟨p_ es k,P (es[k]!)⟩
theorem AV(P:List UInt8->List aF)(es:List (List UInt8)): ∀k,(qN P es k).length<=k
 |0=>ai _
 |k+1=>by
  have h1:=AV P es k;have h2:=pushP_len (qN P es k) ⟨p_ es k,P (es[k]!)⟩
  simp only[qN]
  split<;>omega
theorem xJ{e:List (List UInt8)}(h:e.Pairwise (fun x y=>cL x y=true)){i j:Nat}(Cc:i<j)(hj:j<e.length):cL (e[i]!) (e[j]!)=true:=by
 rw[getElem!_pos e i (by omega),getElem!_pos e j hj]
 exact b9.1 h i j (by omega) hj Cc
structure Po(P:List UInt8->List aF)(es:List (List UInt8)):Prop where
 up:es.Pairwise (fun x y=>cL x y=true)
 nil: []∈es
 len: ∀e∈es,e.length<=17
 flat: ∀x e,e∈es->cL x e=false->(∀y∈es,cL e y=true->cL x y=true)->P x=P e
 right: ∀x,c6 (P x)=true
theorem Pp(x:List UInt8):cL x []=false:=by cases x<;>rfl
theorem To{P:List UInt8->List aF}{es:List (List UInt8)}(h:Po P es):es[0]! =[]/\0<es.length:=by
 obtain⟨i,hi,he⟩:=dZ.1 h.nil;refine⟨?_,by omega⟩
 rcases l7 i with rfl|hp
 · rw[getElem!_pos es 0 hi,he]
 · have:=xJ h.up hp hi
   rw[getElem!_pos es i hi,he,Pp]at this;cases this
theorem WT{P:List UInt8->List aF}{es:List (List UInt8)}(h:Po P es){k:Nat}(hk:k<es.length):bw (p_ es k)=true:=by
 have h1:=h.len (es[k]!) (by rw[getElem!_pos es k hk];exact ao _)
 unfold p_;by_cases hn:k+1<es.length
 · have h2:=h.len (es[k+1]!) (by rw[getElem!_pos es (k+1) hn];exact ao _)
   rw[if_pos hn]
   exact wg h1 h2 (fun e=>by cases e) (fun _=>xJ h.up (kC k) hn)
 · rw[if_neg hn]
   exact wg h1 (by simp) (fun _=>rfl) (fun e=>by cases e)
theorem rngE_lo{es:List (List UInt8)}{k:Nat}:(p_ es k).lo=es[k]! :=by unfold p_;split<;>rfl
theorem pushP_one{l:List Pc}{r:Pc}(hl: ∀p∈l,jc p=true)(hr:jc r=true): ∀p∈fi l r,jc p=true:=by
 cases l with
 |nil=>intro p hp;simp only[fi,bc]at hp;subst hp;exact hr
 |cons q qs=>
  intro p hp;simp only[fi]at hp;split at hp
  · rename_i hc
    rcases aD.1 hp with rfl|hp
    · have hq:=hl q (by simp)
      simp only[ak,bT,beq_iff_eq,decide_eq_true_iff]at hc;simp only[jc,ak]at hq hr⊢;refine⟨⟨?_,hq.1.2⟩,hq.2⟩
      have a:=hq.1.1;have b:=hr.1.1;simp only[bw,ak,decide_eq_true_iff,hc.1.1,az,if_false]at a b⊢;refine⟨⟨a.1.1,b.1.2⟩, ?_⟩
      cases ho:r.r.op with
      |true=>have:=b.2;rw[ho]at this;simpa using this
      |false=>
       have:=b.2;rw[ho]at this;simp only[az,if_false]at this⊢;rw[<-hc.1.2]at this;exact fa a.2 this
    · exact hl p (by simp[hp])
  · rcases aD.1 hp with rfl|hp
    · exact hr
    · exact hl p hp
theorem wD{P:List UInt8->List aF}{es:List (List UInt8)}(h:Po P es): ∀k,k<=es.length->
 (∀p∈qN P es k,jc p=true)/\Iv.D_ cL ((qN P es k).map BN)/\(k<es.length->Iv.topL cL ((qN P es k).map BN) (es[k]!))/\
 ∀x l,Iv.Cm cL ((qN P es k).map BN) x l ↔ (0<k/\(k<es.length->cL x (es[k]!)=true))/\P x=l/\l≠ []
 |0,_=>⟨fun p hp=>(by cases hp),trivial,fun _=>trivial,fun x l=>⟨fun hi=>absurd hi Iv.sH,fun hi=>by omega⟩⟩
 |k+1,hk=>by
  obtain⟨h0,h1,h2,h3⟩:=wD h k (by omega)
  have tE:=h2 (by omega)
  have hek:es[k]! ∈es:=by rw[getElem!_pos es k (by omega)];exact ao _
  -- what lies from this edge to the next
  have hin: ∀x,Iv.ju cL (sf (p_ es k)) x=true ↔ (cL x (es[k]!)=false/\(k+1<es.length->cL x (es[k+1]!)=true)):=fun x=>by
   unfold p_;by_cases hn:k+1<es.length
   · rw[if_pos hn];simp[Iv.ju,sf,Iv.below,hn]
   · rw[if_neg hn];simp[Iv.ju,sf,Iv.below,hn]
  have Ao: ∀x,Iv.ju cL (sf (p_ es k)) x=true->P x=P (es[k]!):=fun x hx=>by
   obtain⟨a,b⟩:=(hin x).1 hx;refine h.flat x _ hek a fun y hy hly=> ?_;obtain⟨i,hi,rfl⟩:=dZ.1 hy;have e:es[i]! =es[i]:=getElem!_pos _ i hi;rw[<-e]at hly⊢;rcases j6 i k with hh|hh|hh
   · have:=xJ h.up hh (by omega)
     rw[kG this]at hly;cases hly
   · subst hh;rw[lt_irrefl]at hly;cases hly
   · have hb:=b (by omega)
     rcases fN (show k+1<=i by omega)with hh'|hh'
     · exact fa hb (xJ h.up hh' hi)
     · subst hh';exact hb
  have rM: ∀x,(0<k+1/\(k+1<es.length->cL x (es[k+1]!)=true)) ↔ (0<k/\(k<es.length->cL x (es[k]!)=true))\/Iv.ju cL (sf (p_ es k)) x=true:=fun x=>by
   rw[hin]
   constructor
   · rintro⟨_,hb⟩
     cases hx:cL x (es[k]!)with
     |false=>exact .inr ⟨rfl,hb⟩
     |true=>
      refine .inl ⟨?_,fun _=>rfl⟩
      rcases l7 k with h0|h0
      · subst h0;rw[(To h).1,Pp]at hx;cases hx
      · exact h0
   · rintro(⟨h4,h5⟩|⟨_,h5⟩)
     · exact⟨by omega,fun hn=>fa (h5 (by omega)) (xJ h.up (kC k) hn)⟩
     · exact⟨by omega,h5⟩
  simp only[qN]
  by_cases hP:P (es[k]!)=[]
  · rw[if_pos hP]
    refine⟨h0,h1,fun hn=> ?_,fun x l=> ?_⟩
    · revert tE
      cases hm:(qN P es k).map BN with
      |nil=>intro _;trivial
      |cons q qs=>
       rintro⟨e,he,bo⟩
       exact⟨e,he,Iv.pG vu (kG (xJ h.up (kC k) hn)) bo⟩
    · rw[h3,rM]
      constructor
      · rintro⟨a,b⟩;exact⟨.inl a,b⟩
      · rintro⟨a|a,b⟩
        · exact⟨a,b⟩
        · rw[Ao x a,hP]at b
          exact absurd b.1.symm b.2
  · rw[if_neg hP]
    have hrr:=WT h (k:=k) (by omega)
    have gw:jc ⟨p_ es k,P (es[k]!)⟩=true:=by
     simp only[jc,hrr,h.right,aB,cv,bT]
     cases hPk:P (es[k]!)with
     |nil=>exact absurd hPk hP
     |cons _ _=>rfl
    obtain⟨g1,g2,q,qs,g3,g4⟩:=Iv.Tn vu (r:=BN ⟨p_ es k,P (es[k]!)⟩) h1 (Zk hrr) (by show Iv.topL cL _ (p_ es k).lo;rw[rngE_lo];exact tE)
    rw[<-pushP_iv]at g1 g2 g3;refine⟨fun p hp=>pushP_one h0 gw p hp,g1,fun hn=> ?_,fun x l=> ?_⟩
    · rw[g3]
      refine⟨es[k+1]!, ?_,lt_irrefl _⟩
      rw[g4]
      show(sf (p_ es k)).2=_;unfold p_;rw[if_pos hn];rfl
    · rw[g2,h3,rM]
      constructor
      · rintro(⟨a,b⟩|⟨a,b⟩)
        · exact⟨.inl a,b⟩
        · have a':Iv.ju cL (sf (p_ es k)) x=true:=a
          have b':P (es[k]!)=l:=b;exact⟨.inr a',by rw[Ao x a'];exact b',by rw[<-b'];exact hP⟩
      · rintro⟨a|a,b⟩
        · exact .inl ⟨a,b⟩
        · exact .inr ⟨a,by rw[<-Ao x a];exact b.1⟩
theorem sI{P:List UInt8->List aF}{es:List (List UInt8)}(h:Po P es):(qN P es es.length).reverse=cF P/\IsP P:=by
 obtain⟨h0,h1,_,h3⟩:=wD h es.length (ai _)
 have hr:cD (qN P es es.length).reverse=true:=by
  rw[iZ]
  refine⟨fun p hp=>h0 p (kD.1 hp), ?_⟩
  rw[List.map_reverse]
  exact Iv.NF.2 h1
 have hs: ∀x l,wB (qN P es es.length).reverse x l ↔ P x=l/\l≠ []:=fun x l=>by
  unfold wB;rw[List.map_reverse,Iv.inL_rev,h3]
  have:=(To h).2;exact⟨fun h=>h.2,fun h=>⟨⟨this,fun hn=>by omega⟩,h⟩⟩
 exact⟨Pn hr hs,_,hr,hs⟩
set_option maxRecDepth 20000
set_option maxHeartbeats 4000000
theorem strI{q:IntKind}(l:List Int):((l.map (A.int q)).isEmpty||eV (l.map (A.int q))==1)=true:=by cases l<;>rfl
theorem NI{l:List Int}{n:Int}{k:Nat}(hk:k<=l.length)(hd:oL l n=l.take k++n::l.drop k):k+1<=((l.take k).map (A.int .i64)++[A.int .i64 n]).length/\k+1+(l.length-k)<=(((l.take k).map (A.int .i64)++[A.int .i64 n]).take (k+1)++(l.drop k).map (A.int .i64)).length/\
 (((l.take k).map (A.int .i64)++[A.int .i64 n]).take (k+1)++(l.drop k).map (A.int .i64)).take (k+1+(l.length-k))=(oL l n).map (A.int .i64):=by
 have e:((l.take k).map (A.int .i64)++[A.int .i64 n]).length=k+1:=by simp;omega
 rw[ad (di e)]
 have e2:((l.take k).map (A.int .i64)++[A.int .i64 n]++(l.drop k).map (A.int .i64)).length=k+1+(l.length-k):=by rw[aj,e,aa,cj]
 rw[ad (di e2)]
 exact⟨by omega,by omega,by rw[hd];simp⟩
theorem Pq:aQ Tryz.prog wj Tryz.f271.ntmps (Tryz.f271.body.getD .skip)=true:=by kernel_rfl
theorem Tp(l:List Int)(n:Int)(hl:l.length<=1000000):bp Tryz.prog 271 [.ay (l.map (A.int .i64)),.int .i64 n] (· = .ay ((oL l n).map (A.int .i64))):=by
 refine ah uH mixed Tryz.func271 rfl (ab rfl) Pq ?_;unfold Tryz.f271;simp-implicitDefEqProofs (disch:=(first|omega|decide)) only[go_sem,↓reduceIte,seval,aa]
 refine a_ [0,1,4] (ι:={k:Nat//k<=l.length/\oL l n=l.take k++oL (l.drop k) n}) (fun p=>[(5,.int .i64 p.1)]) (fun _=>[]) (fun p=>l.length-p.1) ⟨0,by omega,rfl⟩ (aw _) ?_ ?_
 · simp-implicitDefEqProofs (disch:=(first|omega|decide)) only[go_sem,↓reduceIte,seval]
 · rintro⟨k,hk,hd⟩
   simp only;by_cases bo:k<l.length
   · have aH:(k:Int)<(l.length:Int):=by omega
     have e1:(l.map (A.int .i64))[k]? =some (.int .i64 l[k]):=by rw[aT,ae bo];rfl
     have tk:(l.take k).length=k:=by rw[aK];omega
     have t1:=(ar bo).symm;rw[ax bo]at hd;generalize hx:l[k]=x at*;simp only[oL]at hd;by_cases h1:x<n
     · rw[if_pos h1]at hd
       simp-implicitDefEqProofs (disch:=(first|omega|decide)) only[go_sem,↓reduceIte,seval,aH,e1,h1,wrap_i64,aa]
       exact⟨⟨k+1,bo,by rw[hd,t1,ba];rfl⟩,by simp,by show l.length-(k+1)<l.length-k;omega⟩
     · rw[if_neg h1]at hd
       cases h2:x==n with
       |true=>
        simp-implicitDefEqProofs (disch:=(first|omega|decide)) only[go_sem,↓reduceIte,seval,aH,e1,h1,h2,wrap_i64,aa]
        have hxn:x=n:=by simpa using h2
        rw[if_pos hxn,<-hx,<-ax bo,br]at hd;rw[hd]
       |false=>
        have hxn:x≠n:=by simpa using h2
        have l1:(l.take k).length=k:=tk;have l2:(l.drop k).length=l.length-k:=cj ..;simp-implicitDefEqProofs (disch:=(first|omega|decide)) only[go_sem,↓reduceIte,seval,aH,e1,h1,h2,wrap_i64,<-iw,<-kF,strI,aa,ca,l1,l2]
        obtain⟨c1,c2,c3⟩:=NI hk (by rw[hd,if_neg hxn,<-hx,<-ax bo])
        exact⟨by omega,by omega,⟨by omega,by omega⟩,⟨by omega,by omega⟩,⟨c1,by omega⟩,c2,c3⟩
   · have aH: ¬(k:Int)<(l.length:Int):=by omega
     have l1:(l.take k).length=k:=by rw[aK];omega
     have l2:(l.drop k).length=l.length-k:=cj ..;have l3:l.drop k=[]:=aC (by omega)
     obtain⟨c1,c2,c3⟩:=NI hk (by rw[hd,l3];rfl)
     simp-implicitDefEqProofs (disch:=(first|omega|decide)) only[go_sem,↓reduceIte,seval,aH,wrap_i64,<-iw,<-kF,strI,aa,ca,l1,l2]
     exact⟨by omega,by omega,⟨by omega,by omega⟩,⟨by omega,by omega⟩,⟨c1,by omega⟩,c2,c3⟩
def Tq:aW:=wj.add 271 (entry (fun(v:List Int×Int)=>[.ay (v.1.map (A.int .i64)),.int .i64 v.2]) (fun v=>v.1.length<=1000000) (fun v=> .ay ((oL v.1 v.2).map (A.int .i64))))
theorem Zw:aN Tryz.prog Tq:=uH.dH Tryz.func271 (by kernel_rfl) (by kernel_rfl) fun v h=>Tp v.1 v.2 h
@[go_sem] theorem T13c_old{g:FuncId}{xs:List A}(h:g≠271):Tq.f g xs=wj.f g xs:=aW.aU h
@[go_sem] theorem T13c_s:Tq.pl wj:=⟨fun _=>rfl,fun _=>rfl,rfl,fun _=>rfl,rfl,fun _=>rfl,rfl⟩
theorem HY(v:List Int×Int)(h:v.1.length<=1000000):Tq.f 271 [.ay (v.1.map (A.int .i64)),.int .i64 v.2]=some (.ay ((oL v.1 v.2).map (A.int .i64))):=aW.aZ (Γ:=wj) (fun i j h=>by simpa[ag,and_assoc]using h) v h
@[go_sem] theorem t_ref13_put{l:List Int}{n:Int}(h:l.length<=1000000):Tq.f 271 [.ay (l.map (A.int .i64)),.int .i64 n]=some (.ay ((oL l n).map (A.int .i64))):=HY (l,n) h
def slI:List Int->A
 | []=> .d_
 |x::xs=> .ay ((x::xs).map (A.int .i64))
theorem slI_ne{l:List Int}(h:l≠ []):slI l= .ay (l.map (A.int .i64)):=by
 cases l with
 |nil=>exact absurd rfl h
 |cons x xs=>rfl
theorem Cp{m:Nat}(l:List Int):(slI l).under m=true:=by cases l<;>rfl
@[go_sem] theorem view_slI{H:List Go.dF.Obj}{l:List Int}:view H (slI l)=some (.ay (l.map (A.int .i64))):=by cases l<;>rfl
@[go_sem] theorem pure_slI{l:List Int}:(slI l).pure=true:=by cases l<;>rfl
theorem HZ:aQ Tryz.prog Tq Tryz.f246.ntmps (Tryz.f246.body.getD .skip)=true:=by kernel_rfl
theorem K9(a b:List bH)(ha:a.length<=50000)(hb:b.length<=50000):bp Tryz.prog 246 [.ay (a.map bH.enc),.ay (b.map bH.enc)] (· = .ay ((de a b).map (A.int .i64))):=by
 refine ah Zw mixed Tryz.func246 rfl (ab rfl) HZ ?_;unfold Tryz.f246;simp-implicitDefEqProofs (disch:=(first|omega|decide)) only[go_sem,↓reduceIte,seval,aa]
 refine a_ [0,1,4] (ι:={k:Nat//k<=a.length}) (fun p=>[(6,.int .i64 p.1),(5,slI (iY [] (a.take p.1)))]) (fun _=>[]) (fun p=>a.length-p.1) ⟨0,by omega⟩ (aw _) ?_ ?_
 · simp-implicitDefEqProofs (disch:=(first|omega|decide)) only[go_sem,↓reduceIte,seval]
   simp[iY,slI,A.under]
 · rintro⟨k,hk⟩
   simp only;have hlen:=uI [] (a.take k)
   have RQ:(a.take k).length=k:=by rw[aK];omega
   by_cases bo:k<a.length
   · have aH:(k:Int)<(a.length:Int):=by omega
     have e1:=run_get bo;have ht:a.take (k+1)=a.take k++[a[k]]:=(ar bo).symm;generalize hx:a[k]=x at*;obtain⟨f,t⟩:=x;have hs:=D9 [] (a.take k) ⟨f,t⟩
     rw[<-ht]at hs;generalize GZ:iY [] (a.take k)=es at*;simp only[bC]at hlen;cases h1:fG ⟨f,t⟩with
     |false=>
      rw[h1]at hs;simp-implicitDefEqProofs (disch:=(first|omega|decide)) only[go_sem,↓reduceIte,seval,aH,e1,h1,wrap_i64,aa]
      exact⟨⟨k+1,bo⟩,by simp[hs,Cp],by show a.length-(k+1)<a.length-k;omega⟩
     |true=>
      rw[h1,if_pos rfl]at hs;obtain⟨o1,o2,o3⟩:=nZ h1;simp only at o1 o2 o3 hs;have p1:=AR es f;have nr:=slI_ne (Zp (oL es f) (t+1))
      simp-implicitDefEqProofs (disch:=(first|omega|decide)) only[go_sem,↓reduceIte,seval,aH,e1,h1,wrap_i64,aa]
      exact⟨⟨k+1,bo⟩,by simp[hs,nr,A.under],by show a.length-(k+1)<a.length-k;omega⟩
   · have aH: ¬(k:Int)<(a.length:Int):=by omega
     rw[ad (by omega)]at*;simp-implicitDefEqProofs (disch:=(first|omega|decide)) only[go_sem,↓reduceIte,seval,aH,aa]
     generalize hea:iY [] a=ea at*;simp only[bC]at hlen;refine a_ [1,4] (ι:={k:Nat//k<=b.length}) (fun p=>[(7,.int .i64 p.1),(5,slI (iY ea (b.take p.1)))]) (fun _=>[]) (fun p=>b.length-p.1) ⟨0,by omega⟩ (aw _) ?_ ?_
     · simp-implicitDefEqProofs (disch:=(first|omega|decide)) only[go_sem,↓reduceIte,seval]
       simp[iY,Cp]
     · rintro⟨j,hj⟩
       simp only;have hlen2:=uI ea (b.take j)
       have htj:(b.take j).length=j:=by rw[aK];omega
       by_cases jD:j<b.length
       · have yB:(j:Int)<(b.length:Int):=by omega
         have e1:=run_get jD;have ht:b.take (j+1)=b.take j++[b[j]]:=(ar jD).symm;generalize hx:b[j]=x at*;obtain⟨f,t⟩:=x;have hs:=D9 ea (b.take j) ⟨f,t⟩
         rw[<-ht]at hs;generalize GZ:iY ea (b.take j)=es at*;cases h1:fG ⟨f,t⟩with
         |false=>
          rw[h1]at hs;simp-implicitDefEqProofs (disch:=(first|omega|decide)) only[go_sem,↓reduceIte,seval,yB,e1,h1,wrap_i64,aa]
          exact⟨⟨j+1,jD⟩,by simp[hs,Cp],by show b.length-(j+1)<b.length-j;omega⟩
         |true=>
          rw[h1,if_pos rfl]at hs;obtain⟨o1,o2,o3⟩:=nZ h1;simp only at o1 o2 o3 hs;have p1:=AR es f;have nr:=slI_ne (Zp (oL es f) (t+1))
          simp-implicitDefEqProofs (disch:=(first|omega|decide)) only[go_sem,↓reduceIte,seval,yB,e1,h1,wrap_i64,aa]
          exact⟨⟨j+1,jD⟩,by simp[hs,nr,A.under],by show b.length-(j+1)<b.length-j;omega⟩
       · have yB: ¬(j:Int)<(b.length:Int):=by omega
         rw[ad (by omega)]at*;have nr:iY ea b=de a b:=by rw[<-hea];rfl
         simp-implicitDefEqProofs (disch:=(first|omega|decide)) only[go_sem,↓reduceIte,seval,yB,nr,aa]
def WU:aW:=Tq.add 183 (entry (fun(v:List bH×Int)=>[.ay (v.1.map bH.enc),.int .i64 v.2]) (fun v=>v.1.length<=4611686018427387904) (fun v=> .bool (aX v.1 v.2)))
theorem T13d_ok:aN Tryz.prog WU:=Zw.dH Tryz.func183 (by kernel_rfl) (by kernel_rfl) fun v h=>Td v.1 v.2 h
theorem H0(v:List bH×Int)(h:v.1.length<=4611686018427387904):WU.f 183 [.ay (v.1.map bH.enc),.int .i64 v.2]=some (.bool (aX v.1 v.2)):=aW.aZ (Γ:=Tq) (fun i j h=>by simpa[ag,and_assoc]using h) v h
@[go_sem] theorem t_ref13_Has{l:List bH}{n:Int}(h:l.length<=4611686018427387904):WU.f 183 [.ay (l.map bH.enc),.int .i64 n]=some (.bool (aX l n)):=H0 (l,n) h
def Pr:aW:=WU.add 246 (entry (fun(v:List bH×List bH)=>[.ay (v.1.map bH.enc),.ay (v.2.map bH.enc)]) (fun v=>v.1.length<=50000/\v.2.length<=50000) (fun v=> .ay ((de v.1 v.2).map (A.int .i64))))
theorem Zx:aN Tryz.prog Pr:=T13d_ok.dH Tryz.func246 (by kernel_rfl) (by kernel_rfl) fun v h=>K9 v.1 v.2 h.1 h.2
@[go_sem] theorem T13e_old{g:FuncId}{xs:List A}(h:g≠246):Pr.f g xs=WU.f g xs:=aW.aU h
@[go_sem] theorem T13e_s:Pr.pl WU:=⟨fun _=>rfl,fun _=>rfl,rfl,fun _=>rfl,rfl,fun _=>rfl,rfl⟩
theorem Cq(v:List bH×List bH)(h:v.1.length<=50000/\v.2.length<=50000):Pr.f 246 [.ay (v.1.map bH.enc),.ay (v.2.map bH.enc)]=some (.ay ((de v.1 v.2).map (A.int .i64))):=aW.aZ (Γ:=WU) (fun i j h=>by simpa[ag,and_assoc]using h) v h
@[go_sem] theorem t_ref13_Edges{a b:List bH}(h:a.length<=50000/\b.length<=50000):Pr.f 246 [.ay (a.map bH.enc),.ay (b.map bH.enc)]=some (.ay ((de a b).map (A.int .i64))):=Cq (a,b) h
theorem H3{α:List A}{x v:A}: ∀{l:List A},fE (l++[x]) l.length v=l++[v]
 | []=>rfl
 |y::l=>by simp only[bF,aG,fE,H3 (α:=α)]
theorem mE{x:A}: ∀{l:List A},(l++[x])[l.length]? =some x
 | []=>rfl
 |y::l=>by simp[mE]
theorem Zy{l:List Int}{k:Nat}(h:k<l.length):(l.map (A.int .i64))[k]? =some (.int .i64 (l[k]!)):=by rw[aT,ae h,getElem!_pos l k h];rfl
def tO(acc:List bH):List A:=acc.reverse.map bH.enc
theorem xK(q:bH)(qs:List bH):tO (q::qs)=tO qs++[.agg [.int .i64 q.f,.int .i64 q.t]]:=by simp[tO,bH.enc,bH.cells]
theorem AW(l:List bH):(tO l).length=l.length:=by simp[tO]
theorem Tr:tO []=[]:=rfl
def Ps(op:Int):Prop:=op=1\/op=2\/op=3
theorem K_:aQ Tryz.prog Pr Tryz.f223.ntmps (Tryz.f223.body.getD .skip)=true:=by kernel_rfl
theorem Pt(op:Int)(a b:List bH)(ho:Ps op)(ha:a.length<=50000)(hb:b.length<=50000):bp Tryz.prog 223 [.int .i64 op,.ay (a.map bH.enc),.ay (b.map bH.enc)] (· = .ay ((fM (oq op a b)).map bH.enc)):=by
 refine ah Zx mixed Tryz.func223 rfl (ab rfl) K_ ?_;unfold Tryz.f223;have hel:=HT a b;have nn:=Pj op a b;have H4:=AS op a b;have hup:=pH a b;have hrng: ∀k,k<(de a b).length->1<=(de a b)[k]! /\(de a b)[k]! <=1099511627777:=fun k hk=>uJ (a:=a) (b:=b) (by rw[getElem!_pos _ k hk];exact ao _)
 simp-implicitDefEqProofs (disch:=(first|omega|decide)) only[go_sem,↓reduceIte,seval,aa,ha,hb]
 generalize he:de a b=e at*;refine ch 8 2 rfl ?_;refine a_ [0,1,2,6,7] (ι:={k:Nat//k<=e.length-1}) (fun p=>[(9,.int .i64 p.1),(8,.row 0 0 2 (Cl (oq op a b) e p.1).length false)]) (fun p=>[(0,.row 2 (tO (Cl (oq op a b) e p.1)))]) (fun p=>e.length-p.1) ⟨0,by omega⟩ (aw _) ?_ ?_
 · simp-implicitDefEqProofs (disch:=(first|omega|decide)) only[go_sem,↓reduceIte,seval,Cl,Tr]
   done
 · rintro⟨k,hk⟩
   simp only;have hlen:=Ph (oq op a b) e k;by_cases bo:k+1<e.length
   · have aH:(k:Int)+1<(e.length:Int):=by omega
     have e1:=Zy (l:=e) (k:=k) (by omega)
     have e2:=Zy (l:=e) (k:=k+1) bo;obtain⟨s1,s2,s3,s4⟩:=H4 k (by omega)
     have Cr:=ze hup (kC k) bo;have r1:=hrng k (by omega)
     have r2:=hrng (k+1) bo;have hmk:Cl (oq op a b) e (k+1)=if oq op a b (e[k]!)then fW (Cl (oq op a b) e k) ⟨e[k]!,e[k+1]! -1⟩else Cl (oq op a b) e k:=rfl
     generalize hx:e[k]! =x at*;generalize hy:e[k+1]! =y at*;generalize hm:Cl (oq op a b) e k=m at*;have hP:oq op a b x=opF op (aX a x) (aX b x):=rfl;have t1:((k:Int)+1).toNat=k+1:=by omega
     have t2:(0:Int)<=(k:Int)+1:=by omega
     have t3:(0:Int)<=(k:Int):=by omega
     have skip:oq op a b x=false->Cl (oq op a b) e (k+1)=m:=fun h=>by rw[hmk,h];rfl
     have fin: ∀m',Cl (oq op a b) e (k+1)=m'-> ∃j:{k:Nat//k<=e.length-1},(((k:Int)+1=(j.1:Int)/\m'.length=(Cl (oq op a b) e j.1).length)/\tO m'=tO (Cl (oq op a b) e j.1))/\e.length-j.1<e.length-k:=fun m' oo=>⟨⟨k+1,by omega⟩,⟨⟨by simp,by rw[oo]⟩,by rw[oo]⟩,by show e.length-(k+1)<e.length-k;omega⟩
     cases hp:oq op a b x with
     |false=>
      have hs:=skip hp;rcases ho with rfl|rfl|rfl<;>cases hax:aX a x<;>cases hbx:aX b x<;>rw[hax,hbx]at hP<;>simp[opF,hp]at hP<;>simp-implicitDefEqProofs (maxSteps:=600000) (disch:=(first|omega|decide)) only[go_sem,↓reduceIte,seval,aH,e1,e2,hax,hbx,t1,t2,t3,wrap_i64,aa]
      all_goals exact fin m hs
     |true=>
      have hs:Cl (oq op a b) e (k+1)=fW m ⟨x,y-1⟩:=by rw[hmk,hp];rfl
      have rP:=fin _ hs;cases m with
      |nil=>
       rw[Tr]
       rcases ho with rfl|rfl|rfl<;>cases hax:aX a x<;>cases hbx:aX b x<;>rw[hax,hbx]at hP<;>simp[opF,hp]at hP<;>simp-implicitDefEqProofs (maxSteps:=600000) (disch:=(first|omega|decide)) only[go_sem,↓reduceIte,seval,aH,e1,e2,hax,hbx,t1,t2,t3,wrap_i64,aa]
       all_goals exact rP
      |cons q qs=>
       have hqt:q.t<x:=s2;rw[xK]at*;have hlq:qs.length+1<=k:=hlen;have c0:(0:Int)<((qs.length+1:Nat):Int):=by omega
       have c1:(((qs.length+1:Nat):Int)-1).toNat=qs.length:=by omega
       have c2:(0:Int)<=((qs.length+1:Nat):Int)-1:=by omega
       have c3:((qs.length+1:Nat):Int)-1<((qs.length+1:Nat):Int):=by omega
       have g1:(tO qs++[A.agg [.int .i64 q.f,.int .i64 q.t]])[qs.length]? =some (.agg [.int .i64 q.f,.int .i64 q.t]):=by
          have:=mE (x:=A.agg [.int .i64 q.f,.int .i64 q.t]) (l:=tO qs)
          rwa [AW]at this
       have g2: ∀v,fE (tO qs++[A.agg [.int .i64 q.f,.int .i64 q.t]]) qs.length v=tO qs++[v]:=fun v=>by
          have:=H3 (x:=A.agg [.int .i64 q.f,.int .i64 q.t]) (v:=v) (l:=tO qs) (α:=[])
          rwa [AW]at this
       have gl:(tO qs++[A.agg [.int .i64 q.f,.int .i64 q.t]]).length=qs.length+1:=by rw[aj,AW];rfl
       have gt:(tO qs++[A.agg [.int .i64 q.f,.int .i64 q.t]]).take (qs.length+1)=tO qs++[A.agg [.int .i64 q.f,.int .i64 q.t]]:=ad (di gl)
       cases hq:(q.t==x-1)with
       |true=>
          have RP:q.t=x-1:=by simpa using hq
          have Pu:fW (q::qs) ⟨x,y-1⟩=⟨q.f,y-1⟩::qs:=by
           simp only[fW]
           rw[if_pos (by omega),if_pos (by omega)]
          rw[Pu,xK]at rP;rcases ho with rfl|rfl|rfl<;>cases hax:aX a x<;>cases hbx:aX b x<;>rw[hax,hbx]at hP<;>simp[opF,hp]at hP<;>simp-implicitDefEqProofs (maxSteps:=600000) (disch:=(first|omega|decide)) only[go_sem,↓reduceIte,seval,aH,e1,e2,hax,hbx,t1,t2,t3,c0,c1,c2,c3,g1,g2,hq,wrap_i64,aa]
          all_goals exact rP
       |false=>
          have RP:q.t≠x-1:=by simpa using hq
          have Pu:fW (q::qs) ⟨x,y-1⟩=⟨x,y-1⟩::q::qs:=by
           simp only[fW]
           rw[if_neg (by omega)]
          rw[Pu,xK,xK]at rP;rcases ho with rfl|rfl|rfl<;>cases hax:aX a x<;>cases hbx:aX b x<;>rw[hax,hbx]at hP<;>simp[opF,hp]at hP<;>simp-implicitDefEqProofs (maxSteps:=600000) (disch:=(first|omega|decide)) only[go_sem,↓reduceIte,seval,aH,e1,e2,hax,hbx,t1,t2,t3,c0,c1,c2,c3,g1,g2,gl,gt,hq,wrap_i64,aa]
          all_goals exact⟨⟨ai _,by omega⟩,rP⟩
   · have aH: ¬(k:Int)+1<(e.length:Int):=by omega
     have M9:k=e.length-1:=by omega
     subst M9;have nr:(tO (Cl (oq op a b) e (e.length-1)))=(fM (oq op a b)).map bH.enc:=by unfold tO;rw[nn]
     have RT:(Cl (oq op a b) e (e.length-1)).length=(tO (Cl (oq op a b) e (e.length-1))).length:=by rw[AW]
     simp-implicitDefEqProofs (disch:=(first|omega|decide)) only[go_sem,↓reduceIte,seval,aH,wrap_i64,RT,aa,ca]
     rw[nr]
     exact⟨ai _,rfl⟩
end Go.Proofs.YtfnohjheonlnmaaGreat
namespace Go.dF
theorem callH_nil{P:Program}{f:FuncId}{xs:List A}{S:List Nat}(k:Nat)(h:jb P f xs [] .d_ [] S):jb P f xs [] (.row 0 0 k 0 false) [.row k []] S:=by
 intro N φ w vs hN mQ dR fY;refine Calls.mono (h N φ w vs hN mQ dR fY) ?_;rintro e w' ⟨v,j4,rfl,hv,hrel',ht,hl⟩
 have e1:φ=[]:=aV.1 mQ.len;have e2:j4=[]:=aV.1 hrel'.len;subst e1;subst e2;refine⟨v,[.nil],rfl, ?_, ?_, ?_,aw _⟩
 · simp only[bU]at hv⊢
   exact .inl ⟨.nil,rfl,by simp,trivial,fun _=>trivial,none,hv⟩
 · exact{
    len:=rfl
    gp:=fun n o p ho hp=>by
     cases n with
     |succ n=>simp[ff]at ho
     |zero=>
      simp only[ff,bf]at ho;simp at hp;subst ho;subst hp;simp[cb]
    own:=fun n b k' hn=>by cases n<;>simp at hn
    inj:=fun n m b k' Ky hn=>by cases n<;>simp at hn}
 · exact{
    os:=ht.os
    tape:=ht.tape
    output:=ht.output
    drawn:=ht.drawn
    size:=ht.size
    block:=ht.block
    shape:=ht.shape
    own:=fun n b k' hn=>by cases n<;>simp at hn
    stay:=fun n p _ hn=>by simp at hn}
theorem callH_emp{P:Program}{f:FuncId}{H H':List Obj}{r:A}{S:List Nat}(h1:jb P f [.emp true] H r H' S)(h2:jb P f [.emp false] H r H' S):jb P f [.ay []] H r H' S:=fun N φ w vs hN mQ dR hr=>by
 simp only[cH,bU]at hr;obtain⟨v,_,rfl,⟨_,a,cap,rfl,_,_⟩,rfl⟩:=hr;cases a with
 |none=>exact h1 N φ w _ hN mQ dR (by simp only[cH,bU];exact⟨_,_,rfl,⟨none,cap,rfl,rfl⟩,rfl⟩)
 |some q=>exact h2 N φ w _ hN mQ dR (by simp only[cH,bU];exact⟨_,_,rfl,⟨some q,cap,rfl,rfl⟩,rfl⟩)
theorem H5{P:Program}{f:FuncId}{xs ys:List A}{r:A}(h:bp P f ys (· =r))(hx: ∀(E:Env) (vs:List Value),cH E xs vs->cH E ys vs)(hp:r.pure=true):jb P f xs [] r [] []:=by
 intro N φ w vs hN mQ dR fY;have e1:φ=[]:=aV.1 mQ.len;subst e1
 have WV: ∀b,(bB N [] w).N b->b<w.heap.size:=fun b hb=>by
  rcases hb with hb|⟨n,k,hn⟩
  · exact hN b hb
  · simp at hn
 refine Calls.mono (h (bB N [] w).N w vs WV (hx _ _ fY)) ?_;rintro e w' ⟨v,r',rfl,rfl,hr,hg⟩
 refine⟨v,[],rfl, ?_, ?_, ?_,ai _⟩
 · exact hr
 · exact{len:=rfl,gp:=fun n o p ho=>by cases n<;>simp[ff]at ho,own:=fun n b k hn=>by simp at hn,inj:=fun n m b k k' hn=>by simp at hn}
 · exact{
    os:=hg.os
    tape:=hg.tape
    output:=hg.output
    drawn:=hg.drawn
    size:=hg.size
    block:=fun b hb _=>hg.block b hb
    shape:=fun b c e fr hb=>⟨c,fr,by rw[hg.block b (bR.1 hb).1];exact hb,rfl⟩
    own:=fun n b k hn=>by simp at hn
    stay:=fun n p _ hn=>hn}
theorem Pv{E:Env}{es:List A}{v:Value}(h:bU E (.clip es) v):bU E (.ay es) v:=by simp only[bU]at h⊢;obtain⟨hp,a,hv,hl⟩:=h;exact⟨hp,a,_,hv,ai _,hl⟩
theorem mF{x v:A}: ∀{l:List A},fE (l++[x]) l.length v=l++[v]
 | []=>rfl
 |y::l=>by simp only[bF,aG,fE,mF]
theorem mE{x:A}: ∀{l:List A},(l++[x])[l.length]? =some x
 | []=>rfl
 |y::l=>by simp[mE]
open Go.RowKit
structure Ts(b:Nat)(D:List Value)(w w':World):Prop where
 os:w'.os=w.os
 tape:w'.tape=w.tape
 output:w'.output=w.output
 drawn:w.drawn<=w'.drawn
 size:w.heap.size<=w'.heap.size
 block: ∀c,c<w.heap.size->c≠b->w'.heap[c]? =w.heap[c]?
 self: ∀(cc:Array Value) (e:TypeId) (fr:Nat×Nat),w.heap[b]? =some (.cells cc e fr)-> ∃Sj,w'.heap[b]? =some (.cells Sj e fr)/\Sj.size=cc.size
 cells:w'.rangeAt b 0 D
theorem AX{P:Program}{f g:FuncId}{k:Nat}{c:Bool}{es Ev:List A}{D:List Value}(hk:0<k)(hD: ∀E,bK E k Ev D)(hp:A.pure.cX Ev=true)(h1: ∀u∈D,u.oneCell'=true)(hlen:Ev.length=es.length)
 (OS:es=[]-> ∀(w:World) (q:Option Addr) (cap:Nat),Calls P f #[.slice q 0 cap,.func (.func g) #[] #[]] w fun e w'=>e= .returned (.tuple #[])/\w'=w)
 (vR: ∀(E:Env) (b cap:Nat) (cc:Array Value) (e:TypeId) (fr:Nat×Nat),es≠ []->E.w.heap[b]? =some (.cells cc e fr)->tv cc fr->jR E k b 0 es->k*cap<=cc.size->es.length<=cap->
  Calls P f #[.slice (some ⟨b,0,none⟩) es.length cap,.func (.func g) #[] #[]] E.w fun e w'=>e= .returned (.tuple #[])/\Ts b D E.w w'):
 jb P f [.row 0 0 k es.length c,.fn g []] [.row k es] (.fq []) [.row k Ev] []:=by
 intro N φ w vs hN mQ dR fY;simp only[cH]at fY;obtain⟨v0,_,rfl,hv0,v1,_,rfl,hv1,rfl⟩:=fY;simp only[bU,cH]at hv1;obtain⟨us,rfl,rfl⟩:=hv1;have hφl:φ.length=1:=mQ.len;have stay: ∀(w':World),w'=w-> ∃v j4,(Ending.returned (.tuple #[]):Ending)= .returned v/\bU (bB N j4 w') (.fq []) v/\uw N j4 [.row k es] w'/\Sv φ w [] j4 w'/\1<=1:=by rintro w' rfl;exact⟨_,φ,rfl,by simp[bU,cH],mQ,⟨rfl,rfl,rfl,ai _,ai _,fun _ _ _=>rfl,fun _ c _ fr h=>⟨c,fr,h,rfl⟩,fun n b k hn=> .inr ⟨n,k,hn⟩,fun _ _ _ h=>h⟩,ai _⟩
 have AD:es=[]-> ∀(q:Option Addr) (cap:Nat),Calls P f #[.slice q 0 cap,.func (.func g) #[] #[]] w fun e w'=> ∃v j4,e= .returned v/\bU (bB N j4 w') (.fq []) v/\uw N j4 [.row k Ev] w'/\Sv φ w [] j4 w'/\ [Obj.row k es].length<=[Obj.row k Ev].length:=by
  intro GZ q cap;have hes':Ev=es:=by subst GZ;exact aV.1 (by simpa using hlen)
  rw[hes']
  refine Calls.mono (OS GZ w q cap) ?_;rintro e w' ⟨rfl,hw⟩
  exact stay w' hw
 by_cases GZ:es=[]
 · have hl0:es.length=0:=by rw[GZ];rfl
   simp only[bU]at hv0;rcases hv0 with⟨o,_,_,_,_,q,rfl⟩|⟨b,cap,c',e',fr,kP,rfl,xj,_,hb,KI⟩
   · exact AD GZ q 0
   · rw[hl0];exact AD GZ _ cap
 · simp only[bU]at hv0
   rcases hv0 with⟨o,_,_,h0,_⟩|⟨b,cap,c',e',fr,kP,rfl,xj,_,hb,KI⟩
   · exact absurd (aV.1 h0) GZ
   · have kQ:=mQ.gp 0 (.row k es) (.loc b k) rfl kP
     simp only[cb]at kQ;obtain⟨_,VH,⟨cc,ee,ffr,VI,hunf⟩,hE⟩:=kQ;have vN:w.heap[b]? =some (.cells c' e' fr):=hb;have vQ:w.heap[b]? =some (.cells cc ee ffr):=VI;rw[vN]at vQ;simp only[bf,pg]at vQ;obtain⟨rfl,rfl,rfl⟩:=vQ;rw[nD]at KI⊢;refine Calls.mono (vR (bB N φ w) b cap c' e' fr GZ vN hunf hE (by omega) xj) ?_;rintro e w' ⟨rfl,hT⟩
     obtain⟨Sj,vQ,qY⟩:=hT.self c' e' fr vN;have hwid:w'.heap.size>=w.heap.size:=hT.size;refine⟨_,φ,rfl,by simp[bU,cH], ?_, ?_,ai _⟩
     · exact{
        len:=by simpa using hφl
        gp:=fun n o p ho yu=>by
         cases n with
         |succ n=>simp[ff]at ho
         |zero=>
          simp only[ff,bf]at ho;subst ho;have OG:φ[0]? =some (ia.loc b k):=kP;rw[OG]at yu;obtain rfl:=an yu;simp only[cb]
          refine⟨trivial,hp,⟨Sj,e',fr,vQ,fun j hj=>hunf j (by omega)⟩, ?_⟩
          exact bK.mem (hD (bB N φ w')) hT.cells h1
        own:=fun n b' k' hn=>⟨cG (mQ.own n b' k' hn).1 hT.size,(mQ.own n b' k' hn).2⟩
        inj:=mQ.inj}
     · exact{
        os:=hT.os
        tape:=hT.tape
        output:=hT.output
        drawn:=hT.drawn
        size:=hT.size
        block:=fun b' vN th=>hT.block b' vN fun e=>by subst e;exact th 0 k kP
        shape:=fun b' c₁ e₁ fr₁ h₁=>by
         by_cases hbb:b'=b
         · subst hbb
           obtain⟨c₂,h₂,h₃⟩:=hT.self c₁ e₁ fr₁ h₁;exact⟨c₂,fr₁,h₂,h₃⟩
         · have:b'<w.heap.size:=(bR.1 h₁).1
           exact⟨c₁,fr₁,by rw[hT.block b' this hbb];exact h₁,rfl⟩
        own:=fun n b' k' hn=> .inr ⟨n,k',hn⟩
        stay:=fun _ _ _ h=>h}
def mS:A->Value
 | .int k n=> .int k n
 | .bool b=> .bool b
 | .str s=> .string ⟨s.toArray⟩
 |_=>undef
def scalar:A->Bool
 | .int _ _=>true
 | .bool _=>true
 | .str _=>true
 |_=>false
theorem pI{E:Env}{x:A}{v:Value}(h:scalar x=true):bU E x v ↔ v=mS x:=by cases x<;>simp[scalar]at h<;>simp[bU,mS]
theorem zf{x:A}(h:scalar x=true):(mS x).oneCell'=true:=by cases x<;>simp[scalar]at h<;>rfl
theorem Ec{x:A}(h:scalar x=true):x.pure=true:=by cases x<;>simp[scalar]at h<;>simp[A.pure]
theorem qO{E:Env}: ∀{xs:List A},(∀x∈xs,scalar x=true)->cH E xs (xs.map mS)
 | [],_=>by simp[cH]
 |x::xs,h=>by
  simp only[aS,cH]
  exact⟨_,_,rfl,(pI (h x (by simp))).2 rfl,qO fun y hy=>h y (by simp[hy])⟩
theorem yC: ∀{xs:List A},(∀x∈xs,scalar x=true)->A.pure.cX xs=true
 | [],_=>rfl
 |x::xs,h=>by
  simp only[A.pure.cX,ak]
  exact⟨Ec (h x (by simp)),yC fun y hy=>h y (by simp[hy])⟩
theorem Ed{α:Type}{k:Nat}(hk:0<k): ∀{ls:List (List α)},(∀l∈ls,l.length=k)-> ∀j:Nat,ls.flatten[j]? =(ls[j/k]?).bind fun l=>l[j % k]?
 | [],_,j=>by simp
 |l::ls,h,j=>by
  have hl:=h l (by simp)
  rw[iJ]
  by_cases hj:j<k
  · rw[ck (by omega),Nat.div_eq_of_lt hj,qu hj];simp
  · rw[bX (by omega),Ed hk (fun x hx=>h x (by simp[hx])) (j-l.length),hl]
    have h1:j/k=(j-k)/k+1:=by rw[Nat.div_eq_sub_div hk (by omega)]
    have h2:j % k=(j-k) % k:=by rw[Nat.mod_eq_sub_mod (by omega)]
    rw[h1,h2];simp
theorem Ee{E:Env}{k:Nat}{β:Type}{enc:β->List A}(hk: ∀x,(enc x).length=k)(hs: ∀x,∀a∈enc x,scalar a=true): ∀l:List β,bK E k (l.map fun x=> .agg (enc x)) ((l.map fun x=>(enc x).map mS).flatten)
 | []=>by simp[bK]
 |x::l=>by
  have h1:((enc x).map mS).length=k:=by rw[aa,hk]
  simp only[aS,bK,A.cells,iJ]
  refine⟨hk x,by rw[aj];omega, ?_, ?_⟩
  · rw[cO (by omega),ad (by omega)]
    exact qO (hs x)
  · rw[ep (by omega),aC (by omega)]
    exact Ee hk hs l
theorem H6{E:Env}{β:Type}{enc:β->A}(hs: ∀x,scalar (enc x)=true): ∀l:List β,bK E 1 (l.map enc) (l.map fun x=>mS (enc x))
 | []=>by simp[bK]
 |x::l=>by
  have hc:(enc x).cells=[enc x]:=by have:=hs x;cases h:enc x<;>rw[h]at this<;>simp[scalar]at this<;>rfl
  simp only[aS,bK,hc]
  refine⟨rfl,by simp, ?_, ?_⟩
  · simp only[jh,mc,cH]
    exact⟨_,[],rfl,(pI (hs x)).2 rfl,rfl⟩
  · simpa using H6 hs l
theorem Cs{β:Type}{f:β->A}(h: ∀x,(f x).pure=true): ∀l:List β,A.pure.cX (l.map f)=true
 | []=>rfl
 |x::l=>by simp[A.pure.cX,h x,Cs h l]
open Go.Sort in
theorem NJ{w w':World}(g:jT w w'): ∃q os,w'=Sort.grow (w.drewN q) os:=by
 refine⟨w'.drawn-w.drawn,w'.heap.extract w.heap.size w'.heap.size, ?_⟩
 have hh:w.heap++w'.heap.extract w.heap.size w'.heap.size=w'.heap:=by
  have qY:=g.size;apply Array.ext_getElem?;intro i;by_cases hi:i<w.heap.size
  · rw[fI hi,g.block i hi]
  · rw[Array.getElem?_append_right (by omega),Array.getElem?_extract]
    by_cases h2:i<w'.heap.size
    · rw[if_pos (by omega),show w.heap.size+(i-w.heap.size)=i by omega]
    · rw[if_neg (by omega),mZ (by omega)]
 have hd:=g.drawn;unfold Sort.grow World.drewN;rw[show w.drawn+(w'.drawn-w.drawn)=w'.drawn by omega]
 obtain⟨heap,tape,drawn,os,output⟩:=w';have h1:=g.os;have h2:=g.tape;have h3:=g.output;simp only at h1 h2 h3 hh⊢;rw[hh,h1,h2,h3]
open Go.Sort in
theorem Ef{w:World}{b n:Nat}{F F0:Array Value}{os:Array Go.Obj}(h0:Holds id w b 0 F0)(hs:F.size=F0.size)(hb:b<w.heap.size):Ts b F.toList w (Sort.grow (putRow id (Sort.ahead w n) b 0 F) os) where
 os:=rfl
 tape:=rfl
 output:=rfl
 drawn:=Nat.le_add_right _ _
 size:=by show w.heap.size<=((w.heap.modify b _)++os).size;simp
 block:=fun c hc eH=>by show((w.heap.modify b _)++os)[c]? =_;rw[fI (by simpa using hc),nq,if_neg (fw eH)]
 self:=fun cc e fr VI=>by
  refine⟨putCells id 0 F cc, ?_,by simp[putCells]⟩
  show((w.heap.modify b _)++os)[b]? =_;rw[fI (by simpa using hb),nq,if_pos rfl,VI]
  rfl
 cells:=fun j v hj=>by
  have hjF:j<F.size:=by have:=(aA.1 hj).1;simpa using this
  have h1:=cell?_putRow id (Sort.ahead w n) b 0 F0 F (holds_ahead id w n b 0 F0 h0) hs j hjF
  have h2:(Sort.grow (putRow id (Sort.ahead w n) b 0 F) os).cell? ⟨b,0+j,none⟩=(putRow id (Sort.ahead w n) b 0 F).cell? ⟨b,0+j,none⟩:=by
   unfold World.cell?;show(match((putRow id (Sort.ahead w n) b 0 F).heap++os)[b]? with|some (.cells c _ _)=>_|_=>none)=_;rw[fI (by simpa using hb)]
   rfl
  rw[h2,h1]
  have:F[j]! =v:=by
   rw[getElem!_pos F j hjF]
   have:=(aA.1 hj).2;simpa using this
  rw[this];rfl
theorem Eg{w:World}{b:Nat}{c:Array Value}{e:TypeId}{fr:Nat×Nat}(hb:w.heap[b]? =some (.cells c e fr))(hf:tv c fr){j:Nat}(hj:j<c.size):w.frozen? ⟨b,j,none⟩=false:=by have:=(vP (w:=w) (b:=b) (off:=j) (n:=1) hb hf (by omega) 0 (by omega)).2;simpa using this
def gZ{β:Type} [Inhabited β](cf:β->β->Int)(l:List β):List β:=(Sort.pdq (Go.Proofs.ltOf cf) l.toArray 0 l.toArray.size (Lib.bitLen l.toArray.size) true true).toList
theorem i_{β:Type} [Inhabited β]{cf:β->β->Int}(hO:Sort.SWO (Go.Proofs.ltOf cf))(l:List β):(gZ cf l).Perm l/\(gZ cf l).Pairwise (fun x y=> ¬cf y x<0):=by
 obtain⟨⟨h1,_,h3⟩,h4⟩:=Sort.pdq_sorts (Go.Proofs.ltOf cf) hO l.toArray 0 l.toArray.size (Lib.bitLen l.toArray.size) true true (aw _) (ai _) (Or.inl rfl)
 refine⟨?_, ?_⟩
 · unfold gZ
   have e: ∀d:Array β,d.size=l.toArray.size->d.extract 0 l.toArray.size=d:=fun d hd=>by rw[<-hd];simp
   rw[e _ h1,e _ rfl]at h3;simpa using h3
 · unfold gZ
   rw[b9]
   intro i j hi hj Cc;have BM:j<l.toArray.size:=by rw[<-h1];simpa using hj
   have:=h4 i j (aw _) Cc BM;have hi2:i<(Sort.pdq (Go.Proofs.ltOf cf) l.toArray 0 l.toArray.size (Lib.bitLen l.toArray.size) true true).size:=by simpa using hi
   have hj2:j<(Sort.pdq (Go.Proofs.ltOf cf) l.toArray 0 l.toArray.size (Lib.bitLen l.toArray.size) true true).size:=by simpa using hj
   rw[getElem!_pos _ i hi2,getElem!_pos _ j hj2]at this;simpa[Go.Proofs.ltOf]using this
open Go.Shelf Go.Lib Go.Sort Go.Proofs in
/-- slices.SortFunc of structs, by a function that captures nothing. -/
theorem wE{P:Program}{ρ:Ren}{β:Type} [Inhabited β](L:SlLaysF0.n6 P ρ){k:Nat}(Ey:0<k)(aE: ∀w,(isAgg (ρ.t 24)).run P w= .ok true w)(zE: ∀w,(Go.sizeOf (ρ.t 24)).run P w= .ok k w)(enc:β->List A)(hk: ∀x,(enc x).length=k)(hs: ∀x,∀a∈enc x,scalar a=true)
 (cf:β->β->Int) (hO:SWO (ltOf cf)) {g:FuncId} (hg:oI P g) (hcmp: ∀x y,bp P g [.agg (enc x),.agg (enc y)] (· = .int .i64 (cf x y))) (l:List β) (qY:l.length<4611686018427387904) (c:Bool):
 jb P (ρ.f 6) [.row 0 0 k l.length c,.fn g []] [.row k (l.map fun x=> .agg (enc x))] (.fq []) [.row k ((gZ cf l).map fun x=> .agg (enc x))] []:=by
 have hperm:=(i_ hO l).1;have hl1:(l.map fun x=>A.agg (enc x)).length=l.length:=aa _;have hle: ∀x,((enc x).map mS).length=k:=fun x=>by rw[aa,hk]
 have gw: ∀x,∀v∈(enc x).map mS,v.oneCell'=true:=fun x v hv=>by obtain⟨a,ha,rfl⟩:=bZ.1 hv;exact zf (hs x a ha)
 have:=AX (P:=P) (f:=ρ.f 6) (g:=g) (k:=k) (c:=c) (es:=l.map fun x=>A.agg (enc x)) (Ev:=(gZ cf l).map fun x=>A.agg (enc x)) (D:=((gZ cf l).map fun x=>(enc x).map mS).flatten) Ey
  (fun E=>Ee hk hs _) (Cs (fun x=>by simp only[A.pure];exact yC (hs x)) _) (fun u hu=>by obtain⟨ys,DF,hu⟩:=ng.1 hu;obtain⟨x,_,rfl⟩:=bZ.1 DF;exact gw x u hu) (by rw[aa,aa];exact hperm.length_eq)
  (fun _ w q cap=>AnyF.slices_SortFunc_none L q cap _ w) ?_
 · rw[hl1]at this;exact this
 intro E b cap cc e fr eH hb hunf hE KI xj;rw[hl1]at xj⊢;have hbs:b<E.w.heap.size:=(bR.1 hb).1;have hmul:l.length*k<=cc.size:=aL (by rw[lE];exact uq _ xj) KI
 have hH:HoldsK (fun x=>(enc x).map mS) k E.w b 0 l.toArray:=by
  intro j hj;rw[size_flatK]at hj;have BM:j<l.length*k:=by simpa using hj
  have hq:j/k<l.length:=(ki Ey).2 BM;have hr:j % k<k:=Nat.mod_lt _ Ey;refine⟨?_,by rw[bY];exact Eg hb hunf (by omega)⟩
  obtain⟨_,hM⟩:=gO.1 hE (j/k) (.agg (enc l[j/k])) (by simp[hq])
  have hrl:j % k<(enc l[j/k]).length:=by rw[hk];exact hr
  obtain⟨v,hv,_,fY⟩:=dc.1 hM (j % k) _ (ae (by simpa[A.cells]using hrl))
  have B4:=(pI (hs _ _ (ao _))).1 fY;rw[show 0+j/k*k+j % k=0+j by rw[bY,bY,lE];exact Nat.div_add_mod j k]at hv;rw[hv,B4,get_flatK _ _ _ _ hj]
  simp only[id]
  have e1:l.toArray[j/k]! =l[j/k]:=by rw[getElem!_pos _ _ (by simpa using hq)];simp
  rw[e1,getElem!_pos _ _ (by rw[aa];exact hrl)]
  simp only[A.cells,List.getElem_map]
  rfl
 have o6:CmpLays P g #[] (fun x=>(enc x).map mS) k cf b 0 l.toArray.size E.w:=by
  intro m os dk hdk x y
  have fY:cH ⟨fun _=>False,[],sortWorldK (fun x=>(enc x).map mS) k E.w b 0 m dk os⟩ [.agg (enc x),.agg (enc y)] [.agg ((enc x).map mS).toArray,.agg ((enc y).map mS).toArray]:=by
   simp only[cH,bU]
   exact⟨_,_,rfl,⟨_,rfl,qO (hs x),gw x⟩,_,_,rfl,⟨_,rfl,qO (hs y),gw y⟩,rfl⟩
  refine Calls.mono (hcmp x y (fun _=>False) _ _ (fun b h=>h.elim) fY) ?_;rintro e w' ⟨v,r,rfl,rfl,hr,VJ⟩
  simp only[bU]at hr;subst hr;exact⟨rfl,NJ VJ⟩
 have Tt:=AnyQ.slices_SortFunc_eq L k aE zE (fun x=>(enc x).map mS) hle gw cf hO g #[] b 0 cap l.toArray E.w (fun args w=>qG hg args w) o6 hH hbs (by simpa using qY)
 have Tu:(pdq (ltOf cf) l.toArray 0 l.toArray.size (Lib.bitLen l.toArray.size) true true).size=l.toArray.size:=(pdq_sorts (ltOf cf) hO l.toArray 0 l.toArray.size (Lib.bitLen l.toArray.size) true true (aw _) (ai _) (Or.inl rfl)).1.1;have vz:l.toArray.size=l.length:=by simp
 rw[vz]at Tt;refine Calls.mono Tt ?_;rintro e w' ⟨rfl,n,os,rfl⟩
 refine⟨rfl, ?_⟩
 have Ao:((gZ cf l).map fun x=>(enc x).map mS).flatten=(flatK (fun x=>(enc x).map mS) k (pdq (ltOf cf) l.toArray 0 l.length (Lib.bitLen l.length) true true)).toList:=by
  rw[vz]at Tu;have hsl2:(gZ cf l)=(pdq (ltOf cf) l.toArray 0 l.length (Lib.bitLen l.length) true true).toList:=by unfold gZ;rw[vz]
  rw[hsl2]
  generalize pdq (ltOf cf) l.toArray 0 l.length (Lib.bitLen l.length) true true=d at Tu⊢;apply j0;intro j;rw[Ed Ey (fun ys DF=>by obtain⟨x,_,rfl⟩:=bZ.1 DF;exact hle x)]
  by_cases hj:j<d.size*k
  · have hq:j/k<d.size:=(ki Ey).2 hj
    have hr:j % k<k:=Nat.mod_lt _ Ey;have e1:(flatK (fun x=>(enc x).map mS) k d).toList[j]? =some ((flatK (fun x=>(enc x).map mS) k d)[j]!):=by rw[getElem!_pos _ j (by rw[size_flatK];exact hj)];simp[hj]
    rw[e1,get_flatK _ _ _ _ hj]
    rw[getElem!_pos d _ hq]
    have RP:j/k<d.toList.length:=by simpa using hq
    simp only[aT,ae RP,dT,aY]
    rw[getElem!_pos _ _ (by simp only[aa,hk];exact hr)]
    rw[ae (by simp only[aa,hk];exact hr)]
    simp
  · have hq:d.size<=j/k:=by
     rcases fT (j/k) d.size with h|h
     · exact absurd ((ki Ey).1 h) hj
     · exact h
    have e1:(flatK (fun x=>(enc x).map mS) k d).toList[j]? =none:=by rw[ez];rw[gW,size_flatK];omega
    rw[e1]
    simp[hq]
 rw[Ao]
 unfold sortWorldK putRowK;exact Ef hH (by rw[size_flatK,size_flatK];rw[vz]at Tu;rw[Tu,vz]) hbs
open Go.Shelf Go.Lib Go.Sort Go.Proofs in
/-- slices.SortFunc of scalars. -/
theorem Tv{P:Program}{ρ:Ren}{β:Type} [Inhabited β](L:SlLaysF.n6 P ρ)(L0:SlLaysF0.n6 P ρ)(enc:β->A)(hs: ∀x,scalar (enc x)=true)
 (cf:β->β->Int) (hO:SWO (ltOf cf)) {g:FuncId} (hg:oI P g) (hcmp: ∀x y,bp P g [enc x,enc y] (· = .int .i64 (cf x y))) (l:List β) (qY:l.length<4611686018427387904) (c:Bool):
 jb P (ρ.f 6) [.row 0 0 1 l.length c,.fn g []] [.row 1 (l.map enc)] (.fq []) [.row 1 ((gZ cf l).map enc)] []:=by
 have hperm:=(i_ hO l).1;have hl1:(l.map enc).length=l.length:=aa _;have hcell: ∀x,(enc x).cells=[enc x]:=fun x=>by have:=hs x;cases h:enc x<;>rw[h]at this<;>simp[scalar]at this<;>rfl
 have:=AX (P:=P) (f:=ρ.f 6) (g:=g) (k:=1) (c:=c) (es:=l.map enc) (Ev:=(gZ cf l).map enc) (D:=(gZ cf l).map fun x=>mS (enc x)) (by omega)
  (fun E=>H6 hs _) (Cs (fun x=>Ec (hs x)) _) (fun u hu=>by obtain⟨x,_,rfl⟩:=bZ.1 hu;exact zf (hs x)) (by rw[aa,aa];exact hperm.length_eq)
  (fun _ w q cap=>AnyF.slices_SortFunc_none L0 q cap _ w) ?_
 · rw[hl1]at this;exact this
 intro E b cap cc e fr eH hb hunf hE KI xj;rw[hl1]at xj⊢;have hbs:b<E.w.heap.size:=(bR.1 hb).1
 have hH:Holds (fun x=>mS (enc x)) E.w b 0 l.toArray:=by
  intro j hj;have BM:j<l.length:=by simpa using hj
  refine⟨?_,by rw[bY];exact Eg hb hunf (by omega)⟩
  obtain⟨_,hM⟩:=gO.1 hE j (enc l[j]) (by simp[BM])
  rw[hcell]at hM;obtain⟨v,hv,_,fY⟩:=R9.1 hM;have B4:=(pI (hs _)).1 fY;rw[mG]at hv;rw[hv,B4,getElem!_pos l.toArray j hj];simp
 have o6:CmpLays1 P g #[] (fun x=>mS (enc x)) cf b 0 l.toArray.size E.w:=by
  intro m os dk hdk x y
  have fY:cH ⟨fun _=>False,[],sortWorld (fun x=>mS (enc x)) E.w b 0 m dk os⟩ [enc x,enc y] [mS (enc x),mS (enc y)]:=by
   simp only[cH]
   exact⟨_,_,rfl,(pI (hs x)).2 rfl,_,_,rfl,(pI (hs y)).2 rfl,rfl⟩
  refine Calls.mono (hcmp x y (fun _=>False) _ _ (fun b h=>h.elim) fY) ?_;rintro e w' ⟨v,r,rfl,rfl,hr,VJ⟩
  simp only[bU]at hr;subst hr;exact⟨rfl,NJ VJ⟩
 have Tt:=Any.slices_SortFunc_eq L (fun x=>mS (enc x)) (fun x=>zf (hs x)) cf hO g #[] b 0 cap l.toArray E.w (fun args w=>qG hg args w) o6 hH hbs (by simpa using qY)
 have Tu:(pdq (ltOf cf) l.toArray 0 l.toArray.size (Lib.bitLen l.toArray.size) true true).size=l.toArray.size:=(pdq_sorts (ltOf cf) hO l.toArray 0 l.toArray.size (Lib.bitLen l.toArray.size) true true (aw _) (ai _) (Or.inl rfl)).1.1;have vz:l.toArray.size=l.length:=by simp
 rw[vz]at Tt Tu;refine Calls.mono Tt ?_;rintro e w' ⟨rfl,n,os,rfl⟩
 refine⟨rfl, ?_⟩
 have hsl2:(gZ cf l)=(pdq (ltOf cf) l.toArray 0 l.length (Lib.bitLen l.length) true true).toList:=by unfold gZ;rw[vz]
 rw[hsl2]
 generalize pdq (ltOf cf) l.toArray 0 l.length (Lib.bitLen l.length) true true=d at Tu⊢
 have hput: ∀(w:World) (d:Array β),putRow (fun x=>mS (enc x)) w b 0 d=putRow id w b 0 (d.map fun x=>mS (enc x)):=fun w d=>by
  unfold putRow
  congr 1
  funext c
  unfold putCells;apply Array.ext
  · simp
  · intro i h1 h2
    simp only[Array.getElem_mapIdx,Array.size_map,aw,true_and,bY,Nat.sub_zero,id]
    split
    · rename_i hi
      rw[getElem!_pos d i hi,getElem!_pos _ i (by simpa using hi)];simp
    · rfl
 have hH':Holds id E.w b 0 (l.toArray.map fun x=>mS (enc x)):=fun j hj=>by
  have BM:j<l.toArray.size:=by simpa using hj
  obtain⟨h1,h2⟩:=hH j BM;refine⟨?_,h2⟩
  rw[h1,getElem!_pos l.toArray j BM,getElem!_pos (l.toArray.map fun x=>mS (enc x)) j hj];simp
 have he:(d.toList.map fun x=>mS (enc x))=(d.map fun x=>mS (enc x)).toList:=by simp
 rw[he]
 unfold sortWorld;rw[hput]
 exact Ef hH' (by simp[Tu]) hbs
end Go.dF
namespace Go.Proofs
open Go.Shelf
def YtfnohjheonlnmaaGreat.Tw:Go.Shelf.Ren:=⟨fun|6=>234|15=>222|14=>265|28=>244|29=>245|20=>279|21=>280|22=>281|23=>282|24=>283|25=>284|26=>285|27=>286|46=>290|47=>267|48=>268|49=>291|50=>292|57=>293|n=>n,fun|22=>141|24=>146|25=>237|3=>3|39=>228|0=>0|53=>62|55=>248|4=>4|46=>240|45=>239|50=>244|5=>5|9=>9|66=>261|70=>265|76=>278|77=>279|n=>n,fun|n=>n⟩
theorem YtfnohjheonlnmaaGreat.sortRun:Go.Proofs.SlLaysF0.n6 Tryz.prog YtfnohjheonlnmaaGreat.Tw:={
 mixed:=by kernel_rfl
 f6:=⟨Tryz.f234.name,by decide,Tryz.func234.trans (congrArg some (by kernel_rfl))⟩
 f14:=⟨Tryz.f265.name,by decide,Tryz.func265.trans (congrArg some (by kernel_rfl))⟩
 f15:=Tryz.func222.trans (congrArg some (by kernel_rfl))
 f20:=⟨Tryz.f279.name,by decide,Tryz.func279.trans (congrArg some (by kernel_rfl))⟩
 f21:=⟨Tryz.f280.name,by decide,Tryz.func280.trans (congrArg some (by kernel_rfl))⟩
 f22:=⟨Tryz.f281.name,by decide,Tryz.func281.trans (congrArg some (by kernel_rfl))⟩
 f23:=⟨Tryz.f282.name,by decide,Tryz.func282.trans (congrArg some (by kernel_rfl))⟩
 f24:=⟨Tryz.f283.name,by decide,Tryz.func283.trans (congrArg some (by kernel_rfl))⟩
 f25:=⟨Tryz.f284.name,by decide,Tryz.func284.trans (congrArg some (by kernel_rfl))⟩
 f26:=⟨Tryz.f285.name,by decide,Tryz.func285.trans (congrArg some (by kernel_rfl))⟩
 f27:=⟨Tryz.f286.name,by decide,Tryz.func286.trans (congrArg some (by kernel_rfl))⟩
 f28:=Tryz.func244.trans (congrArg some (by kernel_rfl))
 f29:=Tryz.func245.trans (congrArg some (by kernel_rfl))
 f46:=⟨Tryz.f290.name,by decide,Tryz.func290.trans (congrArg some (by kernel_rfl))⟩
 f47:=Tryz.func267.trans (congrArg some (by kernel_rfl))
 f48:=Tryz.func268.trans (congrArg some (by kernel_rfl))
 f49:=⟨Tryz.f291.name,by decide,Tryz.func291.trans (congrArg some (by kernel_rfl))⟩
 f50:=⟨Tryz.f292.name,by decide,Tryz.func292.trans (congrArg some (by kernel_rfl))⟩
 f57:=⟨Tryz.f293.name,by decide,Tryz.func293.trans (congrArg some (by kernel_rfl))⟩
 t0:=Tryz.underlying0
 a0:=Tryz.isAgg0
 z0:=Tryz.sizeOf0
 v0:=Tryz.zeroValue0
 t3:=Tryz.underlying3
 a3:=Tryz.isAgg3
 z3:=Tryz.sizeOf3
 v3:=Tryz.zeroValue3
 t4:=Tryz.underlying4
 a4:=Tryz.isAgg4
 z4:=Tryz.sizeOf4
 v4:=Tryz.zeroValue4
 t5:=Tryz.underlying5
 a5:=Tryz.isAgg5
 z5:=Tryz.sizeOf5
 v5:=Tryz.zeroValue5
 t9:=Tryz.underlying9
 a9:=Tryz.isAgg9
 z9:=Tryz.sizeOf9
 v9:=Tryz.zeroValue9
 t22:=Tryz.underlying141
 a22:=Tryz.isAgg141
 z22:=Tryz.sizeOf141
 v22:=Tryz.zeroValue141
 t25:=Tryz.underlying237
 a25:=Tryz.isAgg237
 z25:=Tryz.sizeOf237
 v25:=Tryz.zeroValue237
 t39:=Tryz.underlying228
 a39:=Tryz.isAgg228
 z39:=Tryz.sizeOf228
 v39:=Tryz.zeroValue228
 t45:=Tryz.underlying239
 a45:=Tryz.isAgg239
 z45:=Tryz.sizeOf239
 v45:=Tryz.zeroValue239
 t46:=Tryz.underlying240
 a46:=Tryz.isAgg240
 z46:=Tryz.sizeOf240
 v46:=Tryz.zeroValue240
 t50:=Tryz.underlying244
 a50:=Tryz.isAgg244
 z50:=Tryz.sizeOf244
 v50:=Tryz.zeroValue244
 t53:=Tryz.underlying62
 a53:=Tryz.isAgg62
 z53:=Tryz.sizeOf62
 v53:=Tryz.zeroValue62
 t55:=Tryz.underlying248
 a55:=Tryz.isAgg248
 z55:=Tryz.sizeOf248
 v55:=Tryz.zeroValue248
 t66:=Tryz.underlying261
 a66:=Tryz.isAgg261
 z66:=Tryz.sizeOf261
 v66:=Tryz.zeroValue261
 t70:=Tryz.underlying265
 a70:=Tryz.isAgg265
 z70:=Tryz.sizeOf265
 v70:=Tryz.zeroValue265
 t76:=Tryz.underlying278
 a76:=Tryz.isAgg278
 z76:=Tryz.sizeOf278
 v76:=Tryz.zeroValue278
 t77:=Tryz.underlying279
 a77:=Tryz.isAgg279
 z77:=Tryz.sizeOf279
 v77:=Tryz.zeroValue279}
end Go.Proofs
namespace Go.Proofs.YtfnohjheonlnmaaGreat
open Go.dF
set_option linter.unusedSimpArgs false
set_option linter.unusedVariables false
set_option maxRecDepth 20000
set_option maxHeartbeats 4000000
theorem Ct:aQ Tryz.prog KV Tryz.f219.ntmps (Tryz.f219.body.getD .skip)=true:=by kernel_rfl
theorem Eh(l:List bH)(hl:l.length<=4398046511104):jb Tryz.prog 219 [.ay (l.map bH.enc)] [] (.row 0 0 2 l.length false) [.row 2 (l.map bH.enc)] []:=by
 cases l with
 |nil=>
  refine callH_emp (callH_nil 2 ?_) ?_
  · refine e_ oK mixed Tryz.func219 rfl (ab rfl) (by simp) (by simp) (ai _) Ct ?_
    unfold Tryz.f219;simp-implicitDefEqProofs (disch:=(first|omega|decide)) only[go_sem,↓reduceIte,seval]
  · refine e_ oK mixed Tryz.func219 rfl (ab rfl) (by simp) (by simp) (aw _) Ct ?_
    unfold Tryz.f219;simp-implicitDefEqProofs (disch:=(first|omega|decide)) only[go_sem,↓reduceIte,seval]
 |cons r l=>
  refine e_ oK mixed Tryz.func219 rfl (ab rfl) (by simp) (by simp) (aw _) Ct ?_;unfold Tryz.f219;obtain⟨f,t⟩:=r;simp only[aG]at hl;simp-implicitDefEqProofs (disch:=(first|omega|decide)) only[go_sem,↓reduceIte,seval,aa]
  omega
theorem H7:aQ Tryz.prog KV Tryz.f235.ntmps (Tryz.f235.body.getD .skip)=true:=by kernel_rfl
theorem c_Of1(f t f' t':Int)(h:0<=f/\f<=1099511627776/\0<=f'/\f'<=1099511627776):bp Tryz.prog 235 [.agg [.int .i64 f,.int .i64 t],.agg [.int .i64 f',.int .i64 t']] (· = .int .i64 (f-f')):=by refine ah oK mixed Tryz.func235 rfl (ab rfl) H7 ?_;unfold Tryz.f235;simp-implicitDefEqProofs (disch:=(first|omega|decide)) only[go_sem,↓reduceIte,seval,wrap_i64]
abbrev AY:={r:bH//fG r=true}
instance:Inhabited AY:=⟨⟨⟨1,1⟩,by decide⟩⟩
def cfB(a b:AY):Int:=a.1.f-b.1.f
def AY.cells(r:AY):List A:=r.1.cells
theorem swoB:Go.Sort.SWO (Go.Proofs.ltOf cfB):=by
 have hl: ∀a b,Go.Proofs.ltOf cfB a b=decide (a.1.f<b.1.f):=fun a b=>by
  unfold Go.Proofs.ltOf cfB;by_cases h:a.1.f<b.1.f
  · have:a.1.f-b.1.f<0:=by omega
    simp[this,h]
  · have: ¬a.1.f-b.1.f<0:=by omega
    simp[this,h]
 refine⟨fun x=> ?_,fun x y z h1 h2=> ?_,fun x y z h1 h2=> ?_⟩
 · rw[hl];simp
 · rw[hl]at*
   rw[decide_eq_true_iff]at*;omega
 · rw[hl]at*
   rw[decide_eq_false_iff_not]at*;omega
theorem H8(l:List AY)(hl:l.length<4611686018427387904):jb Tryz.prog 234 [.row 0 0 2 l.length false,.fn 235 []] [.row 2 (l.map fun x=> .agg x.cells)]
 (.fq []) [.row 2 ((gZ cfB l).map fun x=> .agg x.cells)] []:=
 wE Go.Proofs.YtfnohjheonlnmaaGreat.sortRun (by omega) Tryz.isAgg146 Tryz.sizeOf146 AY.cells (fun _=>rfl) (fun x a ha=>by simp only[AY.cells,bH.cells,aD,cN,or_false]at ha;rcases ha with rfl|rfl<;>rfl) cfB swoB (dE Tryz.func235 (by kernel_rfl) (by kernel_rfl)) (fun x y=>by have h1:=fH.1 x.2;have h2:=fH.1 y.2;exact c_Of1 x.1.f x.1.t y.1.f y.1.t (by omega)) l hl false
def ph(l:List bH):List AY:=(l.filter fG).attach.map fun x=>⟨x.1,(aP.1 x.2).2⟩
theorem Cu(l:List bH):(ph l).map (·.1)=l.filter fG:=by
 unfold ph;rw[eD]
 exact pJ _
theorem Tx(l:List bH):(ph l).map (fun x=>A.agg x.cells)=(l.filter fG).map bH.enc:=by rw[<-Cu,eD];rfl
def EK(l:List bH):List bH:=(gZ cfB (ph l)).map (·.1)
theorem WW(l:List bH):(gZ cfB (ph l)).map (fun x=>A.agg x.cells)=(EK l).map bH.enc:=by unfold EK;rw[eD];rfl
theorem Cv(l:List bH):(EK l).Perm (l.filter fG):=by rw[<-Cu];exact(i_ swoB (ph l)).1.map _
theorem Ty(l:List bH): ∀r∈EK l,fG r=true:=fun r hr=>by unfold EK at hr;obtain⟨x,_,rfl⟩:=bZ.1 hr;exact x.2
theorem Zz(l:List bH):(EK l).Pairwise (fun x y=>x.f<=y.f):=by
 unfold EK;rw[j7]
 exact(i_ swoB (ph l)).2.imp fun{x y} h=>by unfold cfB at h;omega
theorem srtL_has(l:List bH)(n:Int):aX (EK l) n=aX l n:=by rw[has_perm (Cv l),WN]
theorem Tz(l:List bH):((EK l).foldl fW []).reverse=fM (aX l):=by
 rw[K7 (Ty l) (Zz l)]
 congr 1;funext n;exact srtL_has l n
def srE(l:List AY):List A:=[.row 0 0 2 l.length false,.fn 235 []]
def srO(l:List AY):List Go.dF.Obj:=[.row 2 (l.map fun x=> .agg x.cells)]
def srK(l:List AY):Prop:=l.length<4611686018427387904
def srR(l:List AY):A×List Go.dF.Obj×List Nat:=(.fq [],[.row 2 ((gZ cfB l).map fun x=> .agg x.cells)],[])
theorem runB_inj(x y:AY)(h:A.agg x.cells=A.agg y.cells):x=y:=wF (bH.jM _ _ h)
theorem srO_inj(i j:List AY)(h:srO i=srO j):i=j:=by
 simp only[srO,dr,Go.dF.Obj.row.injEq,true_and,and_true]at h
 rwa [map_inj runB_inj]at h
def WX:aW:=wj.add 209 (entry (fun(l:List bH)=>[.ay (l.map bH.enc)]) (fun l=>l.length<=4611686018427387904) (fun l=> .bool (dC l)))
theorem T13f_ok:aN Tryz.prog WX:=uH.dH Tryz.func209 (by kernel_rfl) (by kernel_rfl) fun l h=>wm l h
@[go_sem] theorem T13f_old{g:FuncId}{xs:List A}(h:g≠209):WX.f g xs=wj.f g xs:=aW.aU h
theorem AZ(l:List bH)(h:l.length<=4611686018427387904):WX.f 209 [.ay (l.map bH.enc)]=some (.bool (dC l)):=aW.aZ (Γ:=wj) (fun i j h=>by simpa[ag,and_assoc]using h) l h
def Pw:aW:=WX.add 219 (entry (fun(l:List bH)=>[.ay (l.map bH.enc)]) (fun l=>l.length<=4398046511104) (fun l=> .ay (l.map bH.enc)))
theorem ZA:aN Tryz.prog Pw:=T13f_ok.dH Tryz.func219 (by kernel_rfl) (by kernel_rfl) fun l h=>Tc l h
@[go_sem] theorem T13g_old{g:FuncId}{xs:List A}(h:g≠219):Pw.f g xs=WX.f g xs:=aW.aU h
theorem jv(l:List bH)(h:l.length<=4398046511104):Pw.f 219 [.ay (l.map bH.enc)]=some (.ay (l.map bH.enc)):=aW.aZ (Γ:=WX) (fun i j h=>by simpa[ag,and_assoc]using h) l h
@[go_sem] theorem t_counts_Right{l:List bH}(h:l.length<=4611686018427387904):WX.f 209 [.ay (l.map bH.enc)]=some (.bool (dC l)):=AZ l h
@[go_sem] theorem t_Clone_Run{l:List bH}(h:l.length<=4398046511104):Pw.f 219 [.ay (l.map bH.enc)]=some (.ay (l.map bH.enc)):=jv l h
def C13Sa:aW:=Pw.kz 234 (dG srE srO srK srR)
def Px:aW:={C13Sa with sg:=fun f=>f==234}
theorem TA:aN Tryz.prog C13Sa:=ZA.kz (dE Tryz.func234 (by kernel_rfl) (by kernel_rfl)) (gm fun l h=>H8 l h)
theorem C13S_ok:aN Tryz.prog Px:=⟨TA.f,TA.hp⟩
@[go_sem] theorem C13S_f:Px.f=Pw.f:=rfl
@[go_sem] theorem C13S_eff{g:FuncId}:Px.sg g=(g==234):=rfl
@[go_sem] theorem C13S_frz{g:FuncId}:Px.xk g=false:=rfl
@[go_sem] theorem C13S_fix{n:Nat}:Px.fix n=false:=rfl
@[go_sem] theorem C13S_ords{n:Nat}:Px.fS n=[]:=rfl
theorem C13S_sort{l:List bH}{n:Nat}(hn:n=(l.filter fG).length)(h:l.length<4611686018427387904):Px.hp 234 [.row 0 0 2 n false,.fn 235 []] [.row 2 ((l.filter fG).map bH.enc)]=some (.fq [],[.row 2 ((EK l).map bH.enc)],[]):=by
 subst hn;have hlen:(ph l).length=(l.filter fG).length:=by rw[<-Cu];simp
 have h0:C13Sa.hp 234 (srE (ph l)) (srO (ph l))=dG srE srO srK srR (srE (ph l)) (srO (ph l)):=aW.jK;have h1:Px.hp 234 (srE (ph l)) (srO (ph l))=dG srE srO srK srR (srE (ph l)) (srO (ph l)):=h0;have h2:=h1.trans (gn (fun i j _ h=>srO_inj i j h) (ph l) (show(ph l).length<4611686018427387904 by rw[hlen];exact Nat.lt_of_le_of_lt (aO _ _) h))
 simp only[srE,srO,srR,hlen,Tx,WW]at h2;exact h2
def s8(acc:List bH):List A:=acc.reverse.map bH.enc
theorem xL(q:bH)(qs:List bH):s8 (q::qs)=s8 qs++[.agg [.int .i64 q.f,.int .i64 q.t]]:=by simp[s8,bH.enc,bH.cells]
theorem A0(l:List bH):(s8 l).length=l.length:=by simp[s8]
theorem rowG_nil:s8 []=[]:=rfl
theorem fold_step(l:List bH)(k:Nat)(h:k<l.length):(l.take (k+1)).foldl fW []=fW ((l.take k).foldl fW []) l[k]:=by rw[<-ar h,cp];rfl
theorem H9: ∀(l:List bH) (a:List bH),(l.foldl fW a).length<=a.length+l.length
 | [],a=>by simp
 |r::l,a=>by
  have h1:=H9 l (fW a r)
  have h2:=NA a r;simp only[cg,aG];omega
theorem Py:aQ Tryz.prog Px Tryz.f220.ntmps (Tryz.f220.body.getD .skip)=true:=by kernel_rfl
theorem Ei(l:List bH)(hl:l.length<=4398046511104):bp Tryz.prog 220 [.ay (l.map bH.enc)] (· = .ay ((fM (aX l)).map bH.enc)):=by
 refine ah C13S_ok mixed Tryz.func220 rfl (ab rfl) Py ?_;unfold Tryz.f220;cases hr:dC l with
 |true=>
  have e:=xH hr (fun _=>rfl)
  simp-implicitDefEqProofs (disch:=(first|omega|decide)) only[go_sem,↓reduceIte,seval,hr,aa]
  rw[<-e]
 |false=>
  simp-implicitDefEqProofs (disch:=(first|omega|decide)) only[go_sem,↓reduceIte,seval,hr,aa]
  refine ch 3 2 rfl ?_;refine a_ [2,14,15] (ι:={k:Nat//k<=l.length}) (fun p=>[(16,.int .i64 p.1),(3,.row 0 0 2 ((l.take p.1).filter fG).length false)]) (fun p=>[(0,.row 2 (((l.take p.1).filter fG).map bH.enc))]) (fun p=>l.length-p.1) ⟨0,by omega⟩ (aw _) ?_ ?_
  · simp-implicitDefEqProofs (disch:=(first|omega|decide)) only[go_sem,↓reduceIte,seval]
    simp
  · rintro⟨k,hk⟩
    simp only;have hf:((l.take k).filter fG).length<=k:=aL (aO _ _) (by rw[aK];omega)
    by_cases bo:k<l.length
    · have aH:(k:Int)<(l.length:Int):=by omega
      have ht:l.take (k+1)=l.take k++[l[k]]:=(ar bo).symm;have e1:=run_get bo;generalize hx:l[k]=x at*;obtain⟨f,t⟩:=x;cases h1:fG ⟨f,t⟩with
      |true=>
       simp-implicitDefEqProofs (disch:=(first|omega|decide)) only[go_sem,↓reduceIte,seval,aH,e1,h1,wrap_i64,aa]
       refine⟨⟨ai _,by omega⟩,⟨k+1,bo⟩,⟨⟨by simp, ?_⟩, ?_⟩,by show l.length-(k+1)<l.length-k;omega⟩
       · rw[ht,bP];simp[h1]
       · rw[ht,bP,ad (by simp)];simp[h1,bH.enc,bH.cells]
      |false=>
       simp-implicitDefEqProofs (disch:=(first|omega|decide)) only[go_sem,↓reduceIte,seval,aH,e1,h1,wrap_i64,aa]
       refine⟨⟨k+1,bo⟩,⟨⟨by simp, ?_⟩, ?_⟩,by show l.length-(k+1)<l.length-k;omega⟩
       · rw[ht,bP];simp[h1]
       · rw[ht,bP];simp[h1]
    · have aH: ¬(k:Int)<(l.length:Int):=by omega
      rw[ad (by omega)]at*;have hs:=C13S_sort (l:=l) rfl (by omega)
      have hp:=(Cv l).length_eq;have nn:=Tz l;have gw:=Ty l;have hup:=Zz l;rw[<-hp]at hf;simp-implicitDefEqProofs (disch:=(first|omega|decide)) only[go_sem,↓reduceIte,seval,aH,hs,aa,cx,cr]
      rw[<-hp]
      generalize EK l=s at*;refine ch 6 2 rfl ?_;refine a_ [2,29,30] (ι:={j:Nat//j<=s.length}) (fun p=>[(31,.int .i64 p.1),(6,.row 1 0 2 ((s.take p.1).foldl fW []).length false)]) (fun p=>[(1,.row 2 (s8 ((s.take p.1).foldl fW [])))]) (fun p=>s.length-p.1) ⟨0,by omega⟩ (aw _) ?_ ?_
      · simp-implicitDefEqProofs (disch:=(first|omega|decide)) only[go_sem,↓reduceIte,seval]
        simp[s8]
      · rintro⟨j,hj⟩
        simp only;have xw:=H9 (s.take j) []
        rw[aK,bC,fZ hj,bY]at xw;by_cases Pz:j<s.length
        · have sJ:(j:Int)<(s.length:Int):=by omega
          have e2:=run_get Pz;have eO:=fold_step s j Pz;have ho:=gw _ (ao Pz)
          have hR:RR ((s.take j).foldl fW []):=(fold_push (a:=[]) trivial (fun r hr=>gw r (b_ hr)) (hup.sublist (j8 _ _)) (fun _ _=>trivial)).1;have fin: ∀m',(s.take (j+1)).foldl fW []=m'-> ∃i:{j:Nat//j<=s.length},(((j:Int)+1=(i.1:Int)/\m'.length=((s.take i.1).foldl fW []).length)/\s8 m'=s8 ((s.take i.1).foldl fW []))/\s.length-i.1<s.length-j:=fun m' oo=>⟨⟨j+1,Pz⟩,⟨⟨by simp,by rw[oo]⟩,by rw[oo]⟩,by show s.length-(j+1)<s.length-j;omega⟩
          generalize hx:s[j]=x at*;generalize(s.take j).foldl fW []=m at*;obtain⟨f,t⟩:=x;obtain⟨o1,o2,o3⟩:=nZ ho;simp only at o1 o2 o3;have rP:=fin _ eO;cases m with
          |nil=>
           rw[rowG_nil]
           simp-implicitDefEqProofs (disch:=(first|omega|decide)) only[go_sem,↓reduceIte,seval,sJ,e2,wrap_i64,aa]
           exact rP
          |cons q qs=>
           obtain⟨p1,p2,p3⟩:=nZ (kj hR)
           rw[xL]at*;have hlq:qs.length+1<=j:=xw;have c0:(0:Int)<((qs.length+1:Nat):Int):=by omega
           have c1:(((qs.length+1:Nat):Int)-1).toNat=qs.length:=by omega
           have c2:(0:Int)<=((qs.length+1:Nat):Int)-1:=by omega
           have c3:((qs.length+1:Nat):Int)-1<((qs.length+1:Nat):Int):=by omega
           have g1:(s8 qs++[A.agg [.int .i64 q.f,.int .i64 q.t]])[qs.length]? =some (.agg [.int .i64 q.f,.int .i64 q.t]):=by
            have:=mE (x:=A.agg [.int .i64 q.f,.int .i64 q.t]) (l:=s8 qs)
            rwa [A0]at this
           have g2: ∀v,fE (s8 qs++[A.agg [.int .i64 q.f,.int .i64 q.t]]) qs.length v=s8 qs++[v]:=fun v=>by
            have:=mF (x:=A.agg [.int .i64 q.f,.int .i64 q.t]) (v:=v) (l:=s8 qs)
            rwa [A0]at this
           have gl:(s8 qs++[A.agg [.int .i64 q.f,.int .i64 q.t]]).length=qs.length+1:=by rw[aj,A0];rfl
           have gt:(s8 qs++[A.agg [.int .i64 q.f,.int .i64 q.t]]).take (qs.length+1)=s8 qs++[A.agg [.int .i64 q.f,.int .i64 q.t]]:=ad (di gl)
           by_cases hq:f-q.t<2
           · have Pu:fW (q::qs) ⟨f,t⟩=⟨q.f,if t>q.t then t else q.t⟩::qs:=by
               simp only[fW]
               rw[if_pos (by omega)]
             rw[Pu,xL]at rP;simp-implicitDefEqProofs (disch:=(first|omega|decide)) only[go_sem,↓reduceIte,seval,sJ,e2,c0,c1,c2,c3,g1,g2,hq,wrap_i64,aa]
             exact rP
           · have Pu:fW (q::qs) ⟨f,t⟩=⟨f,t⟩::q::qs:=by
               simp only[fW]
               rw[if_neg (by omega)]
             rw[Pu,xL,xL]at rP;simp-implicitDefEqProofs (disch:=(first|omega|decide)) only[go_sem,↓reduceIte,seval,sJ,e2,c0,c1,c2,c3,g1,g2,gl,gt,hq,wrap_i64,aa]
             exact⟨⟨ai _,by omega⟩,rP⟩
        · have sJ: ¬(j:Int)<(s.length:Int):=by omega
          rw[ad (by omega)]at*;have nr:s8 (s.foldl fW [])=(fM (aX l)).map bH.enc:=by unfold s8;rw[nn]
          have RT:(s.foldl fW []).length=(s8 (s.foldl fW [])).length:=by rw[A0]
          simp-implicitDefEqProofs (disch:=(first|omega|decide)) only[go_sem,↓reduceIte,seval,sJ,wrap_i64,RT,aa,ca]
          rw[nr]
          exact⟨ai _,rfl⟩
end Go.Proofs.YtfnohjheonlnmaaGreat
namespace Go.Proofs.YtfnohjheonlnmaaGreat
open Go.dF
set_option linter.unusedSimpArgs false
set_option linter.unusedVariables false
set_option linter.unusedSectionVars false
set_option maxRecDepth 20000
set_option maxHeartbeats 8000000
section
variable{D:List bH}{p e:Int}
end
section
variable{kp:Bool->Bool->Bool}{a b:List bH}(hra:dC a=true)(hrb:dC b=true)
include hra hrb
end
end Go.Proofs.YtfnohjheonlnmaaGreat
namespace Go.Proofs.YtfnohjheonlnmaaGreat
open Go.dF
set_option linter.unusedSimpArgs false
set_option linter.unusedVariables false
set_option maxRecDepth 20000
set_option maxHeartbeats 8000000
theorem of_len{l:List bH}(h:dC l=true):l.length<=1099511627776:=by
 have key: ∀m:List bH,RR m->match m with| []=>True|r::l=>((r::l).length:Int)<=r.t:=by
  intro m;induction m with
  |nil=>intro _;trivial
  |cons r l ih=>
   intro h;have o:=fH.1 (kj h)
   have ih:=ih (AQ h)
   cases l with
   |nil=>show((1:Nat):Int)<=r.t;omega
   |cons q l=>
    have h2:=h.2.1;have ih':((q::l).length:Int)<=q.t:=ih;show(((q::l).length+1:Nat):Int)<=r.t;omega
 have h1:=key l.reverse (ri.1 h)
 cases hm:l.reverse with
 |nil=>
  have:l=[]:=by simpa using hm
  subst this;simp
 |cons r m=>
  rw[hm]at h1;have o:=fH.1 (kj (by rw[<-hm];exact ri.1 h))
  have hl:l.length=(r::m).length:=by rw[<-hm];simp
  have sX:((r::m).length:Int)<=r.t:=h1;omega
def WY:aW:=Pw.add 220 (entry (fun(l:List bH)=>[.ay (l.map bH.enc)]) (fun l=>l.length<=4398046511104) (fun l=> .ay ((fM (aX l)).map bH.enc)))
theorem ZB:aN Tryz.prog WY:=ZA.dH Tryz.func220 (by kernel_rfl) (by kernel_rfl) fun l h=>Ei l h
@[go_sem] theorem T13u_s:WY.pl Pw:=⟨fun _=>rfl,fun _=>rfl,rfl,fun _=>rfl,rfl,fun _=>rfl,rfl⟩
theorem H_(l:List bH)(h:l.length<=4398046511104):WY.f 220 [.ay (l.map bH.enc)]=some (.ay ((fM (aX l)).map bH.enc)):=aW.aZ (Γ:=Pw) (fun i j h=>by simpa[ag,and_assoc]using h) l h
@[go_sem] theorem TB{l:List bH}(h:l.length<=4398046511104):WY.f 220 [.ay (l.map bH.enc)]=some (.ay ((fM (aX l)).map bH.enc)):=H_ l h
def j9(l:List bH):Int:=match l.getLast? with|none=>0|some r=>r.t
theorem Ia:aQ Tryz.prog WY Tryz.f216.ntmps (Tryz.f216.body.getD .skip)=true:=by kernel_rfl
theorem K'(l:List bH)(hl:l.length<=4398046511104):bp Tryz.prog 216 [.ay (l.map bH.enc)] (· = .int .i64 (j9 (fM (aX l)))):=by
 refine ah ZB mixed Tryz.func216 rfl (ab rfl) Ia ?_;unfold Tryz.f216;have hu:= @TB l hl;have hn:(fM (aX l)).length<=1099511627776:=Zs (mD (aX l))
 generalize fM (aX l)=s at*;rcases s9 s with rfl|⟨rs,r,rfl⟩
 · simp-implicitDefEqProofs (disch:=(first|omega|decide)) only[go_sem,↓reduceIte,seval,hu,j9,aa,List.getLast?_nil]
 · rw[s_]at*
   obtain⟨f,t⟩:=r;have hm:(rs++[(⟨f,t⟩:bH)]).map bH.enc=rs.map bH.enc++[.agg [.int .i64 f,.int .i64 t]]:=by simp[bH.enc,bH.cells]
   have hl1:(rs.map bH.enc++[A.agg [.int .i64 f,.int .i64 t]]).length=rs.length+1:=by simp
   have hv:j9 (rs++[⟨f,t⟩])=t:=by simp[j9]
   rw[hm]at hu;rw[hv]
   have c0:(0:Int)<((rs.length+1:Nat):Int):=by omega
   have c1:(((rs.length+1:Nat):Int)-1).toNat=rs.length:=by omega
   have c2:(0:Int)<=((rs.length+1:Nat):Int)-1:=by omega
   have g1:(rs.map bH.enc++[A.agg [.int .i64 f,.int .i64 t]])[rs.length]? =some (.agg [.int .i64 f,.int .i64 t]):=by
    have:=mE (x:=A.agg [.int .i64 f,.int .i64 t]) (l:=rs.map bH.enc)
    rwa [aa]at this
   simp only[aj,dw]at hn;simp-implicitDefEqProofs (disch:=(first|omega|decide)) only[go_sem,↓reduceIte,seval,hu,hl1,c0,c1,c2,g1,wrap_i64,aa]
def da(p:Int->Bool):Nat->Int
 |0=>0
 |N+1=>da p N+if p ((N:Int)+1)then 1 else 0
theorem most_spec{s:List bH}(h:dC s=true):0<=j9 s/\j9 s<=1099511627776/\(0<j9 s->aX s (j9 s)=true)/\ ∀n,aX s n=true->n<=j9 s:=by
 rcases s9 s with rfl|⟨rs,r,rfl⟩
 · exact⟨cT _,by simp[j9],fun h=>by simp[j9]at h,fun n h=>by simp[xF]at h⟩
 · rw[s_]at*
   have hv:j9 (rs++[r])=r.t:=by simp[j9]
   have h1:=ri.1 h;rw[uM]at h1;have sX:RR (r::rs.reverse):=h1;have o:=fH.1 (kj sX)
   rw[hv]
   refine⟨by omega,o.2.2,fun _=> ?_,fun n hn=> ?_⟩
   · rw[lj,wv,kj sX,aB]
     have:VL r r.t=true:=by simp[VL];omega
     rw[this];simp
   · refine WO sX n ?_
     rw[<-xG]at hn;rw[uM]at hn;exact hn
def T13m:aW:=Pr.add 223 (entry (fun(v:Int×List bH×List bH)=>[.int .i64 v.1,.ay (v.2.1.map bH.enc),.ay (v.2.2.map bH.enc)]) (fun v=>Ps v.1/\v.2.1.length<=50000/\v.2.2.length<=50000) (fun v=> .ay ((fM (oq v.1 v.2.1 v.2.2)).map bH.enc)))
theorem T13m_ok:aN Tryz.prog T13m:=Zx.dH Tryz.func223 (by kernel_rfl) (by kernel_rfl) fun v h=>Pt v.1 v.2.1 v.2.2 h.1 h.2.1 h.2.2
@[go_sem] theorem T13m_old{g:FuncId}{xs:List A}(h:g≠223):T13m.f g xs=Pr.f g xs:=aW.aU h
theorem EL(v:Int×List bH×List bH)(h:Ps v.1/\v.2.1.length<=50000/\v.2.2.length<=50000):T13m.f 223 [.int .i64 v.1,.ay (v.2.1.map bH.enc),.ay (v.2.2.map bH.enc)]=some (.ay ((fM (oq v.1 v.2.1 v.2.2)).map bH.enc)):=aW.aZ (Γ:=Pr) (fun i j h=>by simpa[ag,and_assoc]using h) v h
theorem op2(a b:List bH):oq 2 a b=fun n=>aX a n&&aX b n:=rfl
def C13Aa:aW:=WY.kz 219 (dG (fun l:List bH=>[.ay (l.map bH.enc)]) (fun _=>[]) (fun l=>l.length<=4398046511104) (fun l=>(.row 0 0 2 l.length false,[.row 2 (l.map bH.enc)],[])))
def TD:aW:={C13Aa with sg:=fun f=>f==220||f==219,xk:=fun f=>f==220}
theorem TE:aN Tryz.prog C13Aa:=ZB.kz (dE Tryz.func219 (by kernel_rfl) (by kernel_rfl)) (gm fun l h=>Eh l h)
theorem C13A_ok:aN Tryz.prog TD:=⟨TE.f,TE.hp⟩
@[go_sem] theorem C13A_f:TD.f=WY.f:=rfl
@[go_sem] theorem C13A_eff{g:FuncId}:TD.sg g=(g==220||g==219):=rfl
@[go_sem] theorem C13A_frz{g:FuncId}:TD.xk g=(g==220):=rfl
@[go_sem] theorem C13A_fix{n:Nat}:TD.fix n=false:=rfl
@[go_sem] theorem C13A_ords{n:Nat}:TD.fS n=[]:=rfl
theorem WZ{l:List bH}(h:l.length<=4398046511104):TD.hp 219 [.ay (l.map bH.enc)] []=some (.row 0 0 2 l.length false,[.row 2 (l.map bH.enc)],[]):=by have h0:C13Aa.hp 219 [.ay (l.map bH.enc)] []=dG (fun l:List bH=>[A.ay (l.map bH.enc)]) (fun _=>[]) (fun l=>l.length<=4398046511104) (fun l=>(.row 0 0 2 l.length false,[.row 2 (l.map bH.enc)],[])) [.ay (l.map bH.enc)] []:=aW.jK;exact h0.trans (gn (enc:=fun l:List bH=>[A.ay (l.map bH.enc)]) (Kx:=fun _=>[]) (fun i j h _=>by simpa using h) l h)
def sm(m:List Int):List bH:=m.map fun n=>⟨n,n⟩
theorem Lc:aQ Tryz.prog TD Tryz.f187.ntmps (Tryz.f187.body.getD .skip)=true:=by kernel_rfl
theorem PA(l:List bH)(m:List Int)(hl:l.length<=1000000)(hm:m.length<=1000000):bp Tryz.prog 187 [.ay (l.map bH.enc),.ay (m.map (A.int .i64))] (· = .ay ((fM (aX (l++sm m))).map bH.enc)):=by
 refine ah C13A_ok mixed Tryz.func187 rfl (ab rfl) Lc ?_;unfold Tryz.f187;have h0:=WZ (l:=l) (by omega)
 simp-implicitDefEqProofs (disch:=(first|omega|decide)) only[go_sem,↓reduceIte,seval,h0,aa,cx,cr]
 refine a_ [4,10,11] (ι:={k:Nat//k<=m.length}) (fun p=>[(12,.int .i64 p.1),(5,.row 0 0 2 (l.length+p.1) false)]) (fun p=>[(0,.row 2 ((l++sm (m.take p.1)).map bH.enc))]) (fun p=>m.length-p.1) ⟨0,by omega⟩ (aw _) ?_ ?_
 · simp-implicitDefEqProofs (disch:=(first|omega|decide)) only[go_sem,↓reduceIte,seval]
   simp[sm]
 · rintro⟨k,hk⟩
   simp only;have hlen:(l++sm (m.take k)).length=l.length+k:=by simp[sm];omega
   by_cases bo:k<m.length
   · have aH:(k:Int)<(m.length:Int):=by omega
     have e1:(m.map (A.int .i64))[k]? =some (.int .i64 m[k]):=by rw[aT,ae bo];rfl
     have ht:m.take (k+1)=m.take k++[m[k]]:=(ar bo).symm;have hh:l++sm (m.take (k+1))=(l++sm (m.take k))++[⟨m[k],m[k]⟩]:=by rw[ht];unfold sm;rw[bz,<-ba];rfl
     have tl:((l++sm (m.take k)).map bH.enc).take (l.length+k)=(l++sm (m.take k)).map bH.enc:=ad (di (by rw[aa,hlen]))
     simp-implicitDefEqProofs (disch:=(first|omega|decide)) only[go_sem,↓reduceIte,seval,aH,e1,tl,hlen,wrap_i64,aa]
     exact⟨⟨ai _,by omega⟩,⟨k+1,bo⟩,⟨⟨by simp,by show l.length+k+1=l.length+(k+1);omega⟩,by rw[hh,bz (l₁:=l++sm (m.take k))];rfl⟩,by show m.length-(k+1)<m.length-k;omega⟩
   · have aH: ¬(k:Int)<(m.length:Int):=by omega
     have tl:((l++sm (m.take k)).map bH.enc).take (l.length+k)=(l++sm (m.take k)).map bH.enc:=ad (di (by rw[aa,hlen]))
     rw[ad (show m.length<=k by omega)]at*;simp-implicitDefEqProofs (disch:=(first|omega|decide)) only[go_sem,↓reduceIte,seval,aH,tl,hlen,aa,cx,cr]
     exact ai _
def Ib:aW:=T13m.add 209 (entry (fun(l:List bH)=>[.ay (l.map bH.enc)]) (fun l=>l.length<=4398046511104) (fun l=> .bool (dC l)))
theorem C13L0_ok:aN Tryz.prog Ib:=T13m_ok.dH Tryz.func209 (by kernel_rfl) (by kernel_rfl) fun l h=>wm l (by omega)
@[go_sem] theorem C13L0_old{g:FuncId}{xs:List A}(h:g≠209):Ib.f g xs=T13m.f g xs:=aW.aU h
theorem zg(l:List bH)(h:l.length<=4398046511104):Ib.f 209 [.ay (l.map bH.enc)]=some (.bool (dC l)):=aW.aZ (Γ:=T13m) (fun i j h=>by simpa[ag,and_assoc]using h) l h
@[go_sem] theorem l_counts_Right{l:List bH}(h:l.length<=4398046511104):Ib.f 209 [.ay (l.map bH.enc)]=some (.bool (dC l)):=zg l h
def Ic:aW:=Ib.add 194 (entry (fun(l:List bH)=>[.ay (l.map bH.enc)]) (fun l=>l.length<=4398046511104) (fun l=> .bool (dC l)))
theorem C13L1_ok:aN Tryz.prog Ic:=C13L0_ok.dH Tryz.func194 (by kernel_rfl) (by kernel_rfl) fun l h=>K0 l (by omega)
@[go_sem] theorem C13L1_old{g:FuncId}{xs:List A}(h:g≠194):Ic.f g xs=Ib.f g xs:=aW.aU h
theorem A1(l:List bH)(h:l.length<=4398046511104):Ic.f 194 [.ay (l.map bH.enc)]=some (.bool (dC l)):=aW.aZ (Γ:=Ib) (fun i j h=>by simpa[ag,and_assoc]using h) l h
@[go_sem] theorem l_ref13_Right{l:List bH}(h:l.length<=4398046511104):Ic.f 194 [.ay (l.map bH.enc)]=some (.bool (dC l)):=A1 l h
def Ie:aW:=Ic.add 199 (entry (fun(v:List bH×Int)=>[.ay (v.1.map bH.enc),.int .i64 v.2]) (fun v=>v.1.length<=4398046511104) (fun v=> .bool (aX v.1 v.2)))
theorem C13L2_ok:aN Tryz.prog Ie:=C13L1_ok.dH Tryz.func199 (by kernel_rfl) (by kernel_rfl) fun v h=>Pb v.1 v.2 (by omega)
@[go_sem] theorem C13L2_old{g:FuncId}{xs:List A}(h:g≠199):Ie.f g xs=Ic.f g xs:=aW.aU h
theorem Cw(v:List bH×Int)(h:v.1.length<=4398046511104):Ie.f 199 [.ay (v.1.map bH.enc),.int .i64 v.2]=some (.bool (aX v.1 v.2)):=aW.aZ (Γ:=Ic) (fun i j h=>by simpa[ag,and_assoc]using h) v h
@[go_sem] theorem l_counts_Has{a:List bH}{b:Int}(h:a.length<=4398046511104):Ie.f 199 [.ay (a.map bH.enc),.int .i64 b]=some (.bool (aX a b)):=Cw (a,b) h
def Ig:aW:=Ie.add 193 (entry (fun(v:List bH×List bH)=>[.ay (v.1.map bH.enc),.ay (v.2.map bH.enc)]) (fun v=>v.1.length<=4398046511104/\v.2.length<=4398046511104) (fun v=> .bool (lJ v.1 v.2)))
theorem C13L3_ok:aN Tryz.prog Ig:=C13L2_ok.dH Tryz.func193 (by kernel_rfl) (by kernel_rfl) fun v h=>Pd v.1 v.2 (by omega) (by omega)
@[go_sem] theorem C13L3_old{g:FuncId}{xs:List A}(h:g≠193):Ig.f g xs=Ie.f g xs:=aW.aU h
theorem Cx(v:List bH×List bH)(h:v.1.length<=4398046511104/\v.2.length<=4398046511104):Ig.f 193 [.ay (v.1.map bH.enc),.ay (v.2.map bH.enc)]=some (.bool (lJ v.1 v.2)):=aW.aZ (Γ:=Ie) (fun i j h=>by simpa[ag,and_assoc]using h) v h
@[go_sem] theorem l_ref13_Same{a:List bH}{b:List bH}(h:a.length<=4398046511104/\b.length<=4398046511104):Ig.f 193 [.ay (a.map bH.enc),.ay (b.map bH.enc)]=some (.bool (lJ a b)):=Cx (a,b) h
def NK:aW:=Ig.add 220 (entry (fun(l:List bH)=>[.ay (l.map bH.enc)]) (fun l=>l.length<=4398046511104) (fun l=> .ay ((fM (aX l)).map bH.enc)))
theorem C13L4_ok:aN Tryz.prog NK:=C13L3_ok.dH Tryz.func220 (by kernel_rfl) (by kernel_rfl) fun l h=>Ei l h
@[go_sem] theorem C13L4_old{g:FuncId}{xs:List A}(h:g≠220):NK.f g xs=Ig.f g xs:=aW.aU h
theorem EM(l:List bH)(h:l.length<=4398046511104):NK.f 220 [.ay (l.map bH.enc)]=some (.ay ((fM (aX l)).map bH.enc)):=aW.aZ (Γ:=Ig) (fun i j h=>by simpa[ag,and_assoc]using h) l h
@[go_sem] theorem l_counts_Of{l:List bH}(h:l.length<=4398046511104):NK.f 220 [.ay (l.map bH.enc)]=some (.ay ((fM (aX l)).map bH.enc)):=EM l h
def TF:aW:=NK
theorem C13L5_ok:aN Tryz.prog TF:=C13L4_ok
@[go_sem] theorem C13L5_old{g:FuncId}{xs:List A}:TF.f g xs=NK.f g xs:=rfl
def NL:aW:=TF.add 187 (entry (fun(v:List bH×List Int)=>[.ay (v.1.map bH.enc),.ay (v.2.map (A.int .i64))]) (fun v=>v.1.length<=1000000/\v.2.length<=1000000) (fun v=> .ay ((fM (aX (v.1++sm v.2))).map bH.enc)))
theorem C13L6_ok:aN Tryz.prog NL:=C13L5_ok.dH Tryz.func187 (by kernel_rfl) (by kernel_rfl) fun v h=>PA v.1 v.2 h.1 h.2
@[go_sem] theorem C13L6_old{g:FuncId}{xs:List A}(h:g≠187):NL.f g xs=TF.f g xs:=aW.aU h
theorem Cy(v:List bH×List Int)(h:v.1.length<=1000000/\v.2.length<=1000000):NL.f 187 [.ay (v.1.map bH.enc),.ay (v.2.map (A.int .i64))]=some (.ay ((fM (aX (v.1++sm v.2))).map bH.enc)):=aW.aZ (Γ:=TF) (fun i j h=>by simpa[ag,and_assoc]using h) v h
@[go_sem] theorem PB{a:List bH}{b:List Int}(h:a.length<=1000000/\b.length<=1000000):NL.f 187 [.ay (a.map bH.enc),.ay (b.map (A.int .i64))]=some (.ay ((fM (aX (a++sm b))).map bH.enc)):=Cy (a,b) h
def ZC:aW:=NL
theorem C13L7_ok:aN Tryz.prog ZC:=C13L6_ok
@[go_sem] theorem C13L7_old{g:FuncId}{xs:List A}:ZC.f g xs=NL.f g xs:=rfl
def ZD:aW:=ZC
theorem C13L8_ok:aN Tryz.prog ZD:=C13L7_ok
@[go_sem] theorem C13L8_old{g:FuncId}{xs:List A}:ZD.f g xs=ZC.f g xs:=rfl
def ZE:aW:=ZD
theorem C13L9_ok:aN Tryz.prog ZE:=C13L8_ok
@[go_sem] theorem C13L9_old{g:FuncId}{xs:List A}:ZE.f g xs=ZD.f g xs:=rfl
def Ih:aW:=ZE
theorem C13L10_ok:aN Tryz.prog Ih:=C13L9_ok
@[go_sem] theorem C13L10_old{g:FuncId}{xs:List A}:Ih.f g xs=ZE.f g xs:=rfl
def zh:aW:=Ih.add 216 (entry (fun(l:List bH)=>[.ay (l.map bH.enc)]) (fun l=>l.length<=4398046511104) (fun l=> .int .i64 (j9 (fM (aX l)))))
theorem C13L11_ok:aN Tryz.prog zh:=C13L10_ok.dH Tryz.func216 (by kernel_rfl) (by kernel_rfl) fun l h=>K' l h
@[go_sem] theorem C13L11_old{g:FuncId}{xs:List A}(h:g≠216):zh.f g xs=Ih.f g xs:=aW.aU h
theorem zi(l:List bH)(h:l.length<=4398046511104):zh.f 216 [.ay (l.map bH.enc)]=some (.int .i64 (j9 (fM (aX l)))):=aW.aZ (Γ:=Ih) (fun i j h=>by simpa[ag,and_assoc]using h) l h
@[go_sem] theorem l_counts_Most{l:List bH}(h:l.length<=4398046511104):zh.f 216 [.ay (l.map bH.enc)]=some (.int .i64 (j9 (fM (aX l)))):=zi l h
def zj:aW:=zh
theorem NM:aN Tryz.prog zj:=C13L11_ok
@[go_sem] theorem C13L12_old{g:FuncId}{xs:List A}:zj.f g xs=zh.f g xs:=rfl
@[go_sem] theorem C13L12_s:zj.pl zh:=⟨fun _=>rfl,fun _=>rfl,rfl,fun _=>rfl,rfl,fun _=>rfl,rfl⟩
theorem fits_run{x:List A}(h:fD [.int .i64,.int .i64] x): ∃f t:Int,x=[.int .i64 f,.int .i64 t]:=by simp only[fD,fits]at h;obtain⟨y,zs,rfl,⟨n,rfl,_⟩,y2,zs2,rfl,⟨m,rfl,_⟩,rfl⟩:=h;exact⟨n,m,rfl⟩
theorem fits_runs{x:A}(h:fits (.rows [.int .i64,.int .i64]) x): ∃l:List bH,x= .ay (l.map bH.enc)/\l.length<=maxLen:=by
 simp only[fits]at h;obtain⟨es,rfl,hl,he⟩:=h
 obtain⟨l,rfl,_⟩:=xC (f:=bH.enc) (P:=fun _=>True) (es:=es) (fun e hx=>by
  obtain⟨ys,rfl,hy⟩:=he e hx;obtain⟨r,c,rfl⟩:=fits_run (by simpa only[fD,fits]using hy)
  exact⟨⟨r,c⟩,rfl,trivial⟩)
 exact⟨l,rfl,by simpa using hl⟩
set_option maxHeartbeats 4000000
def PC:aW:=Cf
theorem uN:aN Tryz.prog PC:=OW _
@[go_sem] theorem T12z_eq:PC=Cf:=rfl
structure eU where
 r:Int
 c:Int
 deriving DecidableEq,Inhabited
def eU.cells(v:eU):List A:=[.int .i64 v.r,.int .i64 v.c]
def eU.enc(v:eU):A:= .agg v.cells
@[go_sem] theorem eU.za{a b:Int}:eU.enc ⟨a,b⟩= .agg [.int .i64 a,.int .i64 b]:=rfl
theorem eU.jM(v w:eU)(h:v.enc=w.enc):v=w:=by cases v;cases w;simpa[eU.enc,eU.cells]using h
@[simp] theorem map_ver_inj{l m:List eU}:(l.map eU.enc=m.map eU.enc)=(l=m):=map_inj eU.jM
def cm(v:eU):Bool:=decide (1<=v.r)&&decide (v.r<=16)&&decide (1<=v.c)&&decide (v.c<=1099511627776)
def EN(a b:eU):Bool:=decide (a.r<b.r)||(a.r==b.r)&&decide (a.c<b.c)
def lL(a b:eU):Int:=if a=b then 0 else if EN a b then-1 else 1
theorem Cz:aQ Tryz.prog PC Tryz.f161.ntmps (Tryz.f161.body.getD .skip)=true:=by kernel_rfl
theorem vc(r c:Int):bp Tryz.prog 161 [.agg [.int .i64 r,.int .i64 c]] (· = .bool (cm ⟨r,c⟩)):=by
 refine ah uN mixed Tryz.func161 rfl (ab rfl) Cz ?_;unfold Tryz.f161;by_cases h1:1<=r
 · by_cases h2:r<=16
   · by_cases h3:1<=c
     · simp-implicitDefEqProofs (disch:=(first|omega|decide)) only[go_sem,↓reduceIte,seval,h1,h2,h3,cm]
     · simp-implicitDefEqProofs (disch:=(first|omega|decide)) only[go_sem,↓reduceIte,seval,h1,h2,h3,cm]
   · simp-implicitDefEqProofs (disch:=(first|omega|decide)) only[go_sem,↓reduceIte,seval,h1,h2,cm]
 · simp-implicitDefEqProofs (disch:=(first|omega|decide)) only[go_sem,↓reduceIte,seval,h1,cm]
theorem Ii:aQ Tryz.prog PC Tryz.f101.ntmps (Tryz.f101.body.getD .skip)=true:=by kernel_rfl
theorem ta(r c:Int):bp Tryz.prog 101 [.agg [.int .i64 r,.int .i64 c]] (· = .bool (cm ⟨r,c⟩)):=by
 refine ah uN mixed Tryz.func101 rfl (ab rfl) Ii ?_;unfold Tryz.f101;by_cases h1:1<=r
 · by_cases h2:r<=16
   · by_cases h3:1<=c
     · simp-implicitDefEqProofs (disch:=(first|omega|decide)) only[go_sem,↓reduceIte,seval,h1,h2,h3,cm]
     · simp-implicitDefEqProofs (disch:=(first|omega|decide)) only[go_sem,↓reduceIte,seval,h1,h2,h3,cm]
   · simp-implicitDefEqProofs (disch:=(first|omega|decide)) only[go_sem,↓reduceIte,seval,h1,h2,cm]
 · simp-implicitDefEqProofs (disch:=(first|omega|decide)) only[go_sem,↓reduceIte,seval,h1,cm]
theorem Ij:aQ Tryz.prog PC Tryz.f190.ntmps (Tryz.f190.body.getD .skip)=true:=by kernel_rfl
theorem tb(a b:eU):bp Tryz.prog 190 [.agg [.int .i64 a.r,.int .i64 a.c],.agg [.int .i64 b.r,.int .i64 b.c]] (· = .int .i64 (lL a b)):=by
 refine ah uN mixed Tryz.func190 rfl (ab rfl) Ij ?_;unfold Tryz.f190;obtain⟨r,c⟩:=a;obtain⟨r',c'⟩:=b;by_cases h1:r=r'
 · subst h1
   by_cases h2:c=c'
   · subst h2
     have e:lL ⟨r,c⟩ ⟨r,c⟩=0:=by simp[lL]
     have e1:(r==r)=true:=by simp
     have e2:(c==c)=true:=by simp
     simp-implicitDefEqProofs (disch:=(first|omega|decide)) only[go_sem,↓reduceIte,seval,e,e1,e2]
   · have h3:(c==c')=false:=by simpa using h2
     have e1:(r==r)=true:=by simp
     have h4: ¬r<r:=by omega
     by_cases h5:c<c'
     · have e:lL ⟨r,c⟩ ⟨r,c'⟩= -1:=by simp[lL,EN,h2,h5]
       simp-implicitDefEqProofs (disch:=(first|omega|decide)) only[go_sem,↓reduceIte,seval,e,e1,h3,h4,h5]
     · have e:lL ⟨r,c⟩ ⟨r,c'⟩=1:=by simp[lL,EN,h2,h5]
       simp-implicitDefEqProofs (disch:=(first|omega|decide)) only[go_sem,↓reduceIte,seval,e,e1,h3,h4,h5]
 · have h3:(r==r')=false:=by simpa using h1
   by_cases h4:r<r'
   · have e:lL ⟨r,c⟩ ⟨r',c'⟩= -1:=by simp[lL,EN,h1,h4]
     simp-implicitDefEqProofs (disch:=(first|omega|decide)) only[go_sem,↓reduceIte,seval,e,h3,h4]
   · have e:lL ⟨r,c⟩ ⟨r',c'⟩=1:=by simp[lL,EN,h1,h4]
     simp-implicitDefEqProofs (disch:=(first|omega|decide)) only[go_sem,↓reduceIte,seval,e,h3,h4]
theorem Ld:aQ Tryz.prog PC Tryz.f134.ntmps (Tryz.f134.body.getD .skip)=true:=by kernel_rfl
theorem A2(a b:eU):bp Tryz.prog 134 [.agg [.int .i64 a.r,.int .i64 a.c],.agg [.int .i64 b.r,.int .i64 b.c]] (· = .bool (EN a b)):=by
 refine ah uN mixed Tryz.func134 rfl (ab rfl) Ld ?_;unfold Tryz.f134;obtain⟨r,c⟩:=a;obtain⟨r',c'⟩:=b;by_cases h4:r<r'
 · simp-implicitDefEqProofs (disch:=(first|omega|decide)) only[go_sem,↓reduceIte,seval,h4,EN]
 · cases h3:r==r'<;>simp-implicitDefEqProofs (disch:=(first|omega|decide)) only[go_sem,↓reduceIte,seval,h3,h4,EN]
def T12a:aW:=PC.add 161 (entry (fun(v:Int×Int)=>[.agg [.int .i64 v.1,.int .i64 v.2]]) (fun v=>True) (fun v=> .bool (cm ⟨v.1,v.2⟩)))
theorem T12a_ok:aN Tryz.prog T12a:=uN.dH Tryz.func161 (by kernel_rfl) (by kernel_rfl) fun v h=>vc v.1 v.2
theorem zk(v:Int×Int)(h:True):T12a.f 161 [.agg [.int .i64 v.1,.int .i64 v.2]]=some (.bool (cm ⟨v.1,v.2⟩)):=aW.aZ (Γ:=PC) (fun i j h=>by simpa[ag,and_assoc]using h) v h
def T12b:aW:=T12a.add 101 (entry (fun(v:Int×Int)=>[.agg [.int .i64 v.1,.int .i64 v.2]]) (fun v=>True) (fun v=> .bool (cm ⟨v.1,v.2⟩)))
theorem T12b_ok:aN Tryz.prog T12b:=T12a_ok.dH Tryz.func101 (by kernel_rfl) (by kernel_rfl) fun v h=>ta v.1 v.2
@[go_sem] theorem T12b_old{g:FuncId}{xs:List A}(h:g≠101):T12b.f g xs=T12a.f g xs:=aW.aU h
def T12c:aW:=T12b.add 190 (entry (fun(v:(Int×Int)×(Int×Int))=>[.agg [.int .i64 v.1.1,.int .i64 v.1.2],.agg [.int .i64 v.2.1,.int .i64 v.2.2]]) (fun v=>True) (fun v=> .int .i64 (lL ⟨v.1.1,v.1.2⟩ ⟨v.2.1,v.2.2⟩)))
theorem T12c_ok:aN Tryz.prog T12c:=T12b_ok.dH Tryz.func190 (by kernel_rfl) (by kernel_rfl) fun v h=>tb ⟨v.1.1,v.1.2⟩ ⟨v.2.1,v.2.2⟩
@[go_sem] theorem T12c_old{g:FuncId}{xs:List A}(h:g≠190):T12c.f g xs=T12b.f g xs:=aW.aU h
def T12d:aW:=T12c.add 134 (entry (fun(v:(Int×Int)×(Int×Int))=>[.agg [.int .i64 v.1.1,.int .i64 v.1.2],.agg [.int .i64 v.2.1,.int .i64 v.2.2]]) (fun v=>True) (fun v=> .bool (EN ⟨v.1.1,v.1.2⟩ ⟨v.2.1,v.2.2⟩)))
theorem T12d_ok:aN Tryz.prog T12d:=T12c_ok.dH Tryz.func134 (by kernel_rfl) (by kernel_rfl) fun v h=>A2 ⟨v.1.1,v.1.2⟩ ⟨v.2.1,v.2.2⟩
@[go_sem] theorem T12d_old{g:FuncId}{xs:List A}(h:g≠134):T12d.f g xs=T12c.f g xs:=aW.aU h
@[go_sem] theorem t_version_Right{r c:Int}:T12a.f 161 [.agg [.int .i64 r,.int .i64 c]]=some (.bool (cm ⟨r,c⟩)):=zk (r,c) trivial
def T12e:aW:=T12d
theorem T12e_ok:aN Tryz.prog T12e:=T12d_ok
@[go_sem] theorem T12e_old{g:FuncId}{xs:List A}:T12e.f g xs=T12d.f g xs:=rfl
end Go.Proofs.YtfnohjheonlnmaaGreat
