/- What the laws of this claim rest on: the abstract executor, its soundness, and what the functions compute on pure data. No condition. -/
import Derived.Test.YtihgnfmoafjakaaGreatU4
import Derived.Shelf.SlSortCmp.NoneTotal
import Derived.Ground.SlsfProg
import Derived.Test.YtihgnfmoafjakaaGreatProg
noncomputable section
set_option linter.unusedVariables false
set_option linter.unusedSimpArgs false
namespace Go.Proofs.YtihgnfmoafjakaaGreat
open Go.bJ
set_option linter.unusedSimpArgs false
set_option linter.unusedVariables false
set_option maxRecDepth 20000
set_option maxHeartbeats 4000000
def j9(l:List aC)(k:Nat):Option Int:=if k=0 then none else(l[k-1]?).map aC.t
theorem yq:ai Tryz.prog pG Tryz.f179.ntmps (Tryz.f179.body.getD .skip)=true:=by kernel_rfl
theorem pH(l:List aC)(hl:l.length<=4611686018427387904):az Tryz.prog 179 [.ad (l.map aC.enc)] (· = .bool (bm l)):=by
 refine aa nI mixed Tryz.func179 rfl (Nat.le_of_ble_eq_true rfl) yq ?_;unfold Tryz.f179;simp-implicitDefEqProofs (disch:=(first|omega|decide)) only[go_sem,↓reduceIte,seval,List.length_map]
 refine ao [0,5,6] (ι:={k:Nat//k<=l.length/\bm l=N3 (j9 l k) (l.drop k)/\ ∀h:k-1<l.length,0<k->cq l[k-1]=true}) (fun p=>[(7,.int .i64 p.1),(2,.bool false)]) (fun _=>[]) (fun p=>l.length-p.1) ⟨0,by omega,rfl,fun _ h=>absurd h (by omega)⟩ (Nat.zero_le _) ?_ ?_
 · simp-implicitDefEqProofs (disch:=(first|omega|decide)) only[go_sem,↓reduceIte,seval]
 · rintro⟨k,hk,hd,hp⟩
   simp only;by_cases aw:k<l.length
   · have ae:(k:Int)<(l.length:Int):=by omega
     have e1:=run_get aw;have Bk:j9 l (k+1)=some l[k].t:=by unfold j9;rw[if_neg (by omega),show k+1-1=k by omega,List.getElem?_eq_getElem aw];rfl
     rw[List.drop_eq_getElem_cons aw]at hd;simp only[N3]at hd;have next:bm l=N3 (some l[k].t) (l.drop (k+1))->cq l[k]=true-> ∃j:{k:Nat//k<=l.length/\bm l=N3 (j9 l k) (l.drop k)/\ ∀h:k-1<l.length,0<k->cq l[k-1]=true},(k:Int)+1=(j.1:Int)/\l.length-j.1<l.length-k:=fun h h'=>⟨⟨k+1,aw,by rw[Bk];exact h,fun _ _=>h'⟩,by simp,by show l.length-(k+1)<l.length-k;omega⟩
     generalize hx:l[k]=x at*;obtain⟨f,t⟩:=x;cases h1:cq ⟨f,t⟩with
     |false=>
      have hh:bm l=false:=by rw[hd,h1];rfl
      simp-implicitDefEqProofs (disch:=(first|omega|decide)) only[go_sem,↓reduceIte,seval,ae,e1,h1,hh,wrap_i64,List.length_map]
     |true=>
      obtain⟨o1,o2,o3⟩:=iM h1;simp only at o1 o2 o3;by_cases h0:0<k
      · have D7:(0:Int)<(k:Int):=by omega
        have ke:k-1<l.length:=by omega
        have e0:=run_get ke;have hpo:=hp ke h0;have hpt:j9 l k=some l[k-1].t:=by unfold j9;rw[if_neg (by omega),List.getElem?_eq_getElem ke];rfl
        have t0:((k:Int)-1).toNat=k-1:=by omega
        have b0:(0:Int)<=(k:Int)-1:=by omega
        have b1:(k:Int)-1<(l.length:Int):=by omega
        rw[hpt]at hd;generalize hy:l[k-1]=y at*;obtain⟨f',t'⟩:=y;obtain⟨p1,p2,p3⟩:=iM hpo;simp only at p1 p2 p3 hd;by_cases h2:f-t'<2
        · have hh:bm l=false:=by
           rw[hd];have: ¬t'+2<=f:=by omega
           simp[this]
          simp-implicitDefEqProofs (disch:=(first|omega|decide)) only[go_sem,↓reduceIte,seval,ae,e1,e0,h1,D7,t0,b0,b1,h2,hh,wrap_i64,List.length_map]
        · simp-implicitDefEqProofs (disch:=(first|omega|decide)) only[go_sem,↓reduceIte,seval,ae,e1,e0,h1,D7,t0,b0,b1,h2,wrap_i64,List.length_map]
          have h3:t'+2<=f:=by omega
          exact next (by rw[hd,h1];simp[h3]) h1
      · have D7: ¬(0:Int)<(k:Int):=by omega
        simp-implicitDefEqProofs (disch:=(first|omega|decide)) only[go_sem,↓reduceIte,seval,ae,e1,h1,D7,wrap_i64,List.length_map]
        have ye:k=0:=by omega
        exact next (by rw[hd,h1];simp[j9,ye]) h1
   · have ae: ¬(k:Int)<(l.length:Int):=by omega
     have hh:bm l=true:=by rw[hd,List.drop_of_length_le (by omega)];cases j9 l k<;>rfl
     simp-implicitDefEqProofs (disch:=(first|omega|decide)) only[go_sem,↓reduceIte,seval,ae,hh,List.length_map]
theorem Bl:ai Tryz.prog pG Tryz.f169.ntmps (Tryz.f169.body.getD .skip)=true:=by kernel_rfl
theorem D8(l:List aC)(hl:l.length<=4611686018427387904):az Tryz.prog 169 [.ad (l.map aC.enc)] (· = .bool (bm l)):=by
 refine aa nI mixed Tryz.func169 rfl (Nat.le_of_ble_eq_true rfl) Bl ?_;unfold Tryz.f169;simp-implicitDefEqProofs (disch:=(first|omega|decide)) only[go_sem,↓reduceIte,seval,List.length_map]
 refine ao [0] (ι:={k:Nat//k<=l.length/\bm l=N3 (j9 l k) (l.drop k)/\ ∀h:k-1<l.length,0<k->cq l[k-1]=true}) (fun p=>[(3,.int .i64 p.1),(2,.bool false)]) (fun _=>[]) (fun p=>l.length-p.1) ⟨0,by omega,rfl,fun _ h=>absurd h (by omega)⟩ (Nat.zero_le _) ?_ ?_
 · simp-implicitDefEqProofs (disch:=(first|omega|decide)) only[go_sem,↓reduceIte,seval]
 · rintro⟨k,hk,hd,hp⟩
   simp only;by_cases aw:k<l.length
   · have ae:(k:Int)<(l.length:Int):=by omega
     have e1:=run_get aw;have Bk:j9 l (k+1)=some l[k].t:=by unfold j9;rw[if_neg (by omega),show k+1-1=k by omega,List.getElem?_eq_getElem aw];rfl
     rw[List.drop_eq_getElem_cons aw]at hd;simp only[N3]at hd;have next:bm l=N3 (some l[k].t) (l.drop (k+1))->cq l[k]=true-> ∃j:{k:Nat//k<=l.length/\bm l=N3 (j9 l k) (l.drop k)/\ ∀h:k-1<l.length,0<k->cq l[k-1]=true},(k:Int)+1=(j.1:Int)/\l.length-j.1<l.length-k:=fun h h'=>⟨⟨k+1,aw,by rw[Bk];exact h,fun _ _=>h'⟩,by simp,by show l.length-(k+1)<l.length-k;omega⟩
     generalize hx:l[k]=x at*;obtain⟨f,t⟩:=x;cases h1:cq ⟨f,t⟩with
     |false=>
      have hh:bm l=false:=by rw[hd,h1];rfl
      simp-implicitDefEqProofs (disch:=(first|omega|decide)) only[go_sem,↓reduceIte,seval,ae,e1,h1,hh,wrap_i64,List.length_map]
     |true=>
      obtain⟨o1,o2,o3⟩:=iM h1;simp only at o1 o2 o3;by_cases h0:0<k
      · have D7:(0:Int)<(k:Int):=by omega
        have ke:k-1<l.length:=by omega
        have e0:=run_get ke;have hpo:=hp ke h0;have hpt:j9 l k=some l[k-1].t:=by unfold j9;rw[if_neg (by omega),List.getElem?_eq_getElem ke];rfl
        have t0:((k:Int)-1).toNat=k-1:=by omega
        have b0:(0:Int)<=(k:Int)-1:=by omega
        have b1:(k:Int)-1<(l.length:Int):=by omega
        rw[hpt]at hd;generalize hy:l[k-1]=y at*;obtain⟨f',t'⟩:=y;obtain⟨p1,p2,p3⟩:=iM hpo;simp only at p1 p2 p3 hd;by_cases h2:f<t'+2
        · have hh:bm l=false:=by
           rw[hd];have: ¬t'+2<=f:=by omega
           simp[this]
          simp-implicitDefEqProofs (disch:=(first|omega|decide)) only[go_sem,↓reduceIte,seval,ae,e1,e0,h1,D7,t0,b0,b1,h2,hh,wrap_i64,List.length_map]
        · simp-implicitDefEqProofs (disch:=(first|omega|decide)) only[go_sem,↓reduceIte,seval,ae,e1,e0,h1,D7,t0,b0,b1,h2,wrap_i64,List.length_map]
          have h3:t'+2<=f:=by omega
          exact next (by rw[hd,h1];simp[h3]) h1
      · have D7: ¬(0:Int)<(k:Int):=by omega
        simp-implicitDefEqProofs (disch:=(first|omega|decide)) only[go_sem,↓reduceIte,seval,ae,e1,h1,D7,wrap_i64,List.length_map]
        have ye:k=0:=by omega
        exact next (by rw[hd,h1];simp[j9,ye]) h1
   · have ae: ¬(k:Int)<(l.length:Int):=by omega
     have hh:bm l=true:=by rw[hd,List.drop_of_length_le (by omega)];cases j9 l k<;>rfl
     simp-implicitDefEqProofs (disch:=(first|omega|decide)) only[go_sem,↓reduceIte,seval,ae,hh,List.length_map]
theorem HZ:ai Tryz.prog pG Tryz.f167.ntmps (Tryz.f167.body.getD .skip)=true:=by kernel_rfl
theorem LF(l:List aC)(n:Int)(hl:l.length<=4611686018427387904):az Tryz.prog 167 [.ad (l.map aC.enc),.int .i64 n] (· = .bool (ah l n)):=by
 refine aa nI mixed Tryz.func167 rfl (Nat.le_of_ble_eq_true rfl) HZ ?_;unfold Tryz.f167;simp-implicitDefEqProofs (disch:=(first|omega|decide)) only[go_sem,↓reduceIte,seval,List.length_map]
 refine ao [0,1] (ι:={k:Nat//k<=l.length/\ah l n=ah (l.drop k) n}) (fun p=>[(5,.int .i64 p.1),(4,.bool false)]) (fun _=>[]) (fun p=>l.length-p.1) ⟨0,by omega,rfl⟩ (Nat.zero_le _) ?_ ?_
 · simp-implicitDefEqProofs (disch:=(first|omega|decide)) only[go_sem,↓reduceIte,seval]
 · rintro⟨k,hk,hd⟩
   simp only;by_cases aw:k<l.length
   · have ae:(k:Int)<(l.length:Int):=by omega
     have e1:=run_get aw;rw[List.drop_eq_getElem_cons aw]at hd;generalize hx:l[k]=x at*;obtain⟨f,t⟩:=x;simp only[ah,List.any_cons]at hd;have next:ah l n=ah (l.drop (k+1)) n-> ∃j:{k:Nat//k<=l.length/\ah l n=ah (l.drop k) n},(k:Int)+1=(j.1:Int)/\l.length-j.1<l.length-k:=fun h=>⟨⟨k+1,aw,h⟩,by simp,by show l.length-(k+1)<l.length-k;omega⟩
     cases h1:cq ⟨f,t⟩with
     |false=>
      simp-implicitDefEqProofs (disch:=(first|omega|decide)) only[go_sem,↓reduceIte,seval,ae,e1,h1,wrap_i64,List.length_map]
      exact next (by rw[h1]at hd;simpa[ah]using hd)
     |true=>
      by_cases h2:f<=n
      · by_cases h3:n<=t
        · have hh:ah l n=true:=by unfold ah;rw[hd];simp[h1,h2,h3]
          simp-implicitDefEqProofs (disch:=(first|omega|decide)) only[go_sem,↓reduceIte,seval,ae,e1,h1,h2,h3,hh,wrap_i64,List.length_map]
        · simp-implicitDefEqProofs (disch:=(first|omega|decide)) only[go_sem,↓reduceIte,seval,ae,e1,h1,h2,h3,wrap_i64,List.length_map]
          exact next (by rw[h1]at hd;simpa[ah,h2,h3]using hd)
      · simp-implicitDefEqProofs (disch:=(first|omega|decide)) only[go_sem,↓reduceIte,seval,ae,e1,h1,h2,wrap_i64,List.length_map]
        exact next (by rw[h1]at hd;simpa[ah,h2]using hd)
   · have ae: ¬(k:Int)<(l.length:Int):=by omega
     have hh:ah l n=false:=by rw[hd,List.drop_of_length_le (by omega)];rfl
     simp-implicitDefEqProofs (disch:=(first|omega|decide)) only[go_sem,↓reduceIte,seval,ae,hh,List.length_map]
def N4(r:aC)(n:Int):Bool:=decide (r.f<=n)&&decide (n<=r.t)
def RR:List aC->Prop
 | []=>True
 | [r]=>cq r=true
 |r::q::l=>cq r=true/\q.t+2<=r.f/\RR (q::l)
theorem cr{r:aC}:cq r=true ↔ 1<=r.f/\r.f<=r.t/\r.t<=1099511627776:=by simp[cq,and_assoc]
theorem LG: ∀(l:List aC) (p:Option Int) (q r:aC),N3 p (l++[q,r])=(N3 p (l++[q])&&(cq r&&decide (q.t+2<=r.f)))
 | [],p,q,r=>by cases p<;>simp[N3,Bool.and_assoc]
 |x::l,p,q,r=>by simp only[List.cons_append,N3,LG l (some x.t) q r,Bool.and_assoc]
theorem qG: ∀{l:List aC},bm l.reverse=true ↔ RR l
 | []=>by simp[bm,N3,RR]
 | [r]=>by simp[bm,N3,RR]
 |r::q::l=>by
  have ih:= @qG (q::l)
  simp only[List.reverse_cons,List.append_assoc,List.cons_append,List.nil_append,bm]at ih⊢;rw[LG,Bool.and_eq_true,ih,RR,Bool.and_eq_true,decide_eq_true_iff]
  exact⟨fun⟨a,b,c⟩=>⟨b,c,a⟩,fun⟨b,c,a⟩=>⟨a,b,c⟩⟩
theorem kJ{l:List aC}:bm l=true ↔ RR l.reverse:=by
 have:= @qG l.reverse
 rwa [List.reverse_reverse]at this
theorem ua{r:aC}: ∀{l:List aC},RR (r::l)->RR l
 | [],_=>trivial
 |_::_,h=>h.2.2
theorem eL{r:aC}: ∀{l:List aC},RR (r::l)->cq r=true
 | [],h=>h
 |_::_,h=>h.1
theorem WM: ∀{l:List aC},RR l-> ∀r∈l,cq r=true
 | [],_,r,hr=>by cases hr
 |q::l,h,r,hr=>by
  rcases List.mem_cons.1 hr with rfl|hr
  · exact eL h
  · exact WM (ua h) r hr
theorem pI: ∀{l:List aC} {r:aC},RR (r::l)-> ∀q∈l,q.t+2<=r.f
 | [],_,_,q,hq=>by cases hq
 |p::l,r,h,q,hq=>by
  rcases List.mem_cons.1 hq with rfl|hq
  · exact h.2.1
  · have h1:=pI h.2.2 q hq
    have h2:=cr.1 (eL h.2.2)
    have h3:=h.2.1;omega
theorem pJ(r:aC)(l:List aC)(n:Int):ah (r::l) n=(cq r&&N4 r n||ah l n):=by simp[ah,N4,Bool.and_assoc]
theorem qH(n:Int):ah [] n=false:=rfl
theorem fg(l m:List aC)(n:Int):ah (l++m) n=(ah l n||ah m n):=by simp[ah]
theorem qI(l:List aC)(n:Int):ah l.reverse n=ah l n:=by simp[ah]
theorem dJ{l:List aC}{n:Int}:ah l n=true ↔∃r∈l,cq r=true/\r.f<=n/\n<=r.t:=by simp[ah,and_assoc]
theorem TJ{l:List aC}{n:Int}(h:ah l n=true):1<=n/\n<=1099511627776:=by obtain⟨r,_,h1,h2,h3⟩:=dJ.1 h;have:=cr.1 h1;omega
theorem WN{l m:List aC}(h:l.Perm m)(n:Int):ah l n=ah m n:=by
 rw[Bool.eq_iff_iff,dJ,dJ]
 exact⟨fun⟨r,hr,h1⟩=>⟨r,h.mem_iff.1 hr,h1⟩,fun⟨r,hr,h1⟩=>⟨r,h.mem_iff.2 hr,h1⟩⟩
theorem O7(l:List aC)(n:Int):ah (l.filter cq) n=ah l n:=by
 rw[Bool.eq_iff_iff,dJ,dJ]
 exact⟨fun⟨r,hr,h1⟩=>⟨r,(List.mem_filter.1 hr).1,h1⟩,fun⟨r,hr,h1⟩=>⟨r,List.mem_filter.2 ⟨hr,h1.1⟩,h1⟩⟩
theorem O8{r:aC}{l:List aC}(h:RR (r::l)): ∀n,ah (r::l) n=true->n<=r.t:=fun n hn=>by
 obtain⟨q,hq,h1,h2,h3⟩:=dJ.1 hn;rcases List.mem_cons.1 hq with rfl|hq
 · exact h3
 · have:=pI h q hq
   have:=cr.1 (eL h)
   omega
theorem WO{r:aC}{l:List aC}(h:RR (r::l))(n:Int):ah l n=(ah (r::l) n&&decide (n+2<=r.f)):=by
 rw[Bool.eq_iff_iff,Bool.and_eq_true,decide_eq_true_iff,dJ,dJ]
 constructor
 · rintro⟨q,hq,h1,h2,h3⟩
   have:=pI h q hq;exact⟨⟨q,List.mem_cons_of_mem _ hq,h1,h2,h3⟩,by omega⟩
 · rintro⟨⟨q,hq,h1,h2,h3⟩,h4⟩
   rcases List.mem_cons.1 hq with rfl|hq
   · omega
   · exact⟨q,hq,h1,h2,h3⟩
theorem Gt: ∀{l m:List aC},RR l->RR m->(∀n,ah l n=ah m n)->l=m
 | [],[],_,_,_=>rfl
 | [],r::m,_,h,hm=>by
  have h1:=cr.1 (eL h)
  have h2:ah (r::m) r.t=true:=dJ.2 ⟨r,by simp,eL h,h1.2.1,Int.le_refl _⟩
  rw[<-hm]at h2;cases h2
 |r::l,[],h,_,hm=>by
  have h1:=cr.1 (eL h)
  have h2:ah (r::l) r.t=true:=dJ.2 ⟨r,by simp,eL h,h1.2.1,Int.le_refl _⟩
  rw[hm]at h2;cases h2
 |r::l,q::m,h,h',hm=>by
  have o1:=cr.1 (eL h)
  have o2:=cr.1 (eL h')
  have a1:ah (r::l) r.t=true:=dJ.2 ⟨r,by simp,eL h,o1.2.1,Int.le_refl _⟩
  have a2:ah (q::m) q.t=true:=dJ.2 ⟨q,by simp,eL h',o2.2.1,Int.le_refl _⟩
  rw[hm]at a1;rw[<-hm]at a2;have b1:=O8 h' _ a1;have b2:=O8 h _ a2;have et:r.t=q.t:=by omega
  -- what begins lower has the count ahead of the other's beginning
  have key: ∀{r q:aC} {l m:List aC},RR (r::l)->RR (q::m)->(∀n,ah (r::l) n=ah (q::m) n)->r.t=q.t->r.f<=q.f:=by
   intro r q l m h h' hm et;rcases Int.lt_or_le q.f r.f with aw|hle
   · exfalso
     have o1:=cr.1 (eL h)
     have o2:=cr.1 (eL h')
     have c1:ah (q::m) (r.f-1)=true:=dJ.2 ⟨q,by simp,eL h',by omega,by omega⟩
     rw[<-hm]at c1;obtain⟨p,hp,h1,h2,h3⟩:=dJ.1 c1;rcases List.mem_cons.1 hp with rfl|hp
     · omega
     · have:=pI h p hp;omega
   · exact hle
  have ef:r.f=q.f:=by have:=key h h' hm et;have:=key h' h (fun n=>(hm n).symm) et.symm;omega
  have e:r=q:=by cases r;cases q;simp_all
  subst e;rw[Gt (ua h) (ua h') fun n=>by rw[WO h,WO h',hm]]
theorem H0{l m:List aC}(h:bm l=true)(h':bm m=true)(hm: ∀n,ah l n=ah m n):l=m:=by
 have:=Gt (kJ.1 h) (kJ.1 h') (fun n=>by rw[qI,qI,hm])
 simpa using this
open Classical in
/-- The right list of what is meant, if there is one. -/
def cw(p:Int->Bool):List aC:=if h: ∃l,bm l=true/\ ∀n,ah l n=p n then Classical.choose h else []
def IsR(p:Int->Bool):Prop:= ∃l,bm l=true/\ ∀n,ah l n=p n
theorem f_(p:Int->Bool):bm (cw p)=true:=by
 unfold cw;split
 · rename_i h;exact(Classical.choose_spec h).1
 · rfl
theorem mJ{p:Int->Bool}(h:IsR p)(n:Int):ah (cw p) n=p n:=by unfold cw;rw[dif_pos (show∃l,bm l=true/\ ∀n,ah l n=p n from h)];exact(Classical.choose_spec h).2 n
theorem qJ{p:Int->Bool}{l:List aC}(h:bm l=true)(hp: ∀n,ah l n=p n):l=cw p:=
 H0 h (f_ p) fun n=>by rw[hp,mJ ⟨l,h,hp⟩]
def cB:List aC->aC->List aC
 | [],r=>[r]
 |q::qs,r=>if r.f<q.t+2 then⟨q.f,if r.t>q.t then r.t else q.t⟩::qs else r::q::qs
def aaG(l:List aC)(x:Int):Prop:=match l with| []=>True|q::_=>q.f<=x
theorem xF{l:List aC}{r:aC}(h:RR l)(hr:cq r=true)(hf:aaG l r.f):RR (cB l r)/\aaG (cB l r) r.f/\ ∀n,ah (cB l r) n=(ah l n||N4 r n):=by
 cases l with
 |nil=>exact⟨hr,Int.le_refl _,fun n=>by simp[cB,ah,hr,N4]⟩
 |cons q qs=>
  have o1:=cr.1 hr;have o2:=cr.1 (eL h)
  have Q1:q.f<=r.f:=hf;simp only[cB]
  by_cases hc:r.f<q.t+2
  · rw[if_pos hc]
    generalize ht:(if r.t>q.t then r.t else q.t)=t;have ht':(t=r.t/\q.t<r.t)\/(t=q.t/\r.t<=q.t):=by split at ht<;>omega
    have ho:cq ⟨q.f,t⟩=true:=cr.2 ⟨o2.1,by show q.f<=t;omega,by show t<=_;omega⟩
    refine⟨?_,Q1,fun n=> ?_⟩
    · cases qs with
      |nil=>exact ho
      |cons p ps=>exact⟨ho,h.2.1,h.2.2⟩
    · rw[pJ,pJ,ho,eL h]
      have:N4 ⟨q.f,t⟩ n=(N4 q n||N4 r n):=by rw[Bool.eq_iff_iff];simp only[N4,Bool.and_eq_true,Bool.or_eq_true,decide_eq_true_iff];omega
      rw[this];simp only[Bool.true_and]
      cases N4 q n<;>cases N4 r n<;>cases ah qs n<;>rfl
  · rw[if_neg hc]
    refine⟨⟨hr,by omega,h⟩,Int.le_refl _,fun n=> ?_⟩
    rw[pJ,hr];simp only[Bool.true_and];cases N4 r n<;>cases ah (q::qs) n<;>rfl
theorem Gu(l:List aC)(r:aC):(cB l r).length<=l.length+1:=by
 cases l with
 |nil=>simp[cB]
 |cons q qs=>simp only[cB];split<;>simp
theorem fold_push: ∀{l:List aC} {a:List aC},RR a->(∀r∈l,cq r=true)->l.Pairwise (fun x y=>x.f<=y.f)->(∀r∈l,aaG a r.f)->RR (l.foldl cB a)/\ ∀n,ah (l.foldl cB a) n=(ah a n||ah l n)
 | [],a,h,_,_,_=>⟨h,fun n=>by simp[ah]⟩
 |r::l,a,h,ho,hs,hf=>by
  obtain⟨h1,h2,h3⟩:=xF h (ho r (by simp)) (hf r (by simp))
  rw[List.pairwise_cons]at hs
  obtain⟨h4,h5⟩:=fold_push (l:=l) h1 (fun q hq=>ho q (by simp[hq])) hs.2 (fun q hq=>by
   have:=hs.1 q hq;revert h2;cases cB a r with
   |nil=>intro _;trivial
   |cons p ps=>intro h2;exact Int.le_trans h2 this)
  refine⟨h4,fun n=> ?_⟩
  rw[List.foldl_cons,h5,h3,pJ,ho r (by simp)]
  simp only[Bool.true_and,Bool.or_assoc]
theorem D9{l:List aC}(ho: ∀r∈l,cq r=true)(hs:l.Pairwise (fun x y=>x.f<=y.f)):(l.foldl cB []).reverse=cw (ah l):=by
 obtain⟨h1,h2⟩:=fold_push (a:=[]) trivial ho hs (fun _ _=>trivial)
 exact qJ (qG.2 h1) fun n=>by rw[qI,h2];simp[ah]
end Go.Proofs.YtihgnfmoafjakaaGreat
namespace Go.Proofs.YtihgnfmoafjakaaGreat
open Go.bJ
set_option linter.unusedSimpArgs false
set_option linter.unusedVariables false
def i_:List Int->Int->List Int
 | [],n=>[n]
 |x::xs,n=>if x<n then x::i_ xs n else if x=n then x::xs else n::x::xs
theorem ub(l:List Int)(n:Int):(i_ l n).length<=l.length+1:=by
 induction l with
 |nil=>simp[i_]
 |cons x xs ih=>
  simp only[i_]
  split
  · simp;omega
  · split<;>simp
theorem Rp(l:List Int)(n:Int):i_ l n≠ []:=by
 cases l with
 |nil=>simp[i_]
 |cons x xs=>
  simp only[i_]
  split
  · simp
  · split<;>simp
theorem Bm(l:List Int)(n x:Int):x∈i_ l n ↔ x=n\/x∈l:=by
 induction l with
 |nil=>simp[i_]
 |cons y ys ih=>
  simp only[i_]
  split
  · rw[List.mem_cons,ih,List.mem_cons]
    exact⟨fun h=>by rcases h with h|h|h<;>simp[h],fun h=>by rcases h with h|h|h<;>simp[h]⟩
  · split
    · rename_i h1 h2;subst h2;simp
    · simp
theorem Rq{l:List Int}{n:Int}(h:l.Pairwise (· < ·)):(i_ l n).Pairwise (· < ·):=by
 induction l with
 |nil=>simp[i_]
 |cons y ys ih=>
  rw[List.pairwise_cons]at h;simp only[i_]
  split
  · rename_i h1
    rw[List.pairwise_cons]
    refine⟨fun x hx=> ?_,ih h.2⟩
    rcases(Bm ys n x).1 hx with rfl|hx
    · exact h1
    · exact h.1 x hx
  · split
    · exact List.pairwise_cons.2 h
    · rename_i h1 h2
      rw[List.pairwise_cons]
      refine⟨fun x hx=> ?_,List.pairwise_cons.2 h⟩
      rcases List.mem_cons.1 hx with rfl|hx
      · omega
      · have:=h.1 x hx;omega
def dB:List Int->List aC->List Int
 |e,[]=>e
 |e,r::rs=>dB (if cq r then i_ (i_ e r.f) (r.t+1)else e) rs
theorem nJ(e:List Int)(l:List aC):(dB e l).length<=e.length+2*l.length:=by
 induction l generalizing e with
 |nil=>simp[dB]
 |cons r rs ih=>
  simp only[dB,List.length_cons]
  refine Nat.le_trans (ih _) ?_;split
  · have h1:=ub e r.f
    have h2:=ub (i_ e r.f) (r.t+1)
    omega
  · omega
theorem xG(e:List Int)(l:List aC)(r:aC):dB e (l++[r])=if cq r then i_ (i_ (dB e l) r.f) (r.t+1)else dB e l:=by
 induction l generalizing e with
 |nil=>simp[dB]
 |cons q rs ih=>simp only[List.cons_append,dB];exact ih _
theorem Gv{e:List Int}{l:List aC}(h:e.Pairwise (· < ·)):(dB e l).Pairwise (· < ·):=by
 induction l generalizing e with
 |nil=>exact h
 |cons r rs ih=>
  simp only[dB]
  apply ih;split
  · exact Rq (Rq h)
  · exact h
theorem Bn{l:List aC}{x:Int}: ∀{e:List Int},x∈dB e l ↔ x∈e\/ ∃r∈l,cq r=true/\(x=r.f\/x=r.t+1):=by
 induction l with
 |nil=>intro e;simp[dB]
 |cons r rs ih=>
  intro e;simp only[dB]
  rw[ih]
  cases h:cq r with
  |false=>
   rw[if_neg (by simp)]
   constructor
   · rintro(h1|⟨q,hq,h2⟩)
     · exact .inl h1
     · exact .inr ⟨q,by simp[hq],h2⟩
   · rintro(h1|⟨q,hq,h2⟩)
     · exact .inl h1
     · rcases List.mem_cons.1 hq with rfl|hq
       · rw[h]at h2;simp at h2
       · exact .inr ⟨q,hq,h2⟩
  |true=>
   rw[if_pos rfl,Bm,Bm]
   constructor
   · rintro((h1|h1|h1)|⟨q,hq,h2⟩)
     · exact .inr ⟨r,by simp,h,.inr h1⟩
     · exact .inr ⟨r,by simp,h,.inl h1⟩
     · exact .inl h1
     · exact .inr ⟨q,by simp[hq],h2⟩
   · rintro(h1|⟨q,hq,h2⟩)
     · exact .inl (.inr (.inr h1))
     · rcases List.mem_cons.1 hq with rfl|hq
       · rcases h2.2 with h3|h3
         · exact .inl (.inr (.inl h3))
         · exact .inl (.inl h3)
       · exact .inr ⟨q,hq,h2⟩
def bf(a b:List aC):List Int:=dB (dB [] a) b
theorem jC(a b:List aC):(bf a b).Pairwise (· < ·):=Gv (Gv List.Pairwise.nil)
theorem iu{a b:List aC}{x:Int}:x∈bf a b ↔∃r∈a++b,cq r=true/\(x=r.f\/x=r.t+1):=by
 unfold bf;rw[Bn,Bn]
 constructor
 · rintro((h|⟨r,hr,h⟩)|⟨r,hr,h⟩)
   · cases h
   · exact⟨r,by simp[hr],h⟩
   · exact⟨r,by simp[hr],h⟩
 · rintro⟨r,hr,h⟩
   rcases List.mem_append.1 hr with hr|hr
   · exact .inl (.inr ⟨r,hr,h⟩)
   · exact .inr ⟨r,hr,h⟩
theorem nK{a b:List aC}{x:Int}(h:x∈bf a b):1<=x/\x<=1099511627777:=by obtain⟨r,_,h1,h2⟩:=iu.1 h;have:=cr.1 h1;omega
theorem Bo(a b:List aC):(bf a b).length<=2*a.length+2*b.length:=by have h1:=nJ [] a;have h2:=nJ (dB [] a) b;simp only[List.length_nil]at h1;unfold bf;omega
theorem LH{l:List aC}{x n:Int}(hx:x<=n)(h: ∀r∈l,cq r=true-> ¬(x<r.f/\r.f<=n)/\ ¬(x<r.t+1/\r.t+1<=n)):ah l n=ah l x:=by
 rw[Bool.eq_iff_iff,dJ,dJ]
 constructor
 · rintro⟨r,hr,h1,h2,h3⟩
   have:=h r hr h1;exact⟨r,hr,h1,by omega,by omega⟩
 · rintro⟨r,hr,h1,h2,h3⟩
   have:=h r hr h1;exact⟨r,hr,h1,by omega,by omega⟩
def Vj(op:Int)(x y:Bool):Bool:=if op=1 then x||y else if op=2 then x&&y else x&& !y
theorem WQ(op:Int):Vj op false false=false:=by unfold Vj;split<;>(try split)<;>rfl
def iP(op:Int)(a b:List aC)(n:Int):Bool:=Vj op (ah a n) (ah b n)
section
variable{op:Int}{a b:List aC}
theorem WR{x n:Int}(hx:x<=n)(h: ∀y∈bf a b,¬(x<y/\y<=n)):iP op a b n=iP op a b x:=by
 have e1:ah a n=ah a x:=LH hx fun r hr h1=>⟨h _ (iu.2 ⟨r,by simp[hr],h1,.inl rfl⟩),h _ (iu.2 ⟨r,by simp[hr],h1,.inr rfl⟩)⟩
 have e2:ah b n=ah b x:=LH hx fun r hr h1=>⟨h _ (iu.2 ⟨r,by simp[hr],h1,.inl rfl⟩),h _ (iu.2 ⟨r,by simp[hr],h1,.inr rfl⟩)⟩
 unfold iP;rw[e1,e2]
theorem H2{n:Int}(h: ∀y∈bf a b,n<y):iP op a b n=false:=by
 have e: ∀l:List aC,(∀r∈l,r∈a++b)->ah l n=false:=fun l hl=>by
  rw[<-Bool.not_eq_true,dJ]
  rintro⟨r,hr,h1,h2,h3⟩
  have:=h _ (iu.2 ⟨r,hl r hr,h1,.inl rfl⟩)
  omega
 unfold iP;rw[e a (fun r hr=>by simp[hr]),e b (fun r hr=>by simp[hr]),WQ]
theorem LI{n:Int}(h: ∀y∈bf a b,y<=n):iP op a b n=false:=by
 have e: ∀l:List aC,(∀r∈l,r∈a++b)->ah l n=false:=fun l hl=>by
  rw[<-Bool.not_eq_true,dJ]
  rintro⟨r,hr,h1,h2,h3⟩
  have:=h _ (iu.2 ⟨r,hl r hr,h1,.inr rfl⟩)
  omega
 unfold iP;rw[e a (fun r hr=>by simp[hr]),e b (fun r hr=>by simp[hr]),WQ]
end
def vD(P:Int->Bool)(e:List Int):Nat->List aC
 |0=>[]
 |k+1=>if P (e[k]!)then cB (vD P e k) ⟨e[k]!,e[k+1]! -1⟩else vD P e k
def topT(l:List aC)(x:Int):Prop:=match l with| []=>True|q::_=>q.t<x
theorem H3(P:Int->Bool)(e:List Int): ∀k,(vD P e k).length<=k
 |0=>Nat.le_refl _
 |k+1=>by
  have h1:=H3 P e k;have h2:=Gu (vD P e k) ⟨e[k]!,e[k+1]! -1⟩
  simp only[vD]
  split<;>omega
theorem sr{e:List Int}(h:e.Pairwise (· < ·)){i j:Nat}(vw:i<j)(hj:j<e.length):e[i]! <e[j]! :=by
 rw[getElem!_pos e i (by omega),getElem!_pos e j hj]
 exact List.pairwise_iff_getElem.1 h i j (by omega) hj vw
theorem WS{l:List aC}{r:aC}(h:topT l r.f)(hr:r.f<=r.t):topT (cB l r) (r.t+1):=by
 cases l with
 |nil=>show r.t<r.t+1;omega
 |cons q qs=>
  have h':q.t<r.f:=h;simp only[cB]
  split
  · show(if r.t>q.t then r.t else q.t)<r.t+1
    split<;>omega
  · show r.t<r.t+1;omega
theorem uc(op:Int)(a b:List aC): ∀k,k<(bf a b).length->RR (vD (iP op a b) (bf a b) k)/\topT (vD (iP op a b) (bf a b) k) ((bf a b)[k]!)/\aaG (vD (iP op a b) (bf a b) k) ((bf a b)[k]!)/\
 ∀n,ah (vD (iP op a b) (bf a b) k) n=(decide (n<(bf a b)[k]!)&&iP op a b n)
 |0,hk=>by
  refine⟨trivial,trivial,trivial,fun n=> ?_⟩
  by_cases h:n<(bf a b)[0]!
  · rw[H2]
    · show ah [] n=_
      rw[qH,Bool.and_false]
    intro y hy;obtain⟨i,hi,rfl⟩:=List.mem_iff_getElem.1 hy;have:(bf a b)[i]! =(bf a b)[i]:=getElem!_pos _ i hi;rcases Nat.eq_zero_or_pos i with rfl|hp
    · omega
    · have:=sr (jC a b) hp hi;omega
  · show ah [] n=_
    rw[qH,decide_eq_false h,Bool.false_and]
 |k+1,hk=>by
  obtain⟨h1,h2,h3,h4⟩:=uc op a b k (by omega)
  have aw:=sr (jC a b) (Nat.lt_succ_self k) hk;have r1:=nK (a:=a) (b:=b) (x:=(bf a b)[k]!) (by rw[getElem!_pos _ k (by omega)];exact List.getElem_mem _)
  have r2:=nK (a:=a) (b:=b) (x:=(bf a b)[k+1]!) (by rw[getElem!_pos _ (k+1) hk];exact List.getElem_mem _)
  have flat: ∀n,(bf a b)[k]! <=n->n<(bf a b)[k+1]! ->iP op a b n=iP op a b ((bf a b)[k]!):=fun n hn jw=>WR hn fun y hy=>by
   obtain⟨i,hi,rfl⟩:=List.mem_iff_getElem.1 hy;have e:(bf a b)[i]! =(bf a b)[i]:=getElem!_pos _ i hi;rintro⟨g1,g2⟩
   rcases Nat.lt_trichotomy i (k+1)with hh|hh|hh
   · rcases Nat.lt_or_eq_of_le (Nat.lt_succ_iff.1 hh)with hh'|hh'
     · have:=sr (jC a b) hh' (by omega);omega
     · subst hh';omega
   · subst hh;omega
   · have:=sr (jC a b) hh hi;omega
  simp only[vD]
  generalize hx:(bf a b)[k]! =x at*;generalize hy:(bf a b)[k+1]! =y at*;generalize hm:vD (iP op a b) (bf a b) k=m at*;cases hp:iP op a b x with
  |false=>
   rw[if_neg (by simp)]
   refine⟨h1, ?_, ?_,fun n=> ?_⟩
   · cases m with
     |nil=>trivial
     |cons q qs=>show q.t<y;have:q.t<x:=h2;omega
   · cases m with
     |nil=>trivial
     |cons q qs=>show q.f<=y;have:q.f<=x:=h3;omega
   · rw[h4]
     by_cases c1:n<x
     · have:n<y:=by omega
       simp[c1,this]
     · by_cases c2:n<y
       · rw[flat n (by omega) c2,hp];simp
       · simp[c1,c2]
  |true=>
   rw[if_pos rfl]
   have ho:cq ⟨x,y-1⟩=true:=cr.2 ⟨r1.1,by show x<=y-1;omega,by show y-1<=_;omega⟩
   obtain⟨g1,g2,g3⟩:=xF h1 ho h3;refine⟨g1, ?_, ?_,fun n=> ?_⟩
   · have:=WS (r:=⟨x,y-1⟩) h2 (by show x<=y-1;omega)
     simpa using this
   · revert g2
     cases cB m ⟨x,y-1⟩with
     |nil=>intro _;trivial
     |cons q qs=>intro g2;have:q.f<=x:=g2;show q.f<=y;omega
   · rw[g3,h4]
     by_cases c1:n<x
     · have:n<y:=by omega
       have c3: ¬x<=n:=by omega
       simp[c1,this,N4,c3]
     · by_cases c2:n<y
       · rw[flat n (by omega) c2,hp]
         have c3:x<=n:=by omega
         have c4:n<=y-1:=by omega
         simp[N4,c1,c2,c3,c4]
       · have c4: ¬n<=y-1:=by omega
         simp[N4,c1,c2,c4]
theorem H4(op:Int)(a b:List aC):(vD (iP op a b) (bf a b) ((bf a b).length-1)).reverse=cw (iP op a b):=by
 by_cases h:(bf a b).length=0
 · have e:bf a b=[]:=List.length_eq_zero_iff.1 h
   rw[h]
   refine qJ rfl fun n=> ?_;rw[H2 (fun y hy=>by rw[e]at hy;cases hy)];rfl
 · obtain⟨h1,_,_,h4⟩:=uc op a b ((bf a b).length-1) (by omega)
   refine qJ (qG.2 h1) fun n=> ?_;rw[qI,h4]
   by_cases c:n<(bf a b)[(bf a b).length-1]!
   · rw[decide_eq_true c,Bool.true_and]
   · rw[LI]
     · simp
     · intro y hy
       obtain⟨i,hi,rfl⟩:=List.mem_iff_getElem.1 hy;have e:(bf a b)[i]! =(bf a b)[i]:=getElem!_pos _ i hi;rcases Nat.lt_or_eq_of_le (show i<=(bf a b).length-1 by omega)with hh|hh
       · have:=sr (jC a b) hh (by omega);omega
       · subst hh;omega
theorem WT(op:Int)(a b:List aC):IsR (iP op a b):=by
 by_cases h:(bf a b).length=0
 · have e:bf a b=[]:=List.length_eq_zero_iff.1 h
   exact⟨[],rfl,fun n=>by rw[H2 (fun y hy=>by rw[e]at hy;cases hy)];rfl⟩
 · refine⟨cw (iP op a b),f_ _,fun n=> ?_⟩
   have h0:=H4 op a b;obtain⟨h1,_,_,h4⟩:=uc op a b ((bf a b).length-1) (by omega)
   rw[<-h0,qI,h4]
   by_cases c:n<(bf a b)[(bf a b).length-1]!
   · rw[decide_eq_true c,Bool.true_and]
   · rw[LI]
     · simp
     · intro y hy
       obtain⟨i,hi,rfl⟩:=List.mem_iff_getElem.1 hy;have e:(bf a b)[i]! =(bf a b)[i]:=getElem!_pos _ i hi;rcases Nat.lt_or_eq_of_le (show i<=(bf a b).length-1 by omega)with hh|hh
       · have:=sr (jC a b) hh (by omega);omega
       · subst hh;omega
theorem zG(l:List aC):IsR (ah l):=by
 obtain⟨m,h1,h2⟩:=WT 1 l []
 exact⟨m,h1,fun n=>by rw[h2];simp[iP,Vj,ah]⟩
end Go.Proofs.YtihgnfmoafjakaaGreat
namespace Go.Proofs.YtihgnfmoafjakaaGreat
open Go.bJ
set_option linter.unusedSimpArgs false
set_option linter.unusedVariables false
theorem O9: ∀{l:List aC},RR l ↔ l.Pairwise (fun r q=>q.t+2<=r.f)/\ ∀r∈l,cq r=true
 | []=>by simp[RR]
 |r::l=>by
  constructor
  · intro h
    obtain⟨h1,h2⟩:=O9.1 (ua h)
    exact⟨List.pairwise_cons.2 ⟨pI h,h1⟩,WM h⟩
  · rintro⟨h1,h2⟩
    rw[List.pairwise_cons]at h1;have ih:=O9.2 ⟨h1.2,fun q hq=>h2 q (by simp[hq])⟩
    cases l with
    |nil=>exact h2 r (by simp)
    |cons q l=>exact⟨h2 r (by simp),h1.1 q (by simp),ih⟩
theorem TK{l:List aC}:bm l=true ↔ l.Pairwise (fun r q=>r.t+2<=q.f)/\ ∀r∈l,cq r=true:=by
 rw[kJ,O9,List.pairwise_reverse]
 simp
def pK(l:List aC):Int:=(l.map fun r=>r.t-r.f+1).sum
theorem Rr: ∀{l:List aC} {p:Int},l.Pairwise (fun r q=>r.t+2<=q.f)->(∀r∈l,cq r=true)->(∀r∈l,p<=r.f)->1<=p->0<=pK l/\(l.length:Int)<=pK l/\pK l<=1099511627777-p\/l=[]
 | [],_,_,_,_,_=> .inr rfl
 |r::l,p,h,ho,hp,h1=>by
  rw[List.pairwise_cons]at h;have o:=cr.1 (ho r (by simp))
  have hf:=hp r (by simp)
  have e:pK (r::l)=(r.t-r.f+1)+pK l:=by simp[pK]
  rcases Rr (l:=l) (p:=r.t+2) h.2 (fun q hq=>ho q (by simp[hq])) h.1 (by omega)with⟨g1,g2,g3⟩|rfl
  · refine .inl ⟨by omega, ?_,by omega⟩
    rw[e];simp only[List.length_cons];omega
  · have e0:pK []=0:=rfl
    rw[e0]at e;refine .inl ⟨by omega, ?_,by omega⟩
    rw[e];simp only[List.length_cons,List.length_nil];omega
theorem O_{l:List aC}(h:bm l=true):0<=pK l/\(l.length:Int)<=pK l/\pK l<=1099511627776:=by
 obtain⟨h1,h2⟩:=TK.1 h;rcases Rr (p:=1) h1 h2 (fun r hr=>(cr.1 (h2 r hr)).1) (Int.le_refl _)with g|rfl
 · omega
 · simp[pK]
theorem Rs{l:List aC}(h:bm l=true):l.length<=1099511627776:=by have:=O_ h;omega
structure ab where
 n:Int
 rs:List aC
 deriving DecidableEq
instance:Inhabited ab:=⟨⟨0,[]⟩⟩
def ab.cells(k:ab):List A:=[.int .i64 k.n,.ad (k.rs.map aC.enc)]
def ab.enc(k:ab):A:= .agg k.cells
def aB:List ab->Int->List aC
 | [],_=>[]
 |k::s,n=>if k.n=n then k.rs++aB s n else aB s n
theorem de: ∀(s t:List ab) (n:Int),aB (s++t) n=aB s n++aB t n
 | [],_,_=>rfl
 |k::s,t,n=>by
  simp only[List.cons_append,aB,de s t n]
  split
  · rw[List.append_assoc]
  · rfl
def bI(n:Int):Bool:=decide (1<=n)&&decide (n<=16)
theorem bL{n:Int}:bI n=true ↔ 1<=n/\n<=16:=by simp[bI]
def nL(s:List ab)(n c:Int):Bool:=bI n&&ah (aB s n) c
def LJ(p:Int)(k:ab):Bool:=bI k.n&&decide (p<k.n)&& !k.rs.isEmpty&&bm k.rs
def Bp:Int->List ab->Bool
 |_,[]=>true
 |p,k::s=>LJ p k&&Bp k.n s
def aZ(s:List ab):Bool:=Bp 0 s
def lX(t:Int->List aC):Nat->List ab
 |0=>[]
 |k+1=>if(t (k+1)).isEmpty then lX t k else lX t k++[⟨k+1,t (k+1)⟩]
def lM(t:Int->List aC):List ab:=lX t 16
theorem nM(t:Int->List aC): ∀k,(lX t k).length<=k
 |0=>Nat.le_refl _
 |k+1=>by
  have:=nM t k;simp only[lX];split
  · omega
  · simp;omega
theorem LK(t:Int->List aC)(n:Int): ∀k:Nat,aB (lX t k) n=if 1<=n/\n<=k then t n else []
 |0=>by rw[if_neg (by omega)];rfl
 |k+1=>by
  have ih:=LK t n k;simp only[lX]
  by_cases e:n=k+1
  · subst e
    rw[if_neg (by omega)]at ih;rw[if_pos (show 1<=(k:Int)+1/\(k:Int)+1<=((k+1:Nat):Int) by omega)]
    by_cases h:(t (k+1)).isEmpty=true
    · rw[if_pos h,ih];exact(List.isEmpty_iff.1 h).symm
    · rw[if_neg h,de,ih];simp[aB]
  · have h2:(1<=n/\n<=((k+1:Nat):Int)) ↔ (1<=n/\n<=(k:Int)):=by omega
    split
    · rw[ih];simp only[h2]
    · rw[de,ih]
      have:aB [⟨(k:Int)+1,t (k+1)⟩] n=[]:=by simp only[aB];rw[if_neg (by omega)]
      rw[this,List.append_nil];simp only[h2]
theorem qK(t:Int->List aC)(n:Int):aB (lM t) n=if bI n=true then t n else []:=by
 unfold lM;rw[LK]
 simp only[bL];rfl
theorem LM: ∀(s:List ab) (p:Int) (k:ab),Bp p (s++[k])=(Bp p s&&LJ (match s.getLast? with|some q=>q.n|none=>p) k)
 | [],p,k=>by simp[Bp]
 |q::s,p,k=>by
  simp only[List.cons_append,Bp,LM s q.n k,Bool.and_assoc]
  congr 2
  cases h:s.getLast? with
  |none=>rw[List.getLast?_cons];simp[h]
  |some x=>rw[List.getLast?_cons];simp[h]
theorem ud{t:Int->List aC}{x:ab}: ∀{k:Nat},x∈lX t k->1<=x.n/\x.n<=k/\x.rs=t x.n/\x.rs≠ []
 |0,h=>by cases h
 |k+1,h=>by
  simp only[lX]at h;split at h
  · have:=ud h
    exact⟨this.1,by omega,this.2.2⟩
  · rename_i bU
    rcases List.mem_append.1 h with h|h
    · have:=ud h
      exact⟨this.1,by omega,this.2.2⟩
    · simp only[List.mem_singleton]at h
      subst h;exact⟨by show(1:Int)<=(k:Int)+1;omega,by show(k:Int)+1<=((k+1:Nat):Int);omega,rfl,fun e=>bU (List.isEmpty_iff.2 e)⟩
theorem Gw{t:Int->List aC}(h: ∀n,bm (t n)=true): ∀{k:Nat},k<=16->Bp 0 (lX t k)=true
 |0,_=>rfl
 |k+1,hk=>by
  have ih:=Gw (t:=t) h (k:=k) (by omega)
  simp only[lX]
  split
  · exact ih
  · rename_i bU
    rw[LM,ih,Bool.true_and]
    simp only[LJ,h,Bool.and_true,Bool.and_eq_true,decide_eq_true_iff,bL]
    refine⟨⟨by omega, ?_⟩,by simpa using bU⟩
    split
    · rename_i q hq
      have:=ud (List.mem_of_getLast? hq)
      omega
    · omega
theorem Bq{t:Int->List aC}(h: ∀n,bm (t n)=true):aZ (lM t)=true:=Gw h (Nat.le_refl _)
theorem Gx{t u:Int->List aC}: ∀{k:Nat},(∀n:Int,1<=n->n<=k->t n=u n)->lX t k=lX u k
 |0,_=>rfl
 |k+1,h=>by
  have ih:=Gx (t:=t) (u:=u) (k:=k) (fun n h1 h2=>h n h1 (by omega))
  have e:=h (k+1) (by omega) (by omega)
  simp only[lX,ih,e]
theorem iv{t u:Int->List aC}(h: ∀n,bI n=true->t n=u n):lM t=lM u:=Gx fun n h1 h2=>h n (bL.2 ⟨h1,by omega⟩)
theorem pL: ∀{s:List ab} {p n:Int},Bp p s=true->n<=p->aB s n=[]
 | [],_,_,_,_=>rfl
 |k::s,p,n,h,hn=>by
  simp only[Bp,LJ,Bool.and_eq_true,decide_eq_true_iff]at h;simp only[aB]
  rw[if_neg (by omega)]
  exact pL h.2 (by omega)
theorem WU: ∀{s:List ab} {p:Int},Bp p s=true-> ∀n,bm (aB s n)=true
 | [],_,_,_=>rfl
 |k::s,p,h,n=>by
  simp only[Bp,LJ,Bool.and_eq_true,decide_eq_true_iff]at h;simp only[aB]
  split
  · rename_i e
    rw[pL h.2 (Int.le_of_eq e.symm),List.append_nil];exact h.1.2
  · exact WU h.2 n
theorem WV: ∀{s:List ab} {p:Nat},Bp p s=true->p<=16->lM (aB s)=(lX (aB s) p)++s
 | [],p,_,hp=>by
  have e: ∀k,lX (aB []) k=[]:=fun k=>by
   induction k with
   |zero=>rfl
   |succ k ih=>
    have e:(aB [] ((k:Int)+1)).isEmpty=true:=rfl;simp only[lX,e,if_true];exact ih
  unfold lM;rw[e,e];rfl
 |k::s,p,h,hp=>by
  have h0:=h;simp only[Bp,LJ,Bool.and_eq_true,decide_eq_true_iff]at h;obtain⟨⟨⟨⟨h1,h2⟩,h3⟩,h4⟩,h5⟩:=h;rw[bL]at h1;obtain⟨m,hm⟩: ∃m:Nat,k.n=((m+1:Nat):Int):=⟨(k.n-1).toNat,by omega⟩
  have fR:aB (k::s) k.n=k.rs:=by simp only[aB,if_true];rw[pL h5 (Int.le_refl _),List.append_nil]
  have VQ: ∀n,k.n<n->aB (k::s) n=aB s n:=fun n hn=>by simp only[aB];rw[if_neg (by omega)]
  have mE: ∀n,n<k.n->aB (k::s) n=[]:=fun n hn=>by simp only[aB];rw[if_neg (by omega)];exact pL h5 (by omega)
  -- up to the first replica nothing
  have hz: ∀j:Nat,(j:Int)<k.n->lX (aB (k::s)) j=[]:=fun j=>by
   induction j with
   |zero=>intro _;rfl
   |succ j ih=>
    intro hj;simp only[lX]
    rw[ih (by omega),mE _ (by omega)];rfl
  have hzs: ∀j:Nat,(j:Int)<=k.n->lX (aB s) j=[]:=fun j=>by
   induction j with
   |zero=>intro _;rfl
   |succ j ih=>
    intro hj;simp only[lX]
    rw[ih (by omega),pL h5 (by omega)];rfl
  have TL: ∀j:Nat,m+1<=j->lX (aB (k::s)) j=k::lX (aB s) j:=fun j=>by
   induction j with
   |zero=>intro hj;omega
   |succ j ih=>
    intro hj;rcases Nat.lt_or_eq_of_le hj with hj|hj
    · have hh:=ih (by omega)
      have e:=VQ (((j:Nat):Int)+1) (by omega)
      simp only[lX]
      rw[hh,e]
      split<;>simp
    · have e1:j=m:=by omega
      subst e1;have e2:((j:Nat):Int)+1=k.n:=by omega
      rw[hzs (j+1) (by omega)]
      simp only[lX]
      rw[e2,fR,hz j (by omega)]
      cases hrs:k.rs with
      |nil=>rw[hrs]at h3;simp at h3
      |cons r rs=>
       rw[if_neg (by simp)]
       cases k;simp_all
  have ih:=WV (s:=s) (p:=m+1) (by rw[<-hm];exact h5) (by omega)
  rw[hzs (m+1) (by omega)]at ih;rw[hz p (by omega)]
  unfold lM at ih⊢;rw[TL 16 (by omega),ih];rfl
theorem Br{s:List ab}(h:aZ s=true):lM (aB s)=s:=by
 have:=WV (s:=s) (p:=0) h (by omega)
 simpa[lX]using this
theorem O'{s:List ab}(h:aZ s=true):lM (fun n=>cw (ah (aB s n)))=s:=by
 have e:=Br h;rw[<-iv (t:=aB s) fun n _=>qJ (WU h n) fun _=>rfl]
 exact e
end Go.Proofs.YtihgnfmoafjakaaGreat
namespace Go.Iv
set_option linter.unusedSimpArgs false
set_option linter.unusedVariables false
set_option linter.unusedSectionVars false
section
variable{α β:Type}(lt:α->α->Bool)
def vE(l:List ((α×Option α)×β))(x:α)(b:β):Prop:= ∃i∈l,dP lt i.1 x=true/\i.2=b
def LN(i j:(α×Option α)×β):Prop:= ∃e,i.1.2=some e/\lt j.1.1 e=false/\(e=j.1.1->i.2≠j.2)
def kq:List ((α×Option α)×β)->Prop
 | []=>True
 | [i]=>below lt i.1.1 i.1.2=true
 |i::j::l=>below lt i.1.1 i.1.2=true/\LN lt i j/\kq (j::l)
def xH:List ((α×Option α)×β)->Prop
 | []=>True
 | [i]=>below lt i.1.1 i.1.2=true
 |i::j::l=>below lt i.1.1 i.1.2=true/\LN lt j i/\xH (j::l)
def topL(l:List ((α×Option α)×β))(x:α):Prop:=match l with| []=>True|q::_=> ∃e,q.1.2=some e/\lt x e=false
def Bs [DecidableEq α] [DecidableEq β](l:List ((α×Option α)×β))(r:(α×Option α)×β):List ((α×Option α)×β):=
 match l with
 | []=>[r]
 |q::qs=>if q.1.2=some r.1.1/\q.2=r.2 then((q.1.1,r.1.2),q.2)::qs else r::q::qs
end
section
variable{α β:Type}{lt:α->α->Bool}(hl:Lin lt)
theorem lY{x:α}{b:β}: ¬vE lt [] x b:=by rintro⟨_,h,_⟩;cases h
theorem fz{i:(α×Option α)×β}{l:List ((α×Option α)×β)}{x:α}{b:β}:vE lt (i::l) x b ↔ (dP lt i.1 x=true/\i.2=b)\/vE lt l x b:=by simp[vE]
theorem aaH{l:List ((α×Option α)×β)}{x:α}{b:β}:vE lt l.reverse x b ↔ vE lt l x b:=by simp[vE]
theorem vF: ∀(l:List ((α×Option α)×β)) (i j:(α×Option α)×β),kq lt (l++[i,j]) ↔ kq lt (l++[i])/\LN lt i j/\below lt j.1.1 j.1.2=true
 | [],i,j=>by simp[kq]
 | [x],i,j=>by have e:=vF [] i j;simp only[List.nil_append,List.cons_append,kq]at e⊢;exact⟨fun⟨a,b,c,d,e⟩=>⟨⟨a,b,c⟩,d,e⟩,fun⟨⟨a,b,c⟩,d,e⟩=>⟨a,b,c,d,e⟩⟩
 |x::y::l,i,j=>by
  have e:=vF (y::l) i j;simp only[List.cons_append,kq]at e⊢;rw[e]
  exact⟨fun⟨a,b,c,d,e⟩=>⟨⟨a,b,c⟩,d,e⟩,fun⟨⟨a,b,c⟩,d,e⟩=>⟨a,b,c,d,e⟩⟩
theorem Gy: ∀{l:List ((α×Option α)×β)},kq lt l.reverse ↔ xH lt l
 | []=>by simp[kq,xH]
 | [i]=>by simp[kq,xH]
 |i::j::l=>by
  have ih:= @Gy (j::l)
  simp only[List.reverse_cons,List.append_assoc,List.cons_append,List.nil_append]at ih⊢;rw[vF,ih,xH]
  exact⟨fun⟨a,b,c⟩=>⟨c,b,a⟩,fun⟨a,b,c⟩=>⟨c,b,a⟩⟩
theorem mK{i:(α×Option α)×β}: ∀{l:List ((α×Option α)×β)},kq lt (i::l)->kq lt l
 | [],_=>trivial
 |_::_,h=>h.2.2
theorem Gz{i:(α×Option α)×β}: ∀{l:List ((α×Option α)×β)},kq lt (i::l)->below lt i.1.1 i.1.2=true
 | [],h=>h
 |_::_,h=>h.1
include hl
theorem pM: ∀{l:List ((α×Option α)×β)} {i:(α×Option α)×β} {x:α} {b:β},kq lt (i::l)->vE lt (i::l) x b->lt x i.1.1=false
 |l,i,x,b,h,hm=>by
  rcases fz.1 hm with⟨hm,_⟩|hm
  · simp only[dP,Bool.and_eq_true,Bool.not_eq_true']at hm;exact hm.1
  · cases l with
    |nil=>exact absurd hm lY
    |cons j l=>
     obtain⟨h1,⟨e,he,aw,_⟩,h2⟩:=h;have mE:=pM h2 hm;have hi:lt i.1.1 e=true:=by rw[he]at h1;exact h1
     have vw:lt i.1.1 j.1.1=true:=j5 hl hi aw;cases hx:lt x i.1.1
     · rfl
     · have h4:=hl.tr _ _ _ hx vw
       rw[h4]at mE;cases mE
theorem LO{i:(α×Option α)×β}{l:List ((α×Option α)×β)}{x:α}{b:β}(h:kq lt (i::l))(hm:vE lt l x b): ∃e,i.1.2=some e/\lt x e=false/\(x=e->i.2≠b):=by
 cases l with
 |nil=>exact absurd hm lY
 |cons j l=>
  obtain⟨h1,⟨e,he,aw,bU⟩,h2⟩:=h;have mE:=pM hl h2 hm;refine⟨e,he,jB hl mE aw,fun hx=> ?_⟩
  subst hx;have hej:x=j.1.1:=mI hl mE aw
  have hb:j.2=b:=by
   rcases fz.1 hm with⟨_,hm⟩|hm
   · exact hm
   · exfalso
     cases l with
     |nil=>exact absurd hm lY
     |cons k l=>
      obtain⟨g1,⟨e',u5,ae,_⟩,g2⟩:=h2;have hlow':=pM hl g2 hm;rw[u5]at g1;have g1':lt j.1.1 e'=true:=g1;rw[<-hej]at g1';have:=j5 hl g1' ae;rw[this]at hlow';cases hlow'
  rw[<-hb];exact bU hej
theorem kK{i:(α×Option α)×β}{l:List ((α×Option α)×β)}{x:α}{b:β}(h:kq lt (i::l)):vE lt l x b ↔ vE lt (i::l) x b/\dP lt i.1 x=false:=by
 constructor
 · intro hm
   refine⟨fz.2 (.inr hm), ?_⟩
   obtain⟨e,he,hx,_⟩:=LO hl h hm;simp[dP,he,below,hx]
 · rintro⟨hm,h1⟩
   rcases fz.1 hm with⟨h2,_⟩|h2
   · rw[h1]at h2;cases h2
   · exact h2
theorem LP: ∀{l:List ((α×Option α)×β)} {x:α} {b c:β},kq lt l->vE lt l x b->vE lt l x c->b=c
 | [],_,_,_,_,h,_=>absurd h lY
 |i::l,x,b,c,h,h1,h2=>by
  cases hi:dP lt i.1 x with
  |true=>
   have e: ∀d,vE lt (i::l) x d->i.2=d:=fun d hd=>by
    rcases fz.1 hd with⟨_,h3⟩|h3
    · exact h3
    · have:=(kK hl h).1 h3
      rw[hi]at this;cases this.2
   rw[<-e b h1,<-e c h2]
  |false=>exact LP (mK h) ((kK hl h).2 ⟨h1,hi⟩) ((kK hl h).2 ⟨h2,hi⟩)
theorem pN{i:(α×Option α)×β}{l:List ((α×Option α)×β)}(h:kq lt (i::l)):vE lt (i::l) i.1.1 i.2:=
 fz.2 (.inl ⟨by simp[dP,hl.xD,Gz h],rfl⟩)
theorem H5{i j:(α×Option α)×β}{l m:List ((α×Option α)×β)}(h:kq lt (i::l))(h':kq lt (j::m))(hm: ∀x b,vE lt (i::l) x b ↔ vE lt (j::m) x b)(h0:i.1.1=j.1.1)(hb:i.2=j.2){e:α}(he:i.1.2=some e): ∃e',j.1.2=some e'/\lt e e'=false:=by
 have hie:lt i.1.1 e=true:=by have:=Gz h;rw[he]at this;exact this
 have hn: ¬vE lt (i::l) e i.2:=fun hi=>by
  rcases fz.1 hi with⟨h1,_⟩|h1
  · simp[dP,he,below,hl.xD]at h1
  · obtain⟨e',u5,_,bU⟩:=LO hl h h1
    rw[he]at u5;exact bU (Option.some.inj u5) rfl
 rw[hm]at hn;cases hj:j.1.2 with
 |none=>
  exact absurd (fz.2 (.inl ⟨by simp[dP,hj,below,<-h0,asymm hl hie],hb.symm⟩)) hn
 |some e'=>
  refine⟨e',rfl, ?_⟩
  cases hee:lt e e' with
  |false=>rfl
  |true=>exact absurd (fz.2 (.inl ⟨by simp[dP,hj,below,<-h0,asymm hl hie,hee],hb.symm⟩)) hn
theorem xI: ∀{l m:List ((α×Option α)×β)},kq lt l->kq lt m->(∀x b,vE lt l x b ↔ vE lt m x b)->l=m
 | [],[],_,_,_=>rfl
 | [],j::m,_,h,hm=>absurd ((hm _ _).2 (pN hl h)) lY
 |i::l,[],h,_,hm=>absurd ((hm _ _).1 (pN hl h)) lY
 |i::l,j::m,h,h',hm=>by
  have a1:=(hm _ _).1 (pN hl h)
  have a2:=(hm _ _).2 (pN hl h')
  have e0:i.1.1=j.1.1:=mI hl (pM hl h' a1) (pM hl h a2)
  have eb:i.2=j.2:=by have:=pN hl h';rw[<-e0]at this;exact LP hl h' a1 this
  have e1:i.1.2=j.1.2:=by
   cases hi:i.1.2 with
   |none=>
    cases hj:j.1.2 with
    |none=>rfl
    |some e=>
     obtain⟨e',h1,_⟩:=H5 hl h' h (fun x b=>(hm x b).symm) e0.symm eb.symm hj;rw[hi]at h1;cases h1
   |some e=>
    obtain⟨e',h1,h2⟩:=H5 hl h h' hm e0 eb hi;obtain⟨e'',h3,h4⟩:=H5 hl h' h (fun x b=>(hm x b).symm) e0.symm eb.symm h1;rw[hi]at h3;obtain rfl:=Option.some.inj h3;rw[h1,mI hl h2 h4]
  have e:i=j:=by obtain⟨⟨a,b⟩,c⟩:=i;obtain⟨⟨a',b'⟩,c'⟩:=j;simp_all
  subst e;rw[xI (mK h) (mK h') fun x b=>by rw[kK hl h,kK hl h',hm]]
theorem LQ [DecidableEq α] [DecidableEq β]{l:List ((α×Option α)×β)}{r:(α×Option α)×β}(h:xH lt l)(hr:below lt r.1.1 r.1.2=true)(ht:topL lt l r.1.1):
 xH lt (Bs l r)/\(∀x b,vE lt (Bs l r) x b ↔ vE lt l x b\/(dP lt r.1 x=true/\r.2=b))/\ ∃q qs,Bs l r=q::qs/\q.1.2=r.1.2:=by
 cases l with
 |nil=>exact⟨hr,fun x b=>by simp[Bs,vE],r,[],rfl,rfl⟩
 |cons q qs=>
  obtain⟨e,he,hx⟩:=ht;simp only[Bs]
  by_cases hc:q.1.2=some r.1.1/\q.2=r.2
  · rw[if_pos hc]
    have hq:lt q.1.1 r.1.1=true:=by
     have h0:below lt q.1.1 q.1.2=true:=by
      cases qs with
      |nil=>exact h
      |cons _ _=>exact h.1
     rw[hc.1]at h0;exact h0
    have Rt:below lt q.1.1 r.1.2=true:=by
     cases Vk:r.1.2 with
     |none=>rfl
     |some e'=>rw[Vk]at hr;exact hl.tr _ _ _ hq hr
    refine⟨?_,fun x b=> ?_,_,_,rfl,rfl⟩
    · cases qs with
      |nil=>exact Rt
      |cons p ps=>exact⟨Rt,h.2.1,h.2.2⟩
    · rw[fz,fz]
      have:dP lt (q.1.1,r.1.2) x=(dP lt q.1 x||dP lt r.1 x):=by
       have hb:below lt x (some r.1.1)=lt x r.1.1:=rfl;simp only[dP,hc.1,hb]
       cases h1:lt x q.1.1 with
       |true=>
        have h2:lt x r.1.1=true:=hl.tr _ _ _ h1 hq;simp[h2]
       |false=>
        cases h2:lt x r.1.1 with
        |true=>
         have:below lt x r.1.2=true:=by
          cases Vk:r.1.2 with
          |none=>rfl
          |some e'=>rw[Vk]at hr;exact hl.tr _ _ _ h2 hr
         simp[this]
        |false=>simp
      simp only[this,Bool.or_eq_true,hc.2]
      constructor
      · rintro(⟨h1|h1,h2⟩|h1)
        · exact .inl (.inl ⟨h1,h2⟩)
        · exact .inr ⟨h1,h2⟩
        · exact .inl (.inr h1)
      · rintro((⟨h1,h2⟩|h1)|⟨h1,h2⟩)
        · exact .inl ⟨.inl h1,h2⟩
        · exact .inr h1
        · exact .inl ⟨.inr h1,h2⟩
  · rw[if_neg hc]
    refine⟨⟨hr,⟨e,he,hx,fun hee hb=>hc ⟨by rw[he,hee],hb⟩⟩,h⟩,fun x b=> ?_,_,_,rfl,rfl⟩
    rw[fz]
    exact⟨fun h=>h.symm,fun h=>h.symm⟩
end
end Go.Iv
namespace Go.Proofs.YtihgnfmoafjakaaGreat
open Go.bJ
set_option linter.unusedSimpArgs false
set_option linter.unusedVariables false
structure Pc where
 r:ax
 s:List ab
 deriving DecidableEq
instance:Inhabited Pc:=⟨⟨⟨[],[],true⟩,[]⟩⟩
def setAt(k:List Pc)(x:List UInt8):List ab:=(k.filter fun p=>cg p.r x).flatMap (·.s)
theorem gz(k m:List Pc)(x:List UInt8):setAt (k++m) x=setAt k x++setAt m x:=by simp[setAt]
def bZ(k:List Pc)(x:List UInt8)(n c:Int):Bool:=k.any fun p=>cg p.r x&&nL p.s n c
theorem aaI(k:List Pc)(x:List UInt8)(n c:Int):bZ k x n c=nL (setAt k x) n c:=by
 induction k with
 |nil=>simp[bZ,setAt,nL,aB,ah]
 |cons p k ih=>
  have e:setAt (p::k) x=(if cg p.r x=true then p.s else [])++setAt k x:=by
   unfold setAt;by_cases h:cg p.r x=true
   · simp[h]
   · simp[h]
  have e2:bZ (p::k) x n c=((cg p.r x&&nL p.s n c)||bZ k x n c):=rfl;rw[e,e2,ih]
  unfold nL;rw[de,fg]
  cases cg p.r x<;>cases bI n<;>simp[aB,ah]
def dW(p:Pc):Bool:=ay p.r&& !p.s.isEmpty&&aZ p.s
def vG(q p:Pc):Bool:= !q.r.op&& !aQ p.r.lo q.r.hi&& !(q.r.hi==p.r.lo&&decide (q.s=p.s))
def H6:Option Pc->List Pc->Bool
 |_,[]=>true
 |q,p::k=>dW p&&(match q with|none=>true|some q=>vG q p)&&H6 (some p) k
def aS(k:List Pc):Bool:=H6 none k
def u7(p:Pc):(List UInt8×Option (List UInt8))×List ab:=(lK p.r,p.s)
theorem aaJ{p q:Pc}(hp:dW p=true)(hq:dW q=true)(h:u7 p=u7 q):p=q:=by simp only[dW,Bool.and_eq_true]at hp hq;have h1:lK p.r=lK q.r:=congrArg Prod.fst h;have h2:p.s=q.s:=congrArg Prod.snd h;have:=WG hp.1.1 hq.1.1 h1;cases p;cases q;simp_all
theorem Ru{q p:Pc}:vG q p=true ↔ Iv.LN aQ (u7 q) (u7 p):=by
 simp only[vG,Iv.LN,u7,lK,Bool.and_eq_true,Bool.not_eq_true',Bool.and_eq_false_iff,beq_eq_false_iff_ne,decide_eq_false_iff_not]
 constructor
 · rintro⟨⟨h1,h2⟩,h3⟩
   exact⟨q.r.hi,by simp[h1],h2,fun e=>by
    rcases h3 with h3|h3
    · exact absurd e h3
    · exact h3⟩
 · rintro⟨e,h1,h2,h3⟩
   cases ho:q.r.op with
   |true=>rw[ho]at h1;simp at h1
   |false=>
    rw[ho]at h1;simp at h1;subst h1;refine⟨⟨rfl,h2⟩, ?_⟩
    by_cases h:q.r.hi=p.r.lo
    · exact .inr (h3 h)
    · exact .inl h
theorem Rv: ∀{k:List Pc} {q:Option Pc},H6 q k=true ↔ (∀p∈k,dW p=true)/\Iv.kq aQ (k.map u7)/\ ∀u,q=some u-> ∀p,k.head? =some p->vG u p=true
 | [],q=>by simp[H6,Iv.kq]
 |p::k,q=>by
  have ih:= @Rv k (some p)
  simp only[H6,Bool.and_eq_true,ih]
  constructor
  · rintro⟨⟨h1,h2⟩,h3,h4,h5⟩
    refine⟨fun r hr=> ?_, ?_,fun u hu r hr=> ?_⟩
    · rcases List.mem_cons.1 hr with rfl|hr
      · exact h1
      · exact h3 r hr
    · have hb:Iv.below aQ (u7 p).1.1 (u7 p).1.2=true:=by
       simp only[dW,Bool.and_eq_true]at h1;exact Rk h1.1.1
      cases k with
      |nil=>exact hb
      |cons r k=>exact⟨hb,Ru.1 (h5 p rfl r rfl),h4⟩
    · subst hu
      simp at hr;subst hr;exact h2
  · rintro⟨h1,h2,h3⟩
    refine⟨⟨h1 p (by simp), ?_⟩,fun r hr=>h1 r (by simp[hr]),Iv.mK h2,fun u hu r hr=> ?_⟩
    · cases q with
      |none=>rfl
      |some u=>exact h3 u rfl p rfl
    · obtain rfl:=Option.some.inj hu
      cases k with
      |nil=>cases hr
      |cons w k=>
       simp at hr;subst hr;exact Ru.2 h2.2.1
theorem eN{k:List Pc}:aS k=true ↔ (∀p∈k,dW p=true)/\Iv.kq aQ (k.map u7):=by
 unfold aS;rw[Rv]
 simp
def pO(k:List Pc)(x:List UInt8)(l:List ab):Prop:=Iv.vE aQ (k.map u7) x l
theorem xJ: ∀{k m:List Pc},(∀p∈k,dW p=true)->(∀p∈m,dW p=true)->k.map u7=m.map u7->k=m
 | [],[],_,_,_=>rfl
 | [],_::_,_,_,h=>by simp at h
 |_::_,[],_,_,h=>by simp at h
 |p::k,q::m,h1,h2,h=>by simp only[List.map_cons,List.cons.injEq]at h;rw[aaJ (h1 p (by simp)) (h2 q (by simp)) h.1,xJ (fun r hr=>h1 r (by simp[hr])) (fun r hr=>h2 r (by simp[hr])) h.2]
theorem D_{k m:List Pc}(h:aS k=true)(h':aS m=true)(hm: ∀x l,pO k x l ↔ pO m x l):k=m:=by rw[eN]at h h';exact xJ h.1 h'.1 (Iv.xI oL h.2 h'.2 hm)
open Classical in
/-- THE right list of what is meant. -/
def aV(P:List UInt8->List ab):List Pc:=if h: ∃k,aS k=true/\ ∀x l,pO k x l ↔ P x=l/\l≠ []then Classical.choose h else []
def IsP(P:List UInt8->List ab):Prop:= ∃k,aS k=true/\ ∀x l,pO k x l ↔ P x=l/\l≠ []
theorem lk(P:List UInt8->List ab):aS (aV P)=true:=by
 unfold aV;split
 · rename_i h;exact(Classical.choose_spec h).1
 · rfl
theorem GA{P:List UInt8->List ab}(h:IsP P)(x:List UInt8)(l:List ab):pO (aV P) x l ↔ P x=l/\l≠ []:=by unfold aV;rw[dif_pos (show∃k,aS k=true/\ ∀x l,pO k x l ↔ P x=l/\l≠ []from h)];exact(Classical.choose_spec h).2 x l
theorem H7{P:List UInt8->List ab}{k:List Pc}(h:aS k=true)(hp: ∀x l,pO k x l ↔ P x=l/\l≠ []):k=aV P:=
 D_ h (lk P) fun x l=>by rw[hp,GA ⟨k,h,hp⟩]
theorem ue{k:List Pc}(hk: ∀p∈k,dW p=true){x:List UInt8}{l:List ab}:pO k x l ↔∃p∈k,cg p.r x=true/\p.s=l:=by
 unfold pO Iv.vE;constructor
 · rintro⟨i,hi,h1,h2⟩
   obtain⟨p,hp,rfl⟩:=List.mem_map.1 hi;have:=hk p hp;simp only[dW,Bool.and_eq_true]at this;exact⟨p,hp,by rw[nH,this.1.1];exact h1,h2⟩
 · rintro⟨p,hp,h1,h2⟩
   refine⟨u7 p,List.mem_map.2 ⟨p,hp,rfl⟩, ?_,h2⟩
   rw[nH,Bool.and_eq_true]at h1;exact h1.2
theorem uf: ∀{k:List Pc},aS k=true-> ∀{x:List UInt8} {p:Pc},p∈k->cg p.r x=true->setAt k x=p.s
 | [],_,_,_,h,_=>by cases h
 |q::k,hr,x,p,hp,hx=>by
  have hc:=eN.1 hr;have ht:aS k=true:=eN.2 ⟨fun r h=>hc.1 r (by simp[h]),Iv.mK hc.2⟩
  have e:setAt (q::k) x=(if cg q.r x=true then q.s else [])++setAt k x:=by
   unfold setAt;by_cases h:cg q.r x=true
   · simp[h]
   · simp[h]
  rw[e]
  cases hq:cg q.r x with
  |true=>
   -- no later piece has it
   have qF: ∀r∈k,cg r.r x=false:=fun r Vk=>by
    rw[<-Bool.not_eq_true]
    intro hrx;have h1:Iv.vE aQ (k.map u7) x r.s:=(ue (fun r h=>hc.1 r (by simp[h]))).2 ⟨r,Vk,hrx,rfl⟩
    have h2:=(Iv.kK oL hc.2).1 h1;rw[nH,Bool.and_eq_true]at hq;have h3:Iv.dP aQ (u7 q).1 x=true:=hq.2;rw[h2.2]at h3;cases h3
   have h0:setAt k x=[]:=by unfold setAt;rw[List.filter_eq_nil_iff.2 (fun r h=>by rw[qF r h];simp)];rfl
   have hpq:p=q:=by
    rcases List.mem_cons.1 hp with h|h
    · exact h
    · rw[qF p h]at hx;cases hx
   rw[h0,hpq];simp
  |false=>
   have N5:p∈k:=by
    rcases List.mem_cons.1 hp with h|h
    · subst h;rw[hq]at hx;cases hx
    · exact h
   simp only[Bool.false_eq_true,if_false,List.nil_append]
   exact uf ht N5 hx
def b9:List Pc->Pc->List Pc
 | [],r=>[r]
 |q::qs,r=>if(!q.r.op&&q.r.hi==r.r.lo&&decide (q.s=r.s))=true then⟨⟨q.r.lo,r.r.hi,r.r.op⟩,q.s⟩::qs else r::q::qs
theorem WW(l:List Pc)(r:Pc):(b9 l r).map u7=Iv.Bs (l.map u7) (u7 r):=by
 cases l with
 |nil=>rfl
 |cons q qs=>
  simp only[b9,List.map_cons,Iv.Bs]
  have:((!q.r.op&&q.r.hi==r.r.lo&&decide (q.s=r.s))=true) ↔ ((u7 q).1.2=some (u7 r).1.1/\(u7 q).2=(u7 r).2):=by
   simp only[u7,lK,Bool.and_eq_true,Bool.not_eq_true',beq_iff_eq,decide_eq_true_iff]
   cases q.r.op<;>simp
  by_cases h:(!q.r.op&&q.r.hi==r.r.lo&&decide (q.s=r.s))=true
  · rw[if_pos h,if_pos (this.1 h)];rfl
  · rw[if_neg h,if_neg (fun e=>h (this.2 e))];rfl
theorem TM(l:List Pc)(r:Pc):(b9 l r).length<=l.length+1:=by
 cases l with
 |nil=>simp[b9]
 |cons q qs=>simp only[b9];split<;>simp
def jS(es:List (List UInt8))(k:Nat):ax:=if k+1<es.length then⟨es[k]!,es[k+1]!,false⟩else⟨es[k]!,[],true⟩
def kL(P:List UInt8->List ab)(es:List (List UInt8)):Nat->List Pc
 |0=>[]
 |k+1=>if P (es[k]!)=[]then kL P es k else b9 (kL P es k) ⟨jS es k,P (es[k]!)⟩
theorem zH(P:List UInt8->List ab)(es:List (List UInt8)): ∀k,(kL P es k).length<=k
 |0=>Nat.le_refl _
 |k+1=>by
  have h1:=zH P es k;have h2:=TM (kL P es k) ⟨jS es k,P (es[k]!)⟩
  simp only[kL]
  split<;>omega
theorem qL{e:List (List UInt8)}(h:e.Pairwise (fun x y=>aQ x y=true)){i j:Nat}(vw:i<j)(hj:j<e.length):aQ (e[i]!) (e[j]!)=true:=by
 rw[getElem!_pos e i (by omega),getElem!_pos e j hj]
 exact List.pairwise_iff_getElem.1 h i j (by omega) hj vw
structure Kq(P:List UInt8->List ab)(es:List (List UInt8)):Prop where
 up:es.Pairwise (fun x y=>aQ x y=true)
 nil: []∈es
 len: ∀e∈es,e.length<=17
 flat: ∀x e,e∈es->aQ x e=false->(∀y∈es,aQ e y=true->aQ x y=true)->P x=P e
 right: ∀x,aZ (P x)=true
theorem H8(x:List UInt8):aQ x []=false:=by cases x<;>rfl
theorem LR{P:List UInt8->List ab}{es:List (List UInt8)}(h:Kq P es):es[0]! =[]/\0<es.length:=by
 obtain⟨i,hi,he⟩:=List.mem_iff_getElem.1 h.nil;refine⟨?_,by omega⟩
 rcases Nat.eq_zero_or_pos i with rfl|hp
 · rw[getElem!_pos es 0 hi,he]
 · have:=qL h.up hp hi
   rw[getElem!_pos es i hi,he,H8]at this;cases this
theorem Pa{P:List UInt8->List ab}{es:List (List UInt8)}(h:Kq P es){k:Nat}(hk:k<es.length):ay (jS es k)=true:=by
 have h1:=h.len (es[k]!) (by rw[getElem!_pos es k hk];exact List.getElem_mem _)
 unfold jS;by_cases hn:k+1<es.length
 · have h2:=h.len (es[k+1]!) (by rw[getElem!_pos es (k+1) hn];exact List.getElem_mem _)
   rw[if_pos hn]
   exact pD h1 h2 (fun e=>by cases e) (fun _=>qL h.up (Nat.lt_succ_self k) hn)
 · rw[if_neg hn]
   exact pD h1 (by simp) (fun _=>rfl) (fun e=>by cases e)
theorem aaK{es:List (List UInt8)}{k:Nat}:(jS es k).lo=es[k]! :=by unfold jS;split<;>rfl
theorem TN{l:List Pc}{r:Pc}(hl: ∀p∈l,dW p=true)(hr:dW r=true): ∀p∈b9 l r,dW p=true:=by
 cases l with
 |nil=>intro p hp;simp only[b9,List.mem_singleton]at hp;subst hp;exact hr
 |cons q qs=>
  intro p hp;simp only[b9]at hp;split at hp
  · rename_i hc
    rcases List.mem_cons.1 hp with rfl|hp
    · have hq:=hl q (by simp)
      simp only[Bool.and_eq_true,Bool.not_eq_true',beq_iff_eq,decide_eq_true_iff]at hc;simp only[dW,Bool.and_eq_true]at hq hr⊢;refine⟨⟨?_,hq.1.2⟩,hq.2⟩
      have a:=hq.1.1;have b:=hr.1.1;simp only[ay,Bool.and_eq_true,decide_eq_true_iff,hc.1.1,Bool.false_eq_true,if_false]at a b⊢;refine⟨⟨a.1.1,b.1.2⟩, ?_⟩
      cases ho:r.r.op with
      |true=>have:=b.2;rw[ho]at this;simpa using this
      |false=>
       have:=b.2;rw[ho]at this;simp only[Bool.false_eq_true,if_false]at this⊢;rw[<-hc.1.2]at this;exact bW a.2 this
    · exact hl p (by simp[hp])
  · rcases List.mem_cons.1 hp with rfl|hp
    · exact hr
    · exact hl p hp
theorem pP{P:List UInt8->List ab}{es:List (List UInt8)}(h:Kq P es): ∀k,k<=es.length->
 (∀p∈kL P es k,dW p=true)/\Iv.xH aQ ((kL P es k).map u7)/\(k<es.length->Iv.topL aQ ((kL P es k).map u7) (es[k]!))/\
 ∀x l,Iv.vE aQ ((kL P es k).map u7) x l ↔ (0<k/\(k<es.length->aQ x (es[k]!)=true))/\P x=l/\l≠ []
 |0,_=>⟨fun p hp=>(by cases hp),trivial,fun _=>trivial,fun x l=>⟨fun hi=>absurd hi Iv.lY,fun hi=>by omega⟩⟩
 |k+1,hk=>by
  obtain⟨h0,h1,h2,h3⟩:=pP h k (by omega)
  have mB:=h2 (by omega)
  have hek:es[k]! ∈es:=by rw[getElem!_pos es k (by omega)];exact List.getElem_mem _
  -- what lies from this edge to the next
  have TO: ∀x,Iv.dP aQ (lK (jS es k)) x=true ↔ (aQ x (es[k]!)=false/\(k+1<es.length->aQ x (es[k+1]!)=true)):=fun x=>by
   unfold jS;by_cases hn:k+1<es.length
   · rw[if_pos hn];simp[Iv.dP,lK,Iv.below,hn]
   · rw[if_neg hn];simp[Iv.dP,lK,Iv.below,hn]
  have tu: ∀x,Iv.dP aQ (lK (jS es k)) x=true->P x=P (es[k]!):=fun x hx=>by
   obtain⟨a,b⟩:=(TO x).1 hx;refine h.flat x _ hek a fun y hy hly=> ?_;obtain⟨i,hi,rfl⟩:=List.mem_iff_getElem.1 hy;have e:es[i]! =es[i]:=getElem!_pos _ i hi;rw[<-e]at hly⊢;rcases Nat.lt_trichotomy i k with hh|hh|hh
   · have:=qL h.up hh (by omega)
     rw[eR this]at hly;cases hly
   · subst hh;rw[lt_irrefl]at hly;cases hly
   · have hb:=b (by omega)
     rcases Nat.lt_or_eq_of_le (show k+1<=i by omega)with hh'|hh'
     · exact bW hb (qL h.up hh' hi)
     · subst hh';exact hb
  have lg: ∀x,(0<k+1/\(k+1<es.length->aQ x (es[k+1]!)=true)) ↔ (0<k/\(k<es.length->aQ x (es[k]!)=true))\/Iv.dP aQ (lK (jS es k)) x=true:=fun x=>by
   rw[TO]
   constructor
   · rintro⟨_,hb⟩
     cases hx:aQ x (es[k]!)with
     |false=>exact .inr ⟨rfl,hb⟩
     |true=>
      refine .inl ⟨?_,fun _=>rfl⟩
      rcases Nat.eq_zero_or_pos k with h0|h0
      · subst h0;rw[(LR h).1,H8]at hx;cases hx
      · exact h0
   · rintro(⟨h4,h5⟩|⟨_,h5⟩)
     · exact⟨by omega,fun hn=>bW (h5 (by omega)) (qL h.up (Nat.lt_succ_self k) hn)⟩
     · exact⟨by omega,h5⟩
  simp only[kL]
  by_cases hP:P (es[k]!)=[]
  · rw[if_pos hP]
    refine⟨h0,h1,fun hn=> ?_,fun x l=> ?_⟩
    · revert mB
      cases hm:(kL P es k).map u7 with
      |nil=>intro _;trivial
      |cons q qs=>
       rintro⟨e,he,aw⟩
       exact⟨e,he,Iv.jB oL (eR (qL h.up (Nat.lt_succ_self k) hn)) aw⟩
    · rw[h3,lg]
      constructor
      · rintro⟨a,b⟩;exact⟨.inl a,b⟩
      · rintro⟨a|a,b⟩
        · exact⟨a,b⟩
        · rw[tu x a,hP]at b
          exact absurd b.1.symm b.2
  · rw[if_neg hP]
    have Ti:=Pa h (k:=k) (by omega)
    have cQ:dW ⟨jS es k,P (es[k]!)⟩=true:=by
     simp only[dW,Ti,h.right,Bool.true_and,Bool.and_true,Bool.not_eq_true']
     cases hPk:P (es[k]!)with
     |nil=>exact absurd hPk hP
     |cons _ _=>rfl
    obtain⟨g1,g2,q,qs,g3,g4⟩:=Iv.LQ oL (r:=u7 ⟨jS es k,P (es[k]!)⟩) h1 (Rk Ti) (by show Iv.topL aQ _ (jS es k).lo;rw[aaK];exact mB)
    rw[<-WW]at g1 g2 g3;refine⟨fun p hp=>TN h0 cQ p hp,g1,fun hn=> ?_,fun x l=> ?_⟩
    · rw[g3]
      refine⟨es[k+1]!, ?_,lt_irrefl _⟩
      rw[g4]
      show(lK (jS es k)).2=_;unfold jS;rw[if_pos hn];rfl
    · rw[g2,h3,lg]
      constructor
      · rintro(⟨a,b⟩|⟨a,b⟩)
        · exact⟨.inl a,b⟩
        · have a':Iv.dP aQ (lK (jS es k)) x=true:=a
          have b':P (es[k]!)=l:=b;exact⟨.inr a',by rw[tu x a'];exact b',by rw[<-b'];exact hP⟩
      · rintro⟨a|a,b⟩
        · exact .inl ⟨a,b⟩
        · exact .inr ⟨a,by rw[<-tu x a];exact b.1⟩
theorem nN{P:List UInt8->List ab}{es:List (List UInt8)}(h:Kq P es):(kL P es es.length).reverse=aV P/\IsP P:=by
 obtain⟨h0,h1,_,h3⟩:=pP h es.length (Nat.le_refl _)
 have hr:aS (kL P es es.length).reverse=true:=by
  rw[eN]
  refine⟨fun p hp=>h0 p (List.mem_reverse.1 hp), ?_⟩
  rw[List.map_reverse]
  exact Iv.Gy.2 h1
 have hs: ∀x l,pO (kL P es es.length).reverse x l ↔ P x=l/\l≠ []:=fun x l=>by
  unfold pO;rw[List.map_reverse,Iv.aaH,h3]
  have:=(LR h).2;exact⟨fun h=>h.2,fun h=>⟨⟨this,fun hn=>by omega⟩,h⟩⟩
 exact⟨H7 hr hs,_,hr,hs⟩
set_option maxRecDepth 20000
set_option maxHeartbeats 4000000
theorem strI{q:IntKind}(l:List Int):((l.map (A.int q)).isEmpty||bT (l.map (A.int q))==1)=true:=by cases l<;>rfl
theorem GB{l:List Int}{n:Int}{k:Nat}(hk:k<=l.length)(hd:i_ l n=l.take k++n::l.drop k):k+1<=((l.take k).map (A.int .i64)++[A.int .i64 n]).length/\k+1+(l.length-k)<=(((l.take k).map (A.int .i64)++[A.int .i64 n]).take (k+1)++(l.drop k).map (A.int .i64)).length/\
 (((l.take k).map (A.int .i64)++[A.int .i64 n]).take (k+1)++(l.drop k).map (A.int .i64)).take (k+1+(l.length-k))=(i_ l n).map (A.int .i64):=by
 have e:((l.take k).map (A.int .i64)++[A.int .i64 n]).length=k+1:=by simp;omega
 rw[List.take_of_length_le (Nat.le_of_eq e)]
 have e2:((l.take k).map (A.int .i64)++[A.int .i64 n]++(l.drop k).map (A.int .i64)).length=k+1+(l.length-k):=by rw[List.length_append,e,List.length_map,List.length_drop]
 rw[List.take_of_length_le (Nat.le_of_eq e2)]
 exact⟨by omega,by omega,by rw[hd];simp⟩
theorem H9:ai Tryz.prog pG Tryz.f246.ntmps (Tryz.f246.body.getD .skip)=true:=by kernel_rfl
theorem LS(l:List Int)(n:Int)(hl:l.length<=1000000):az Tryz.prog 246 [.ad (l.map (A.int .i64)),.int .i64 n] (· = .ad ((i_ l n).map (A.int .i64))):=by
 refine aa nI mixed Tryz.func246 rfl (Nat.le_of_ble_eq_true rfl) H9 ?_;unfold Tryz.f246;simp-implicitDefEqProofs (disch:=(first|omega|decide)) only[go_sem,↓reduceIte,seval,List.length_map]
 refine ao [0,1,4] (ι:={k:Nat//k<=l.length/\i_ l n=l.take k++i_ (l.drop k) n}) (fun p=>[(5,.int .i64 p.1)]) (fun _=>[]) (fun p=>l.length-p.1) ⟨0,by omega,rfl⟩ (Nat.zero_le _) ?_ ?_
 · simp-implicitDefEqProofs (disch:=(first|omega|decide)) only[go_sem,↓reduceIte,seval]
 · rintro⟨k,hk,hd⟩
   simp only;by_cases aw:k<l.length
   · have ae:(k:Int)<(l.length:Int):=by omega
     have e1:(l.map (A.int .i64))[k]? =some (.int .i64 l[k]):=by rw[List.getElem?_map,List.getElem?_eq_getElem aw];rfl
     have tk:(l.take k).length=k:=by rw[List.length_take];omega
     have t1:=(List.take_append_getElem aw).symm;rw[List.drop_eq_getElem_cons aw]at hd;generalize hx:l[k]=x at*;simp only[i_]at hd;by_cases h1:x<n
     · rw[if_pos h1]at hd
       simp-implicitDefEqProofs (disch:=(first|omega|decide)) only[go_sem,↓reduceIte,seval,ae,e1,h1,wrap_i64,List.length_map]
       exact⟨⟨k+1,aw,by rw[hd,t1,List.append_assoc];rfl⟩,by simp,by show l.length-(k+1)<l.length-k;omega⟩
     · rw[if_neg h1]at hd
       cases h2:x==n with
       |true=>
        simp-implicitDefEqProofs (disch:=(first|omega|decide)) only[go_sem,↓reduceIte,seval,ae,e1,h1,h2,wrap_i64,List.length_map]
        have hxn:x=n:=by simpa using h2
        rw[if_pos hxn,<-hx,<-List.drop_eq_getElem_cons aw,List.take_append_drop]at hd;rw[hd]
       |false=>
        have hxn:x≠n:=by simpa using h2
        have l1:(l.take k).length=k:=tk;have l2:(l.drop k).length=l.length-k:=List.length_drop ..;simp-implicitDefEqProofs (disch:=(first|omega|decide)) only[go_sem,↓reduceIte,seval,ae,e1,h1,h2,wrap_i64,<-List.map_take,<-List.map_drop,strI,List.length_map,List.take_length,l1,l2]
        obtain⟨c1,c2,c3⟩:=GB hk (by rw[hd,if_neg hxn,<-hx,<-List.drop_eq_getElem_cons aw])
        exact⟨by omega,by omega,⟨by omega,by omega⟩,⟨by omega,by omega⟩,⟨c1,by omega⟩,c2,c3⟩
   · have ae: ¬(k:Int)<(l.length:Int):=by omega
     have l1:(l.take k).length=k:=by rw[List.length_take];omega
     have l2:(l.drop k).length=l.length-k:=List.length_drop ..;have l3:l.drop k=[]:=List.drop_of_length_le (by omega)
     obtain⟨c1,c2,c3⟩:=GB hk (by rw[hd,l3];rfl)
     simp-implicitDefEqProofs (disch:=(first|omega|decide)) only[go_sem,↓reduceIte,seval,ae,wrap_i64,<-List.map_take,<-List.map_drop,strI,List.length_map,List.take_length,l1,l2]
     exact⟨by omega,by omega,⟨by omega,by omega⟩,⟨by omega,by omega⟩,⟨c1,by omega⟩,c2,c3⟩
def LU:aj:=pG.add 246 (entry (fun(v:List Int×Int)=>[.ad (v.1.map (A.int .i64)),.int .i64 v.2]) (fun v=>v.1.length<=1000000) (fun v=> .ad ((i_ v.1 v.2).map (A.int .i64))))
theorem Rw:ag Tryz.prog LU:=nI.bG Tryz.func246 (by kernel_rfl) (by kernel_rfl) fun v h=>LS v.1 v.2 h
@[go_sem] theorem T13c_old{g:FuncId}{xs:List A}(h:g≠246):LU.f g xs=pG.f g xs:=aj.ak h
@[go_sem] theorem T13c_s:LU.pl pG:=⟨fun _=>rfl,fun _=>rfl,rfl,fun _=>rfl,rfl,fun _=>rfl,rfl⟩
theorem Bt(v:List Int×Int)(h:v.1.length<=1000000):LU.f 246 [.ad (v.1.map (A.int .i64)),.int .i64 v.2]=some (.ad ((i_ v.1 v.2).map (A.int .i64))):=aj.an (Γ:=pG) (fun i j h=>by simpa[Prod.ext_iff,and_assoc]using h) v h
@[go_sem] theorem t_ref13_put{l:List Int}{n:Int}(h:l.length<=1000000):LU.f 246 [.ad (l.map (A.int .i64)),.int .i64 n]=some (.ad ((i_ l n).map (A.int .i64))):=Bt (l,n) h
def slI:List Int->A
 | []=> .bK
 |x::xs=> .ad ((x::xs).map (A.int .i64))
theorem WX{l:List Int}(h:l≠ []):slI l= .ad (l.map (A.int .i64)):=by
 cases l with
 |nil=>exact absurd rfl h
 |cons x xs=>rfl
theorem vH{m:Nat}(l:List Int):(slI l).under m=true:=by cases l<;>rfl
@[go_sem] theorem view_slI{H:List Go.bJ.Obj}{l:List Int}:view H (slI l)=some (.ad (l.map (A.int .i64))):=by cases l<;>rfl
@[go_sem] theorem pure_slI{l:List Int}:(slI l).pure=true:=by cases l<;>rfl
theorem Bu:ai Tryz.prog LU Tryz.f215.ntmps (Tryz.f215.body.getD .skip)=true:=by kernel_rfl
theorem Ea(a b:List aC)(ha:a.length<=50000)(hb:b.length<=50000):az Tryz.prog 215 [.ad (a.map aC.enc),.ad (b.map aC.enc)] (· = .ad ((bf a b).map (A.int .i64))):=by
 refine aa Rw mixed Tryz.func215 rfl (Nat.le_of_ble_eq_true rfl) Bu ?_;unfold Tryz.f215;simp-implicitDefEqProofs (disch:=(first|omega|decide)) only[go_sem,↓reduceIte,seval,List.length_map]
 refine ao [0,1,4] (ι:={k:Nat//k<=a.length}) (fun p=>[(6,.int .i64 p.1),(5,slI (dB [] (a.take p.1)))]) (fun _=>[]) (fun p=>a.length-p.1) ⟨0,by omega⟩ (Nat.zero_le _) ?_ ?_
 · simp-implicitDefEqProofs (disch:=(first|omega|decide)) only[go_sem,↓reduceIte,seval]
   simp[dB,slI,A.under]
 · rintro⟨k,hk⟩
   simp only;have hlen:=nJ [] (a.take k)
   have Kp:(a.take k).length=k:=by rw[List.length_take];omega
   by_cases aw:k<a.length
   · have ae:(k:Int)<(a.length:Int):=by omega
     have e1:=run_get aw;have ht:a.take (k+1)=a.take k++[a[k]]:=(List.take_append_getElem aw).symm;generalize hx:a[k]=x at*;obtain⟨f,t⟩:=x;have hs:=xG [] (a.take k) ⟨f,t⟩
     rw[<-ht]at hs;generalize An:dB [] (a.take k)=es at*;simp only[List.length_nil]at hlen;cases h1:cq ⟨f,t⟩with
     |false=>
      rw[h1]at hs;simp-implicitDefEqProofs (disch:=(first|omega|decide)) only[go_sem,↓reduceIte,seval,ae,e1,h1,wrap_i64,List.length_map]
      exact⟨⟨k+1,aw⟩,by simp[hs,vH],by show a.length-(k+1)<a.length-k;omega⟩
     |true=>
      rw[h1,if_pos rfl]at hs;obtain⟨o1,o2,o3⟩:=iM h1;simp only at o1 o2 o3 hs;have p1:=ub es f;have dQ:=WX (Rp (i_ es f) (t+1))
      simp-implicitDefEqProofs (disch:=(first|omega|decide)) only[go_sem,↓reduceIte,seval,ae,e1,h1,wrap_i64,List.length_map]
      exact⟨⟨k+1,aw⟩,by simp[hs,dQ,A.under],by show a.length-(k+1)<a.length-k;omega⟩
   · have ae: ¬(k:Int)<(a.length:Int):=by omega
     rw[List.take_of_length_le (by omega)]at*;simp-implicitDefEqProofs (disch:=(first|omega|decide)) only[go_sem,↓reduceIte,seval,ae,List.length_map]
     generalize hea:dB [] a=ea at*;simp only[List.length_nil]at hlen;refine ao [1,4] (ι:={k:Nat//k<=b.length}) (fun p=>[(7,.int .i64 p.1),(5,slI (dB ea (b.take p.1)))]) (fun _=>[]) (fun p=>b.length-p.1) ⟨0,by omega⟩ (Nat.zero_le _) ?_ ?_
     · simp-implicitDefEqProofs (disch:=(first|omega|decide)) only[go_sem,↓reduceIte,seval]
       simp[dB,vH]
     · rintro⟨j,hj⟩
       simp only;have hlen2:=nJ ea (b.take j)
       have htj:(b.take j).length=j:=by rw[List.length_take];omega
       by_cases gQ:j<b.length
       · have Bv:(j:Int)<(b.length:Int):=by omega
         have e1:=run_get gQ;have ht:b.take (j+1)=b.take j++[b[j]]:=(List.take_append_getElem gQ).symm;generalize hx:b[j]=x at*;obtain⟨f,t⟩:=x;have hs:=xG ea (b.take j) ⟨f,t⟩
         rw[<-ht]at hs;generalize An:dB ea (b.take j)=es at*;cases h1:cq ⟨f,t⟩with
         |false=>
          rw[h1]at hs;simp-implicitDefEqProofs (disch:=(first|omega|decide)) only[go_sem,↓reduceIte,seval,Bv,e1,h1,wrap_i64,List.length_map]
          exact⟨⟨j+1,gQ⟩,by simp[hs,vH],by show b.length-(j+1)<b.length-j;omega⟩
         |true=>
          rw[h1,if_pos rfl]at hs;obtain⟨o1,o2,o3⟩:=iM h1;simp only at o1 o2 o3 hs;have p1:=ub es f;have dQ:=WX (Rp (i_ es f) (t+1))
          simp-implicitDefEqProofs (disch:=(first|omega|decide)) only[go_sem,↓reduceIte,seval,Bv,e1,h1,wrap_i64,List.length_map]
          exact⟨⟨j+1,gQ⟩,by simp[hs,dQ,A.under],by show b.length-(j+1)<b.length-j;omega⟩
       · have Bv: ¬(j:Int)<(b.length:Int):=by omega
         rw[List.take_of_length_le (by omega)]at*;have dQ:dB ea b=bf a b:=by rw[<-hea];rfl
         simp-implicitDefEqProofs (disch:=(first|omega|decide)) only[go_sem,↓reduceIte,seval,Bv,dQ,List.length_map]
def Pb:aj:=LU.add 167 (entry (fun(v:List aC×Int)=>[.ad (v.1.map aC.enc),.int .i64 v.2]) (fun v=>v.1.length<=4611686018427387904) (fun v=> .bool (ah v.1 v.2)))
theorem aaL:ag Tryz.prog Pb:=Rw.bG Tryz.func167 (by kernel_rfl) (by kernel_rfl) fun v h=>LF v.1 v.2 h
theorem Bw(v:List aC×Int)(h:v.1.length<=4611686018427387904):Pb.f 167 [.ad (v.1.map aC.enc),.int .i64 v.2]=some (.bool (ah v.1 v.2)):=aj.an (Γ:=LU) (fun i j h=>by simpa[Prod.ext_iff,and_assoc]using h) v h
@[go_sem] theorem t_ref13_Has{l:List aC}{n:Int}(h:l.length<=4611686018427387904):Pb.f 167 [.ad (l.map aC.enc),.int .i64 n]=some (.bool (ah l n)):=Bw (l,n) h
def H_:aj:=Pb.add 215 (entry (fun(v:List aC×List aC)=>[.ad (v.1.map aC.enc),.ad (v.2.map aC.enc)]) (fun v=>v.1.length<=50000/\v.2.length<=50000) (fun v=> .ad ((bf v.1 v.2).map (A.int .i64))))
theorem Rx:ag Tryz.prog H_:=aaL.bG Tryz.func215 (by kernel_rfl) (by kernel_rfl) fun v h=>Ea v.1 v.2 h.1 h.2
@[go_sem] theorem T13e_old{g:FuncId}{xs:List A}(h:g≠215):H_.f g xs=Pb.f g xs:=aj.ak h
@[go_sem] theorem T13e_s:H_.pl Pb:=⟨fun _=>rfl,fun _=>rfl,rfl,fun _=>rfl,rfl,fun _=>rfl,rfl⟩
theorem vI(v:List aC×List aC)(h:v.1.length<=50000/\v.2.length<=50000):H_.f 215 [.ad (v.1.map aC.enc),.ad (v.2.map aC.enc)]=some (.ad ((bf v.1 v.2).map (A.int .i64))):=aj.an (Γ:=Pb) (fun i j h=>by simpa[Prod.ext_iff,and_assoc]using h) v h
@[go_sem] theorem Zy{a b:List aC}(h:a.length<=50000/\b.length<=50000):H_.f 215 [.ad (a.map aC.enc),.ad (b.map aC.enc)]=some (.ad ((bf a b).map (A.int .i64))):=vI (a,b) h
theorem Bx{α:List A}{x v:A}: ∀{l:List A},cn (l++[x]) l.length v=l++[v]
 | []=>rfl
 |y::l=>by simp only[List.cons_append,List.length_cons,cn,Bx (α:=α)]
theorem ga{x:A}: ∀{l:List A},(l++[x])[l.length]? =some x
 | []=>rfl
 |y::l=>by simp[ga]
theorem Ry{l:List Int}{k:Nat}(h:k<l.length):(l.map (A.int .i64))[k]? =some (.int .i64 (l[k]!)):=by rw[List.getElem?_map,List.getElem?_eq_getElem h,getElem!_pos l k h];rfl
def mL(acc:List aC):List A:=acc.reverse.map aC.enc
theorem qM(q:aC)(qs:List aC):mL (q::qs)=mL qs++[.agg [.int .i64 q.f,.int .i64 q.t]]:=by simp[mL,aC.enc,aC.cells]
theorem ug(l:List aC):(mL l).length=l.length:=by simp[mL]
theorem LV:mL []=[]:=rfl
def Ia(op:Int):Prop:=op=1\/op=2\/op=3
theorem Eb:ai Tryz.prog H_ Tryz.f201.ntmps (Tryz.f201.body.getD .skip)=true:=by kernel_rfl
theorem Ib(op:Int)(a b:List aC)(ho:Ia op)(ha:a.length<=50000)(hb:b.length<=50000):az Tryz.prog 201 [.int .i64 op,.ad (a.map aC.enc),.ad (b.map aC.enc)] (· = .ad ((cw (iP op a b)).map aC.enc)):=by
 refine aa Rx mixed Tryz.func201 rfl (Nat.le_of_ble_eq_true rfl) Eb ?_;unfold Tryz.f201;have Zz:=Bo a b;have gZ:=H4 op a b;have By:=uc op a b;have TL:=jC a b;have hrng: ∀k,k<(bf a b).length->1<=(bf a b)[k]! /\(bf a b)[k]! <=1099511627777:=fun k hk=>nK (a:=a) (b:=b) (by rw[getElem!_pos _ k hk];exact List.getElem_mem _)
 simp-implicitDefEqProofs (disch:=(first|omega|decide)) only[go_sem,↓reduceIte,seval,List.length_map,ha,hb]
 generalize he:bf a b=e at*;refine aU 8 2 rfl ?_;refine ao [0,1,2,6,7] (ι:={k:Nat//k<=e.length-1}) (fun p=>[(9,.int .i64 p.1),(8,.row 0 0 2 (vD (iP op a b) e p.1).length false)]) (fun p=>[(0,.row 2 (mL (vD (iP op a b) e p.1)))]) (fun p=>e.length-p.1) ⟨0,by omega⟩ (Nat.zero_le _) ?_ ?_
 · simp-implicitDefEqProofs (disch:=(first|omega|decide)) only[go_sem,↓reduceIte,seval,vD,LV]
   done
 · rintro⟨k,hk⟩
   simp only;have hlen:=H3 (iP op a b) e k;by_cases aw:k+1<e.length
   · have ae:(k:Int)+1<(e.length:Int):=by omega
     have e1:=Ry (l:=e) (k:=k) (by omega)
     have e2:=Ry (l:=e) (k:=k+1) aw;obtain⟨s1,s2,s3,s4⟩:=By k (by omega)
     have LW:=sr TL (Nat.lt_succ_self k) aw;have r1:=hrng k (by omega)
     have r2:=hrng (k+1) aw;have hmk:vD (iP op a b) e (k+1)=if iP op a b (e[k]!)then cB (vD (iP op a b) e k) ⟨e[k]!,e[k+1]! -1⟩else vD (iP op a b) e k:=rfl
     generalize hx:e[k]! =x at*;generalize hy:e[k+1]! =y at*;generalize hm:vD (iP op a b) e k=m at*;have hP:iP op a b x=Vj op (ah a x) (ah b x):=rfl;have t1:((k:Int)+1).toNat=k+1:=by omega
     have t2:(0:Int)<=(k:Int)+1:=by omega
     have t3:(0:Int)<=(k:Int):=by omega
     have skip:iP op a b x=false->vD (iP op a b) e (k+1)=m:=fun h=>by rw[hmk,h];rfl
     have fin: ∀m',vD (iP op a b) e (k+1)=m'-> ∃j:{k:Nat//k<=e.length-1},(((k:Int)+1=(j.1:Int)/\m'.length=(vD (iP op a b) e j.1).length)/\mL m'=mL (vD (iP op a b) e j.1))/\e.length-j.1<e.length-k:=fun m' jh=>⟨⟨k+1,by omega⟩,⟨⟨by simp,by rw[jh]⟩,by rw[jh]⟩,by show e.length-(k+1)<e.length-k;omega⟩
     cases hp:iP op a b x with
     |false=>
      have hs:=skip hp;rcases ho with rfl|rfl|rfl<;>cases WY:ah a x<;>cases WZ:ah b x<;>rw[WY,WZ]at hP<;>simp[Vj,hp]at hP<;>simp-implicitDefEqProofs (maxSteps:=600000) (disch:=(first|omega|decide)) only[go_sem,↓reduceIte,seval,ae,e1,e2,WY,WZ,t1,t2,t3,wrap_i64,List.length_map]
      all_goals exact fin m hs
     |true=>
      have hs:vD (iP op a b) e (k+1)=cB m ⟨x,y-1⟩:=by rw[hmk,hp];rfl
      have lp:=fin _ hs;cases m with
      |nil=>
       rw[LV]
       rcases ho with rfl|rfl|rfl<;>cases WY:ah a x<;>cases WZ:ah b x<;>rw[WY,WZ]at hP<;>simp[Vj,hp]at hP<;>simp-implicitDefEqProofs (maxSteps:=600000) (disch:=(first|omega|decide)) only[go_sem,↓reduceIte,seval,ae,e1,e2,WY,WZ,t1,t2,t3,wrap_i64,List.length_map]
       all_goals exact lp
      |cons q qs=>
       have hqt:q.t<x:=s2;rw[qM]at*;have hlq:qs.length+1<=k:=hlen;have c0:(0:Int)<((qs.length+1:Nat):Int):=by omega
       have c1:(((qs.length+1:Nat):Int)-1).toNat=qs.length:=by omega
       have c2:(0:Int)<=((qs.length+1:Nat):Int)-1:=by omega
       have c3:((qs.length+1:Nat):Int)-1<((qs.length+1:Nat):Int):=by omega
       have g1:(mL qs++[A.agg [.int .i64 q.f,.int .i64 q.t]])[qs.length]? =some (.agg [.int .i64 q.f,.int .i64 q.t]):=by
          have:=ga (x:=A.agg [.int .i64 q.f,.int .i64 q.t]) (l:=mL qs)
          rwa [ug]at this
       have g2: ∀v,cn (mL qs++[A.agg [.int .i64 q.f,.int .i64 q.t]]) qs.length v=mL qs++[v]:=fun v=>by
          have:=Bx (x:=A.agg [.int .i64 q.f,.int .i64 q.t]) (v:=v) (l:=mL qs) (α:=[])
          rwa [ug]at this
       have gl:(mL qs++[A.agg [.int .i64 q.f,.int .i64 q.t]]).length=qs.length+1:=by rw[List.length_append,ug];rfl
       have gt:(mL qs++[A.agg [.int .i64 q.f,.int .i64 q.t]]).take (qs.length+1)=mL qs++[A.agg [.int .i64 q.f,.int .i64 q.t]]:=List.take_of_length_le (Nat.le_of_eq gl)
       cases hq:(q.t==x-1)with
       |true=>
          have Ko:q.t=x-1:=by simpa using hq
          have Ic:cB (q::qs) ⟨x,y-1⟩=⟨q.f,y-1⟩::qs:=by
           simp only[cB]
           rw[if_pos (by omega),if_pos (by omega)]
          rw[Ic,qM]at lp;rcases ho with rfl|rfl|rfl<;>cases WY:ah a x<;>cases WZ:ah b x<;>rw[WY,WZ]at hP<;>simp[Vj,hp]at hP<;>simp-implicitDefEqProofs (maxSteps:=600000) (disch:=(first|omega|decide)) only[go_sem,↓reduceIte,seval,ae,e1,e2,WY,WZ,t1,t2,t3,c0,c1,c2,c3,g1,g2,hq,wrap_i64,List.length_map]
          all_goals exact lp
       |false=>
          have Ko:q.t≠x-1:=by simpa using hq
          have Ic:cB (q::qs) ⟨x,y-1⟩=⟨x,y-1⟩::q::qs:=by
           simp only[cB]
           rw[if_neg (by omega)]
          rw[Ic,qM,qM]at lp;rcases ho with rfl|rfl|rfl<;>cases WY:ah a x<;>cases WZ:ah b x<;>rw[WY,WZ]at hP<;>simp[Vj,hp]at hP<;>simp-implicitDefEqProofs (maxSteps:=600000) (disch:=(first|omega|decide)) only[go_sem,↓reduceIte,seval,ae,e1,e2,WY,WZ,t1,t2,t3,c0,c1,c2,c3,g1,g2,gl,gt,hq,wrap_i64,List.length_map]
          all_goals exact⟨⟨Nat.le_refl _,by omega⟩,lp⟩
   · have ae: ¬(k:Int)+1<(e.length:Int):=by omega
     have Tf:k=e.length-1:=by omega
     subst Tf;have dQ:(mL (vD (iP op a b) e (e.length-1)))=(cw (iP op a b)).map aC.enc:=by unfold mL;rw[gZ]
     have LX:(vD (iP op a b) e (e.length-1)).length=(mL (vD (iP op a b) e (e.length-1))).length:=by rw[ug]
     simp-implicitDefEqProofs (disch:=(first|omega|decide)) only[go_sem,↓reduceIte,seval,ae,wrap_i64,LX,List.length_map,List.take_length]
     rw[dQ]
     exact⟨Nat.le_refl _,rfl⟩
end Go.Proofs.YtihgnfmoafjakaaGreat
namespace Go.bJ
theorem TP{P:Program}{f:FuncId}{xs:List A}{S:List Nat}(k:Nat)(h:dG P f xs [] .bK [] S):dG P f xs [] (.row 0 0 k 0 false) [.row k []] S:=by
 intro N φ w vs hN gq bw cF;refine Calls.mono (h N φ w vs hN gq bw cF) ?_;rintro e w' ⟨v,eG,rfl,hv,hrel',ht,hl⟩
 have e1:φ=[]:=List.length_eq_zero_iff.1 gq.len;have e2:eG=[]:=List.length_eq_zero_iff.1 hrel'.len;subst e1;subst e2;refine⟨v,[.nil],rfl, ?_, ?_, ?_,Nat.zero_le _⟩
 · simp only[aF]at hv⊢
   exact .inl ⟨.nil,rfl,by simp,trivial,fun _=>trivial,none,hv⟩
 · exact{
    len:=rfl
    cN:=fun n o p ho hp=>by
     cases n with
     |succ n=>simp[bX]at ho
     |zero=>
      simp only[bX,Option.some.injEq]at ho;simp at hp;subst ho;subst hp;simp[aH]
    own:=fun n b k' hn=>by cases n<;>simp at hn
    inj:=fun n m b k' DF hn=>by cases n<;>simp at hn}
 · exact{
    os:=ht.os
    tape:=ht.tape
    output:=ht.output
    drawn:=ht.drawn
    size:=ht.size
    block:=ht.block
    shape:=ht.shape
    own:=fun n b k' hn=>by cases n<;>simp at hn
    stay:=fun n p _ hn=>by simp at hn}
theorem TQ{P:Program}{f:FuncId}{H H':List Obj}{r:A}{S:List Nat}(h1:dG P f [.emp true] H r H' S)(h2:dG P f [.emp false] H r H' S):dG P f [.ad []] H r H' S:=fun N φ w vs hN gq bw hr=>by
 simp only[aP,aF]at hr;obtain⟨v,_,rfl,⟨_,a,cap,rfl,_,_⟩,rfl⟩:=hr;cases a with
 |none=>exact h1 N φ w _ hN gq bw (by simp only[aP,aF];exact⟨_,_,rfl,⟨none,cap,rfl,rfl⟩,rfl⟩)
 |some q=>exact h2 N φ w _ hN gq bw (by simp only[aP,aF];exact⟨_,_,rfl,⟨some q,cap,rfl,rfl⟩,rfl⟩)
theorem Bz{P:Program}{f:FuncId}{xs ys:List A}{r:A}(h:az P f ys (· =r))(hx: ∀(E:Env) (vs:List Value),aP E xs vs->aP E ys vs)(hp:r.pure=true):dG P f xs [] r [] []:=by
 intro N φ w vs hN gq bw cF;have e1:φ=[]:=List.length_eq_zero_iff.1 gq.len;subst e1
 have Pd: ∀b,(aA N [] w).N b->b<w.heap.size:=fun b hb=>by
  rcases hb with hb|⟨n,k,hn⟩
  · exact hN b hb
  · simp at hn
 refine Calls.mono (h (aA N [] w).N w vs Pd (hx _ _ cF)) ?_;rintro e w' ⟨v,r',rfl,rfl,hr,hg⟩
 refine⟨v,[],rfl, ?_, ?_, ?_,Nat.le_refl _⟩
 · exact hr
 · exact{len:=rfl,cN:=fun n o p ho=>by cases n<;>simp[bX]at ho,own:=fun n b k hn=>by simp at hn,inj:=fun n m b k k' hn=>by simp at hn}
 · exact{
    os:=hg.os
    tape:=hg.tape
    output:=hg.output
    drawn:=hg.drawn
    size:=hg.size
    block:=fun b hb _=>hg.block b hb
    shape:=fun b c e fr hb=>⟨c,fr,by rw[hg.block b (Array.getElem?_eq_some_iff.1 hb).1];exact hb,rfl⟩
    own:=fun n b k hn=>by simp at hn
    stay:=fun n p _ hn=>hn}
theorem Ie{E:Env}{es:List A}{v:Value}(h:aF E (.clip es) v):aF E (.ad es) v:=by simp only[aF]at h⊢;obtain⟨hp,a,hv,hl⟩:=h;exact⟨hp,a,_,hv,Nat.le_refl _,hl⟩
theorem gf{x v:A}: ∀{l:List A},cn (l++[x]) l.length v=l++[v]
 | []=>rfl
 |y::l=>by simp only[List.cons_append,List.length_cons,cn,gf]
theorem ga{x:A}: ∀{l:List A},(l++[x])[l.length]? =some x
 | []=>rfl
 |y::l=>by simp[ga]
open Go.RowKit
structure LY(b:Nat)(D:List Value)(w w':World):Prop where
 os:w'.os=w.os
 tape:w'.tape=w.tape
 output:w'.output=w.output
 drawn:w.drawn<=w'.drawn
 size:w.heap.size<=w'.heap.size
 block: ∀c,c<w.heap.size->c≠b->w'.heap[c]? =w.heap[c]?
 self: ∀(cc:Array Value) (e:TypeId) (fr:Nat×Nat),w.heap[b]? =some (.cells cc e fr)-> ∃KN,w'.heap[b]? =some (.cells KN e fr)/\KN.size=cc.size
 cells:w'.rangeAt b 0 D
theorem uh{P:Program}{f g:FuncId}{k:Nat}{c:Bool}{es yc:List A}{D:List Value}(hk:0<k)(hD: ∀E,aD E k yc D)(hp:A.pure.aY yc=true)(h1: ∀u∈D,u.oneCell'=true)(hlen:yc.length=es.length)
 (HC:es=[]-> ∀(w:World) (q:Option Addr) (cap:Nat),Calls P f #[.slice q 0 cap,.func (.func g) #[] #[]] w fun e w'=>e= .returned (.tuple #[])/\w'=w)
 (pe: ∀(E:Env) (b cap:Nat) (cc:Array Value) (e:TypeId) (fr:Nat×Nat),es≠ []->E.w.heap[b]? =some (.cells cc e fr)->mw cc fr->eo E k b 0 es->k*cap<=cc.size->es.length<=cap->
  Calls P f #[.slice (some ⟨b,0,none⟩) es.length cap,.func (.func g) #[] #[]] E.w fun e w'=>e= .returned (.tuple #[])/\LY b D E.w w'):
 dG P f [.row 0 0 k es.length c,.fn g []] [.row k es] (.cx []) [.row k yc] []:=by
 intro N φ w vs hN gq bw cF;simp only[aP]at cF;obtain⟨v0,_,rfl,hv0,v1,_,rfl,hv1,rfl⟩:=cF;simp only[aF,aP]at hv1;obtain⟨us,rfl,rfl⟩:=hv1;have Z9:φ.length=1:=gq.len;have stay: ∀(w':World),w'=w-> ∃v eG,(Ending.returned (.tuple #[]):Ending)= .returned v/\aF (aA N eG w') (.cx []) v/\nw N eG [.row k es] w'/\KW φ w [] eG w'/\1<=1:=by rintro w' rfl;exact⟨_,φ,rfl,by simp[aF,aP],gq,⟨rfl,rfl,rfl,Nat.le_refl _,Nat.le_refl _,fun _ _ _=>rfl,fun _ c _ fr h=>⟨c,fr,h,rfl⟩,fun n b k hn=> .inr ⟨n,k,hn⟩,fun _ _ _ h=>h⟩,Nat.le_refl _⟩
 have tL:es=[]-> ∀(q:Option Addr) (cap:Nat),Calls P f #[.slice q 0 cap,.func (.func g) #[] #[]] w fun e w'=> ∃v eG,e= .returned v/\aF (aA N eG w') (.cx []) v/\nw N eG [.row k yc] w'/\KW φ w [] eG w'/\ [Obj.row k es].length<=[Obj.row k yc].length:=by
  intro An q cap;have hes':yc=es:=by subst An;exact List.length_eq_zero_iff.1 (by simpa using hlen)
  rw[hes']
  refine Calls.mono (HC An w q cap) ?_;rintro e w' ⟨rfl,hw⟩
  exact stay w' hw
 by_cases An:es=[]
 · have hl0:es.length=0:=by rw[An];rfl
   simp only[aF]at hv0;rcases hv0 with⟨o,_,_,_,_,q,rfl⟩|⟨b,cap,c',e',fr,eV,rfl,qn,_,hb,DQ⟩
   · exact tL An q 0
   · rw[hl0];exact tL An _ cap
 · simp only[aF]at hv0
   rcases hv0 with⟨o,_,_,h0,_⟩|⟨b,cap,c',e',fr,eV,rfl,qn,_,hb,DQ⟩
   · exact absurd (List.length_eq_zero_iff.1 h0) An
   · have eZ:=gq.cN 0 (.row k es) (.loc b k) rfl eV
     simp only[aH]at eZ;obtain⟨_,N1,⟨cc,ee,ffr,N2,TR⟩,hE⟩:=eZ;have o9:w.heap[b]? =some (.cells c' e' fr):=hb;have pc:w.heap[b]? =some (.cells cc ee ffr):=N2;rw[o9]at pc;simp only[Option.some.injEq,Go.Obj.cells.injEq]at pc;obtain⟨rfl,rfl,rfl⟩:=pc;rw[Nat.zero_mul]at DQ⊢;refine Calls.mono (pe (aA N φ w) b cap c' e' fr An o9 TR hE (by omega) qn) ?_;rintro e w' ⟨rfl,hT⟩
     obtain⟨KN,pc,kE⟩:=hT.self c' e' fr o9;have hwid:w'.heap.size>=w.heap.size:=hT.size;refine⟨_,φ,rfl,by simp[aF,aP], ?_, ?_,Nat.le_refl _⟩
     · exact{
        len:=by simpa using Z9
        cN:=fun n o p ho rC=>by
         cases n with
         |succ n=>simp[bX]at ho
         |zero=>
          simp only[bX,Option.some.injEq]at ho;subst ho;have Hq:φ[0]? =some (cZ.loc b k):=eV;rw[Hq]at rC;obtain rfl:=Option.some.inj rC;simp only[aH]
          refine⟨trivial,hp,⟨KN,e',fr,pc,fun j hj=>TR j (by omega)⟩, ?_⟩
          exact aD.mem (hD (aA N φ w')) hT.cells h1
        own:=fun n b' k' hn=>⟨Nat.lt_of_lt_of_le (gq.own n b' k' hn).1 hT.size,(gq.own n b' k' hn).2⟩
        inj:=gq.inj}
     · exact{
        os:=hT.os
        tape:=hT.tape
        output:=hT.output
        drawn:=hT.drawn
        size:=hT.size
        block:=fun b' o9 qF=>hT.block b' o9 fun e=>by subst e;exact qF 0 k eV
        shape:=fun b' c₁ e₁ W0 h₁=>by
         by_cases VP:b'=b
         · subst VP
           obtain⟨c₂,h₂,h₃⟩:=hT.self c₁ e₁ W0 h₁;exact⟨c₂,W0,h₂,h₃⟩
         · have:b'<w.heap.size:=(Array.getElem?_eq_some_iff.1 h₁).1
           exact⟨c₁,W0,by rw[hT.block b' this VP];exact h₁,rfl⟩
        own:=fun n b' k' hn=> .inr ⟨n,k',hn⟩
        stay:=fun _ _ _ h=>h}
def gD:A->Value
 | .int k n=> .int k n
 | .bool b=> .bool b
 | .str s=> .string ⟨s.toArray⟩
 |_=>undef
def scalar:A->Bool
 | .int _ _=>true
 | .bool _=>true
 | .str _=>true
 |_=>false
theorem jD{E:Env}{x:A}{v:Value}(h:scalar x=true):aF E x v ↔ v=gD x:=by cases x<;>simp[scalar]at h<;>simp[aF,gD]
theorem ss{x:A}(h:scalar x=true):(gD x).oneCell'=true:=by cases x<;>simp[scalar]at h<;>rfl
theorem xK{x:A}(h:scalar x=true):x.pure=true:=by cases x<;>simp[scalar]at h<;>simp[A.pure]
theorem kr{E:Env}: ∀{xs:List A},(∀x∈xs,scalar x=true)->aP E xs (xs.map gD)
 | [],_=>by simp[aP]
 |x::xs,h=>by
  simp only[List.map_cons,aP]
  exact⟨_,_,rfl,(jD (h x (by simp))).2 rfl,kr fun y hy=>h y (by simp[hy])⟩
theorem rJ: ∀{xs:List A},(∀x∈xs,scalar x=true)->A.pure.aY xs=true
 | [],_=>rfl
 |x::xs,h=>by
  simp only[A.pure.aY,Bool.and_eq_true]
  exact⟨xK (h x (by simp)),rJ fun y hy=>h y (by simp[hy])⟩
theorem xL{α:Type}{k:Nat}(hk:0<k): ∀{ls:List (List α)},(∀l∈ls,l.length=k)-> ∀j:Nat,ls.flatten[j]? =(ls[j/k]?).bind fun l=>l[j % k]?
 | [],_,j=>by simp
 |l::ls,h,j=>by
  have hl:=h l (by simp)
  rw[List.flatten_cons]
  by_cases hj:j<k
  · rw[List.getElem?_append_left (by omega),Nat.div_eq_of_lt hj,Nat.mod_eq_of_lt hj];simp
  · rw[List.getElem?_append_right (by omega),xL hk (fun x hx=>h x (by simp[hx])) (j-l.length),hl]
    have h1:j/k=(j-k)/k+1:=by rw[Nat.div_eq_sub_div hk (by omega)]
    have h2:j % k=(j-k) % k:=by rw[Nat.mod_eq_sub_mod (by omega)]
    rw[h1,h2];simp
theorem xM{E:Env}{k:Nat}{β:Type}{enc:β->List A}(hk: ∀x,(enc x).length=k)(hs: ∀x,∀a∈enc x,scalar a=true): ∀l:List β,aD E k (l.map fun x=> .agg (enc x)) ((l.map fun x=>(enc x).map gD).flatten)
 | []=>by simp[aD]
 |x::l=>by
  have h1:((enc x).map gD).length=k:=by rw[List.length_map,hk]
  simp only[List.map_cons,aD,A.cells,List.flatten_cons]
  refine⟨hk x,by rw[List.length_append];omega, ?_, ?_⟩
  · rw[List.take_append_of_le_length (by omega),List.take_of_length_le (by omega)]
    exact kr (hs x)
  · rw[List.drop_append_of_le_length (by omega),List.drop_of_length_le (by omega)]
    exact xM hk hs l
theorem BA{E:Env}{β:Type}{enc:β->A}(hs: ∀x,scalar (enc x)=true): ∀l:List β,aD E 1 (l.map enc) (l.map fun x=>gD (enc x))
 | []=>by simp[aD]
 |x::l=>by
  have hc:(enc x).cells=[enc x]:=by have:=hs x;cases h:enc x<;>rw[h]at this<;>simp[scalar]at this<;>rfl
  simp only[List.map_cons,aD,hc]
  refine⟨rfl,by simp, ?_, ?_⟩
  · simp only[List.take_succ_cons,List.take_zero,aP]
    exact⟨_,[],rfl,(jD (hs x)).2 rfl,rfl⟩
  · simpa using BA hs l
theorem vJ{β:Type}{f:β->A}(h: ∀x,(f x).pure=true): ∀l:List β,A.pure.aY (l.map f)=true
 | []=>rfl
 |x::l=>by simp[A.pure.aY,h x,vJ h l]
open Go.Sort in
theorem GC{w w':World}(g:ew w w'): ∃q os,w'=Sort.grow (w.drewN q) os:=by
 refine⟨w'.drawn-w.drawn,w'.heap.extract w.heap.size w'.heap.size, ?_⟩
 have hh:w.heap++w'.heap.extract w.heap.size w'.heap.size=w'.heap:=by
  have kE:=g.size;apply Array.ext_getElem?;intro i;by_cases hi:i<w.heap.size
  · rw[Array.getElem?_append_left hi,g.block i hi]
  · rw[Array.getElem?_append_right (by omega),Array.getElem?_extract]
    by_cases h2:i<w'.heap.size
    · rw[if_pos (by omega),show w.heap.size+(i-w.heap.size)=i by omega]
    · rw[if_neg (by omega),Array.getElem?_eq_none (by omega)]
 have hd:=g.drawn;unfold Sort.grow World.drewN;rw[show w.drawn+(w'.drawn-w.drawn)=w'.drawn by omega]
 obtain⟨heap,tape,drawn,os,output⟩:=w';have h1:=g.os;have h2:=g.tape;have h3:=g.output;simp only at h1 h2 h3 hh⊢;rw[hh,h1,h2,h3]
open Go.Sort in
theorem xN{w:World}{b n:Nat}{F F0:Array Value}{os:Array Go.Obj}(h0:Holds id w b 0 F0)(hs:F.size=F0.size)(hb:b<w.heap.size):LY b F.toList w (Sort.grow (putRow id (Sort.ahead w n) b 0 F) os) where
 os:=rfl
 tape:=rfl
 output:=rfl
 drawn:=Nat.le_add_right _ _
 size:=by show w.heap.size<=((w.heap.modify b _)++os).size;simp
 block:=fun c hc bU=>by show((w.heap.modify b _)++os)[c]? =_;rw[Array.getElem?_append_left (by simpa using hc),Array.getElem?_modify,if_neg (Ne.symm bU)]
 self:=fun cc e fr N2=>by
  refine⟨putCells id 0 F cc, ?_,by simp[putCells]⟩
  show((w.heap.modify b _)++os)[b]? =_;rw[Array.getElem?_append_left (by simpa using hb),Array.getElem?_modify,if_pos rfl,N2]
  rfl
 cells:=fun j v hj=>by
  have hjF:j<F.size:=by have:=(List.getElem?_eq_some_iff.1 hj).1;simpa using this
  have h1:=cell?_putRow id (Sort.ahead w n) b 0 F0 F (holds_ahead id w n b 0 F0 h0) hs j hjF
  have h2:(Sort.grow (putRow id (Sort.ahead w n) b 0 F) os).cell? ⟨b,0+j,none⟩=(putRow id (Sort.ahead w n) b 0 F).cell? ⟨b,0+j,none⟩:=by
   unfold World.cell?;show(match((putRow id (Sort.ahead w n) b 0 F).heap++os)[b]? with|some (.cells c _ _)=>_|_=>none)=_;rw[Array.getElem?_append_left (by simpa using hb)]
   rfl
  rw[h2,h1]
  have:F[j]! =v:=by
   rw[getElem!_pos F j hjF]
   have:=(List.getElem?_eq_some_iff.1 hj).2;simpa using this
  rw[this];rfl
theorem xO{w:World}{b:Nat}{c:Array Value}{e:TypeId}{fr:Nat×Nat}(hb:w.heap[b]? =some (.cells c e fr))(hf:mw c fr){j:Nat}(hj:j<c.size):w.frozen? ⟨b,j,none⟩=false:=by have:=(pa (w:=w) (b:=b) (off:=j) (n:=1) hb hf (by omega) 0 (by omega)).2;simpa using this
def cW{β:Type} [Inhabited β](cf:β->β->Int)(l:List β):List β:=(Sort.pdq (Go.Proofs.ltOf cf) l.toArray 0 l.toArray.size (Lib.bitLen l.toArray.size) true true).toList
theorem dC{β:Type} [Inhabited β]{cf:β->β->Int}(hO:Sort.SWO (Go.Proofs.ltOf cf))(l:List β):(cW cf l).Perm l/\(cW cf l).Pairwise (fun x y=> ¬cf y x<0):=by
 obtain⟨⟨h1,_,h3⟩,h4⟩:=Sort.pdq_sorts (Go.Proofs.ltOf cf) hO l.toArray 0 l.toArray.size (Lib.bitLen l.toArray.size) true true (Nat.zero_le _) (Nat.le_refl _) (Or.inl rfl)
 refine⟨?_, ?_⟩
 · unfold cW
   have e: ∀d:Array β,d.size=l.toArray.size->d.extract 0 l.toArray.size=d:=fun d hd=>by rw[<-hd];simp
   rw[e _ h1,e _ rfl]at h3;simpa using h3
 · unfold cW
   rw[List.pairwise_iff_getElem]
   intro i j hi hj vw;have u6:j<l.toArray.size:=by rw[<-h1];simpa using hj
   have:=h4 i j (Nat.zero_le _) vw u6;have tg:i<(Sort.pdq (Go.Proofs.ltOf cf) l.toArray 0 l.toArray.size (Lib.bitLen l.toArray.size) true true).size:=by simpa using hi
   have hj2:j<(Sort.pdq (Go.Proofs.ltOf cf) l.toArray 0 l.toArray.size (Lib.bitLen l.toArray.size) true true).size:=by simpa using hj
   rw[getElem!_pos _ i tg,getElem!_pos _ j hj2]at this;simpa[Go.Proofs.ltOf]using this
open Go.Shelf Go.Lib Go.Sort Go.Proofs in
/-- slices.SortFunc of structs, by a function that captures nothing. -/
theorem pQ{P:Program}{ρ:Ren}{β:Type} [Inhabited β](L:SlLaysF0.n6 P ρ){k:Nat}(ye:0<k)(aE: ∀w,(isAgg (ρ.t 24)).run P w= .ok true w)(zE: ∀w,(Go.sizeOf (ρ.t 24)).run P w= .ok k w)(enc:β->List A)(hk: ∀x,(enc x).length=k)(hs: ∀x,∀a∈enc x,scalar a=true)
 (cf:β->β->Int) (hO:SWO (ltOf cf)) {g:FuncId} (hg:iW P g) (hcmp: ∀x y,az P g [.agg (enc x),.agg (enc y)] (· = .int .i64 (cf x y))) (l:List β) (kE:l.length<4611686018427387904) (c:Bool):
 dG P (ρ.f 6) [.row 0 0 k l.length c,.fn g []] [.row k (l.map fun x=> .agg (enc x))] (.cx []) [.row k ((cW cf l).map fun x=> .agg (enc x))] []:=by
 have W1:=(dC hO l).1;have ZA:(l.map fun x=>A.agg (enc x)).length=l.length:=List.length_map _;have hle: ∀x,((enc x).map gD).length=k:=fun x=>by rw[List.length_map,hk]
 have cQ: ∀x,∀v∈(enc x).map gD,v.oneCell'=true:=fun x v hv=>by obtain⟨a,ha,rfl⟩:=List.mem_map.1 hv;exact ss (hs x a ha)
 have:=uh (P:=P) (f:=ρ.f 6) (g:=g) (k:=k) (c:=c) (es:=l.map fun x=>A.agg (enc x)) (yc:=(cW cf l).map fun x=>A.agg (enc x)) (D:=((cW cf l).map fun x=>(enc x).map gD).flatten) ye
  (fun E=>xM hk hs _) (vJ (fun x=>by simp only[A.pure];exact rJ (hs x)) _) (fun u hu=>by obtain⟨ys,w_,hu⟩:=List.mem_flatten.1 hu;obtain⟨x,_,rfl⟩:=List.mem_map.1 w_;exact cQ x u hu) (by rw[List.length_map,List.length_map];exact W1.length_eq)
  (fun _ w q cap=>AnyF.slices_SortFunc_none L q cap _ w) ?_
 · rw[ZA]at this;exact this
 intro E b cap cc e fr bU hb TR hE DQ qn;rw[ZA]at qn⊢;have hbs:b<E.w.heap.size:=(Array.getElem?_eq_some_iff.1 hb).1;have hmul:l.length*k<=cc.size:=Nat.le_trans (by rw[Nat.mul_comm];exact Nat.mul_le_mul_left _ qn) DQ
 have hH:HoldsK (fun x=>(enc x).map gD) k E.w b 0 l.toArray:=by
  intro j hj;rw[size_flatK]at hj;have u6:j<l.length*k:=by simpa using hj
  have hq:j/k<l.length:=(Nat.div_lt_iff_lt_mul ye).2 u6;have hr:j % k<k:=Nat.mod_lt _ ye;refine⟨?_,by rw[Nat.zero_add];exact xO hb TR (by omega)⟩
  obtain⟨_,hM⟩:=cU.1 hE (j/k) (.agg (enc l[j/k])) (by simp[hq])
  have Gq:j % k<(enc l[j/k]).length:=by rw[hk];exact hr
  obtain⟨v,hv,_,cF⟩:=bc.1 hM (j % k) _ (List.getElem?_eq_getElem (by simpa[A.cells]using Gq))
  have vl:=(jD (hs _ _ (List.getElem_mem _))).1 cF;rw[show 0+j/k*k+j % k=0+j by rw[Nat.zero_add,Nat.zero_add,Nat.mul_comm];exact Nat.div_add_mod j k]at hv;rw[hv,vl,get_flatK _ _ _ _ hj]
  simp only[id]
  have e1:l.toArray[j/k]! =l[j/k]:=by rw[getElem!_pos _ _ (by simpa using hq)];simp
  rw[e1,getElem!_pos _ _ (by rw[List.length_map];exact Gq)]
  simp only[A.cells,List.getElem_map]
  rfl
 have jg:CmpLays P g #[] (fun x=>(enc x).map gD) k cf b 0 l.toArray.size E.w:=by
  intro m os dk hdk x y
  have cF:aP ⟨fun _=>False,[],sortWorldK (fun x=>(enc x).map gD) k E.w b 0 m dk os⟩ [.agg (enc x),.agg (enc y)] [.agg ((enc x).map gD).toArray,.agg ((enc y).map gD).toArray]:=by
   simp only[aP,aF]
   exact⟨_,_,rfl,⟨_,rfl,kr (hs x),cQ x⟩,_,_,rfl,⟨_,rfl,kr (hs y),cQ y⟩,rfl⟩
  refine Calls.mono (hcmp x y (fun _=>False) _ _ (fun b h=>h.elim) cF) ?_;rintro e w' ⟨v,r,rfl,rfl,hr,V0⟩
  simp only[aF]at hr;subst hr;exact⟨rfl,GC V0⟩
 have LZ:=AnyQ.slices_SortFunc_eq L k aE zE (fun x=>(enc x).map gD) hle cQ cf hO g #[] b 0 cap l.toArray E.w (fun args w=>kg hg args w) jg hH hbs (by simpa using kE)
 have L3:(pdq (ltOf cf) l.toArray 0 l.toArray.size (Lib.bitLen l.toArray.size) true true).size=l.toArray.size:=(pdq_sorts (ltOf cf) hO l.toArray 0 l.toArray.size (Lib.bitLen l.toArray.size) true true (Nat.zero_le _) (Nat.le_refl _) (Or.inl rfl)).1.1;have oP:l.toArray.size=l.length:=by simp
 rw[oP]at LZ;refine Calls.mono LZ ?_;rintro e w' ⟨rfl,n,os,rfl⟩
 refine⟨rfl, ?_⟩
 have tu:((cW cf l).map fun x=>(enc x).map gD).flatten=(flatK (fun x=>(enc x).map gD) k (pdq (ltOf cf) l.toArray 0 l.length (Lib.bitLen l.length) true true)).toList:=by
  rw[oP]at L3;have hsl2:(cW cf l)=(pdq (ltOf cf) l.toArray 0 l.length (Lib.bitLen l.length) true true).toList:=by unfold cW;rw[oP]
  rw[hsl2]
  generalize pdq (ltOf cf) l.toArray 0 l.length (Lib.bitLen l.length) true true=d at L3⊢;apply List.ext_getElem?;intro j;rw[xL ye (fun ys w_=>by obtain⟨x,_,rfl⟩:=List.mem_map.1 w_;exact hle x)]
  by_cases hj:j<d.size*k
  · have hq:j/k<d.size:=(Nat.div_lt_iff_lt_mul ye).2 hj
    have hr:j % k<k:=Nat.mod_lt _ ye;have e1:(flatK (fun x=>(enc x).map gD) k d).toList[j]? =some ((flatK (fun x=>(enc x).map gD) k d)[j]!):=by rw[getElem!_pos _ j (by rw[size_flatK];exact hj)];simp[hj]
    rw[e1,get_flatK _ _ _ _ hj]
    rw[getElem!_pos d _ hq]
    have Ko:j/k<d.toList.length:=by simpa using hq
    simp only[List.getElem?_map,List.getElem?_eq_getElem Ko,Option.map_some,Option.bind_some]
    rw[getElem!_pos _ _ (by simp only[List.length_map,hk];exact hr)]
    rw[List.getElem?_eq_getElem (by simp only[List.length_map,hk];exact hr)]
    simp
  · have hq:d.size<=j/k:=by
     rcases Nat.lt_or_ge (j/k) d.size with h|h
     · exact absurd ((Nat.div_lt_iff_lt_mul ye).1 h) hj
     · exact h
    have e1:(flatK (fun x=>(enc x).map gD) k d).toList[j]? =none:=by rw[List.getElem?_eq_none];rw[Array.length_toList,size_flatK];omega
    rw[e1]
    simp[hq]
 rw[tu]
 unfold sortWorldK putRowK;exact xN hH (by rw[size_flatK,size_flatK];rw[oP]at L3;rw[L3,oP]) hbs
open Go.Shelf Go.Lib Go.Sort Go.Proofs in
/-- slices.SortFunc of scalars. -/
theorem L4{P:Program}{ρ:Ren}{β:Type} [Inhabited β](L:SlLaysF.n6 P ρ)(L0:SlLaysF0.n6 P ρ)(enc:β->A)(hs: ∀x,scalar (enc x)=true)
 (cf:β->β->Int) (hO:SWO (ltOf cf)) {g:FuncId} (hg:iW P g) (hcmp: ∀x y,az P g [enc x,enc y] (· = .int .i64 (cf x y))) (l:List β) (kE:l.length<4611686018427387904) (c:Bool):
 dG P (ρ.f 6) [.row 0 0 1 l.length c,.fn g []] [.row 1 (l.map enc)] (.cx []) [.row 1 ((cW cf l).map enc)] []:=by
 have W1:=(dC hO l).1;have ZA:(l.map enc).length=l.length:=List.length_map _;have hcell: ∀x,(enc x).cells=[enc x]:=fun x=>by have:=hs x;cases h:enc x<;>rw[h]at this<;>simp[scalar]at this<;>rfl
 have:=uh (P:=P) (f:=ρ.f 6) (g:=g) (k:=1) (c:=c) (es:=l.map enc) (yc:=(cW cf l).map enc) (D:=(cW cf l).map fun x=>gD (enc x)) (by omega)
  (fun E=>BA hs _) (vJ (fun x=>xK (hs x)) _) (fun u hu=>by obtain⟨x,_,rfl⟩:=List.mem_map.1 hu;exact ss (hs x)) (by rw[List.length_map,List.length_map];exact W1.length_eq)
  (fun _ w q cap=>AnyF.slices_SortFunc_none L0 q cap _ w) ?_
 · rw[ZA]at this;exact this
 intro E b cap cc e fr bU hb TR hE DQ qn;rw[ZA]at qn⊢;have hbs:b<E.w.heap.size:=(Array.getElem?_eq_some_iff.1 hb).1
 have hH:Holds (fun x=>gD (enc x)) E.w b 0 l.toArray:=by
  intro j hj;have u6:j<l.length:=by simpa using hj
  refine⟨?_,by rw[Nat.zero_add];exact xO hb TR (by omega)⟩
  obtain⟨_,hM⟩:=cU.1 hE j (enc l[j]) (by simp[u6])
  rw[hcell]at hM;obtain⟨v,hv,_,cF⟩:=KE.1 hM;have vl:=(jD (hs _)).1 cF;rw[Nat.mul_one]at hv;rw[hv,vl,getElem!_pos l.toArray j hj];simp
 have jg:CmpLays1 P g #[] (fun x=>gD (enc x)) cf b 0 l.toArray.size E.w:=by
  intro m os dk hdk x y
  have cF:aP ⟨fun _=>False,[],sortWorld (fun x=>gD (enc x)) E.w b 0 m dk os⟩ [enc x,enc y] [gD (enc x),gD (enc y)]:=by
   simp only[aP]
   exact⟨_,_,rfl,(jD (hs x)).2 rfl,_,_,rfl,(jD (hs y)).2 rfl,rfl⟩
  refine Calls.mono (hcmp x y (fun _=>False) _ _ (fun b h=>h.elim) cF) ?_;rintro e w' ⟨v,r,rfl,rfl,hr,V0⟩
  simp only[aF]at hr;subst hr;exact⟨rfl,GC V0⟩
 have LZ:=Any.slices_SortFunc_eq L (fun x=>gD (enc x)) (fun x=>ss (hs x)) cf hO g #[] b 0 cap l.toArray E.w (fun args w=>kg hg args w) jg hH hbs (by simpa using kE)
 have L3:(pdq (ltOf cf) l.toArray 0 l.toArray.size (Lib.bitLen l.toArray.size) true true).size=l.toArray.size:=(pdq_sorts (ltOf cf) hO l.toArray 0 l.toArray.size (Lib.bitLen l.toArray.size) true true (Nat.zero_le _) (Nat.le_refl _) (Or.inl rfl)).1.1;have oP:l.toArray.size=l.length:=by simp
 rw[oP]at LZ L3;refine Calls.mono LZ ?_;rintro e w' ⟨rfl,n,os,rfl⟩
 refine⟨rfl, ?_⟩
 have hsl2:(cW cf l)=(pdq (ltOf cf) l.toArray 0 l.length (Lib.bitLen l.length) true true).toList:=by unfold cW;rw[oP]
 rw[hsl2]
 generalize pdq (ltOf cf) l.toArray 0 l.length (Lib.bitLen l.length) true true=d at L3⊢
 have hput: ∀(w:World) (d:Array β),putRow (fun x=>gD (enc x)) w b 0 d=putRow id w b 0 (d.map fun x=>gD (enc x)):=fun w d=>by
  unfold putRow
  congr 1
  funext c
  unfold putCells;apply Array.ext
  · simp
  · intro i h1 h2
    simp only[Array.getElem_mapIdx,Array.size_map,Nat.zero_le,true_and,Nat.zero_add,Nat.sub_zero,id]
    split
    · rename_i hi
      rw[getElem!_pos d i hi,getElem!_pos _ i (by simpa using hi)];simp
    · rfl
 have hH':Holds id E.w b 0 (l.toArray.map fun x=>gD (enc x)):=fun j hj=>by
  have u6:j<l.toArray.size:=by simpa using hj
  obtain⟨h1,h2⟩:=hH j u6;refine⟨?_,h2⟩
  rw[h1,getElem!_pos l.toArray j u6,getElem!_pos (l.toArray.map fun x=>gD (enc x)) j hj];simp
 have he:(d.toList.map fun x=>gD (enc x))=(d.map fun x=>gD (enc x)).toList:=by simp
 rw[he]
 unfold sortWorld;rw[hput]
 exact xN hH' (by simp[L3]) hbs
end Go.bJ
namespace Go.Proofs
open Go.Shelf
def YtihgnfmoafjakaaGreat.L5:Go.Shelf.Ren:=⟨fun|6=>234|15=>203|14=>255|28=>224|29=>225|20=>262|21=>263|22=>264|23=>265|24=>266|25=>267|26=>268|27=>269|46=>271|47=>248|48=>249|49=>272|50=>273|57=>274|n=>n,fun|22=>125|24=>130|25=>227|3=>3|39=>199|0=>0|53=>46|55=>220|4=>4|46=>212|45=>211|50=>216|5=>5|9=>9|66=>234|70=>238|76=>246|77=>247|n=>n,fun|n=>n⟩
theorem YtihgnfmoafjakaaGreat.Q_:Go.Proofs.SlLaysF0.n6 Tryz.prog YtihgnfmoafjakaaGreat.L5:={
 mixed:=by kernel_rfl
 f6:=⟨Tryz.f234.name,by decide,Tryz.func234.trans (congrArg some (by kernel_rfl))⟩
 f14:=⟨Tryz.f255.name,by decide,Tryz.func255.trans (congrArg some (by kernel_rfl))⟩
 f15:=Tryz.func203.trans (congrArg some (by kernel_rfl))
 f20:=⟨Tryz.f262.name,by decide,Tryz.func262.trans (congrArg some (by kernel_rfl))⟩
 f21:=⟨Tryz.f263.name,by decide,Tryz.func263.trans (congrArg some (by kernel_rfl))⟩
 f22:=⟨Tryz.f264.name,by decide,Tryz.func264.trans (congrArg some (by kernel_rfl))⟩
 f23:=⟨Tryz.f265.name,by decide,Tryz.func265.trans (congrArg some (by kernel_rfl))⟩
 f24:=⟨Tryz.f266.name,by decide,Tryz.func266.trans (congrArg some (by kernel_rfl))⟩
 f25:=⟨Tryz.f267.name,by decide,Tryz.func267.trans (congrArg some (by kernel_rfl))⟩
 f26:=⟨Tryz.f268.name,by decide,Tryz.func268.trans (congrArg some (by kernel_rfl))⟩
 f27:=⟨Tryz.f269.name,by decide,Tryz.func269.trans (congrArg some (by kernel_rfl))⟩
 f28:=Tryz.func224.trans (congrArg some (by kernel_rfl))
 f29:=Tryz.func225.trans (congrArg some (by kernel_rfl))
 f46:=⟨Tryz.f271.name,by decide,Tryz.func271.trans (congrArg some (by kernel_rfl))⟩
 f47:=Tryz.func248.trans (congrArg some (by kernel_rfl))
 f48:=Tryz.func249.trans (congrArg some (by kernel_rfl))
 f49:=⟨Tryz.f272.name,by decide,Tryz.func272.trans (congrArg some (by kernel_rfl))⟩
 f50:=⟨Tryz.f273.name,by decide,Tryz.func273.trans (congrArg some (by kernel_rfl))⟩
 f57:=⟨Tryz.f274.name,by decide,Tryz.func274.trans (congrArg some (by kernel_rfl))⟩
 t0:=Tryz.underlying0
 a0:=Tryz.isAgg0
 z0:=Tryz.sizeOf0
 v0:=Tryz.zeroValue0
 t3:=Tryz.underlying3
 a3:=Tryz.isAgg3
 z3:=Tryz.sizeOf3
 v3:=Tryz.zeroValue3
 t4:=Tryz.underlying4
 a4:=Tryz.isAgg4
 z4:=Tryz.sizeOf4
 v4:=Tryz.zeroValue4
 t5:=Tryz.underlying5
 a5:=Tryz.isAgg5
 z5:=Tryz.sizeOf5
 v5:=Tryz.zeroValue5
 t9:=Tryz.underlying9
 a9:=Tryz.isAgg9
 z9:=Tryz.sizeOf9
 v9:=Tryz.zeroValue9
 t22:=Tryz.underlying125
 a22:=Tryz.isAgg125
 z22:=Tryz.sizeOf125
 v22:=Tryz.zeroValue125
 t25:=Tryz.underlying227
 a25:=Tryz.isAgg227
 z25:=Tryz.sizeOf227
 v25:=Tryz.zeroValue227
 t39:=Tryz.underlying199
 a39:=Tryz.isAgg199
 z39:=Tryz.sizeOf199
 v39:=Tryz.zeroValue199
 t45:=Tryz.underlying211
 a45:=Tryz.isAgg211
 z45:=Tryz.sizeOf211
 v45:=Tryz.zeroValue211
 t46:=Tryz.underlying212
 a46:=Tryz.isAgg212
 z46:=Tryz.sizeOf212
 v46:=Tryz.zeroValue212
 t50:=Tryz.underlying216
 a50:=Tryz.isAgg216
 z50:=Tryz.sizeOf216
 v50:=Tryz.zeroValue216
 t53:=Tryz.underlying46
 a53:=Tryz.isAgg46
 z53:=Tryz.sizeOf46
 v53:=Tryz.zeroValue46
 t55:=Tryz.underlying220
 a55:=Tryz.isAgg220
 z55:=Tryz.sizeOf220
 v55:=Tryz.zeroValue220
 t66:=Tryz.underlying234
 a66:=Tryz.isAgg234
 z66:=Tryz.sizeOf234
 v66:=Tryz.zeroValue234
 t70:=Tryz.underlying238
 a70:=Tryz.isAgg238
 z70:=Tryz.sizeOf238
 v70:=Tryz.zeroValue238
 t76:=Tryz.underlying246
 a76:=Tryz.isAgg246
 z76:=Tryz.sizeOf246
 v76:=Tryz.zeroValue246
 t77:=Tryz.underlying247
 a77:=Tryz.isAgg247
 z77:=Tryz.sizeOf247
 v77:=Tryz.zeroValue247}
end Go.Proofs
namespace Go.Proofs.YtihgnfmoafjakaaGreat
open Go.bJ
set_option linter.unusedSimpArgs false
set_option linter.unusedVariables false
set_option maxRecDepth 20000
set_option maxHeartbeats 4000000
theorem vK:ai Tryz.prog D3 Tryz.f206.ntmps (Tryz.f206.body.getD .skip)=true:=by kernel_rfl
theorem xP(l:List aC)(hl:l.length<=4398046511104):dG Tryz.prog 206 [.ad (l.map aC.enc)] [] (.row 0 0 2 l.length false) [.row 2 (l.map aC.enc)] []:=by
 cases l with
 |nil=>
  refine TQ (TP 2 ?_) ?_
  · refine bV iZ mixed Tryz.func206 rfl (Nat.le_of_ble_eq_true rfl) (by simp) (by simp) (Nat.le_refl _) vK ?_
    unfold Tryz.f206;simp-implicitDefEqProofs (disch:=(first|omega|decide)) only[go_sem,↓reduceIte,seval]
  · refine bV iZ mixed Tryz.func206 rfl (Nat.le_of_ble_eq_true rfl) (by simp) (by simp) (Nat.zero_le _) vK ?_
    unfold Tryz.f206;simp-implicitDefEqProofs (disch:=(first|omega|decide)) only[go_sem,↓reduceIte,seval]
 |cons r l=>
  refine bV iZ mixed Tryz.func206 rfl (Nat.le_of_ble_eq_true rfl) (by simp) (by simp) (Nat.zero_le _) vK ?_;unfold Tryz.f206;obtain⟨f,t⟩:=r;simp only[List.length_cons]at hl;simp-implicitDefEqProofs (disch:=(first|omega|decide)) only[go_sem,↓reduceIte,seval,List.length_map]
  omega
theorem BB:ai Tryz.prog D3 Tryz.f235.ntmps (Tryz.f235.body.getD .skip)=true:=by kernel_rfl
theorem c_Of1(f t f' t':Int)(h:0<=f/\f<=1099511627776/\0<=f'/\f'<=1099511627776):az Tryz.prog 235 [.agg [.int .i64 f,.int .i64 t],.agg [.int .i64 f',.int .i64 t']] (· = .int .i64 (f-f')):=by refine aa iZ mixed Tryz.func235 rfl (Nat.le_of_ble_eq_true rfl) BB ?_;unfold Tryz.f235;simp-implicitDefEqProofs (disch:=(first|omega|decide)) only[go_sem,↓reduceIte,seval,wrap_i64]
abbrev ui:={r:aC//cq r=true}
instance:Inhabited ui:=⟨⟨⟨1,1⟩,by decide⟩⟩
def ZI(a b:ui):Int:=a.1.f-b.1.f
def ui.cells(r:ui):List A:=r.1.cells
theorem swoB:Go.Sort.SWO (Go.Proofs.ltOf ZI):=by
 have hl: ∀a b,Go.Proofs.ltOf ZI a b=decide (a.1.f<b.1.f):=fun a b=>by
  unfold Go.Proofs.ltOf ZI;by_cases h:a.1.f<b.1.f
  · have:a.1.f-b.1.f<0:=by omega
    simp[this,h]
  · have: ¬a.1.f-b.1.f<0:=by omega
    simp[this,h]
 refine⟨fun x=> ?_,fun x y z h1 h2=> ?_,fun x y z h1 h2=> ?_⟩
 · rw[hl];simp
 · rw[hl]at*
   rw[decide_eq_true_iff]at*;omega
 · rw[hl]at*
   rw[decide_eq_false_iff_not]at*;omega
theorem BC(l:List ui)(hl:l.length<4611686018427387904):dG Tryz.prog 234 [.row 0 0 2 l.length false,.fn 235 []] [.row 2 (l.map fun x=> .agg x.cells)]
 (.cx []) [.row 2 ((cW ZI l).map fun x=> .agg x.cells)] []:=
 pQ Go.Proofs.YtihgnfmoafjakaaGreat.Q_ (by omega) Tryz.isAgg130 Tryz.sizeOf130 ui.cells (fun _=>rfl) (fun x a ha=>by simp only[ui.cells,aC.cells,List.mem_cons,List.not_mem_nil,or_false]at ha;rcases ha with rfl|rfl<;>rfl) ZI swoB (bn Tryz.func235 (by kernel_rfl) (by kernel_rfl)) (fun x y=>by have h1:=cr.1 x.2;have h2:=cr.1 y.2;exact c_Of1 x.1.f x.1.t y.1.f y.1.t (by omega)) l hl false
def jq(l:List aC):List ui:=(l.filter cq).attach.map fun x=>⟨x.1,(List.mem_filter.1 x.2).2⟩
theorem vL(l:List aC):(jq l).map (·.1)=l.filter cq:=by
 unfold jq;rw[List.map_map]
 exact List.attach_map_subtype_val _
theorem L6(l:List aC):(jq l).map (fun x=>A.agg x.cells)=(l.filter cq).map aC.enc:=by rw[<-vL,List.map_map];rfl
def yr(l:List aC):List aC:=(cW ZI (jq l)).map (·.1)
theorem Pe(l:List aC):(cW ZI (jq l)).map (fun x=>A.agg x.cells)=(yr l).map aC.enc:=by unfold yr;rw[List.map_map];rfl
theorem vM(l:List aC):(yr l).Perm (l.filter cq):=by rw[<-vL];exact(dC swoB (jq l)).1.map _
theorem L7(l:List aC): ∀r∈yr l,cq r=true:=fun r hr=>by unfold yr at hr;obtain⟨x,_,rfl⟩:=List.mem_map.1 hr;exact x.2
theorem Rz(l:List aC):(yr l).Pairwise (fun x y=>x.f<=y.f):=by
 unfold yr;rw[List.pairwise_map]
 exact(dC swoB (jq l)).2.imp fun{x y} h=>by unfold ZI at h;omega
theorem W2(l:List aC)(n:Int):ah (yr l) n=ah l n:=by rw[WN (vM l),O7]
theorem L8(l:List aC):((yr l).foldl cB []).reverse=cw (ah l):=by
 rw[D9 (L7 l) (Rz l)]
 congr 1;funext n;exact W2 l n
def srE(l:List ui):List A:=[.row 0 0 2 l.length false,.fn 235 []]
def W3(l:List ui):List Go.bJ.Obj:=[.row 2 (l.map fun x=> .agg x.cells)]
def srK(l:List ui):Prop:=l.length<4611686018427387904
def srR(l:List ui):A×List Go.bJ.Obj×List Nat:=(.cx [],[.row 2 ((cW ZI l).map fun x=> .agg x.cells)],[])
theorem W4(x y:ui)(h:A.agg x.cells=A.agg y.cells):x=y:=Subtype.ext (aC.d_ _ _ h)
theorem ZJ(i j:List ui)(h:W3 i=W3 j):i=j:=by
 simp only[W3,List.cons.injEq,Go.bJ.Obj.row.injEq,true_and,and_true]at h
 rwa [map_inj W4]at h
def Pf:aj:=pG.add 179 (entry (fun(l:List aC)=>[.ad (l.map aC.enc)]) (fun l=>l.length<=4611686018427387904) (fun l=> .bool (bm l)))
theorem aaM:ag Tryz.prog Pf:=nI.bG Tryz.func179 (by kernel_rfl) (by kernel_rfl) fun l h=>pH l h
@[go_sem] theorem T13f_old{g:FuncId}{xs:List A}(h:g≠179):Pf.f g xs=pG.f g xs:=aj.ak h
theorem uj(l:List aC)(h:l.length<=4611686018427387904):Pf.f 179 [.ad (l.map aC.enc)]=some (.bool (bm l)):=aj.an (Γ:=pG) (fun i j h=>by simpa[Prod.ext_iff,and_assoc]using h) l h
def Ig:aj:=Pf.add 206 (entry (fun(l:List aC)=>[.ad (l.map aC.enc)]) (fun l=>l.length<=4398046511104) (fun l=> .ad (l.map aC.enc)))
theorem RA:ag Tryz.prog Ig:=aaM.bG Tryz.func206 (by kernel_rfl) (by kernel_rfl) fun l h=>LD l h
@[go_sem] theorem T13g_old{g:FuncId}{xs:List A}(h:g≠206):Ig.f g xs=Pf.f g xs:=aj.ak h
theorem dR(l:List aC)(h:l.length<=4398046511104):Ig.f 206 [.ad (l.map aC.enc)]=some (.ad (l.map aC.enc)):=aj.an (Γ:=Pf) (fun i j h=>by simpa[Prod.ext_iff,and_assoc]using h) l h
@[go_sem] theorem W5{l:List aC}(h:l.length<=4611686018427387904):Pf.f 179 [.ad (l.map aC.enc)]=some (.bool (bm l)):=uj l h
@[go_sem] theorem t_Clone_Run{l:List aC}(h:l.length<=4398046511104):Ig.f 206 [.ad (l.map aC.enc)]=some (.ad (l.map aC.enc)):=dR l h
def W6:aj:=Ig.eP 234 (bo srE W3 srK srR)
def Ih:aj:={W6 with l_:=fun f=>f==234}
theorem L9:ag Tryz.prog W6:=RA.eP (bn Tryz.func234 (by kernel_rfl) (by kernel_rfl)) (cL fun l h=>BC l h)
theorem aaN:ag Tryz.prog Ih:=⟨L9.f,L9.hp⟩
@[go_sem] theorem C13S_f:Ih.f=Ig.f:=rfl
@[go_sem] theorem C13S_eff{g:FuncId}:Ih.l_ g=(g==234):=rfl
@[go_sem] theorem C13S_frz{g:FuncId}:Ih.qU g=false:=rfl
@[go_sem] theorem C13S_fix{n:Nat}:Ih.fix n=false:=rfl
@[go_sem] theorem C13S_ords{n:Nat}:Ih.c6 n=[]:=rfl
theorem TT{l:List aC}{n:Nat}(hn:n=(l.filter cq).length)(h:l.length<4611686018427387904):Ih.hp 234 [.row 0 0 2 n false,.fn 235 []] [.row 2 ((l.filter cq).map aC.enc)]=some (.cx [],[.row 2 ((yr l).map aC.enc)],[]):=by
 subst hn;have hlen:(jq l).length=(l.filter cq).length:=by rw[<-vL];simp
 have h0:W6.hp 234 (srE (jq l)) (W3 (jq l))=bo srE W3 srK srR (srE (jq l)) (W3 (jq l)):=aj.dZ;have h1:Ih.hp 234 (srE (jq l)) (W3 (jq l))=bo srE W3 srK srR (srE (jq l)) (W3 (jq l)):=h0;have h2:=h1.trans (cM (fun i j _ h=>ZJ i j h) (jq l) (show(jq l).length<4611686018427387904 by rw[hlen];exact Nat.lt_of_le_of_lt (List.length_filter_le _ _) h))
 simp only[srE,W3,srR,hlen,L6,Pe]at h2;exact h2
def mf(acc:List aC):List A:=acc.reverse.map aC.enc
theorem qN(q:aC)(qs:List aC):mf (q::qs)=mf qs++[.agg [.int .i64 q.f,.int .i64 q.t]]:=by simp[mf,aC.enc,aC.cells]
theorem uk(l:List aC):(mf l).length=l.length:=by simp[mf]
theorem W7:mf []=[]:=rfl
theorem TU(l:List aC)(k:Nat)(h:k<l.length):(l.take (k+1)).foldl cB []=cB ((l.take k).foldl cB []) l[k]:=by rw[<-List.take_append_getElem h,List.foldl_append];rfl
theorem BD: ∀(l:List aC) (a:List aC),(l.foldl cB a).length<=a.length+l.length
 | [],a=>by simp
 |r::l,a=>by
  have h1:=BD l (cB a r)
  have h2:=Gu a r;simp only[List.foldl_cons,List.length_cons];omega
theorem Ii:ai Tryz.prog Ih Tryz.f205.ntmps (Tryz.f205.body.getD .skip)=true:=by kernel_rfl
theorem xQ(l:List aC)(hl:l.length<=4398046511104):az Tryz.prog 205 [.ad (l.map aC.enc)] (· = .ad ((cw (ah l)).map aC.enc)):=by
 refine aa aaN mixed Tryz.func205 rfl (Nat.le_of_ble_eq_true rfl) Ii ?_;unfold Tryz.f205;cases hr:bm l with
 |true=>
  have e:=qJ hr (fun _=>rfl)
  simp-implicitDefEqProofs (disch:=(first|omega|decide)) only[go_sem,↓reduceIte,seval,hr,List.length_map]
  rw[<-e]
 |false=>
  simp-implicitDefEqProofs (disch:=(first|omega|decide)) only[go_sem,↓reduceIte,seval,hr,List.length_map]
  refine aU 3 2 rfl ?_;refine ao [2,14,15] (ι:={k:Nat//k<=l.length}) (fun p=>[(16,.int .i64 p.1),(3,.row 0 0 2 ((l.take p.1).filter cq).length false)]) (fun p=>[(0,.row 2 (((l.take p.1).filter cq).map aC.enc))]) (fun p=>l.length-p.1) ⟨0,by omega⟩ (Nat.zero_le _) ?_ ?_
  · simp-implicitDefEqProofs (disch:=(first|omega|decide)) only[go_sem,↓reduceIte,seval]
    simp
  · rintro⟨k,hk⟩
    simp only;have hf:((l.take k).filter cq).length<=k:=Nat.le_trans (List.length_filter_le _ _) (by rw[List.length_take];omega)
    by_cases aw:k<l.length
    · have ae:(k:Int)<(l.length:Int):=by omega
      have ht:l.take (k+1)=l.take k++[l[k]]:=(List.take_append_getElem aw).symm;have e1:=run_get aw;generalize hx:l[k]=x at*;obtain⟨f,t⟩:=x;cases h1:cq ⟨f,t⟩with
      |true=>
       simp-implicitDefEqProofs (disch:=(first|omega|decide)) only[go_sem,↓reduceIte,seval,ae,e1,h1,wrap_i64,List.length_map]
       refine⟨⟨Nat.le_refl _,by omega⟩,⟨k+1,aw⟩,⟨⟨by simp, ?_⟩, ?_⟩,by show l.length-(k+1)<l.length-k;omega⟩
       · rw[ht,List.filter_append];simp[h1]
       · rw[ht,List.filter_append,List.take_of_length_le (by simp)];simp[h1,aC.enc,aC.cells]
      |false=>
       simp-implicitDefEqProofs (disch:=(first|omega|decide)) only[go_sem,↓reduceIte,seval,ae,e1,h1,wrap_i64,List.length_map]
       refine⟨⟨k+1,aw⟩,⟨⟨by simp, ?_⟩, ?_⟩,by show l.length-(k+1)<l.length-k;omega⟩
       · rw[ht,List.filter_append];simp[h1]
       · rw[ht,List.filter_append];simp[h1]
    · have ae: ¬(k:Int)<(l.length:Int):=by omega
      rw[List.take_of_length_le (by omega)]at*;have hs:=TT (l:=l) rfl (by omega)
      have hp:=(vM l).length_eq;have gZ:=L8 l;have cQ:=L7 l;have TL:=Rz l;rw[<-hp]at hf;simp-implicitDefEqProofs (disch:=(first|omega|decide)) only[go_sem,↓reduceIte,seval,ae,hs,List.length_map,List.contains_nil,List.contains_cons]
      rw[<-hp]
      generalize yr l=s at*;refine aU 6 2 rfl ?_;refine ao [2,29,30] (ι:={j:Nat//j<=s.length}) (fun p=>[(31,.int .i64 p.1),(6,.row 1 0 2 ((s.take p.1).foldl cB []).length false)]) (fun p=>[(1,.row 2 (mf ((s.take p.1).foldl cB [])))]) (fun p=>s.length-p.1) ⟨0,by omega⟩ (Nat.zero_le _) ?_ ?_
      · simp-implicitDefEqProofs (disch:=(first|omega|decide)) only[go_sem,↓reduceIte,seval]
        simp[mf]
      · rintro⟨j,hj⟩
        simp only;have qx:=BD (s.take j) []
        rw[List.length_take,List.length_nil,Nat.min_eq_left hj,Nat.zero_add]at qx;by_cases Ij:j<s.length
        · have lZ:(j:Int)<(s.length:Int):=by omega
          have e2:=run_get Ij;have bR:=TU s j Ij;have ho:=cQ _ (List.getElem_mem Ij)
          have hR:RR ((s.take j).foldl cB []):=(fold_push (a:=[]) trivial (fun r hr=>cQ r (List.mem_of_mem_take hr)) (TL.sublist (List.take_sublist _ _)) (fun _ _=>trivial)).1;have fin: ∀m',(s.take (j+1)).foldl cB []=m'-> ∃i:{j:Nat//j<=s.length},(((j:Int)+1=(i.1:Int)/\m'.length=((s.take i.1).foldl cB []).length)/\mf m'=mf ((s.take i.1).foldl cB []))/\s.length-i.1<s.length-j:=fun m' jh=>⟨⟨j+1,Ij⟩,⟨⟨by simp,by rw[jh]⟩,by rw[jh]⟩,by show s.length-(j+1)<s.length-j;omega⟩
          generalize hx:s[j]=x at*;generalize(s.take j).foldl cB []=m at*;obtain⟨f,t⟩:=x;obtain⟨o1,o2,o3⟩:=iM ho;simp only at o1 o2 o3;have lp:=fin _ bR;cases m with
          |nil=>
           rw[W7]
           simp-implicitDefEqProofs (disch:=(first|omega|decide)) only[go_sem,↓reduceIte,seval,lZ,e2,wrap_i64,List.length_map]
           exact lp
          |cons q qs=>
           obtain⟨p1,p2,p3⟩:=iM (eL hR)
           rw[qN]at*;have hlq:qs.length+1<=j:=qx;have c0:(0:Int)<((qs.length+1:Nat):Int):=by omega
           have c1:(((qs.length+1:Nat):Int)-1).toNat=qs.length:=by omega
           have c2:(0:Int)<=((qs.length+1:Nat):Int)-1:=by omega
           have c3:((qs.length+1:Nat):Int)-1<((qs.length+1:Nat):Int):=by omega
           have g1:(mf qs++[A.agg [.int .i64 q.f,.int .i64 q.t]])[qs.length]? =some (.agg [.int .i64 q.f,.int .i64 q.t]):=by
            have:=ga (x:=A.agg [.int .i64 q.f,.int .i64 q.t]) (l:=mf qs)
            rwa [uk]at this
           have g2: ∀v,cn (mf qs++[A.agg [.int .i64 q.f,.int .i64 q.t]]) qs.length v=mf qs++[v]:=fun v=>by
            have:=gf (x:=A.agg [.int .i64 q.f,.int .i64 q.t]) (v:=v) (l:=mf qs)
            rwa [uk]at this
           have gl:(mf qs++[A.agg [.int .i64 q.f,.int .i64 q.t]]).length=qs.length+1:=by rw[List.length_append,uk];rfl
           have gt:(mf qs++[A.agg [.int .i64 q.f,.int .i64 q.t]]).take (qs.length+1)=mf qs++[A.agg [.int .i64 q.f,.int .i64 q.t]]:=List.take_of_length_le (Nat.le_of_eq gl)
           by_cases hq:f-q.t<2
           · have Ic:cB (q::qs) ⟨f,t⟩=⟨q.f,if t>q.t then t else q.t⟩::qs:=by
               simp only[cB]
               rw[if_pos (by omega)]
             rw[Ic,qN]at lp;simp-implicitDefEqProofs (disch:=(first|omega|decide)) only[go_sem,↓reduceIte,seval,lZ,e2,c0,c1,c2,c3,g1,g2,hq,wrap_i64,List.length_map]
             exact lp
           · have Ic:cB (q::qs) ⟨f,t⟩=⟨f,t⟩::q::qs:=by
               simp only[cB]
               rw[if_neg (by omega)]
             rw[Ic,qN,qN]at lp;simp-implicitDefEqProofs (disch:=(first|omega|decide)) only[go_sem,↓reduceIte,seval,lZ,e2,c0,c1,c2,c3,g1,g2,gl,gt,hq,wrap_i64,List.length_map]
             exact⟨⟨Nat.le_refl _,by omega⟩,lp⟩
        · have lZ: ¬(j:Int)<(s.length:Int):=by omega
          rw[List.take_of_length_le (by omega)]at*;have dQ:mf (s.foldl cB [])=(cw (ah l)).map aC.enc:=by unfold mf;rw[gZ]
          have LX:(s.foldl cB []).length=(mf (s.foldl cB [])).length:=by rw[uk]
          simp-implicitDefEqProofs (disch:=(first|omega|decide)) only[go_sem,↓reduceIte,seval,lZ,wrap_i64,LX,List.length_map,List.take_length]
          rw[dQ]
          exact⟨Nat.le_refl _,rfl⟩
end Go.Proofs.YtihgnfmoafjakaaGreat
namespace Go.Proofs.YtihgnfmoafjakaaGreat
open Go.bJ
set_option linter.unusedSimpArgs false
set_option linter.unusedVariables false
set_option linter.unusedSectionVars false
set_option maxRecDepth 20000
set_option maxHeartbeats 8000000
section
variable{D:List aC}{p e:Int}
end
section
variable{kp:Bool->Bool->Bool}{a b:List aC}(hra:bm a=true)(hrb:bm b=true)
include hra hrb
end
end Go.Proofs.YtihgnfmoafjakaaGreat
namespace Go.Proofs.YtihgnfmoafjakaaGreat
open Go.bJ
set_option linter.unusedSimpArgs false
set_option linter.unusedVariables false
set_option maxRecDepth 20000
set_option maxHeartbeats 8000000
theorem of_len{l:List aC}(h:bm l=true):l.length<=1099511627776:=by
 have key: ∀m:List aC,RR m->match m with| []=>True|r::l=>((r::l).length:Int)<=r.t:=by
  intro m;induction m with
  |nil=>intro _;trivial
  |cons r l ih=>
   intro h;have o:=cr.1 (eL h)
   have ih:=ih (ua h)
   cases l with
   |nil=>show((1:Nat):Int)<=r.t;omega
   |cons q l=>
    have h2:=h.2.1;have ih':((q::l).length:Int)<=q.t:=ih;show(((q::l).length+1:Nat):Int)<=r.t;omega
 have h1:=key l.reverse (kJ.1 h)
 cases hm:l.reverse with
 |nil=>
  have:l=[]:=by simpa using hm
  subst this;simp
 |cons r m=>
  rw[hm]at h1;have o:=cr.1 (eL (by rw[<-hm];exact kJ.1 h))
  have hl:l.length=(r::m).length:=by rw[<-hm];simp
  have mb:((r::m).length:Int)<=r.t:=h1;omega
def Pg:aj:=Ig.add 205 (entry (fun(l:List aC)=>[.ad (l.map aC.enc)]) (fun l=>l.length<=4398046511104) (fun l=> .ad ((cw (ah l)).map aC.enc)))
theorem RB:ag Tryz.prog Pg:=RA.bG Tryz.func205 (by kernel_rfl) (by kernel_rfl) fun l h=>xQ l h
@[go_sem] theorem T13u_s:Pg.pl Ig:=⟨fun _=>rfl,fun _=>rfl,rfl,fun _=>rfl,rfl,fun _=>rfl,rfl⟩
theorem BE(l:List aC)(h:l.length<=4398046511104):Pg.f 205 [.ad (l.map aC.enc)]=some (.ad ((cw (ah l)).map aC.enc)):=aj.an (Γ:=Ig) (fun i j h=>by simpa[Prod.ext_iff,and_assoc]using h) l h
@[go_sem] theorem L_{l:List aC}(h:l.length<=4398046511104):Pg.f 205 [.ad (l.map aC.enc)]=some (.ad ((cw (ah l)).map aC.enc)):=BE l h
def eI(l:List aC):Int:=match l.getLast? with|none=>0|some r=>r.t
theorem BF:ai Tryz.prog Pg Tryz.f181.ntmps (Tryz.f181.body.getD .skip)=true:=by kernel_rfl
theorem Ec(l:List aC)(hl:l.length<=4398046511104):az Tryz.prog 181 [.ad (l.map aC.enc)] (· = .int .i64 (eI (cw (ah l)))):=by
 refine aa RB mixed Tryz.func181 rfl (Nat.le_of_ble_eq_true rfl) BF ?_;unfold Tryz.f181;have hu:= @L_ l hl;have hn:(cw (ah l)).length<=1099511627776:=Rs (f_ (ah l))
 generalize cw (ah l)=s at*;rcases List.eq_nil_or_concat s with rfl|⟨rs,r,rfl⟩
 · simp-implicitDefEqProofs (disch:=(first|omega|decide)) only[go_sem,↓reduceIte,seval,hu,eI,List.length_map,List.getLast?_nil]
 · rw[List.concat_eq_append]at*
   obtain⟨f,t⟩:=r;have hm:(rs++[(⟨f,t⟩:aC)]).map aC.enc=rs.map aC.enc++[.agg [.int .i64 f,.int .i64 t]]:=by simp[aC.enc,aC.cells]
   have ZA:(rs.map aC.enc++[A.agg [.int .i64 f,.int .i64 t]]).length=rs.length+1:=by simp
   have hv:eI (rs++[⟨f,t⟩])=t:=by simp[eI]
   rw[hm]at hu;rw[hv]
   have c0:(0:Int)<((rs.length+1:Nat):Int):=by omega
   have c1:(((rs.length+1:Nat):Int)-1).toNat=rs.length:=by omega
   have c2:(0:Int)<=((rs.length+1:Nat):Int)-1:=by omega
   have g1:(rs.map aC.enc++[A.agg [.int .i64 f,.int .i64 t]])[rs.length]? =some (.agg [.int .i64 f,.int .i64 t]):=by
    have:=ga (x:=A.agg [.int .i64 f,.int .i64 t]) (l:=rs.map aC.enc)
    rwa [List.length_map]at this
   simp only[List.length_append,List.length_singleton]at hn;simp-implicitDefEqProofs (disch:=(first|omega|decide)) only[go_sem,↓reduceIte,seval,hu,ZA,c0,c1,c2,g1,wrap_i64,List.length_map]
def cu(p:Int->Bool):Nat->Int
 |0=>0
 |N+1=>cu p N+if p ((N:Int)+1)then 1 else 0
theorem TV{s:List aC}(h:bm s=true):0<=eI s/\eI s<=1099511627776/\(0<eI s->ah s (eI s)=true)/\ ∀n,ah s n=true->n<=eI s:=by
 rcases List.eq_nil_or_concat s with rfl|⟨rs,r,rfl⟩
 · exact⟨Int.le_refl _,by simp[eI],fun h=>by simp[eI]at h,fun n h=>by simp[qH]at h⟩
 · rw[List.concat_eq_append]at*
   have hv:eI (rs++[r])=r.t:=by simp[eI]
   have h1:=kJ.1 h;rw[List.reverse_append]at h1;have mb:RR (r::rs.reverse):=h1;have o:=cr.1 (eL mb)
   rw[hv]
   refine⟨by omega,o.2.2,fun _=> ?_,fun n hn=> ?_⟩
   · rw[fg,pJ,eL mb,Bool.true_and]
     have:N4 r r.t=true:=by simp[N4];omega
     rw[this];simp
   · refine O8 mb n ?_
     rw[<-qI]at hn;rw[List.reverse_append]at hn;exact hn
def TW:aj:=H_.add 201 (entry (fun(v:Int×List aC×List aC)=>[.int .i64 v.1,.ad (v.2.1.map aC.enc),.ad (v.2.2.map aC.enc)]) (fun v=>Ia v.1/\v.2.1.length<=50000/\v.2.2.length<=50000) (fun v=> .ad ((cw (iP v.1 v.2.1 v.2.2)).map aC.enc)))
theorem aaO:ag Tryz.prog TW:=Rx.bG Tryz.func201 (by kernel_rfl) (by kernel_rfl) fun v h=>Ib v.1 v.2.1 v.2.2 h.1 h.2.1 h.2.2
@[go_sem] theorem T13m_old{g:FuncId}{xs:List A}(h:g≠201):TW.f g xs=H_.f g xs:=aj.ak h
theorem yt(v:Int×List aC×List aC)(h:Ia v.1/\v.2.1.length<=50000/\v.2.2.length<=50000):TW.f 201 [.int .i64 v.1,.ad (v.2.1.map aC.enc),.ad (v.2.2.map aC.enc)]=some (.ad ((cw (iP v.1 v.2.1 v.2.2)).map aC.enc)):=aj.an (Γ:=H_) (fun i j h=>by simpa[Prod.ext_iff,and_assoc]using h) v h
theorem op2(a b:List aC):iP 2 a b=fun n=>ah a n&&ah b n:=rfl
def W8:aj:=Pg.eP 206 (bo (fun l:List aC=>[.ad (l.map aC.enc)]) (fun _=>[]) (fun l=>l.length<=4398046511104) (fun l=>(.row 0 0 2 l.length false,[.row 2 (l.map aC.enc)],[])))
def L':aj:={W8 with l_:=fun f=>f==205||f==206,qU:=fun f=>f==205}
theorem Ma:ag Tryz.prog W8:=RB.eP (bn Tryz.func206 (by kernel_rfl) (by kernel_rfl)) (cL fun l h=>xP l h)
theorem aaP:ag Tryz.prog L':=⟨Ma.f,Ma.hp⟩
@[go_sem] theorem C13A_f:L'.f=Pg.f:=rfl
@[go_sem] theorem C13A_eff{g:FuncId}:L'.l_ g=(g==205||g==206):=rfl
@[go_sem] theorem C13A_frz{g:FuncId}:L'.qU g=(g==205):=rfl
@[go_sem] theorem C13A_fix{n:Nat}:L'.fix n=false:=rfl
@[go_sem] theorem C13A_ords{n:Nat}:L'.c6 n=[]:=rfl
theorem Ph{l:List aC}(h:l.length<=4398046511104):L'.hp 206 [.ad (l.map aC.enc)] []=some (.row 0 0 2 l.length false,[.row 2 (l.map aC.enc)],[]):=by have h0:W8.hp 206 [.ad (l.map aC.enc)] []=bo (fun l:List aC=>[A.ad (l.map aC.enc)]) (fun _=>[]) (fun l=>l.length<=4398046511104) (fun l=>(.row 0 0 2 l.length false,[.row 2 (l.map aC.enc)],[])) [.ad (l.map aC.enc)] []:=aj.dZ;exact h0.trans (cM (enc:=fun l:List aC=>[A.ad (l.map aC.enc)]) (DE:=fun _=>[]) (fun i j h _=>by simpa using h) l h)
def lN(m:List Int):List aC:=m.map fun n=>⟨n,n⟩
theorem Ed:ai Tryz.prog L' Tryz.f189.ntmps (Tryz.f189.body.getD .skip)=true:=by kernel_rfl
theorem Ik(l:List aC)(m:List Int)(hl:l.length<=1000000)(hm:m.length<=1000000):az Tryz.prog 189 [.ad (l.map aC.enc),.ad (m.map (A.int .i64))] (· = .ad ((cw (ah (l++lN m))).map aC.enc)):=by
 refine aa aaP mixed Tryz.func189 rfl (Nat.le_of_ble_eq_true rfl) Ed ?_;unfold Tryz.f189;have h0:=Ph (l:=l) (by omega)
 simp-implicitDefEqProofs (disch:=(first|omega|decide)) only[go_sem,↓reduceIte,seval,h0,List.length_map,List.contains_nil,List.contains_cons]
 refine ao [4,10,11] (ι:={k:Nat//k<=m.length}) (fun p=>[(12,.int .i64 p.1),(5,.row 0 0 2 (l.length+p.1) false)]) (fun p=>[(0,.row 2 ((l++lN (m.take p.1)).map aC.enc))]) (fun p=>m.length-p.1) ⟨0,by omega⟩ (Nat.zero_le _) ?_ ?_
 · simp-implicitDefEqProofs (disch:=(first|omega|decide)) only[go_sem,↓reduceIte,seval]
   simp[lN]
 · rintro⟨k,hk⟩
   simp only;have hlen:(l++lN (m.take k)).length=l.length+k:=by simp[lN];omega
   by_cases aw:k<m.length
   · have ae:(k:Int)<(m.length:Int):=by omega
     have e1:(m.map (A.int .i64))[k]? =some (.int .i64 m[k]):=by rw[List.getElem?_map,List.getElem?_eq_getElem aw];rfl
     have ht:m.take (k+1)=m.take k++[m[k]]:=(List.take_append_getElem aw).symm;have hh:l++lN (m.take (k+1))=(l++lN (m.take k))++[⟨m[k],m[k]⟩]:=by rw[ht];unfold lN;rw[List.map_append,<-List.append_assoc];rfl
     have tl:((l++lN (m.take k)).map aC.enc).take (l.length+k)=(l++lN (m.take k)).map aC.enc:=List.take_of_length_le (Nat.le_of_eq (by rw[List.length_map,hlen]))
     simp-implicitDefEqProofs (disch:=(first|omega|decide)) only[go_sem,↓reduceIte,seval,ae,e1,tl,hlen,wrap_i64,List.length_map]
     exact⟨⟨Nat.le_refl _,by omega⟩,⟨k+1,aw⟩,⟨⟨by simp,by show l.length+k+1=l.length+(k+1);omega⟩,by rw[hh,List.map_append (l₁:=l++lN (m.take k))];rfl⟩,by show m.length-(k+1)<m.length-k;omega⟩
   · have ae: ¬(k:Int)<(m.length:Int):=by omega
     have tl:((l++lN (m.take k)).map aC.enc).take (l.length+k)=(l++lN (m.take k)).map aC.enc:=List.take_of_length_le (Nat.le_of_eq (by rw[List.length_map,hlen]))
     rw[List.take_of_length_le (show m.length<=k by omega)]at*;simp-implicitDefEqProofs (disch:=(first|omega|decide)) only[go_sem,↓reduceIte,seval,ae,tl,hlen,List.length_map,List.contains_nil,List.contains_cons]
     exact Nat.le_refl _
def BG:aj:=TW.add 179 (entry (fun(l:List aC)=>[.ad (l.map aC.enc)]) (fun l=>l.length<=4398046511104) (fun l=> .bool (bm l)))
theorem W9:ag Tryz.prog BG:=aaO.bG Tryz.func179 (by kernel_rfl) (by kernel_rfl) fun l h=>pH l (by omega)
@[go_sem] theorem C13L0_old{g:FuncId}{xs:List A}(h:g≠179):BG.f g xs=TW.f g xs:=aj.ak h
theorem su(l:List aC)(h:l.length<=4398046511104):BG.f 179 [.ad (l.map aC.enc)]=some (.bool (bm l)):=aj.an (Γ:=TW) (fun i j h=>by simpa[Prod.ext_iff,and_assoc]using h) l h
@[go_sem] theorem W_{l:List aC}(h:l.length<=4398046511104):BG.f 179 [.ad (l.map aC.enc)]=some (.bool (bm l)):=su l h
def BH:aj:=BG.add 169 (entry (fun(l:List aC)=>[.ad (l.map aC.enc)]) (fun l=>l.length<=4398046511104) (fun l=> .bool (bm l)))
theorem Xa:ag Tryz.prog BH:=W9.bG Tryz.func169 (by kernel_rfl) (by kernel_rfl) fun l h=>D8 l (by omega)
@[go_sem] theorem C13L1_old{g:FuncId}{xs:List A}(h:g≠169):BH.f g xs=BG.f g xs:=aj.ak h
theorem um(l:List aC)(h:l.length<=4398046511104):BH.f 169 [.ad (l.map aC.enc)]=some (.bool (bm l)):=aj.an (Γ:=BG) (fun i j h=>by simpa[Prod.ext_iff,and_assoc]using h) l h
@[go_sem] theorem ZB{l:List aC}(h:l.length<=4398046511104):BH.f 169 [.ad (l.map aC.enc)]=some (.bool (bm l)):=um l h
def BI:aj:=BH.add 165 (entry (fun(v:List aC×Int)=>[.ad (v.1.map aC.enc),.int .i64 v.2]) (fun v=>v.1.length<=4398046511104) (fun v=> .bool (ah v.1 v.2)))
theorem Xb:ag Tryz.prog BI:=Xa.bG Tryz.func165 (by kernel_rfl) (by kernel_rfl) fun v h=>HX v.1 v.2 (by omega)
@[go_sem] theorem C13L2_old{g:FuncId}{xs:List A}(h:g≠165):BI.f g xs=BH.f g xs:=aj.ak h
theorem vN(v:List aC×Int)(h:v.1.length<=4398046511104):BI.f 165 [.ad (v.1.map aC.enc),.int .i64 v.2]=some (.bool (ah v.1 v.2)):=aj.an (Γ:=BH) (fun i j h=>by simpa[Prod.ext_iff,and_assoc]using h) v h
@[go_sem] theorem aaQ{a:List aC}{b:Int}(h:a.length<=4398046511104):BI.f 165 [.ad (a.map aC.enc),.int .i64 b]=some (.bool (ah a b)):=vN (a,b) h
def BJ:aj:=BI.add 140 (entry (fun(v:List aC×List aC)=>[.ad (v.1.map aC.enc),.ad (v.2.map aC.enc)]) (fun v=>v.1.length<=4398046511104/\v.2.length<=4398046511104) (fun v=> .bool (fy v.1 v.2)))
theorem Xc:ag Tryz.prog BJ:=Xb.bG Tryz.func140 (by kernel_rfl) (by kernel_rfl) fun v h=>HY v.1 v.2 (by omega) (by omega)
@[go_sem] theorem C13L3_old{g:FuncId}{xs:List A}(h:g≠140):BJ.f g xs=BI.f g xs:=aj.ak h
theorem vO(v:List aC×List aC)(h:v.1.length<=4398046511104/\v.2.length<=4398046511104):BJ.f 140 [.ad (v.1.map aC.enc),.ad (v.2.map aC.enc)]=some (.bool (fy v.1 v.2)):=aj.an (Γ:=BI) (fun i j h=>by simpa[Prod.ext_iff,and_assoc]using h) v h
@[go_sem] theorem aaR{a:List aC}{b:List aC}(h:a.length<=4398046511104/\b.length<=4398046511104):BJ.f 140 [.ad (a.map aC.enc),.ad (b.map aC.enc)]=some (.bool (fy a b)):=vO (a,b) h
def GD:aj:=BJ.add 205 (entry (fun(l:List aC)=>[.ad (l.map aC.enc)]) (fun l=>l.length<=4398046511104) (fun l=> .ad ((cw (ah l)).map aC.enc)))
theorem Xd:ag Tryz.prog GD:=Xc.bG Tryz.func205 (by kernel_rfl) (by kernel_rfl) fun l h=>xQ l h
@[go_sem] theorem C13L4_old{g:FuncId}{xs:List A}(h:g≠205):GD.f g xs=BJ.f g xs:=aj.ak h
theorem yu(l:List aC)(h:l.length<=4398046511104):GD.f 205 [.ad (l.map aC.enc)]=some (.ad ((cw (ah l)).map aC.enc)):=aj.an (Γ:=BJ) (fun i j h=>by simpa[Prod.ext_iff,and_assoc]using h) l h
@[go_sem] theorem l_counts_Of{l:List aC}(h:l.length<=4398046511104):GD.f 205 [.ad (l.map aC.enc)]=some (.ad ((cw (ah l)).map aC.enc)):=yu l h
def Mb:aj:=GD
theorem Xe:ag Tryz.prog Mb:=Xd
@[go_sem] theorem C13L5_old{g:FuncId}{xs:List A}:Mb.f g xs=GD.f g xs:=rfl
def GF:aj:=Mb.add 189 (entry (fun(v:List aC×List Int)=>[.ad (v.1.map aC.enc),.ad (v.2.map (A.int .i64))]) (fun v=>v.1.length<=1000000/\v.2.length<=1000000) (fun v=> .ad ((cw (ah (v.1++lN v.2))).map aC.enc)))
theorem Xf:ag Tryz.prog GF:=Xe.bG Tryz.func189 (by kernel_rfl) (by kernel_rfl) fun v h=>Ik v.1 v.2 h.1 h.2
@[go_sem] theorem C13L6_old{g:FuncId}{xs:List A}(h:g≠189):GF.f g xs=Mb.f g xs:=aj.ak h
theorem vP(v:List aC×List Int)(h:v.1.length<=1000000/\v.2.length<=1000000):GF.f 189 [.ad (v.1.map aC.enc),.ad (v.2.map (A.int .i64))]=some (.ad ((cw (ah (v.1++lN v.2))).map aC.enc)):=aj.an (Γ:=Mb) (fun i j h=>by simpa[Prod.ext_iff,and_assoc]using h) v h
@[go_sem] theorem Il{a:List aC}{b:List Int}(h:a.length<=1000000/\b.length<=1000000):GF.f 189 [.ad (a.map aC.enc),.ad (b.map (A.int .i64))]=some (.ad ((cw (ah (a++lN b))).map aC.enc)):=vP (a,b) h
def RC:aj:=GF
theorem Xg:ag Tryz.prog RC:=Xf
@[go_sem] theorem C13L7_old{g:FuncId}{xs:List A}:RC.f g xs=GF.f g xs:=rfl
def RD:aj:=RC
theorem Xh:ag Tryz.prog RD:=Xg
@[go_sem] theorem C13L8_old{g:FuncId}{xs:List A}:RD.f g xs=RC.f g xs:=rfl
def RE:aj:=RD
theorem Xi:ag Tryz.prog RE:=Xh
@[go_sem] theorem C13L9_old{g:FuncId}{xs:List A}:RE.f g xs=RD.f g xs:=rfl
def BK:aj:=RE
theorem TX:ag Tryz.prog BK:=Xi
@[go_sem] theorem C13L10_old{g:FuncId}{xs:List A}:BK.f g xs=RE.f g xs:=rfl
def sw:aj:=BK.add 181 (entry (fun(l:List aC)=>[.ad (l.map aC.enc)]) (fun l=>l.length<=4398046511104) (fun l=> .int .i64 (eI (cw (ah l)))))
theorem TY:ag Tryz.prog sw:=TX.bG Tryz.func181 (by kernel_rfl) (by kernel_rfl) fun l h=>Ec l h
@[go_sem] theorem C13L11_old{g:FuncId}{xs:List A}(h:g≠181):sw.f g xs=BK.f g xs:=aj.ak h
theorem sx(l:List aC)(h:l.length<=4398046511104):sw.f 181 [.ad (l.map aC.enc)]=some (.int .i64 (eI (cw (ah l)))):=aj.an (Γ:=BK) (fun i j h=>by simpa[Prod.ext_iff,and_assoc]using h) l h
@[go_sem] theorem ZC{l:List aC}(h:l.length<=4398046511104):sw.f 181 [.ad (l.map aC.enc)]=some (.int .i64 (eI (cw (ah l)))):=sx l h
def sy:aj:=sw
theorem GG:ag Tryz.prog sy:=TY
@[go_sem] theorem C13L12_old{g:FuncId}{xs:List A}:sy.f g xs=sw.f g xs:=rfl
@[go_sem] theorem C13L12_s:sy.pl sw:=⟨fun _=>rfl,fun _=>rfl,rfl,fun _=>rfl,rfl,fun _=>rfl,rfl⟩
theorem Xj{x:List A}(h:cJ [.int .i64,.int .i64] x): ∃f t:Int,x=[.int .i64 f,.int .i64 t]:=by simp only[cJ,fits]at h;obtain⟨y,zs,rfl,⟨n,rfl,_⟩,y2,zs2,rfl,⟨m,rfl,_⟩,rfl⟩:=h;exact⟨n,m,rfl⟩
theorem TZ{x:A}(h:fits (.rows [.int .i64,.int .i64]) x): ∃l:List aC,x= .ad (l.map aC.enc)/\l.length<=maxLen:=by
 simp only[fits]at h;obtain⟨es,rfl,hl,he⟩:=h
 obtain⟨l,rfl,_⟩:=qD (f:=aC.enc) (P:=fun _=>True) (es:=es) (fun e hx=>by
  obtain⟨ys,rfl,hy⟩:=he e hx;obtain⟨r,c,rfl⟩:=Xj (by simpa only[cJ,fits]using hy)
  exact⟨⟨r,c⟩,rfl,trivial⟩)
 exact⟨l,rfl,by simpa using hl⟩
set_option maxHeartbeats 4000000
def Im:aj:=vy
theorem nO:ag Tryz.prog Im:=HG _
@[go_sem] theorem T12z_eq:Im=vy:=rfl
structure bS where
 r:Int
 c:Int
 deriving DecidableEq,Inhabited
def bS.cells(v:bS):List A:=[.int .i64 v.r,.int .i64 v.c]
def bS.enc(v:bS):A:= .agg v.cells
@[go_sem] theorem bS.sm{a b:Int}:bS.enc ⟨a,b⟩= .agg [.int .i64 a,.int .i64 b]:=rfl
theorem bS.d_(v w:bS)(h:v.enc=w.enc):v=w:=by cases v;cases w;simpa[bS.enc,bS.cells]using h
@[simp] theorem map_ver_inj{l m:List bS}:(l.map bS.enc=m.map bS.enc)=(l=m):=map_inj bS.d_
def aL(v:bS):Bool:=decide (1<=v.r)&&decide (v.r<=16)&&decide (1<=v.c)&&decide (v.c<=1099511627776)
def yv(a b:bS):Bool:=decide (a.r<b.r)||(a.r==b.r)&&decide (a.c<b.c)
def fA(a b:bS):Int:=if a=b then 0 else if yv a b then-1 else 1
theorem vQ:ai Tryz.prog Im Tryz.f125.ntmps (Tryz.f125.body.getD .skip)=true:=by kernel_rfl
theorem ot(r c:Int):az Tryz.prog 125 [.agg [.int .i64 r,.int .i64 c]] (· = .bool (aL ⟨r,c⟩)):=by
 refine aa nO mixed Tryz.func125 rfl (Nat.le_of_ble_eq_true rfl) vQ ?_;unfold Tryz.f125;by_cases h1:1<=r
 · by_cases h2:r<=16
   · by_cases h3:1<=c
     · simp-implicitDefEqProofs (disch:=(first|omega|decide)) only[go_sem,↓reduceIte,seval,h1,h2,h3,aL]
     · simp-implicitDefEqProofs (disch:=(first|omega|decide)) only[go_sem,↓reduceIte,seval,h1,h2,h3,aL]
   · simp-implicitDefEqProofs (disch:=(first|omega|decide)) only[go_sem,↓reduceIte,seval,h1,h2,aL]
 · simp-implicitDefEqProofs (disch:=(first|omega|decide)) only[go_sem,↓reduceIte,seval,h1,aL]
theorem BL:ai Tryz.prog Im Tryz.f94.ntmps (Tryz.f94.body.getD .skip)=true:=by kernel_rfl
theorem mg(r c:Int):az Tryz.prog 94 [.agg [.int .i64 r,.int .i64 c]] (· = .bool (aL ⟨r,c⟩)):=by
 refine aa nO mixed Tryz.func94 rfl (Nat.le_of_ble_eq_true rfl) BL ?_;unfold Tryz.f94;by_cases h1:1<=r
 · by_cases h2:r<=16
   · by_cases h3:1<=c
     · simp-implicitDefEqProofs (disch:=(first|omega|decide)) only[go_sem,↓reduceIte,seval,h1,h2,h3,aL]
     · simp-implicitDefEqProofs (disch:=(first|omega|decide)) only[go_sem,↓reduceIte,seval,h1,h2,h3,aL]
   · simp-implicitDefEqProofs (disch:=(first|omega|decide)) only[go_sem,↓reduceIte,seval,h1,h2,aL]
 · simp-implicitDefEqProofs (disch:=(first|omega|decide)) only[go_sem,↓reduceIte,seval,h1,aL]
theorem BM:ai Tryz.prog Im Tryz.f166.ntmps (Tryz.f166.body.getD .skip)=true:=by kernel_rfl
theorem mh(a b:bS):az Tryz.prog 166 [.agg [.int .i64 a.r,.int .i64 a.c],.agg [.int .i64 b.r,.int .i64 b.c]] (· = .int .i64 (fA a b)):=by
 refine aa nO mixed Tryz.func166 rfl (Nat.le_of_ble_eq_true rfl) BM ?_;unfold Tryz.f166;obtain⟨r,c⟩:=a;obtain⟨r',c'⟩:=b;by_cases h1:r=r'
 · subst h1
   by_cases h2:c=c'
   · subst h2
     have e:fA ⟨r,c⟩ ⟨r,c⟩=0:=by simp[fA]
     have e1:(r==r)=true:=by simp
     have e2:(c==c)=true:=by simp
     simp-implicitDefEqProofs (disch:=(first|omega|decide)) only[go_sem,↓reduceIte,seval,e,e1,e2]
   · have h3:(c==c')=false:=by simpa using h2
     have e1:(r==r)=true:=by simp
     have h4: ¬r<r:=by omega
     by_cases h5:c<c'
     · have e:fA ⟨r,c⟩ ⟨r,c'⟩= -1:=by simp[fA,yv,h2,h5]
       simp-implicitDefEqProofs (disch:=(first|omega|decide)) only[go_sem,↓reduceIte,seval,e,e1,h3,h4,h5]
     · have e:fA ⟨r,c⟩ ⟨r,c'⟩=1:=by simp[fA,yv,h2,h5]
       simp-implicitDefEqProofs (disch:=(first|omega|decide)) only[go_sem,↓reduceIte,seval,e,e1,h3,h4,h5]
 · have h3:(r==r')=false:=by simpa using h1
   by_cases h4:r<r'
   · have e:fA ⟨r,c⟩ ⟨r',c'⟩= -1:=by simp[fA,yv,h1,h4]
     simp-implicitDefEqProofs (disch:=(first|omega|decide)) only[go_sem,↓reduceIte,seval,e,h3,h4]
   · have e:fA ⟨r,c⟩ ⟨r',c'⟩=1:=by simp[fA,yv,h1,h4]
     simp-implicitDefEqProofs (disch:=(first|omega|decide)) only[go_sem,↓reduceIte,seval,e,h3,h4]
theorem Ee:ai Tryz.prog Im Tryz.f124.ntmps (Tryz.f124.body.getD .skip)=true:=by kernel_rfl
theorem uo(a b:bS):az Tryz.prog 124 [.agg [.int .i64 a.r,.int .i64 a.c],.agg [.int .i64 b.r,.int .i64 b.c]] (· = .bool (yv a b)):=by
 refine aa nO mixed Tryz.func124 rfl (Nat.le_of_ble_eq_true rfl) Ee ?_;unfold Tryz.f124;obtain⟨r,c⟩:=a;obtain⟨r',c'⟩:=b;by_cases h4:r<r'
 · simp-implicitDefEqProofs (disch:=(first|omega|decide)) only[go_sem,↓reduceIte,seval,h4,yv]
 · cases h3:r==r'<;>simp-implicitDefEqProofs (disch:=(first|omega|decide)) only[go_sem,↓reduceIte,seval,h3,h4,yv]
def Xk:aj:=Im.add 125 (entry (fun(v:Int×Int)=>[.agg [.int .i64 v.1,.int .i64 v.2]]) (fun v=>True) (fun v=> .bool (aL ⟨v.1,v.2⟩)))
theorem aaS:ag Tryz.prog Xk:=nO.bG Tryz.func125 (by kernel_rfl) (by kernel_rfl) fun v h=>ot v.1 v.2
theorem sA(v:Int×Int)(h:True):Xk.f 125 [.agg [.int .i64 v.1,.int .i64 v.2]]=some (.bool (aL ⟨v.1,v.2⟩)):=aj.an (Γ:=Im) (fun i j h=>by simpa[Prod.ext_iff,and_assoc]using h) v h
def aaT:aj:=Xk.add 94 (entry (fun(v:Int×Int)=>[.agg [.int .i64 v.1,.int .i64 v.2]]) (fun v=>True) (fun v=> .bool (aL ⟨v.1,v.2⟩)))
theorem aaU:ag Tryz.prog aaT:=aaS.bG Tryz.func94 (by kernel_rfl) (by kernel_rfl) fun v h=>mg v.1 v.2
@[go_sem] theorem T12b_old{g:FuncId}{xs:List A}(h:g≠94):aaT.f g xs=Xk.f g xs:=aj.ak h
def aaV:aj:=aaT.add 166 (entry (fun(v:(Int×Int)×(Int×Int))=>[.agg [.int .i64 v.1.1,.int .i64 v.1.2],.agg [.int .i64 v.2.1,.int .i64 v.2.2]]) (fun v=>True) (fun v=> .int .i64 (fA ⟨v.1.1,v.1.2⟩ ⟨v.2.1,v.2.2⟩)))
theorem aaW:ag Tryz.prog aaV:=aaU.bG Tryz.func166 (by kernel_rfl) (by kernel_rfl) fun v h=>mh ⟨v.1.1,v.1.2⟩ ⟨v.2.1,v.2.2⟩
@[go_sem] theorem T12c_old{g:FuncId}{xs:List A}(h:g≠166):aaV.f g xs=aaT.f g xs:=aj.ak h
def aaX:aj:=aaV.add 124 (entry (fun(v:(Int×Int)×(Int×Int))=>[.agg [.int .i64 v.1.1,.int .i64 v.1.2],.agg [.int .i64 v.2.1,.int .i64 v.2.2]]) (fun v=>True) (fun v=> .bool (yv ⟨v.1.1,v.1.2⟩ ⟨v.2.1,v.2.2⟩)))
theorem aaY:ag Tryz.prog aaX:=aaW.bG Tryz.func124 (by kernel_rfl) (by kernel_rfl) fun v h=>uo ⟨v.1.1,v.1.2⟩ ⟨v.2.1,v.2.2⟩
@[go_sem] theorem T12d_old{g:FuncId}{xs:List A}(h:g≠124):aaX.f g xs=aaV.f g xs:=aj.ak h
@[go_sem] theorem Vl{r c:Int}:Xk.f 125 [.agg [.int .i64 r,.int .i64 c]]=some (.bool (aL ⟨r,c⟩)):=sA (r,c) trivial
def aaZ:aj:=aaX
theorem aa0:ag Tryz.prog aaZ:=aaY
@[go_sem] theorem T12e_old{g:FuncId}{xs:List A}:aaZ.f g xs=aaX.f g xs:=rfl
end Go.Proofs.YtihgnfmoafjakaaGreat
