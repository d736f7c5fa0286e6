/- What the laws of this claim rest on: the abstract executor, its soundness, and what the functions compute on pure data. No condition. -/
import Derived.Test.YtfnohjheonlnmaaGreatU6
import Derived.Shelf.SlSortCmp.NoneTotal
import Derived.Ground.SlsfProg
import Derived.Test.YtfnohjheonlnmaaGreatProg
noncomputable section
set_option linter.unusedVariables false
set_option linter.unusedSimpArgs false
namespace Go.Proofs.YtfnohjheonlnmaaGreat
open Go.dF
set_option linter.unusedSimpArgs false
set_option linter.unusedVariables false
set_option maxRecDepth 20000
set_option maxHeartbeats 4000000
theorem jd:aQ Tryz.prog z' Tryz.f122.ntmps (Tryz.f122.body.getD .skip)=true:=by kernel_rfl
theorem Lw(a b:List bk)(hl:a.length<=4611686018427387904)(hb:b.length<=4611686018427387904):bp Tryz.prog 122 [.ay (a.map bk.enc),.ay (b.map bk.enc)] (· = .bool (jk a b)):=by
 refine ah kH mixed Tryz.func122 rfl (ab rfl) jd ?_;unfold Tryz.f122;cases h0:((a.length:Int)==(b.length:Int))with
 |false=>
  have eH:a.length≠b.length:=by
   have:(a.length:Int)≠(b.length:Int):=by simpa using h0
   omega
  have hh:jk a b=false:=by unfold jk;simp;intro e;exact eH (by rw[e])
  simp-implicitDefEqProofs (disch:=(first|omega|decide)) only[go_sem,↓reduceIte,seval,h0,hh,aa]
 |true=>
  have he:a.length=b.length:=by
   have:(a.length:Int)=(b.length:Int):=by simpa using h0
   omega
  simp-implicitDefEqProofs (disch:=(first|omega|decide)) only[go_sem,↓reduceIte,seval,h0,aa]
  refine a_ [0,1,12] (ι:={k:Nat//k<=a.length/\a.take k=b.take k}) (fun p=>[(13,.int .i64 p.1)]) (fun _=>[]) (fun p=>a.length-p.1) ⟨0,by omega,rfl⟩ (aw _) ?_ ?_
  · simp-implicitDefEqProofs (disch:=(first|omega|decide)) only[go_sem,↓reduceIte,seval]
  · rintro⟨k,hk,hd⟩
    simp only;by_cases bo:k<a.length
    · have aH:(k:Int)<(a.length:Int):=by omega
      have og:(k:Int)<(b.length:Int):=by omega
      have jD:k<b.length:=by omega
      have e1:=im bo;have e2:=im jD;have t1:=(ar bo).symm;have t2:=(ar jD).symm;have th:a[k]≠b[k]->jk a b=false:=fun h=>by unfold jk;simp;intro e;subst e;exact h rfl
      generalize hx:a[k]=x at*;generalize hy:b[k]=y at*;obtain⟨f,t,o⟩:=x;obtain⟨f',t',o'⟩:=y;cases h1:f==f' with
      |false=>
       have hh:=th (by have:f≠f':=by simpa using h1
                       simp[this])
       simp-implicitDefEqProofs (disch:=(first|omega|decide)) only[go_sem,↓reduceIte,seval,aH,og,e1,e2,h1,hh,aa]
      |true=>
       cases h2:t==t' with
       |false=>
        have hh:=th (by have:t≠t':=by simpa using h2
                        simp[this])
        simp-implicitDefEqProofs (disch:=(first|omega|decide)) only[go_sem,↓reduceIte,seval,aH,og,e1,e2,h1,h2,hh,aa]
       |true=>
        cases h3:o==o' with
        |false=>
           have hh:=th (by have:o≠o':=by simpa using h3
                           simp[this])
           simp-implicitDefEqProofs (disch:=(first|omega|decide)) only[go_sem,↓reduceIte,seval,aH,og,e1,e2,h1,h2,h3,hh,aa]
        |true=>
           obtain rfl:f=f':=by simpa using h1
           obtain rfl:t=t':=by simpa using h2
           obtain rfl:o=o':=by simpa using h3
           simp-implicitDefEqProofs (disch:=(first|omega|decide)) only[go_sem,↓reduceIte,seval,aH,og,e1,e2,h1,h2,h3,wrap_i64,aa]
           exact⟨⟨k+1,bo,by rw[t1,t2,hd]⟩,by simp,by show a.length-(k+1)<a.length-k;omega⟩
    · have aH: ¬(k:Int)<(a.length:Int):=by omega
      have hh:jk a b=true:=by rw[ad (by omega),ad (by omega)]at hd;simp[jk,hd]
      simp-implicitDefEqProofs (disch:=(first|omega|decide)) only[go_sem,↓reduceIte,seval,aH,hh,aa]
def dB:List bk->List UInt8->Nat
 | [],_=>0
 |r::l,s=>if r.op||cL s r.hi then 0 else dB l s+1
theorem wM: ∀(l:List bk) (s:List UInt8),dB l s<=l.length
 | [],_=>ai _
 |r::l,s=>by have:=wM l s;simp only[dB,aG];split<;>omega
theorem wN: ∀(l:List bk) (s:List UInt8) (i:Nat) (h:i<l.length),i<dB l s->l[i].op=false/\cL s l[i].hi=false
 |r::l,s,i,h,hi=>by
  simp only[dB]at hi;split at hi
  · omega
  · rename_i hc
    cases i with
    |zero=>simpa using hc
    |succ i=>exact wN l s i (by simpa using h) (by omega)
theorem tR: ∀(l:List bk) (s:List UInt8) (h:dB l s<l.length),(l[dB l s].op||cL s l[dB l s].hi)=true
 |r::l,s,h=>by
  by_cases hc:(r.op||cL s r.hi)=true
  · have e:dB (r::l) s=0:=by simp only[dB];rw[if_pos hc]
    simp only[e];exact hc
  · have e:dB (r::l) s=dB l s+1:=by simp only[dB];rw[if_neg hc]
    simp only[e]at h⊢;exact tR l s (by simpa using h)
theorem Ui{l:List bk}(h:cA l=true){s:List UInt8}: ∀(i j:Nat) (hi:i<l.length) (hj:j<l.length),i<=j->(l[i].op||cL s l[i].hi)=true->(l[j].op||cL s l[j].hi)=true:=by
 intro i j hi hj Cc hc;obtain⟨h1,h2⟩:=j5.1 h;induction j with
 |zero=>have:i=0:=by omega
        subst this;exact hc
 |succ j ih=>
  rcases fN Cc with bo|heq
  · have BM:j<l.length:=by omega
    have ih:=ih BM (by omega)
    -- neighbours
    have key: ∀(l:List bk),(∀r∈l,bw r=true)->Iv.Can cL (l.map sf)-> ∀(j:Nat) (h:j+1<l.length),l[j].op=false/\cL l[j].hi l[j+1].lo=true:=by
     intro l;induction l with
     |nil=>intro _ _ j h;simp at h
     |cons r l ih2=>
      intro g1 g2 j hj;cases j with
      |zero=>
       cases l with
       |nil=>simp at hj
       |cons q l=>
        obtain⟨_,⟨x,k1,k2⟩,_⟩:=g2;simp only[sf]at k1;cases ho:r.op with
        |true=>rw[ho]at k1;simp at k1
        |false=>
         rw[ho]at k1;simp at k1;subst k1;exact⟨ho,k2⟩
      |succ j=>exact ih2 (fun q hq=>g1 q (by simp[hq])) (Iv.rN vu g2) j (by simpa using hj)
    obtain⟨k1,k2⟩:=key l h1 h2 j hj;rw[k1,bu]at ih;have hr:=h1 _ (ao hj)
    cases ho:l[j+1].op with
    |true=>rfl
    |false=>
     rw[bu]
     exact fa (fa ih k2) ((fy hr).2.2.2 ho)
  · subst heq;exact hc
theorem wO{l:List bk}(h:cA l=true){s:List UInt8}{i:Nat}(hi:i<l.length):(l[i].op||cL s l[i].hi)=decide (dB l s<=i):=by
 by_cases hc:dB l s<=i
 · rw[decide_eq_true hc]
   exact Ui h _ _ (by omega) hi hc (tR l s (by omega))
 · rw[decide_eq_false hc]
   obtain⟨h1,h2⟩:=wN l s i hi (by omega)
   rw[h1,h2];rfl
theorem A7{l:List bk}(h:cA l=true)(s:List UInt8):bh l s=(if h:dB l s<l.length then !cL s l[dB l s].lo else false):=by
 obtain⟨h1,h2⟩:=j5.1 h;split
 · rename_i bo
   have DS:=tR l s bo;have hr:=h1 _ (ao bo)
   cases hc:cL s l[dB l s].lo with
   |false=>
    rw[bm,nY]
    refine⟨_,ao bo, ?_⟩
    rw[pR,hr,hc]
    unfold S0;rw[DS];rfl
   |true=>
    rw[bG,<-dI,nY]
    rintro⟨r,GW,hh⟩
    obtain⟨j,hj,rfl⟩:=dZ.1 GW;rw[pR]at hh;simp only[ak,bT]at hh;obtain⟨g1,g2,g3⟩:=hh;have g3':(l[j].op||cL s l[j].hi)=true:=g3;rw[wO h hj,decide_eq_true_iff]at g3';rcases fN g3' with g|g
    · -- a later one begins above
      have key: ∀(l:List bk),(∀r∈l,bw r=true)->Iv.Can cL (l.map sf)-> ∀(i j:Nat) (hi:i<l.length) (hj:j<l.length),i<j->cL l[i].lo l[j].lo=true:=by
       intro l;induction l with
       |nil=>intro _ _ i j hi;simp at hi
       |cons r l ih=>
        intro a1 a2 i j hi hj Cc;cases j with
        |zero=>omega
        |succ j=>
         have BM:j<l.length:=by simpa using hj
         have py:Iv.mem cL (l.map sf) (l[j]'BM).lo=true:=by
          have:bh l (l[j]'BM).lo=true:=nY.2 ⟨l[j]'BM,ao _,qK (a1 _ (by simp))⟩
          rwa [AL,qL (fun q hq=>a1 q (by simp[hq]))]at this
         cases i with
         |zero=>
          cases l with
          |nil=>simp at hj
          |cons q l=>
           have low:=Iv.AI vu (Iv.rN vu a2) py;obtain⟨b1,⟨x,k1,k2⟩,_⟩:=a2;have b1':cL r.lo x=true:=by rw[k1]at b1;exact b1
           exact AH (fa b1' k2) low
         |succ i=>exact ih (fun q hq=>a1 q (by simp[hq])) (Iv.rN vu a2) i j (by simpa using hi) (by simpa using hj) (by omega)
      have:=key l h1 h2 _ j bo hj g;have:=fa hc this;rw[this]at g2;cases g2
    · have e:l[j]=l[dB l s]:=by congr 1;exact g.symm
      rw[e,hc]at g2;cases g2
 · rename_i hge
   rw[<-dI,nY]
   rintro⟨r,GW,hh⟩
   obtain⟨j,hj,rfl⟩:=dZ.1 GW;rw[pR]at hh;simp only[ak]at hh;have g3':(l[j].op||cL s l[j].hi)=true:=hh.2.2;rw[wO h hj,decide_eq_true_iff]at g3';omega
theorem IN:aQ Tryz.prog z' Tryz.f163.ntmps (Tryz.f163.body.getD .skip)=true:=by kernel_rfl
theorem Lx(l:List bk)(s:List UInt8)(hl:l.length<=4611686018427387903)(mq:iG l)(hs:s.length<=9223372036854775807)(hr:cA l=true):bp Tryz.prog 163 [.ay (l.map bk.enc),.str s] (· = .int .i64 (dB l s)):=by
 refine ah kH mixed Tryz.func163 rfl (ab rfl) IN ?_;unfold Tryz.f163;simp-implicitDefEqProofs (disch:=(first|omega|decide)) only[go_sem,↓reduceIte,seval,aa]
 have hfl:=wM l s;refine a_ [0,1,4] (ι:={p:Nat×Nat//p.1<=dB l s/\dB l s<=p.2/\p.2<=l.length}) (fun p=>[(5,.int .i64 p.1.1),(6,.int .i64 p.1.2)]) (fun _=>[]) (fun p=>p.1.2-p.1.1) ⟨(0,l.length),aw _,hfl,ai _⟩ (aw _) ?_ ?_
 · simp-implicitDefEqProofs (disch:=(first|omega|decide)) only[go_sem,↓reduceIte,seval]
 · rintro⟨⟨a,b⟩,h1,h2,h3⟩
   simp only at h1 h2 h3⊢;by_cases S7:a<b
   · have c1:(a:Int)<(b:Int):=by omega
     have hm:(a:Int)+((b:Int)-(a:Int)).tdiv 2=((a+(b-a)/2:Nat):Int):=by
      have:((b:Int)-(a:Int))=((b-a:Nat):Int):=by omega
      rw[this]
      have e:((b-a:Nat):Int).tdiv 2=(((b-a)/2:Nat):Int):=rfl;rw[e];omega
     have hw:IntKind.i64.wrap (((b:Int)-(a:Int)).tdiv 2)=((b:Int)-(a:Int)).tdiv 2:=by
      have:((b:Int)-(a:Int))=((b-a:Nat):Int):=by omega
      rw[this]
      have e:((b-a:Nat):Int).tdiv 2=(((b-a)/2:Nat):Int):=rfl;rw[e]
      exact wrap_i64 (by omega)
     have hmb:a+(b-a)/2<b:=by omega
     have hma:a<=a+(b-a)/2:=by omega
     generalize a+(b-a)/2=m at*;have bo:m<l.length:=by omega
     have aH:(m:Int)<(l.length:Int):=by omega
     have e1:=im bo;have rT:=oO mq bo;have hsp:=wO hr (s:=s) bo;have hw2:IntKind.i64.wrap ((m:Nat):Int)=(m:Int):=wrap_i64 (by omega)
     have z2: ¬(2:Int)=0:=by omega
     generalize hx:l[m]=x at*;obtain⟨lo,hi,op⟩:=x;simp only at rT hsp;have left:dB l s<=m-> ∃j:{p:Nat×Nat//p.1<=dB l s/\dB l s<=p.2/\p.2<=l.length},((a:Int)=(j.1.1:Int)/\(m:Int)=(j.1.2:Int))/\j.1.2-j.1.1<b-a:=fun h=>⟨⟨(a,m),h1,h,by omega⟩,⟨rfl,rfl⟩,by show m-a<b-a;omega⟩
     have rightw: ¬dB l s<=m-> ∃j:{p:Nat×Nat//p.1<=dB l s/\dB l s<=p.2/\p.2<=l.length},((m:Int)+1=(j.1.1:Int)/\(b:Int)=(j.1.2:Int))/\j.1.2-j.1.1<b-a:=fun h=>⟨⟨(m+1,b),by show m+1<=_;omega,h2,h3⟩,⟨by simp,rfl⟩,by show b-(m+1)<b-a;omega⟩
     cases op with
     |true=>
      have hle:dB l s<=m:=by simpa using hsp
      simp-implicitDefEqProofs (disch:=(first|omega|decide)) only[go_sem,↓reduceIte,seval,c1,hm,hw,hw2,aH,e1,rT,z2,wrap_i64,aa]
      exact left hle
     |false=>
      cases h4:cL s hi with
      |true=>
       rw[h4]at hsp;have hle:dB l s<=m:=by simpa using hsp
       simp-implicitDefEqProofs (disch:=(first|omega|decide)) only[go_sem,↓reduceIte,seval,c1,hm,hw,hw2,aH,e1,rT,h4,z2,wrap_i64,aa]
       exact left hle
      |false=>
       rw[h4]at hsp;have hle: ¬dB l s<=m:=by simpa using hsp
       simp-implicitDefEqProofs (disch:=(first|omega|decide)) only[go_sem,↓reduceIte,seval,c1,hm,hw,hw2,aH,e1,rT,h4,z2,wrap_i64,aa]
       exact rightw hle
   · have e:a=dB l s:=by omega
     subst e;have c1: ¬((dB l s:Nat):Int)<(b:Int):=by omega
     simp-implicitDefEqProofs (disch:=(first|omega|decide)) only[go_sem,↓reduceIte,seval,c1,aa]
theorem strB(l:List (List UInt8)):((l.map A.str).isEmpty||eV (l.map A.str)==1)=true:=by cases l<;>rfl
theorem IP{l:List (List UInt8)}{n:List UInt8}{k:Nat}(hk:k<=l.length)(hd:nG l n=l.take k++n::l.drop k):k+1<=((l.take k).map A.str++[A.str n]).length/\k+1+(l.length-k)<=(((l.take k).map A.str++[A.str n]).take (k+1)++(l.drop k).map A.str).length/\
 (((l.take k).map A.str++[A.str n]).take (k+1)++(l.drop k).map A.str).take (k+1+(l.length-k))=(nG l n).map A.str:=by
 have e:((l.take k).map A.str++[A.str n]).length=k+1:=by simp;omega
 rw[ad (di e)]
 have e2:((l.take k).map A.str++[A.str n]++(l.drop k).map A.str).length=k+1+(l.length-k):=by rw[aj,e,aa,cj]
 rw[ad (di e2)]
 exact⟨by omega,by omega,by rw[hd];simp⟩
theorem P5:aQ Tryz.prog z' Tryz.f144.ntmps (Tryz.f144.body.getD .skip)=true:=by kernel_rfl
theorem Uj(l:List (List UInt8))(n:List UInt8)(hl:l.length<=1000000)(mq: ∀x∈l,x.length<=9223372036854775807)(hn:n.length<=9223372036854775807):bp Tryz.prog 144 [.ay (l.map .str),.str n] (· = .ay ((nG l n).map .str)):=by
 refine ah kH mixed Tryz.func144 rfl (ab rfl) P5 ?_;unfold Tryz.f144;simp-implicitDefEqProofs (disch:=(first|omega|decide)) only[go_sem,↓reduceIte,seval,aa]
 refine a_ [0,1,4] (ι:={k:Nat//k<=l.length/\nG l n=l.take k++nG (l.drop k) n}) (fun p=>[(5,.int .i64 p.1)]) (fun _=>[]) (fun p=>l.length-p.1) ⟨0,by omega,rfl⟩ (aw _) ?_ ?_
 · simp-implicitDefEqProofs (disch:=(first|omega|decide)) only[go_sem,↓reduceIte,seval]
 · rintro⟨k,hk,hd⟩
   simp only;by_cases bo:k<l.length
   · have aH:(k:Int)<(l.length:Int):=by omega
     have e1:(l.map A.str)[k]? =some (.str l[k]):=by rw[aT,ae bo];rfl
     have rT:=mq _ (ao bo)
     have tk:(l.take k).length=k:=by rw[aK];omega
     have t1:=(ar bo).symm;rw[ax bo]at hd;generalize hx:l[k]=x at*;simp only[nG]at hd;cases h1:cL x n with
     |true=>
      rw[if_pos h1]at hd;simp-implicitDefEqProofs (disch:=(first|omega|decide)) only[go_sem,↓reduceIte,seval,aH,e1,rT,h1,wrap_i64,aa]
      exact⟨⟨k+1,bo,by rw[hd,t1,ba];rfl⟩,by simp,by show l.length-(k+1)<l.length-k;omega⟩
     |false=>
      rw[if_neg (by rw[h1];simp)]at hd;cases h2:x==n with
      |true=>
       simp-implicitDefEqProofs (disch:=(first|omega|decide)) only[go_sem,↓reduceIte,seval,aH,e1,rT,h1,h2,wrap_i64,aa]
       have hxn:x=n:=by simpa using h2
       rw[if_pos hxn,<-hx,<-ax bo,br]at hd;rw[hd]
      |false=>
       have hxn:x≠n:=by simpa using h2
       have l1:(l.take k).length=k:=tk;have l2:(l.drop k).length=l.length-k:=cj ..;simp-implicitDefEqProofs (disch:=(first|omega|decide)) only[go_sem,↓reduceIte,seval,aH,e1,rT,h1,h2,wrap_i64,<-iw,<-kF,strB,aa,ca,l1,l2]
       obtain⟨c1,c2,c3⟩:=IP hk (by rw[hd,if_neg hxn,<-hx,<-ax bo])
       exact⟨by omega,by omega,⟨by omega,by omega⟩,⟨by omega,by omega⟩,⟨c1,by omega⟩,c2,c3⟩
   · have aH: ¬(k:Int)<(l.length:Int):=by omega
     have l1:(l.take k).length=k:=by rw[aK];omega
     have l2:(l.drop k).length=l.length-k:=cj ..;have l3:l.drop k=[]:=aC (by omega)
     obtain⟨c1,c2,c3⟩:=IP hk (by rw[hd,l3];rfl)
     simp-implicitDefEqProofs (disch:=(first|omega|decide)) only[go_sem,↓reduceIte,seval,aH,wrap_i64,<-iw,<-kF,strB,aa,ca,l1,l2]
     exact⟨by omega,by omega,⟨by omega,by omega⟩,⟨by omega,by omega⟩,⟨c1,by omega⟩,c2,c3⟩
def Xh:aW:=z'.add 144 (entry (fun(v:List (List UInt8)×List UInt8)=>[.ay (v.1.map .str),.str v.2]) (fun v=>v.1.length<=1000000/\(∀x∈v.1,x.length<=9223372036854775807)/\v.2.length<=9223372036854775807) (fun v=> .ay ((nG v.1 v.2).map .str)))
theorem T08a_ok:aN Tryz.prog Xh:=kH.dH Tryz.func144 (by kernel_rfl) (by kernel_rfl) fun v h=>Uj v.1 v.2 h.1 h.2.1 h.2.2
@[go_sem] theorem T08a_old{g:FuncId}{xs:List A}(h:g≠144):Xh.f g xs=z'.f g xs:=aW.aU h
@[go_sem] theorem T08a_s:Xh.pl z':=⟨fun _=>rfl,fun _=>rfl,rfl,fun _=>rfl,rfl,fun _=>rfl,rfl⟩
theorem IQ(v:List (List UInt8)×List UInt8)(h:v.1.length<=1000000/\(∀x∈v.1,x.length<=9223372036854775807)/\v.2.length<=9223372036854775807):Xh.f 144 [.ay (v.1.map .str),.str v.2]=some (.ay ((nG v.1 v.2).map .str)):=aW.aZ (Γ:=z') (fun i j h=>by simpa[ag,and_assoc]using h) v h
theorem sP{l:List (List UInt8)}{n:List UInt8}(h:l.length<=1000000)(h1: ∀x∈l,x.length<=9223372036854775807)(h2:n.length<=9223372036854775807):Xh.f 144 [.ay (l.map .str),.str n]=some (.ay ((nG l n).map .str)):=IQ (l,n) ⟨h,h1,h2⟩
theorem foldE_ok: ∀(l:List bk) (es:List (List UInt8)),(∀x∈es,x.length<=9223372036854775807)-> ∀x∈l.foldl pZ es,x.length<=9223372036854775807:=fun l es h x hx=>by
 rcases(rh l es x).1 hx with hx|⟨r,_,h1,h2⟩
 · exact h x hx
 · obtain⟨k1,k2,_,_⟩:=fy h1
   rcases h2 with rfl|⟨_,rfl⟩<;>omega
theorem Xi(l:List bk)(es:List (List UInt8))(k:Nat)(h:k<l.length):(l.take (k+1)).foldl pZ es=pZ ((l.take k).foldl pZ es) l[k]:=by rw[<-ar h,cp];rfl
theorem IS:aQ Tryz.prog Xh Tryz.f81.ntmps (Tryz.f81.body.getD .skip)=true:=by kernel_rfl
theorem Ly(a b:List bk)(ha:a.length<=1000)(hb:b.length<=1000)(oka:iG a)(okb:iG b):bp Tryz.prog 81 [.ay (a.map bk.enc),.ay (b.map bk.enc)] (· = .ay ((nH a b).map .str)):=by
 refine ah T08a_ok mixed Tryz.func81 rfl (ab rfl) IS ?_;unfold Tryz.f81;simp-implicitDefEqProofs (disch:=(first|omega|decide)) only[go_sem,↓reduceIte,seval,aa]
 refine KA 5 [A.str []] rfl ?_;refine a_ [0,1,4] (ι:={k:Nat//k<=(a++b).length}) (fun p=>[(6,.int .i64 p.1),(5,.ay ((((a++b).take p.1).foldl pZ [[]]).map .str))]) (fun _=>[]) (fun p=>(a++b).length-p.1) ⟨0,by omega⟩ (aw _) ?_ ?_
 · simp-implicitDefEqProofs (disch:=(first|omega|decide)) only[go_sem,↓reduceIte,seval]
   first|done|rfl|exact⟨rfl,rfl⟩|simp[A.under]
 · rintro⟨k,hk⟩
   simp only;have hsum:(a++b).length=a.length+b.length:=aj;have hw:IntKind.i64.wrap ((a.length:Int)+(b.length:Int))=(((a++b).length:Nat):Int):=by rw[wrap_i64 (by omega)];omega
   have hlen:=Ck ((a++b).take k) [[]]
   have mq:=foldE_ok ((a++b).take k) [[]] (by simp)
   rw[aK,fZ hk,dw]at hlen;by_cases bo:k<(a++b).length
   · have aH:(k:Int)<(((a++b).length:Nat):Int):=by omega
     have eO:=Xi (a++b) [[]] k bo
     have hokx:(a++b)[k].ok:=by
      have:=ao bo;rcases aJ.1 this with h|h
      · exact oka _ h
      · exact okb _ h
     have next: ∀Ev,((a++b).take (k+1)).foldl pZ [[]]=Ev-> ∃j:{k:Nat//k<=(a++b).length},((k:Int)+1=(j.1:Int)/\Ev.map A.str=(((a++b).take j.1).foldl pZ [[]]).map A.str)/\(a++b).length-j.1<(a++b).length-k:=fun Ev h=>⟨⟨k+1,bo⟩,⟨by simp,by rw[h]⟩,by show(a++b).length-(k+1)<_;omega⟩
     generalize GZ:((a++b).take k).foldl pZ [[]]=es at*;by_cases hka:k<a.length
     · have Xj:(k:Int)<(a.length:Int):=by omega
       have e1:=im hka;have ex:(a++b)[k]=a[k]:=List.getElem_append_left hka;rw[ex]at eO hokx;generalize hx:a[k]=x at*;obtain⟨lo,hi,op⟩:=x;have rT:lo.length<=9223372036854775807/\hi.length<=9223372036854775807:=hokx;have p1:=sP (l:=es) (n:=lo) (by omega) mq rT.1
       have p2:=sP (l:=nG es lo) (n:=hi) (by have:=AN es lo;omega) (fun x hx=>by
        rcases(wi es lo x).1 hx with rfl|hx
        · exact rT.1
        · exact mq x hx) rT.2
       cases h1:bw ⟨lo,hi,op⟩with
       |false=>
        have hs:=next es (by rw[eO];unfold pZ;rw[h1];rfl)
        simp-implicitDefEqProofs (disch:=(first|omega|decide)) only[go_sem,↓reduceIte,seval,hw,aH,Xj,e1,rT,h1,wrap_i64,aa]
        exact hs
       |true=>
        cases op with
        |true=>
          have hs:=next (nG es lo) (by rw[eO];unfold pZ;rw[h1];rfl)
          simp-implicitDefEqProofs (disch:=(first|omega|decide)) only[go_sem,↓reduceIte,seval,hw,aH,Xj,e1,rT,h1,p1,wrap_i64,aa]
          exact hs
        |false=>
          have hs:=next (nG (nG es lo) hi) (by rw[eO];unfold pZ;rw[h1];rfl)
          simp-implicitDefEqProofs (disch:=(first|omega|decide)) only[go_sem,↓reduceIte,seval,hw,aH,Xj,e1,rT,h1,p1,p2,wrap_i64,aa]
          exact hs
     · have Xj: ¬(k:Int)<(a.length:Int):=by omega
       have hkb:k-a.length<b.length:=by omega
       have e1:=im hkb;have ex:(a++b)[k]=b[k-a.length]:=List.getElem_append_right (by omega)
       have t0:((k:Int)-(a.length:Int)).toNat=k-a.length:=by omega
       have t1:(0:Int)<=(k:Int)-(a.length:Int):=by omega
       rw[ex]at eO hokx;generalize hx:b[k-a.length]=x at*;obtain⟨lo,hi,op⟩:=x;have rT:lo.length<=9223372036854775807/\hi.length<=9223372036854775807:=hokx;have p1:=sP (l:=es) (n:=lo) (by omega) mq rT.1
       have p2:=sP (l:=nG es lo) (n:=hi) (by have:=AN es lo;omega) (fun x hx=>by
        rcases(wi es lo x).1 hx with rfl|hx
        · exact rT.1
        · exact mq x hx) rT.2
       cases h1:bw ⟨lo,hi,op⟩with
       |false=>
        have hs:=next es (by rw[eO];unfold pZ;rw[h1];rfl)
        simp-implicitDefEqProofs (disch:=(first|omega|decide)) only[go_sem,↓reduceIte,seval,hw,aH,Xj,e1,t0,t1,rT,h1,wrap_i64,aa]
        exact hs
       |true=>
        cases op with
        |true=>
          have hs:=next (nG es lo) (by rw[eO];unfold pZ;rw[h1];rfl)
          simp-implicitDefEqProofs (disch:=(first|omega|decide)) only[go_sem,↓reduceIte,seval,hw,aH,Xj,e1,t0,t1,rT,h1,p1,wrap_i64,aa]
          exact hs
        |false=>
          have hs:=next (nG (nG es lo) hi) (by rw[eO];unfold pZ;rw[h1];rfl)
          simp-implicitDefEqProofs (disch:=(first|omega|decide)) only[go_sem,↓reduceIte,seval,hw,aH,Xj,e1,t0,t1,rT,h1,p1,p2,wrap_i64,aa]
          exact hs
   · have aH: ¬(k:Int)<(((a++b).length:Nat):Int):=by omega
     have nr:((a++b).take k).foldl pZ [[]]=nH a b:=by rw[ad (by omega)];rfl
     simp-implicitDefEqProofs (disch:=(first|omega|decide)) only[go_sem,↓reduceIte,seval,hw,aH,nr,aa]
end Go.Proofs.YtfnohjheonlnmaaGreat
namespace Go.Proofs.YtfnohjheonlnmaaGreat
open Go.dF
set_option linter.unusedSimpArgs false
set_option linter.unusedVariables false
set_option maxRecDepth 20000
set_option maxHeartbeats 4000000
def T08b:aW:=Xh.add 73 (entry (fun(v:List bk×List UInt8)=>[.ay (v.1.map bk.enc),.str v.2]) (fun v=>v.1.length<=4611686018427387904/\iG v.1/\v.2.length<=9223372036854775807) (fun v=> .bool (bh v.1 v.2)))
def T08c:aW:=T08b
def T08d:aW:=T08c.add 81 (entry (fun(v:List bk×List bk)=>[.ay (v.1.map bk.enc),.ay (v.2.map bk.enc)]) (fun v=>v.1.length<=1000/\v.2.length<=1000/\iG v.1/\iG v.2) (fun v=> .ay ((nH v.1 v.2).map .str)))
def o_(acc:List bk):List A:=acc.reverse.map bk.enc
theorem lV(q:bk)(qs:List bk):o_ (q::qs)=o_ qs++[.agg [.str q.lo,.str q.hi,.bool q.op]]:=by simp[o_,bk.enc]
theorem rU(l:List bk):(o_ l).length=l.length:=by simp[o_]
theorem rowS_nil:o_ []=[]:=rfl
theorem str_get{l:List (List UInt8)}{k:Nat}(h:k<l.length):(l.map A.str)[k]? =some (.str l[k]):=by rw[aT,ae h];rfl
section
variable(q:bk)(qs:List bk)
theorem mU(x:A):(o_ qs++[x])[qs.length]? =some x:=by
 have:=mE (x:=x) (l:=o_ qs)
 rwa [rU]at this
theorem oR(x v:A):fE (o_ qs++[x]) qs.length v=o_ qs++[v]:=by
 have:=mF (x:=x) (v:=v) (l:=o_ qs)
 rwa [rU]at this
theorem NT(x:A):(o_ qs++[x]).length=qs.length+1:=by rw[aj,rU];rfl
theorem rowS_take(x:A):(o_ qs++[x]).take (qs.length+1)=o_ qs++[x]:=ad (di (NT qs x))
end
end Go.Proofs.YtfnohjheonlnmaaGreat
namespace Go.Proofs
open Go.Shelf
def YtfnohjheonlnmaaGreat.Uk:Go.Shelf.Ren:=⟨fun|6=>196|15=>222|14=>224|28=>244|29=>245|20=>247|21=>248|22=>249|23=>250|24=>251|25=>252|26=>253|27=>254|46=>272|47=>267|48=>268|49=>273|50=>274|57=>288|n=>n,fun|22=>26|24=>50|25=>211|3=>3|39=>228|0=>0|53=>62|55=>248|4=>4|46=>240|45=>239|50=>244|5=>5|9=>9|66=>261|70=>265|76=>278|77=>279|n=>n,fun|n=>n⟩
theorem YtfnohjheonlnmaaGreat.sortRng:Go.Proofs.SlLaysF0.n6 Tryz.prog YtfnohjheonlnmaaGreat.Uk:={
 mixed:=by kernel_rfl
 f6:=⟨Tryz.f196.name,by decide,Tryz.func196.trans (congrArg some (by kernel_rfl))⟩
 f14:=⟨Tryz.f224.name,by decide,Tryz.func224.trans (congrArg some (by kernel_rfl))⟩
 f15:=Tryz.func222.trans (congrArg some (by kernel_rfl))
 f20:=⟨Tryz.f247.name,by decide,Tryz.func247.trans (congrArg some (by kernel_rfl))⟩
 f21:=⟨Tryz.f248.name,by decide,Tryz.func248.trans (congrArg some (by kernel_rfl))⟩
 f22:=⟨Tryz.f249.name,by decide,Tryz.func249.trans (congrArg some (by kernel_rfl))⟩
 f23:=⟨Tryz.f250.name,by decide,Tryz.func250.trans (congrArg some (by kernel_rfl))⟩
 f24:=⟨Tryz.f251.name,by decide,Tryz.func251.trans (congrArg some (by kernel_rfl))⟩
 f25:=⟨Tryz.f252.name,by decide,Tryz.func252.trans (congrArg some (by kernel_rfl))⟩
 f26:=⟨Tryz.f253.name,by decide,Tryz.func253.trans (congrArg some (by kernel_rfl))⟩
 f27:=⟨Tryz.f254.name,by decide,Tryz.func254.trans (congrArg some (by kernel_rfl))⟩
 f28:=Tryz.func244.trans (congrArg some (by kernel_rfl))
 f29:=Tryz.func245.trans (congrArg some (by kernel_rfl))
 f46:=⟨Tryz.f272.name,by decide,Tryz.func272.trans (congrArg some (by kernel_rfl))⟩
 f47:=Tryz.func267.trans (congrArg some (by kernel_rfl))
 f48:=Tryz.func268.trans (congrArg some (by kernel_rfl))
 f49:=⟨Tryz.f273.name,by decide,Tryz.func273.trans (congrArg some (by kernel_rfl))⟩
 f50:=⟨Tryz.f274.name,by decide,Tryz.func274.trans (congrArg some (by kernel_rfl))⟩
 f57:=⟨Tryz.f288.name,by decide,Tryz.func288.trans (congrArg some (by kernel_rfl))⟩
 t0:=Tryz.underlying0
 a0:=Tryz.isAgg0
 z0:=Tryz.sizeOf0
 v0:=Tryz.zeroValue0
 t3:=Tryz.underlying3
 a3:=Tryz.isAgg3
 z3:=Tryz.sizeOf3
 v3:=Tryz.zeroValue3
 t4:=Tryz.underlying4
 a4:=Tryz.isAgg4
 z4:=Tryz.sizeOf4
 v4:=Tryz.zeroValue4
 t5:=Tryz.underlying5
 a5:=Tryz.isAgg5
 z5:=Tryz.sizeOf5
 v5:=Tryz.zeroValue5
 t9:=Tryz.underlying9
 a9:=Tryz.isAgg9
 z9:=Tryz.sizeOf9
 v9:=Tryz.zeroValue9
 t22:=Tryz.underlying26
 a22:=Tryz.isAgg26
 z22:=Tryz.sizeOf26
 v22:=Tryz.zeroValue26
 t25:=Tryz.underlying211
 a25:=Tryz.isAgg211
 z25:=Tryz.sizeOf211
 v25:=Tryz.zeroValue211
 t39:=Tryz.underlying228
 a39:=Tryz.isAgg228
 z39:=Tryz.sizeOf228
 v39:=Tryz.zeroValue228
 t45:=Tryz.underlying239
 a45:=Tryz.isAgg239
 z45:=Tryz.sizeOf239
 v45:=Tryz.zeroValue239
 t46:=Tryz.underlying240
 a46:=Tryz.isAgg240
 z46:=Tryz.sizeOf240
 v46:=Tryz.zeroValue240
 t50:=Tryz.underlying244
 a50:=Tryz.isAgg244
 z50:=Tryz.sizeOf244
 v50:=Tryz.zeroValue244
 t53:=Tryz.underlying62
 a53:=Tryz.isAgg62
 z53:=Tryz.sizeOf62
 v53:=Tryz.zeroValue62
 t55:=Tryz.underlying248
 a55:=Tryz.isAgg248
 z55:=Tryz.sizeOf248
 v55:=Tryz.zeroValue248
 t66:=Tryz.underlying261
 a66:=Tryz.isAgg261
 z66:=Tryz.sizeOf261
 v66:=Tryz.zeroValue261
 t70:=Tryz.underlying265
 a70:=Tryz.isAgg265
 z70:=Tryz.sizeOf265
 v70:=Tryz.zeroValue265
 t76:=Tryz.underlying278
 a76:=Tryz.isAgg278
 z76:=Tryz.sizeOf278
 v76:=Tryz.zeroValue278
 t77:=Tryz.underlying279
 a77:=Tryz.isAgg279
 z77:=Tryz.sizeOf279
 v77:=Tryz.zeroValue279}
end Go.Proofs
namespace Go.Proofs.YtfnohjheonlnmaaGreat
open Go.dF
set_option linter.unusedSimpArgs false
set_option linter.unusedVariables false
set_option maxRecDepth 20000
set_option maxHeartbeats 8000000
theorem IT:aQ Tryz.prog z' Tryz.f197.ntmps (Tryz.f197.body.getD .skip)=true:=by kernel_rfl
theorem c_rOf1(a b:bk)(ha:a.ok)(hb:b.ok):bp Tryz.prog 197 [.agg [.str a.lo,.str a.hi,.bool a.op],.agg [.str b.lo,.str b.hi,.bool b.op]] (· = .int .i64 (fC a.lo b.lo)):=by refine ah kH mixed Tryz.func197 rfl (ab rfl) IT ?_;unfold Tryz.f197;obtain⟨a1,a2⟩:=ha;obtain⟨b1,b2⟩:=hb;simp-implicitDefEqProofs (disch:=(first|omega|decide)) only[go_sem,↓reduceIte,seval,a1,b1]
abbrev A8:={r:bk//bw r=true}
instance:Inhabited A8:=⟨⟨⟨[],[],true⟩,by decide⟩⟩
def cfR(a b:A8):Int:=fC a.1.lo b.1.lo
def A8.cells(r:A8):List A:=[.str r.1.lo,.str r.1.hi,.bool r.1.op]
theorem Ul{a b:List UInt8}:fC a b<0 ↔ cL a b=true:=by have:= @AF a b;rw[<-this,decide_eq_true_iff]
theorem swoR:Go.Sort.SWO (Go.Proofs.ltOf cfR):=by
 have hl: ∀a b,Go.Proofs.ltOf cfR a b=cL a.1.lo b.1.lo:=fun a b=>by unfold Go.Proofs.ltOf cfR;exact AF
 refine⟨fun x=> ?_,fun x y z h1 h2=> ?_,fun x y z h1 h2=> ?_⟩
 · rw[hl];exact lt_irrefl _
 · rw[hl]at*;exact fa h1 h2
 · rw[hl]at*;exact qJ h2 h1
theorem wQ{r:bk}(h:bw r=true):r.ok:=by obtain⟨k1,k2,_,_⟩:=fy h;exact⟨by omega,by omega⟩
theorem IU(l:List A8)(hl:l.length<4611686018427387904):jb Tryz.prog 196 [.row 0 0 3 l.length false,.fn 197 []] [.row 3 (l.map fun x=> .agg x.cells)]
 (.fq []) [.row 3 ((gZ cfR l).map fun x=> .agg x.cells)] []:=
 wE Go.Proofs.YtfnohjheonlnmaaGreat.sortRng (by omega) Tryz.isAgg50 Tryz.sizeOf50 A8.cells (fun _=>rfl) (fun x a ha=>by simp only[A8.cells,aD,cN,or_false]at ha;rcases ha with rfl|rfl|rfl<;>rfl) cfR swoR (dE Tryz.func197 (by kernel_rfl) (by kernel_rfl)) (fun x y=>c_rOf1 x.1 y.1 (wQ x.2) (wQ y.2)) l hl false
def pk(l:List bk):List A8:=(l.filter bw).attach.map fun x=>⟨x.1,(aP.1 x.2).2⟩
theorem CF(l:List bk):(pk l).map (·.1)=l.filter bw:=by
 unfold pk;rw[eD]
 exact pJ _
theorem Um(l:List bk):(pk l).map (fun x=>A.agg x.cells)=(l.filter bw).map bk.enc:=by rw[<-CF,eD];rfl
def EZ(l:List bk):List bk:=(gZ cfR (pk l)).map (·.1)
theorem Xk(l:List bk):(gZ cfR (pk l)).map (fun x=>A.agg x.cells)=(EZ l).map bk.enc:=by unfold EZ;rw[eD];rfl
theorem CG(l:List bk):(EZ l).Perm (l.filter bw):=by rw[<-CF];exact(i_ swoR (pk l)).1.map _
theorem Un(l:List bk): ∀r∈EZ l,bw r=true:=fun r hr=>by unfold EZ at hr;obtain⟨x,_,rfl⟩:=bZ.1 hr;exact x.2
theorem ZR(l:List bk):(EZ l).Pairwise (fun x y=>cL y.lo x.lo=false):=by
 unfold EZ;rw[j7]
 exact(i_ swoR (pk l)).2.imp fun{x y} h=>by unfold cfR at h;rw[Ul]at h;simpa using h
theorem srtR_has(l:List bk)(s:List UInt8):bh (EZ l) s=bh l s:=by rw[WI (CG l),O9]
theorem Uo(l:List bk):((EZ l).foldl jn []).reverse=iC (bh l):=by
 rw[foldS_all (Un l) (ZR l)]
 congr 1;funext s;exact srtR_has l s
def rgE(l:List A8):List A:=[.row 0 0 3 l.length false,.fn 197 []]
def rgO(l:List A8):List Go.dF.Obj:=[.row 3 (l.map fun x=> .agg x.cells)]
def rgK(l:List A8):Prop:=l.length<4611686018427387904
def rgR(l:List A8):A×List Go.dF.Obj×List Nat:=(.fq [],[.row 3 ((gZ cfR l).map fun x=> .agg x.cells)],[])
theorem rngB_inj(x y:A8)(h:A.agg x.cells=A.agg y.cells):x=y:=wF (bk.jM _ _ h)
theorem rgO_inj(i j:List A8)(h:rgO i=rgO j):i=j:=by
 simp only[rgO,dr,Go.dF.Obj.row.injEq,true_and,and_true]at h
 rwa [map_inj rngB_inj]at h
def R8a:aW:=z'.kz 196 (dG rgE rgO rgK rgR)
def R8:aW:={R8a with sg:=fun f=>f==196,fS:=fun n=>if n=17 then [[0,1,2,3,4,5,6,7,8,10,11,9,12,13,14,15],[0,1,2,3,4,5,6,7,8,10,11,12,9,13,14,15]]else []}
theorem R8a_ok:aN Tryz.prog R8a:=kH.kz (dE Tryz.func196 (by kernel_rfl) (by kernel_rfl)) (gm fun l h=>IU l h)
theorem R8_ok:aN Tryz.prog R8:=⟨R8a_ok.f,R8a_ok.hp⟩
@[go_sem] theorem R8_f:R8.f=z'.f:=rfl
@[go_sem] theorem R8_eff{g:FuncId}:R8.sg g=(g==196):=rfl
@[go_sem] theorem R8_frz{g:FuncId}:R8.xk g=z'.xk g:=rfl
@[go_sem] theorem R8_fix{n:Nat}:R8.fix n=false:=rfl
@[go_sem] theorem R8_ords17:R8.fS 17=[[0,1,2,3,4,5,6,7,8,10,11,9,12,13,14,15],[0,1,2,3,4,5,6,7,8,10,11,12,9,13,14,15]]:=rfl
@[go_sem] theorem R8_ords{n:Nat}(h:n≠17):R8.fS n=[]:=if_neg h
theorem R8_sort{l:List bk}{n:Nat}(hn:n=(l.filter bw).length)(h:l.length<4611686018427387904):R8.hp 196 [.row 0 0 3 n false,.fn 197 []] [.row 3 ((l.filter bw).map bk.enc)]=some (.fq [],[.row 3 ((EZ l).map bk.enc)],[]):=by
 subst hn;have hlen:(pk l).length=(l.filter bw).length:=by rw[<-CF];simp
 have h0:R8a.hp 196 (rgE (pk l)) (rgO (pk l))=dG rgE rgO rgK rgR (rgE (pk l)) (rgO (pk l)):=aW.jK;have h1:R8.hp 196 (rgE (pk l)) (rgO (pk l))=dG rgE rgO rgK rgR (rgE (pk l)) (rgO (pk l)):=h0;have h2:=h1.trans (gn (fun i j _ h=>rgO_inj i j h) (pk l) (show(pk l).length<4611686018427387904 by rw[hlen];exact Nat.lt_of_le_of_lt (aO _ _) h))
 simp only[rgE,rgO,rgR,hlen,Um,Xk]at h2;exact h2
theorem Xl(l:List bk)(k:Nat)(h:k<l.length):(l.take (k+1)).foldl jn []=jn ((l.take k).foldl jn []) l[k]:=by rw[<-ar h,cp];rfl
theorem CH: ∀(l:List bk) (a:List bk),(l.foldl jn a).length<=a.length+l.length
 | [],a=>by simp
 |r::l,a=>by
  have h1:=CH l (jn a r)
  have h2:=pushS_len a r;simp only[cg,aG];omega
theorem P6:aQ Tryz.prog R8 Tryz.f153.ntmps (Tryz.f153.body.getD .skip)=true:=by kernel_rfl
theorem wR(l:List bk)(hl:l.length<=1000000)(mq:iG l):bp Tryz.prog 153 [.ay (l.map bk.enc)] (· = .ay ((iC (bh l)).map bk.enc)):=by
 refine ah R8_ok mixed Tryz.func153 rfl (ab rfl) P6 ?_;unfold Tryz.f153;simp-implicitDefEqProofs (disch:=(first|omega|decide)) only[go_sem,↓reduceIte,seval,aa]
 refine ch 3 3 rfl ?_;refine a_ [2,10,11] (ι:={k:Nat//k<=l.length}) (fun p=>[(12,.int .i64 p.1),(3,.row 0 0 3 ((l.take p.1).filter bw).length false)]) (fun p=>[(0,.row 3 (((l.take p.1).filter bw).map bk.enc))]) (fun p=>l.length-p.1) ⟨0,by omega⟩ (aw _) ?_ ?_
 · simp-implicitDefEqProofs (disch:=(first|omega|decide)) only[go_sem,↓reduceIte,seval]
   simp
 · rintro⟨k,hk⟩
   simp only;have hf:((l.take k).filter bw).length<=k:=aL (aO _ _) (by rw[aK];omega)
   by_cases bo:k<l.length
   · have aH:(k:Int)<(l.length:Int):=by omega
     have ht:l.take (k+1)=l.take k++[l[k]]:=(ar bo).symm;have e1:=im bo;have rT:=oO mq bo;generalize hx:l[k]=x at*;obtain⟨lo,hi,op⟩:=x;simp only at rT;cases h1:bw ⟨lo,hi,op⟩with
     |true=>
      simp-implicitDefEqProofs (disch:=(first|omega|decide)) only[go_sem,↓reduceIte,seval,aH,e1,rT,h1,wrap_i64,aa]
      refine⟨⟨ai _,by omega⟩,⟨k+1,bo⟩,⟨⟨by simp, ?_⟩, ?_⟩,by show l.length-(k+1)<l.length-k;omega⟩
      · rw[ht,bP];simp[h1]
      · rw[ht,bP,ad (by simp)];simp[h1,bk.enc]
     |false=>
      simp-implicitDefEqProofs (disch:=(first|omega|decide)) only[go_sem,↓reduceIte,seval,aH,e1,rT,h1,wrap_i64,aa]
      refine⟨⟨k+1,bo⟩,⟨⟨by simp, ?_⟩, ?_⟩,by show l.length-(k+1)<l.length-k;omega⟩
      · rw[ht,bP];simp[h1]
      · rw[ht,bP];simp[h1]
   · have aH: ¬(k:Int)<(l.length:Int):=by omega
     rw[ad (by omega)]at*;have hs:=R8_sort (l:=l) rfl (by omega)
     have hp:=(CG l).length_eq;have nn:=Uo l;have gw:=Un l;have hup:=ZR l;rw[<-hp]at hf;simp-implicitDefEqProofs (disch:=(first|omega|decide)) only[go_sem,↓reduceIte,seval,aH,hs,aa,cx,cr]
     rw[<-hp]
     generalize EZ l=s at*;refine ch 6 3 rfl ?_;refine a_ [2,25,26] (ι:={j:Nat//j<=s.length}) (fun p=>[(27,.int .i64 p.1),(6,.row 1 0 3 ((s.take p.1).foldl jn []).length false)]) (fun p=>[(1,.row 3 (o_ ((s.take p.1).foldl jn [])))]) (fun p=>s.length-p.1) ⟨0,by omega⟩ (aw _) ?_ ?_
     · simp-implicitDefEqProofs (disch:=(first|omega|decide)) only[go_sem,↓reduceIte,seval]
       simp[o_]
     · rintro⟨j,hj⟩
       simp only;have xw:=CH (s.take j) []
       rw[aK,bC,fZ hj,bY]at xw;by_cases Pz:j<s.length
       · have sJ:(j:Int)<(s.length:Int):=by omega
         have e2:=im Pz;have eO:=Xl s j Pz;have ho:=gw _ (ao Pz)
         have hR:RS ((s.take j).foldl jn []):=(zb (a:=[]) trivial (fun r hr=>gw r (b_ hr)) (hup.sublist (j8 _ _)) (fun _ _=>trivial)).1;have fin: ∀m',(s.take (j+1)).foldl jn []=m'-> ∃i:{j:Nat//j<=s.length},(((j:Int)+1=(i.1:Int)/\m'.length=((s.take i.1).foldl jn []).length)/\o_ m'=o_ ((s.take i.1).foldl jn []))/\s.length-i.1<s.length-j:=fun m' oo=>⟨⟨j+1,Pz⟩,⟨⟨by simp,by rw[oo]⟩,by rw[oo]⟩,by show s.length-(j+1)<s.length-j;omega⟩
         generalize hx:s[j]=x at*;generalize(s.take j).foldl jn []=m at*;have okx:=wQ ho;obtain⟨lo,hi,op⟩:=x;have okx':lo.length<=9223372036854775807/\hi.length<=9223372036854775807:=okx;have rP:=fin _ eO;cases m with
         |nil=>
          rw[rowS_nil]
          simp-implicitDefEqProofs (disch:=(first|omega|decide)) only[go_sem,↓reduceIte,seval,sJ,e2,wrap_i64,aa]
          exact rP
         |cons q qs=>
          have hq:=rs_one hR;have okq:=wQ hq;obtain⟨Xm,Xn,qop⟩:=q;have okq':Xm.length<=9223372036854775807/\Xn.length<=9223372036854775807:=okq;rw[lV]at*;have hlq:qs.length+1<=j:=xw
          have cz:(((qs.length+1:Nat):Int)==0)=false:=by
           have:((qs.length+1:Nat):Int)≠0:=by omega
           simpa using this
          have c1:(((qs.length+1:Nat):Int)-1).toNat=qs.length:=by omega
          have c2:(0:Int)<=((qs.length+1:Nat):Int)-1:=by omega
          have c3:((qs.length+1:Nat):Int)-1<((qs.length+1:Nat):Int):=by omega
          have merge:(qop|| !cL Xn lo)=true->jn (⟨Xm,Xn,qop⟩::qs) ⟨lo,hi,op⟩=mC ⟨Xm,Xn,qop⟩ ⟨lo,hi,op⟩::qs:=fun h=>by simp only[jn];rw[if_pos h]
          cases hqo:qop with
          |true=>
           subst hqo;have Pu:=merge (by simp)
           by_cases he:vb ⟨Xm,Xn,true⟩ ⟨lo,hi,op⟩<0
           · have hm:mC ⟨Xm,Xn,true⟩ ⟨lo,hi,op⟩=⟨Xm,hi,op⟩:=by unfold mC;rw[if_pos he]
             rw[Pu,hm,lV]at rP;simp-implicitDefEqProofs (maxSteps:=600000) (disch:=(first|omega|decide)) only[go_sem,↓reduceIte,seval,sJ,e2,okx',okq',cz,c1,c2,c3,he,mU,oR,wrap_i64,aa]
             exact rP
           · have hm:mC ⟨Xm,Xn,true⟩ ⟨lo,hi,op⟩=⟨Xm,Xn,true⟩:=by unfold mC;rw[if_neg he]
             rw[Pu,hm,lV]at rP;simp-implicitDefEqProofs (disch:=(first|omega|decide)) only[go_sem,↓reduceIte,seval,sJ,e2,okx',okq',cz,c1,c2,c3,he,mU,oR,wrap_i64,aa]
             exact rP
          |false=>
           subst hqo;cases hto:cL Xn lo with
           |false=>
              have Pu:=merge (by rw[hto];rfl)
              by_cases he:vb ⟨Xm,Xn,false⟩ ⟨lo,hi,op⟩<0
              · have hm:mC ⟨Xm,Xn,false⟩ ⟨lo,hi,op⟩=⟨Xm,hi,op⟩:=by unfold mC;rw[if_pos he]
                rw[Pu,hm,lV]at rP;simp-implicitDefEqProofs (maxSteps:=600000) (disch:=(first|omega|decide)) only[go_sem,↓reduceIte,seval,sJ,e2,okx',okq',cz,c1,c2,c3,he,hto,mU,oR,wrap_i64,aa]
                exact rP
              · have hm:mC ⟨Xm,Xn,false⟩ ⟨lo,hi,op⟩=⟨Xm,Xn,false⟩:=by unfold mC;rw[if_neg he]
                rw[Pu,hm,lV]at rP;simp-implicitDefEqProofs (disch:=(first|omega|decide)) only[go_sem,↓reduceIte,seval,sJ,e2,okx',okq',cz,c1,c2,c3,he,hto,mU,oR,wrap_i64,aa]
                exact rP
           |true=>
              have Pu:jn (⟨Xm,Xn,false⟩::qs) ⟨lo,hi,op⟩=⟨lo,hi,op⟩::⟨Xm,Xn,false⟩::qs:=by simp only[jn];rw[if_neg (by rw[hto];simp)]
              rw[Pu,lV,lV]at rP;simp-implicitDefEqProofs (disch:=(first|omega|decide)) only[go_sem,↓reduceIte,seval,sJ,e2,okx',okq',cz,c1,c2,c3,hto,mU,oR,NT,rowS_take,wrap_i64,aa]
              exact⟨⟨ai _,by omega⟩,rP⟩
       · have sJ: ¬(j:Int)<(s.length:Int):=by omega
         rw[ad (by omega)]at*;have nr:o_ (s.foldl jn [])=(iC (bh l)).map bk.enc:=by unfold o_;rw[nn]
         have RT:(s.foldl jn []).length=(o_ (s.foldl jn [])).length:=by rw[rU]
         simp-implicitDefEqProofs (disch:=(first|omega|decide)) only[go_sem,↓reduceIte,seval,sJ,wrap_i64,RT,aa,ca]
         rw[nr]
         exact⟨ai _,rfl⟩
set_option maxHeartbeats 4000000
theorem A9:aQ Tryz.prog z' Tryz.f229.ntmps (Tryz.f229.body.getD .skip)=true:=by kernel_rfl
theorem c_rUnion1(x y:Bool):bp Tryz.prog 229 [.bool x,.bool y] (· = .bool (x||y)):=by refine ah kH mixed Tryz.func229 rfl (ab rfl) A9 ?_;unfold Tryz.f229;cases x<;>simp-implicitDefEqProofs (disch:=(first|omega|decide)) only[go_sem,↓reduceIte,seval]
theorem CI:aQ Tryz.prog z' Tryz.f228.ntmps (Tryz.f228.body.getD .skip)=true:=by kernel_rfl
theorem c_rMeet1(x y:Bool):bp Tryz.prog 228 [.bool x,.bool y] (· = .bool (x&&y)):=by refine ah kH mixed Tryz.func228 rfl (ab rfl) CI ?_;unfold Tryz.f228;cases x<;>simp-implicitDefEqProofs (disch:=(first|omega|decide)) only[go_sem,↓reduceIte,seval]
theorem E4:aQ Tryz.prog z' Tryz.f230.ntmps (Tryz.f230.body.getD .skip)=true:=by kernel_rfl
theorem c_rNot1(x y:Bool):bp Tryz.prog 230 [.bool x,.bool y] (· = .bool (!x)):=by refine ah kH mixed Tryz.func230 rfl (ab rfl) E4 ?_;unfold Tryz.f230;cases x<;>simp-implicitDefEqProofs (disch:=(first|omega|decide)) only[go_sem,↓reduceIte,seval]
def S8w:aW:=z'.add 229 (entry (fun(v:Bool×Bool)=>[.bool v.1,.bool v.2]) (fun v=>True) (fun v=> .bool (v.1||v.2)))
theorem S8w_ok:aN Tryz.prog S8w:=kH.dH Tryz.func229 (by kernel_rfl) (by kernel_rfl) fun v h=>c_rUnion1 v.1 v.2
@[go_sem] theorem S8w_old{g:FuncId}{xs:List A}(h:g≠229):S8w.f g xs=z'.f g xs:=aW.aU h
theorem zt(v:Bool×Bool)(h:True):S8w.f 229 [.bool v.1,.bool v.2]=some (.bool (v.1||v.2)):=aW.aZ (Γ:=z') (fun i j h=>by simpa[ag,and_assoc]using h) v h
def S8x:aW:=S8w.add 228 (entry (fun(v:Bool×Bool)=>[.bool v.1,.bool v.2]) (fun v=>True) (fun v=> .bool (v.1&&v.2)))
theorem S8x_ok:aN Tryz.prog S8x:=S8w_ok.dH Tryz.func228 (by kernel_rfl) (by kernel_rfl) fun v h=>c_rMeet1 v.1 v.2
@[go_sem] theorem S8x_old{g:FuncId}{xs:List A}(h:g≠228):S8x.f g xs=S8w.f g xs:=aW.aU h
theorem A_(v:Bool×Bool)(h:True):S8x.f 228 [.bool v.1,.bool v.2]=some (.bool (v.1&&v.2)):=aW.aZ (Γ:=S8w) (fun i j h=>by simpa[ag,and_assoc]using h) v h
def S8y:aW:=S8x
theorem S8y_ok:aN Tryz.prog S8y:=S8x_ok
@[go_sem] theorem S8y_old{g:FuncId}{xs:List A}:S8y.f g xs=S8x.f g xs:=rfl
def S8z:aW:=S8y.add 230 (entry (fun(v:Bool×Bool)=>[.bool v.1,.bool v.2]) (fun v=>True) (fun v=> .bool (!v.1)))
theorem S8z_ok:aN Tryz.prog S8z:=S8y_ok.dH Tryz.func230 (by kernel_rfl) (by kernel_rfl) fun v h=>c_rNot1 v.1 v.2
@[go_sem] theorem S8z_old{g:FuncId}{xs:List A}(h:g≠230):S8z.f g xs=S8y.f g xs:=aW.aU h
theorem CJ(v:Bool×Bool)(h:True):S8z.f 230 [.bool v.1,.bool v.2]=some (.bool (!v.1)):=aW.aZ (Γ:=S8y) (fun i j h=>by simpa[ag,and_assoc]using h) v h
def NU(g:FuncId):Bool:=false||g==229||g==228||g==230
def kpR(g:FuncId):Bool->Bool->Bool:=if g=229 then(· || ·)else if g=228 then(· && ·)else fun x _=> !x
theorem kpR_z{g:FuncId}(h:NU g=true)(x y:Bool):S8z.f g [.bool x,.bool y]=some (.bool (kpR g x y)):=by
 by_cases e1:g=229
 · subst e1
   have h1:=zt (x,y) trivial;show S8z.f _ _=some (.bool (x||y))
   simp-implicitDefEqProofs (disch:=(first|omega|decide)) only[go_sem,↓reduceIte,seval,h1]
 by_cases e2:g=228
 · subst e2
   have h1:=A_ (x,y) trivial;show S8z.f _ _=some (.bool (x&&y))
   simp-implicitDefEqProofs (disch:=(first|omega|decide)) only[go_sem,↓reduceIte,seval,h1]
 by_cases e4:g=230
 · subst e4
   have h1:=CJ (x,y) trivial;show S8z.f _ _=some (.bool (!x))
   simp-implicitDefEqProofs (disch:=(first|omega|decide)) only[go_sem,↓reduceIte,seval,h1]
 exfalso;simp_all[NU]
end Go.Proofs.YtfnohjheonlnmaaGreat
namespace Go.Proofs.YtfnohjheonlnmaaGreat
open Go.dF
set_option linter.unusedSimpArgs false
set_option linter.unusedVariables false
set_option maxRecDepth 20000
set_option maxHeartbeats 8000000
theorem wS(l:List bk):(iC (bh l)).length<=l.length:=by
 rw[<-Uo,er]
 have h1:=CH (EZ l) []
 have h2:=(CG l).length_eq;have h3:=aO bw l;rw[bC]at h1;omega
theorem A'(p:List UInt8->Bool):iG (iC p):=fun r hr=>wQ ((j5.1 (rO p)).1 r hr)
def S8a:aW:=S8z.add 153 (entry (fun(l:List bk)=>[.ay (l.map bk.enc)]) (fun l=>l.length<=1000000/\iG l) (fun l=> .ay ((iC (bh l)).map bk.enc)))
theorem S8a_ok:aN Tryz.prog S8a:=S8z_ok.dH Tryz.func153 (by kernel_rfl) (by kernel_rfl) fun l h=>wR l h.1 h.2
@[go_sem] theorem S8a_old{g:FuncId}{xs:List A}(h:g≠153):S8a.f g xs=S8z.f g xs:=aW.aU h
theorem Lz(l:List bk)(h:l.length<=1000000/\iG l):S8a.f 153 [.ay (l.map bk.enc)]=some (.ay ((iC (bh l)).map bk.enc)):=aW.aZ (Γ:=S8z) (fun i j h=>by simpa[ag,and_assoc]using h) l h
def S8b:aW:=S8a.add 111 (entry (fun(l:List bk)=>[.ay (l.map bk.enc)]) (fun l=>l.length<=1000000/\iG l) (fun l=> .bool (cA l)))
theorem S8b_ok:aN Tryz.prog S8b:=S8a_ok.dH Tryz.func111 (by kernel_rfl) (by kernel_rfl) fun l h=>wJ l (by omega) h.2
@[go_sem] theorem S8b_old{g:FuncId}{xs:List A}(h:g≠111):S8b.f g xs=S8a.f g xs:=aW.aU h
@[go_sem] theorem S8b_s:S8b.pl S8a:=⟨fun _=>rfl,fun _=>rfl,rfl,fun _=>rfl,rfl,fun _=>rfl,rfl⟩
theorem CL(l:List bk)(h:l.length<=1000000/\iG l):S8b.f 111 [.ay (l.map bk.enc)]=some (.bool (cA l)):=aW.aZ (Γ:=S8a) (fun i j h=>by simpa[ag,and_assoc]using h) l h
theorem Up{l:List bk}(h:l.length<=1000000)(h1:iG l):S8a.f 153 [.ay (l.map bk.enc)]=some (.ay ((iC (bh l)).map bk.enc)):=Lz l ⟨h,h1⟩
theorem IV{l:List bk}(h:l.length<=1000000)(h1:iG l):S8b.f 111 [.ay (l.map bk.enc)]=some (.bool (cA l)):=CL l ⟨h,h1⟩
theorem E5:aQ Tryz.prog S8b Tryz.f162.ntmps (Tryz.f162.body.getD .skip)=true:=by kernel_rfl
theorem IW(l:List bk)(h:l.length<=1000000)(h1:iG l):bp Tryz.prog 162 [.ay (l.map bk.enc)] (· = .ay ((iC (bh l)).map bk.enc)):=by
 refine ah S8b_ok mixed Tryz.func162 rfl (ab rfl) E5 ?_;unfold Tryz.f162;have e1:=Up h h1;have e2:=IV h h1;cases hr:cA l with
 |true=>
  rw[hr]at e2;simp-implicitDefEqProofs (maxSteps:=600000) (disch:=(first|omega|decide)) only[go_sem,↓reduceIte,seval,e2,aa]
  rw[setS_self hr]
 |false=>
  rw[hr]at e2;simp-implicitDefEqProofs (maxSteps:=600000) (disch:=(first|omega|decide)) only[go_sem,↓reduceIte,seval,e1,e2,aa]
def S8c:aW:=S8b.add 162 (entry (fun(l:List bk)=>[.ay (l.map bk.enc)]) (fun l=>l.length<=1000000/\iG l) (fun l=> .ay ((iC (bh l)).map bk.enc)))
theorem S8c_ok:aN Tryz.prog S8c:=S8b_ok.dH Tryz.func162 (by kernel_rfl) (by kernel_rfl) fun l h=>IW l h.1 h.2
@[go_sem] theorem S8c_old{g:FuncId}{xs:List A}(h:g≠162):S8c.f g xs=S8b.f g xs:=aW.aU h
theorem CM(l:List bk)(h:l.length<=1000000/\iG l):S8c.f 162 [.ay (l.map bk.enc)]=some (.ay ((iC (bh l)).map bk.enc)):=aW.aZ (Γ:=S8b) (fun i j h=>by simpa[ag,and_assoc]using h) l h
theorem rV{l:List bk}(h:l.length<=1000000)(h1:iG l):S8c.f 162 [.ay (l.map bk.enc)]=some (.ay ((iC (bh l)).map bk.enc)):=CM l ⟨h,h1⟩
def S8d:aW:=S8c.add 255 (entry (fun(v:List bk×List bk)=>[.ay (v.1.map bk.enc),.ay (v.2.map bk.enc)]) (fun v=>v.1.length<=1000000/\v.2.length<=1000000/\(∀r∈v.1,bw r=true)/\(∀r∈v.2,bw r=true)) (fun v=> .ay ((nK v.1 v.2).map .str)))
theorem S8d_ok:aN Tryz.prog S8d:=S8c_ok.dH Tryz.func255 (by kernel_rfl) (by kernel_rfl) fun v h=>IM v.1 v.2 h.1 h.2.1 h.2.2.1 h.2.2.2
@[go_sem] theorem S8d_old{g:FuncId}{xs:List A}(h:g≠255):S8d.f g xs=S8c.f g xs:=aW.aU h
@[go_sem] theorem S8d_s:S8d.pl S8c:=⟨fun _=>rfl,fun _=>rfl,rfl,fun _=>rfl,rfl,fun _=>rfl,rfl⟩
theorem CN(v:List bk×List bk)(h:v.1.length<=1000000/\v.2.length<=1000000/\(∀r∈v.1,bw r=true)/\(∀r∈v.2,bw r=true)):S8d.f 255 [.ay (v.1.map bk.enc),.ay (v.2.map bk.enc)]=some (.ay ((nK v.1 v.2).map .str)):=aW.aZ (Γ:=S8c) (fun i j h=>by simpa[ag,and_assoc]using h) v h
theorem IX{a b:List bk}(ha:a.length<=1000000)(hb:b.length<=1000000)(ra: ∀r∈a,bw r=true)(rb: ∀r∈b,bw r=true):S8d.f 255 [.ay (a.map bk.enc),.ay (b.map bk.enc)]=some (.ay ((nK a b).map .str)):=CN (a,b) ⟨ha,hb,ra,rb⟩
section
variable{a b:List bk}(ra: ∀r∈a,bw r=true)(rb: ∀r∈b,bw r=true)
include ra rb
theorem ZS: ∀s∈gz [[]] (a++b),s.length<=17:=fun s hs=>by
 rcases(nw _ _ _).1 hs with h|⟨r,hr,h⟩
 · simp at h;subst h;simp
 · have hrr:bw r=true:=by
    rcases aJ.1 hr with hr|hr
    · exact ra r hr
    · exact rb r hr
   obtain⟨k1,k2,_,_⟩:=fy hrr;rcases h with rfl|⟨_,rfl⟩
   · exact k1
   · exact k2
theorem uR(x:List UInt8):x∈nK a b ↔ x∈gz [[]] (a++b):=by
 unfold nK;rw[rn]
 exact(kq (ZS ra rb)).1.mem_iff
theorem NV:(nK a b).Pairwise (fun x y=>cL x y=true):=P2 (kq (ZS ra rb)).2
theorem Xo: []∈nK a b:=(uR ra rb []).2 ((nw _ _ _).2 (.inl (by simp)))
theorem NW: ∀e∈nK a b,e.length<=17:=fun e he=>ZS ra rb e ((uR ra rb e).1 he)
theorem IY: ∀r∈a++b,r.lo∈nK a b/\(r.op=false->r.hi∈nK a b):=fun r hr=>⟨(uR ra rb _).2 ((nw _ _ _).2 (.inr ⟨r,hr,.inl rfl⟩)),fun ho=>(uR ra rb _).2 ((nw _ _ _).2 (.inr ⟨r,hr,.inr ⟨ho,rfl⟩⟩))⟩
theorem Xp:(nK a b).length<=1+2*(a.length+b.length):=by
 have h1:=(kq (ZS ra rb)).1.length_eq;have h2:=(lN (a++b) [[]]).2;have h3:=xO (oP (gz [[]] (a++b)))
 rw[aj,dw]at h2;unfold nK;omega
end
theorem IZ{l:List bk}(h:cA l=true){s t:List UInt8}(eO:cL s t=true):dB l s<=dB l t:=by
 rcases fT (dB l t) (dB l s)with bo|hge
 · exfalso
   have hle:=wM l s;have h1:=tR l t (by omega)
   have h2:=wN l s (dB l t) (by omega) bo;rw[h2.1,bu]at h1;have:=fa eO h1;rw[h2.2]at this;cases this
 · exact hge
theorem I0{l:List bk}(h:cA l=true)(ok:iG l)(s:List UInt8): ∃lo hi op,(lo.length<=9223372036854775807/\hi.length<=9223372036854775807)/\
 ((((dB l s:Nat):Int)<(l.length:Int)/\(l.map bk.enc)[dB l s]? =some (.agg [.str lo,.str hi,.bool op])/\((op=true/\((0:Int)==0)=true)\/(op=false/\cL s hi=true))/\bh l s= !cL s lo)\/
  (¬((dB l s:Nat):Int)<(l.length:Int)/\(l.map bk.enc)[dB l s]? =none/\bh l s=false)):=by
 have hf:=A7 h s;by_cases bo:dB l s<l.length
 · rw[dif_pos bo]at hf
   have DS:=tR l s bo;have okx:=oO ok bo;have e:=im bo;generalize l[dB l s]=x at*;obtain⟨lo,hi,op⟩:=x;refine⟨lo,hi,op,okx,.inl ⟨by omega,e, ?_,hf⟩⟩
   cases op with
   |true=>exact .inl ⟨rfl,rfl⟩
   |false=>exact .inr ⟨rfl,by simpa using DS⟩
 · rw[dif_neg bo]at hf
   exact⟨[],[],true,by simp,.inr ⟨by omega,by simp;omega,hf⟩⟩
theorem E6:aQ Tryz.prog S8d Tryz.f227.ntmps (Tryz.f227.body.getD .skip)=true:=by kernel_rfl
theorem c_rsweep(a b:List bk)(g:FuncId)(kp:Bool->Bool->Bool)(hg: ∀x y,S8d.f g [.bool x,.bool y]=some (.bool (kp x y)))(ha:a.length<=100000)(hb:b.length<=100000)(oka:iG a)(okb:iG b):
 bp Tryz.prog 227 [.ay (a.map bk.enc),.ay (b.map bk.enc),.fn g []] (· = .ay ((iC fun s=>kp (bh a s) (bh b s)).map bk.enc)):=by
 refine ah S8d_ok mixed Tryz.func227 rfl (ab rfl) E6 ?_;unfold Tryz.f227;have nr:(fun s=>kp (bh a s) (bh b s))=fun s=>kp (bh (iC (bh a)) s) (bh (iC (bh b)) s):=by funext s;rw[AP,AP]
 rw[nr]
 have e1:=rV (l:=a) (by omega) oka;have e2:=rV (l:=b) (by omega) okb;have lu:=wS a;have lv:=wS b;have ru:=rO (bh a)
 have rv:=rO (bh b)
 have ou:=A' (bh a)
 have ov:=A' (bh b)
 generalize iC (bh a)=u at*;generalize iC (bh b)=v at*;have ru':=(j5.1 ru).1;have rv':=(j5.1 rv).1;have e3:=IX (a:=u) (b:=v) (by omega) (by omega) ru' rv';have lG:=(mk_of (kp:=kp) (a:=u) (b:=v) (NV ru' rv') (Xo ru' rv') (NW ru' rv') (fun r hr _=>IY ru' rv' r (by simp[hr])) (fun r hr _=>IY ru' rv' r (by simp[hr]))).1;have hup:=NV ru' rv';have h17:=NW ru' rv';have hel:=Xp ru' rv';simp-implicitDefEqProofs (maxSteps:=600000) (disch:=(first|omega|decide)) only[go_sem,↓reduceIte,seval,e1,e2,e3,aa]
 rw[<-lG]
 generalize nK u v=e at*;clear e1 e2 e3 lG nr;refine ch 8 3 rfl ?_;refine a_ [0,1,2,6,22,23] (ι:={p:Nat×Nat×Nat//p.1<=e.length/\ ∀s∈e.drop p.1,p.2.1<=dB u s/\p.2.2<=dB v s}) (fun p=>[(24,.int .i64 p.1.1),(10,.int .i64 p.1.2.1),(11,.int .i64 p.1.2.2),(9,.bool (KU (fun s=>kp (bh u s) (bh v s)) (e.take p.1.1)).2),(8,.row 0 0 3 (KU (fun s=>kp (bh u s) (bh v s)) (e.take p.1.1)).1.length false)]) (fun p=>[(0,.row 3 (o_ (KU (fun s=>kp (bh u s) (bh v s)) (e.take p.1.1)).1))]) (fun p=>e.length-p.1.1) ⟨(0,0,0),aw _,fun s _=>⟨aw _,aw _⟩⟩ (aw _) ?_ ?_
 · simp-implicitDefEqProofs (maxSteps:=600000) (disch:=(first|omega|decide)) only[go_sem,↓reduceIte,seval,mc]
   simp[KU,o_]
 · rintro⟨⟨k,i,j⟩,hk,Cc⟩
   simp only at hk Cc⊢;have hlen:=Zl (fun s=>kp (bh u s) (bh v s)) (e.take k) ([],false)
   have hwas:=Zm (fun s=>kp (bh u s) (bh v s)) (e.take k) ([],false) (by simp)
   have xw:(KU (fun s=>kp (bh u s) (bh v s)) (e.take k)).1.length<=k:=by have:(KU (fun s=>kp (bh u s) (bh v s)) (e.take k)).1.length<=0+(e.take k).length:=hlen;rw[aK]at this;omega
   have hwas':(KU (fun s=>kp (bh u s) (bh v s)) (e.take k)).2=true->(KU (fun s=>kp (bh u s) (bh v s)) (e.take k)).1≠ []:=hwas;clear hlen hwas;by_cases bo:k<e.length
   · have aH:(k:Int)<(e.length:Int):=by omega
     have es:=str_get bo;have hs17:=h17 _ (ao bo)
     have eO:=mkS_step (fun s=>kp (bh u s) (bh v s)) e k bo;have hd:e.drop k=e[k]::e.drop (k+1):=ax bo;have hi0:=Cc e[k] (by rw[hd];exact List.mem_cons_self)
     have hlater: ∀s∈e.drop (k+1),dB u e[k]<=dB u s/\dB v e[k]<=dB v s:=fun s hs=>by
      have hp:(e.drop k).Pairwise (fun x y=>cL x y=true):=hup.sublist (List.drop_sublist _ _)
      rw[hd,aR]at hp;exact⟨IZ ru (hp.1 s hs),IZ rv (hp.1 s hs)⟩
     have next: ∀st,KU (fun s=>kp (bh u s) (bh v s)) (e.take (k+1))=st-> ∃q:{p:Nat×Nat×Nat//p.1<=e.length/\ ∀s∈e.drop p.1,p.2.1<=dB u s/\p.2.2<=dB v s},(((k:Int)+1=(q.1.1:Int)/\((dB u e[k]:Nat):Int)=(q.1.2.1:Int)/\((dB v e[k]:Nat):Int)=(q.1.2.2:Int)/\st.2=(KU (fun s=>kp (bh u s) (bh v s)) (e.take q.1.1)).2/\st.1.length=(KU (fun s=>kp (bh u s) (bh v s)) (e.take q.1.1)).1.length)/\o_ st.1=o_ (KU (fun s=>kp (bh u s) (bh v s)) (e.take q.1.1)).1)/\e.length-q.1.1<e.length-k:=fun st h=>⟨⟨(k+1,dB u e[k],dB v e[k]),bo,hlater⟩,⟨⟨by simp,rfl,rfl,by rw[h],by rw[h]⟩,by rw[h]⟩,by show e.length-(k+1)<e.length-k;omega⟩
     have nx:=next _ eO
     have fu:=A7 ru e[k]
     have fv:=A7 rv e[k]
     clear next eO hlater hd Cc
     generalize KU (fun s=>kp (bh u s) (bh v s)) (e.take k)=st at*;simp only[WK]at nx;generalize e[k]=s at*;obtain⟨m,was⟩:=st;simp only at xw hwas' nx⊢;have flu:=wM u s;have flv:=wM v s;simp-implicitDefEqProofs (maxSteps:=600000) (disch:=(first|omega|decide)) only[go_sem,↓reduceIte,seval,aH,es,aa]
     refine a_ [0,1,2,6,13,22,23,24,9,8,11] (ι:={i:Nat//i<=dB u s}) (fun p=>[(10,.int .i64 p.1)]) (fun _=>[]) (fun p=>u.length-p.1) ⟨i,hi0.1⟩ (aw _) ?_ ?_
     · simp-implicitDefEqProofs (maxSteps:=600000) (disch:=(first|omega|decide)) only[go_sem,↓reduceIte,seval]
     · rintro⟨i',jU⟩
       simp only;by_cases hiu:i'<dB u s
       · have hiu2:i'<u.length:=by omega
         have hiu':(i':Int)<(u.length:Int):=by omega
         have eu:=im hiu2;have oku:=oO ou hiu2;obtain⟨p1,p2⟩:=wN u s i' hiu2 hiu;generalize hx:u[i']=x at*;obtain⟨lo,hi,op⟩:=x;simp only at oku p1 p2;subst p1;simp-implicitDefEqProofs (maxSteps:=600000) (disch:=(first|omega|decide)) only[go_sem,↓reduceIte,seval,hiu',eu,oku,p2,wrap_i64,aa]
         exact⟨⟨i'+1,hiu⟩,by simp,by show u.length-(i'+1)<u.length-i';omega⟩
       · have hie:i'=dB u s:=by omega
         subst hie;obtain⟨lo,hi,op,RU,U⟩:=I0 ru ou s;obtain⟨lh,jU,pY,VN,V⟩:=I0 rv ov s;rcases U with⟨hu,gu,⟨rfl,au⟩|⟨rfl,au⟩,xu⟩|⟨hu,gu,xu⟩
         all_goals(first|simp-implicitDefEqProofs (maxSteps:=600000) (disch:=(first|omega|decide)) only[go_sem,↓reduceIte,seval,hu,gu,au,RU,aa]|simp-implicitDefEqProofs (maxSteps:=600000) (disch:=(first|omega|decide)) only[go_sem,↓reduceIte,seval,hu,gu,RU,aa])
         all_goals(refine a_ [0,1,2,6,13,22,23,24,9,8,10] (ι:={i:Nat//i<=dB v s}) (fun p=>[(11,.int .i64 p.1)]) (fun _=>[]) (fun p=>v.length-p.1) ⟨j,hi0.2⟩ (aw _) ?_ ?_)
         all_goals first
          |(simp-implicitDefEqProofs (maxSteps:=600000) (disch:=(first|omega|decide)) only[go_sem,↓reduceIte,seval];done)
          |skip
         all_goals(
          rintro⟨j',BM⟩
          simp only;by_cases hjv:j'<dB v s
          · have hjv2:j'<v.length:=by omega
            have hjv':(j':Int)<(v.length:Int):=by omega
            have ev:=im hjv2;have okv:=oO ov hjv2;obtain⟨p1,p2⟩:=wN v s j' hjv2 hjv;generalize hx:v[j']=x at*;obtain⟨lo2,hi2,op2⟩:=x;simp only at okv p1 p2;subst p1;simp-implicitDefEqProofs (maxSteps:=600000) (disch:=(first|omega|decide)) only[go_sem,↓reduceIte,seval,hjv',ev,okv,p2,wrap_i64,aa]
            exact⟨⟨j'+1,hjv⟩,by simp,by show v.length-(j'+1)<v.length-j';omega⟩
          · have hje:j'=dB v s:=by omega
            subst hje;rcases V with⟨hv,gv,⟨rfl,av⟩|⟨rfl,av⟩,xv⟩|⟨hv,gv,xv⟩
            all_goals(
              cases hP:kp (bh u s) (bh v s)<;>rw[hP]at nx<;>rw[xu,xv]at hP<;>cases was
              · have nx':=nx
                simp only[bm,bG,cv,bN,az,if_false,if_true]at nx';clear nx
                (first|simp-implicitDefEqProofs (maxSteps:=600000) (disch:=(first|omega|decide)) only[go_sem,↓reduceIte,seval,hu,gu,au,RU,hv,gv,av,VN,hg,hP,wrap_i64,aa]|simp-implicitDefEqProofs (maxSteps:=600000) (disch:=(first|omega|decide)) only[go_sem,↓reduceIte,seval,hu,gu,au,RU,hv,gv,VN,hg,hP,wrap_i64,aa]|simp-implicitDefEqProofs (maxSteps:=600000) (disch:=(first|omega|decide)) only[go_sem,↓reduceIte,seval,hu,gu,RU,hv,gv,av,VN,hg,hP,wrap_i64,aa]|simp-implicitDefEqProofs (maxSteps:=600000) (disch:=(first|omega|decide)) only[go_sem,↓reduceIte,seval,hu,gu,RU,hv,gv,VN,hg,hP,wrap_i64,aa])
                exact nx'
              · cases m with
                |nil=>exact absurd rfl (hwas' rfl)
                |cons qq qs=>
                 have hq:qs.length+1<=k:=xw;have c1:(((qs.length+1:Nat):Int)-1).toNat=qs.length:=by omega
                 have c2:(0:Int)<=((qs.length+1:Nat):Int)-1:=by omega
                 have c3:((qs.length+1:Nat):Int)-1<((qs.length+1:Nat):Int):=by omega
                 have nx':=nx;simp only[bm,bG,cv,bN,dO,aI,az,if_false,if_true,lV,aG]at nx';clear nx;rw[lV]
                 (first|simp-implicitDefEqProofs (maxSteps:=600000) (disch:=(first|omega|decide)) only[go_sem,↓reduceIte,seval,hu,gu,au,RU,hv,gv,av,VN,hg,hP,c1,c2,c3,mU,oR,wrap_i64,aa]|simp-implicitDefEqProofs (maxSteps:=600000) (disch:=(first|omega|decide)) only[go_sem,↓reduceIte,seval,hu,gu,au,RU,hv,gv,VN,hg,hP,c1,c2,c3,mU,oR,wrap_i64,aa]|simp-implicitDefEqProofs (maxSteps:=600000) (disch:=(first|omega|decide)) only[go_sem,↓reduceIte,seval,hu,gu,RU,hv,gv,av,VN,hg,hP,c1,c2,c3,mU,oR,wrap_i64,aa]|simp-implicitDefEqProofs (maxSteps:=600000) (disch:=(first|omega|decide)) only[go_sem,↓reduceIte,seval,hu,gu,RU,hv,gv,VN,hg,hP,c1,c2,c3,mU,oR,wrap_i64,aa])
                 exact nx'
              · have nx':=nx
                simp only[bm,bG,cv,bN,dO,az,if_false,if_true,lV,aG]at nx';clear nx;have tk:(o_ m).take m.length=o_ m:=ad (di (rU m))
                have rl:=rU m
                (first|simp-implicitDefEqProofs (maxSteps:=600000) (disch:=(first|omega|decide)) only[go_sem,↓reduceIte,seval,hu,gu,au,RU,hv,gv,av,VN,hg,hP,tk,rl,wrap_i64,aa]|simp-implicitDefEqProofs (maxSteps:=600000) (disch:=(first|omega|decide)) only[go_sem,↓reduceIte,seval,hu,gu,au,RU,hv,gv,VN,hg,hP,tk,rl,wrap_i64,aa]|simp-implicitDefEqProofs (maxSteps:=600000) (disch:=(first|omega|decide)) only[go_sem,↓reduceIte,seval,hu,gu,RU,hv,gv,av,VN,hg,hP,tk,rl,wrap_i64,aa]|simp-implicitDefEqProofs (maxSteps:=600000) (disch:=(first|omega|decide)) only[go_sem,↓reduceIte,seval,hu,gu,RU,hv,gv,VN,hg,hP,tk,rl,wrap_i64,aa])
                exact⟨⟨ai _,by omega⟩,nx'⟩
              · have nx':=nx
                simp only[bm,bG,cv,bN,aI,az,if_false,if_true]at nx';clear nx
                (first|simp-implicitDefEqProofs (maxSteps:=600000) (disch:=(first|omega|decide)) only[go_sem,↓reduceIte,seval,hu,gu,au,RU,hv,gv,av,VN,hg,hP,wrap_i64,aa]|simp-implicitDefEqProofs (maxSteps:=600000) (disch:=(first|omega|decide)) only[go_sem,↓reduceIte,seval,hu,gu,au,RU,hv,gv,VN,hg,hP,wrap_i64,aa]|simp-implicitDefEqProofs (maxSteps:=600000) (disch:=(first|omega|decide)) only[go_sem,↓reduceIte,seval,hu,gu,RU,hv,gv,av,VN,hg,hP,wrap_i64,aa]|simp-implicitDefEqProofs (maxSteps:=600000) (disch:=(first|omega|decide)) only[go_sem,↓reduceIte,seval,hu,gu,RU,hv,gv,VN,hg,hP,wrap_i64,aa])
                exact nx'))
   · have aH: ¬(k:Int)<(e.length:Int):=by omega
     rw[ad (by omega)]at*;have RT:(KU (fun s=>kp (bh u s) (bh v s)) e).1.length=(o_ (KU (fun s=>kp (bh u s) (bh v s)) e).1).length:=by rw[rU]
     simp-implicitDefEqProofs (maxSteps:=600000) (disch:=(first|omega|decide)) only[go_sem,↓reduceIte,seval,aH,wrap_i64,RT,aa,ca]
     exact⟨ai _,rfl⟩
end Go.Proofs.YtfnohjheonlnmaaGreat
namespace Go.Proofs.YtfnohjheonlnmaaGreat
open Go.dF
set_option linter.unusedSimpArgs false
set_option linter.unusedVariables false
set_option linter.unusedSectionVars false
set_option maxRecDepth 20000
set_option maxHeartbeats 8000000
theorem kpR_d{g:FuncId}(h:NU g=true)(x y:Bool):S8d.f g [.bool x,.bool y]=some (.bool (kpR g x y)):=by
 have hz:=kpR_z h x y;have ne: ∀f:FuncId,NU f=false->g≠f:=fun f hf e=>by rw[e,hf]at h;cases h
 rw[S8d_old,S8c_old,S8b_old,S8a_old]
 all_goals first
  |exact hz
  |exact ne _ rfl
def S8e:aW:=S8d.add 227 (entry (fun(v:List bk×List bk×FuncId)=>[.ay (v.1.map bk.enc),.ay (v.2.1.map bk.enc),.fn v.2.2 []]) (fun v=>v.1.length<=100000/\v.2.1.length<=100000/\iG v.1/\iG v.2.1/\NU v.2.2=true) (fun v=> .ay ((iC fun s=>kpR v.2.2 (bh v.1 s) (bh v.2.1 s)).map bk.enc)))
theorem Xq:aN Tryz.prog S8e:=S8d_ok.dH Tryz.func227 (by kernel_rfl) (by kernel_rfl) fun v h=>c_rsweep v.1 v.2.1 v.2.2 (kpR v.2.2) (kpR_d h.2.2.2.2) h.1 h.2.1 h.2.2.1 h.2.2.2.1
@[go_sem] theorem S8e_old{g:FuncId}{xs:List A}(h:g≠227):S8e.f g xs=S8d.f g xs:=aW.aU h
@[go_sem] theorem S8e_s:S8e.pl S8d:=⟨fun _=>rfl,fun _=>rfl,rfl,fun _=>rfl,rfl,fun _=>rfl,rfl⟩
theorem tS(v:List bk×List bk×FuncId)(h:v.1.length<=100000/\v.2.1.length<=100000/\iG v.1/\iG v.2.1/\NU v.2.2=true):S8e.f 227 [.ay (v.1.map bk.enc),.ay (v.2.1.map bk.enc),.fn v.2.2 []]=some (.ay ((iC fun s=>kpR v.2.2 (bh v.1 s) (bh v.2.1 s)).map bk.enc)):=aW.aZ (Γ:=S8d) (fun i j h=>by simpa[ag,and_assoc]using h) v h
section
variable{a b:List bk}(ha:a.length<=100000)(hb:b.length<=100000)(oa:iG a)(ob:iG b)
include ha hb oa ob
theorem s_sweepM:S8e.f 227 [.ay (a.map bk.enc),.ay (b.map bk.enc),.fn 228 []]=some (.ay ((iC fun s=>bh a s&&bh b s).map bk.enc)):=tS (a,b,_) ⟨ha,hb,oa,ob,rfl⟩
end
theorem P7:iG []:=fun _ h=>by cases h
theorem s_sweepN{a:List bk}(ha:a.length<=100000)(oa:iG a):S8e.f 227 [.ay (a.map bk.enc),.ay [],.fn 230 []]=some (.ay ((iC fun s=> !bh a s).map bk.enc)):=tS (a,[],_) ⟨ha,by simp,oa,P7,rfl⟩
theorem I1:aQ Tryz.prog S8e Tryz.f205.ntmps (Tryz.f205.body.getD .skip)=true:=by kernel_rfl
theorem LA(a b:List bk)(ha:a.length<=100000)(hb:b.length<=100000)(oa:iG a)(ob:iG b):bp Tryz.prog 205 [.ay (a.map bk.enc),.ay (b.map bk.enc)] (· = .ay ((iC fun s=>bh a s&&bh b s).map bk.enc)):=by refine ah Xq mixed Tryz.func205 rfl (ab rfl) I1 ?_;unfold Tryz.f205;have h:=s_sweepM ha hb oa ob;simp-implicitDefEqProofs (disch:=(first|omega|decide)) only[go_sem,↓reduceIte,seval,h,aa]
theorem LB:aQ Tryz.prog S8e Tryz.f207.ntmps (Tryz.f207.body.getD .skip)=true:=by kernel_rfl
theorem P8(a:List bk)(ha:a.length<=100000)(oa:iG a):bp Tryz.prog 207 [.ay (a.map bk.enc)] (· = .ay ((iC fun s=> !bh a s).map bk.enc)):=by refine ah Xq mixed Tryz.func207 rfl (ab rfl) LB ?_;unfold Tryz.f207;have h:=s_sweepN ha oa;simp-implicitDefEqProofs (disch:=(first|omega|decide)) only[go_sem,↓reduceIte,seval,h,aa]
def S8f:aW:=S8e.add 163 (entry (fun(v:List bk×List UInt8)=>[.ay (v.1.map bk.enc),.str v.2]) (fun v=>v.1.length<=100000/\iG v.1/\v.2.length<=9223372036854775807/\cA v.1=true) (fun v=> .int .i64 (dB v.1 v.2)))
theorem S8f_ok:aN Tryz.prog S8f:=Xq.dH Tryz.func163 (by kernel_rfl) (by kernel_rfl) fun v h=>Lx v.1 v.2 (by omega) h.2.1 h.2.2.1 h.2.2.2
@[go_sem] theorem S8f_old{g:FuncId}{xs:List A}(h:g≠163):S8f.f g xs=S8e.f g xs:=aW.aU h
@[go_sem] theorem S8f_s:S8f.pl S8e:=⟨fun _=>rfl,fun _=>rfl,rfl,fun _=>rfl,rfl,fun _=>rfl,rfl⟩
theorem E7(v:List bk×List UInt8)(h:v.1.length<=100000/\iG v.1/\v.2.length<=9223372036854775807/\cA v.1=true):S8f.f 163 [.ay (v.1.map bk.enc),.str v.2]=some (.int .i64 (dB v.1 v.2)):=aW.aZ (Γ:=S8e) (fun i j h=>by simpa[ag,and_assoc]using h) v h
theorem LC{l:List bk}{s:List UInt8}(h:l.length<=100000)(h1:iG l)(h2:s.length<=9223372036854775807)(h3:cA l=true):S8f.f 163 [.ay (l.map bk.enc),.str s]=some (.int .i64 (dB l s)):=E7 (l,s) ⟨h,h1,h2,h3⟩
theorem LD:aQ Tryz.prog S8f Tryz.f105.ntmps (Tryz.f105.body.getD .skip)=true:=by kernel_rfl
theorem P9(l:List bk)(s:List UInt8)(hl:l.length<=100000)(ol:iG l)(hs:s.length<=9223372036854775807):bp Tryz.prog 105 [.ay (l.map bk.enc),.str s] (· = .bool (bh l s)):=by
 refine ah S8f_ok mixed Tryz.func105 rfl (ab rfl) LD ?_;unfold Tryz.f105;have e1:=rV (l:=l) (by omega) ol;have lu:=wS l;have ou:=A' (bh l)
 have ru:=rO (bh l)
 have hu:=AP l s;have e2:=LC (l:=iC (bh l)) (s:=s) (by omega) ou hs ru;generalize iC (bh l)=u at*;have fh:=A7 ru s;rw[<-hu]
 by_cases bo:dB u s<u.length
 · rw[dif_pos bo]at fh
   have aH:((dB u s:Nat):Int)<(u.length:Int):=by omega
   have DS:=tR u s bo;have hr:=(j5.1 ru).1 _ (ao bo)
   have eg:=im bo;have rT:=oO ou bo;generalize u[dB u s]=x at*;obtain⟨lo,hi,op⟩:=x
   have hx:eT ⟨lo,hi,op⟩ s=bh u s:=by
    rw[fh,pR,hr]
    unfold S0;rw[DS];simp
   simp only at rT;simp-implicitDefEqProofs (disch:=(first|omega|decide)) only[go_sem,↓reduceIte,seval,e1,e2,aH,eg,rT,hs,hx,aa]
 · rw[dif_neg bo]at fh
   have aH: ¬((dB u s:Nat):Int)<(u.length:Int):=by omega
   simp-implicitDefEqProofs (disch:=(first|omega|decide)) only[go_sem,↓reduceIte,seval,e1,e2,aH,fh,aa]
def R0:aW:=T08d
end Go.Proofs.YtfnohjheonlnmaaGreat
namespace Go.Proofs.YtfnohjheonlnmaaGreat
open Go.dF
set_option linter.unusedSimpArgs false
set_option linter.unusedVariables false
set_option maxRecDepth 20000
set_option maxHeartbeats 4000000
def T12f:aW:=T12e
theorem T12f_ok:aN Tryz.prog T12f:=T12e_ok
@[go_sem] theorem T12f_old{g:FuncId}{xs:List A}:T12f.f g xs=T12e.f g xs:=rfl
def T12g:aW:=T12f
theorem T12g_ok:aN Tryz.prog T12g:=T12f_ok
@[go_sem] theorem T12g_old{g:FuncId}{xs:List A}:T12g.f g xs=T12f.f g xs:=rfl
def T12h:aW:=T12g
theorem T12h_ok:aN Tryz.prog T12h:=T12g_ok
@[go_sem] theorem T12h_old{g:FuncId}{xs:List A}:T12h.f g xs=T12g.f g xs:=rfl
end Go.Proofs.YtfnohjheonlnmaaGreat
namespace Go.Proofs
open Go.Shelf
def YtfnohjheonlnmaaGreat.Uq:Go.Shelf.Ren:=⟨fun|6=>189|15=>222|14=>221|28=>244|29=>245|20=>236|21=>237|22=>238|23=>239|24=>240|25=>241|26=>242|27=>243|46=>266|47=>267|48=>268|49=>269|50=>270|57=>287|n=>n,fun|22=>134|24=>68|25=>205|3=>3|39=>228|0=>0|53=>62|55=>248|4=>4|46=>240|45=>239|50=>244|5=>5|9=>9|66=>261|70=>265|76=>278|77=>279|n=>n,fun|n=>n⟩
theorem YtfnohjheonlnmaaGreat.sortVer:Go.Proofs.SlLaysF0.n6 Tryz.prog YtfnohjheonlnmaaGreat.Uq:={
 mixed:=by kernel_rfl
 f6:=⟨Tryz.f189.name,by decide,Tryz.func189.trans (congrArg some (by kernel_rfl))⟩
 f14:=⟨Tryz.f221.name,by decide,Tryz.func221.trans (congrArg some (by kernel_rfl))⟩
 f15:=Tryz.func222.trans (congrArg some (by kernel_rfl))
 f20:=⟨Tryz.f236.name,by decide,Tryz.func236.trans (congrArg some (by kernel_rfl))⟩
 f21:=⟨Tryz.f237.name,by decide,Tryz.func237.trans (congrArg some (by kernel_rfl))⟩
 f22:=⟨Tryz.f238.name,by decide,Tryz.func238.trans (congrArg some (by kernel_rfl))⟩
 f23:=⟨Tryz.f239.name,by decide,Tryz.func239.trans (congrArg some (by kernel_rfl))⟩
 f24:=⟨Tryz.f240.name,by decide,Tryz.func240.trans (congrArg some (by kernel_rfl))⟩
 f25:=⟨Tryz.f241.name,by decide,Tryz.func241.trans (congrArg some (by kernel_rfl))⟩
 f26:=⟨Tryz.f242.name,by decide,Tryz.func242.trans (congrArg some (by kernel_rfl))⟩
 f27:=⟨Tryz.f243.name,by decide,Tryz.func243.trans (congrArg some (by kernel_rfl))⟩
 f28:=Tryz.func244.trans (congrArg some (by kernel_rfl))
 f29:=Tryz.func245.trans (congrArg some (by kernel_rfl))
 f46:=⟨Tryz.f266.name,by decide,Tryz.func266.trans (congrArg some (by kernel_rfl))⟩
 f47:=Tryz.func267.trans (congrArg some (by kernel_rfl))
 f48:=Tryz.func268.trans (congrArg some (by kernel_rfl))
 f49:=⟨Tryz.f269.name,by decide,Tryz.func269.trans (congrArg some (by kernel_rfl))⟩
 f50:=⟨Tryz.f270.name,by decide,Tryz.func270.trans (congrArg some (by kernel_rfl))⟩
 f57:=⟨Tryz.f287.name,by decide,Tryz.func287.trans (congrArg some (by kernel_rfl))⟩
 t0:=Tryz.underlying0
 a0:=Tryz.isAgg0
 z0:=Tryz.sizeOf0
 v0:=Tryz.zeroValue0
 t3:=Tryz.underlying3
 a3:=Tryz.isAgg3
 z3:=Tryz.sizeOf3
 v3:=Tryz.zeroValue3
 t4:=Tryz.underlying4
 a4:=Tryz.isAgg4
 z4:=Tryz.sizeOf4
 v4:=Tryz.zeroValue4
 t5:=Tryz.underlying5
 a5:=Tryz.isAgg5
 z5:=Tryz.sizeOf5
 v5:=Tryz.zeroValue5
 t9:=Tryz.underlying9
 a9:=Tryz.isAgg9
 z9:=Tryz.sizeOf9
 v9:=Tryz.zeroValue9
 t22:=Tryz.underlying134
 a22:=Tryz.isAgg134
 z22:=Tryz.sizeOf134
 v22:=Tryz.zeroValue134
 t25:=Tryz.underlying205
 a25:=Tryz.isAgg205
 z25:=Tryz.sizeOf205
 v25:=Tryz.zeroValue205
 t39:=Tryz.underlying228
 a39:=Tryz.isAgg228
 z39:=Tryz.sizeOf228
 v39:=Tryz.zeroValue228
 t45:=Tryz.underlying239
 a45:=Tryz.isAgg239
 z45:=Tryz.sizeOf239
 v45:=Tryz.zeroValue239
 t46:=Tryz.underlying240
 a46:=Tryz.isAgg240
 z46:=Tryz.sizeOf240
 v46:=Tryz.zeroValue240
 t50:=Tryz.underlying244
 a50:=Tryz.isAgg244
 z50:=Tryz.sizeOf244
 v50:=Tryz.zeroValue244
 t53:=Tryz.underlying62
 a53:=Tryz.isAgg62
 z53:=Tryz.sizeOf62
 v53:=Tryz.zeroValue62
 t55:=Tryz.underlying248
 a55:=Tryz.isAgg248
 z55:=Tryz.sizeOf248
 v55:=Tryz.zeroValue248
 t66:=Tryz.underlying261
 a66:=Tryz.isAgg261
 z66:=Tryz.sizeOf261
 v66:=Tryz.zeroValue261
 t70:=Tryz.underlying265
 a70:=Tryz.isAgg265
 z70:=Tryz.sizeOf265
 v70:=Tryz.zeroValue265
 t76:=Tryz.underlying278
 a76:=Tryz.isAgg278
 z76:=Tryz.sizeOf278
 v76:=Tryz.zeroValue278
 t77:=Tryz.underlying279
 a77:=Tryz.isAgg279
 z77:=Tryz.sizeOf279
 v77:=Tryz.zeroValue279}
end Go.Proofs
namespace Go.Proofs.YtfnohjheonlnmaaGreat
open Go.dF
set_option linter.unusedSimpArgs false
set_option linter.unusedVariables false
set_option maxRecDepth 20000
set_option maxHeartbeats 4000000
theorem lp{a b:eU}:EN a b=true ↔ a.r<b.r\/(a.r=b.r/\a.c<b.c):=by simp[EN]
theorem P_{a b:eU}(h1:a.r=b.r)(h2:a.c=b.c):a=b:=by cases a;cases b;simp_all
theorem Gl{a b:eU}:lL a b<0 ↔ EN a b=true:=by
 unfold lL;by_cases h:a=b
 · subst h
   have: ¬EN a a=true:=by rw[lp];omega
   simp[this]
 · cases hl:EN a b<;>simp[h]
theorem swoV:Go.Sort.SWO (Go.Proofs.ltOf lL):=by
 have hl: ∀a b,Go.Proofs.ltOf lL a b=EN a b:=fun a b=>by
  unfold Go.Proofs.ltOf;cases h:EN a b
  · have: ¬lL a b<0:=by rw[Gl,h];simp
    simpa using this
  · have:lL a b<0:=by rw[Gl,h]
    simpa using this
 refine⟨fun x=> ?_,fun x y z h1 h2=> ?_,fun x y z h1 h2=> ?_⟩
 · rw[hl];cases h:EN x x
   · rfl
   · rw[lp]at h;omega
 · rw[hl]at*
   rw[lp]at*;omega
 · rw[hl]at*
   rw[<-dI]at*;rw[lp]at*;omega
def TC:aW:={PC with fix:=fun n=>n==0,nf:=1}
theorem TC_ok:aN Tryz.prog TC:=⟨uN.f,uN.hp⟩
@[go_sem] theorem TC_ords{n:Nat}:TC.fS n=[]:=rfl
theorem iv:aQ Tryz.prog TC Tryz.f191.ntmps (Tryz.f191.body.getD .skip)=true:=by kernel_rfl
theorem Ba(l:List eU)(hl:l.length<=4611686018427387903):jb Tryz.prog 191 [.row 0 0 2 l.length false] [.row 2 (l.map eU.enc)]
 (.row 0 0 2 (cU l).length false) [.row 2 ((cU l++List.replicate (l.length-(cU l).length) (⟨0,0⟩:eU)).map eU.enc)] []:=by
 refine e_ TC_ok mixed Tryz.func191 rfl (ab rfl) (fun n h _=>by simp at h;subst h;rfl) (by show _<=1;simp) (by show 1<=_;simp) iv ?_;unfold Tryz.f191;by_cases h2:(l.length:Int)<2
 · have hc:cU l=l:=by
    match l,h2 with
    | [],_=>rfl
    | [x],_=>rfl
    |_::_::_,h=>simp at h;omega
   rw[hc]
   simp-implicitDefEqProofs (disch:=(first|omega|decide)) only[go_sem,↓reduceIte,seval,h2,aa]
   simp
 · simp-implicitDefEqProofs (disch:=(first|omega|decide)) only[go_sem,↓reduceIte,seval,h2,aa]
   refine a_ [0] (ι:={k:Nat//1<=k/\k<=l.length/\cU (l.take k)=l.take k}) (fun p=>[(3,.int .i64 p.1)]) (fun _=>[]) (fun p=>l.length-p.1) ⟨1,by omega,by omega,by match l with| []=>rfl| [x]=>rfl|x::y::l=>rfl⟩ (by show 1<=_;simp) ?_ ?_
   · simp-implicitDefEqProofs (disch:=(first|omega|decide)) only[go_sem,↓reduceIte,seval]
   · rintro⟨k,qD,hk,hd⟩
     simp only;by_cases bo:k<l.length
     · have aH:(k:Int)<(l.length:Int):=by omega
       have iB:=uP qD bo;have e1:(l.map eU.enc)[k]? =some (.agg [.int .i64 l[k].r,.int .i64 l[k].c]):=by rw[aT,ae bo];rfl
       have e0:(l.map eU.enc)[k-1]? =some (.agg [.int .i64 l[k-1].r,.int .i64 l[k-1].c]):=by rw[aT,ae (by omega)];rfl
       have t0:((k:Int)-1).toNat=k-1:=by omega
       have b0:(0:Int)<=(k:Int)-1:=by omega
       have b1:(k:Int)-1<(l.length:Int):=by omega
       generalize hx:l[k]=x at e1 iB;generalize hy:l[k-1]=y at e0 iB;obtain⟨r,c1⟩:=x;obtain⟨r',c1'⟩:=y;have next:(⟨r',c1'⟩:eU)≠⟨r,c1⟩->cU (l.take (k+1))=l.take (k+1):=fun eH=>by rw[iB,if_neg eH,hd,<-hx];exact ar bo
       cases h3:r==r' with
       |true=>
        cases h4:c1==c1' with
        |true=>
         obtain rfl:r=r':=by simpa using h3
         obtain rfl:c1=c1':=by simpa using h4
         have b2:(k:Int)<=(l.length:Int):=by omega
         rw[if_pos rfl]at iB;have hlen:(cU (l.take (k+1))).length=k:=by rw[iB,hd,aK];omega
         have tk:((l.length:Int)-(k:Int)).toNat=l.length-k:=by omega
         simp-implicitDefEqProofs (disch:=(first|omega|decide)) only[go_sem,↓reduceIte,seval,aH,e1,e0,t0,b0,b1,b2,tk,h3,h4,wrap_i64,aa,cT]
         clear next e1 e0 hx hy h3 h4 t0 b0
         refine a_ [0,4] (ι:={p:Nat×Nat×List eU//1<=p.1/\k+p.1<=l.length/\p.2.1=(cU (l.take (k+p.1))).length/\p.2.2.length=l.length/\p.2.2.take p.2.1=cU (l.take (k+p.1))/\p.2.2.drop (k+p.1-1)=l.drop (k+p.1-1)/\p.2.1<=k+p.1-1}) (fun p=>[(3,.int .i64 p.1.2.1),(5,.int .i64 p.1.1)]) (fun p=>[(0,.row 2 (p.1.2.2.map eU.enc))]) (fun p=>l.length-p.1.1) ⟨(1,k,l),by omega,bo,hlen.symm,rfl,by rw[iB,hd],rfl,by show k<=k+1-1;omega⟩ (by show 1<=_;simp) ?_ ?_
         · simp-implicitDefEqProofs (disch:=(first|omega|decide)) only[go_sem,↓reduceIte,seval]
         · rintro⟨⟨j,m,e⟩,hj1,hj,hm,he,RQ,hdr,hmj⟩
           simp only at hj1 hj hm he RQ hdr hmj
           have get: ∀i,k+j-1<=i->e[i]? =l[i]? :=fun i hi=>by
            have:=congrArg (fun x:List eU=>x[i-(k+j-1)]?) hdr;simp only[eB]at this
            rwa [show k+j-1+(i-(k+j-1))=i by omega]at this
           by_cases hq:k+j<l.length
           · have RP:(j:Int)<((l.length-k:Nat):Int):=by omega
             have iB:=uP (l:=l) (k:=k+j) (by omega) hq;have e1:(e.map eU.enc)[k+j]? =some (.agg [.int .i64 l[k+j].r,.int .i64 l[k+j].c]):=by rw[aT,get _ (by omega),ae hq];rfl
             have e0:(e.map eU.enc)[k+(j-1)]? =some (.agg [.int .i64 l[k+j-1].r,.int .i64 l[k+j-1].c]):=by rw[aT,get _ (by omega),show k+(j-1)=k+j-1 by omega,ae (by omega)];rfl
             have t0:((j:Int)-1).toNat=j-1:=by omega
             have b0:(0:Int)<=(j:Int)-1:=by omega
             have b3:(j:Int)-1<((l.length-k:Nat):Int):=by omega
             generalize hx:l[k+j]=x at e1 iB;generalize hy:l[k+j-1]=y at e0 iB;obtain⟨r,c1⟩:=x;obtain⟨r',c1'⟩:=y
             have hdr2:e.drop (k+(j+1)-1)=l.drop (k+(j+1)-1):=by
              have:=congrArg (List.drop 1) hdr
              rwa [eJ,eJ,show k+j-1+1=k+(j+1)-1 by omega]at this
             have b4:(m:Int)<(l.length:Int):=by omega
             have b5:m<e.length:=by omega
             have next:(⟨r',c1'⟩:eU)≠⟨r,c1⟩->(m+1=(cU (l.take (k+(j+1)))).length/\(e.set m ⟨r,c1⟩).length=l.length/\(e.set m ⟨r,c1⟩).take (m+1)=cU (l.take (k+(j+1)))/\(e.set m ⟨r,c1⟩).drop (k+(j+1)-1)=l.drop (k+(j+1)-1)/\m+1<=k+(j+1)-1):=fun eH=>by
              rw[if_neg eH]at iB;have IK:cU (l.take (k+(j+1)))=cU (l.take (k+j))++[⟨r,c1⟩]:=iB;refine⟨by rw[IK,aj,<-hm];rfl,by rw[dd,he], ?_, ?_,by omega⟩
              · rw[IK,<-RQ,<-ar (by rw[dd];exact b5),oG (ai _)]
                simp
              · rw[oH (by omega)];exact hdr2
             have lG:fE (e.map eU.enc) m (.agg [.int .i64 r,.int .i64 c1])=(e.set m ⟨r,c1⟩).map eU.enc:=by rw[lT,jX];rfl
             have em:(e.map eU.enc)[m]? =some (.agg [.int .i64 e[m].r,.int .i64 e[m].c]):=by rw[aT,ae b5];rfl
             have spl2: ∀a b x y:A,jI [a,b] 0 [x,y]=[x,y]:=fun _ _ _ _=>rfl;cases h3:r==r' with
             |true=>
              cases h4:c1==c1' with
              |true=>
               obtain rfl:r=r':=by simpa using h3
               obtain rfl:c1=c1':=by simpa using h4
               rw[if_pos rfl]at iB;simp-implicitDefEqProofs (disch:=(first|omega|decide)) only[go_sem,↓reduceIte,seval,RP,e1,e0,t0,b0,b3,h3,h4,wrap_i64,aa,cT]
               exact⟨⟨(j+1,m,e),by show 1<=j+1;omega,by show k+(j+1)<=_;omega,by show m=(cU (l.take (k+j+1))).length;rw[iB,hm],he,by show e.take m=cU (l.take (k+j+1));rw[iB,RQ],hdr2,by show m<=k+(j+1)-1;omega⟩,⟨⟨rfl,by simp⟩,rfl⟩,by show l.length-(j+1)<l.length-j;omega⟩
              |false=>
               have eH:c1≠c1':=by simpa using h4
               simp-implicitDefEqProofs (disch:=(first|omega|decide)) only[go_sem,↓reduceIte,seval,RP,e1,e0,t0,b0,b3,b4,h3,h4,em,lG,spl2,wrap_i64,aa,cT]
               exact⟨⟨(j+1,m+1,e.set m ⟨r,c1⟩),by show 1<=j+1;omega,by show k+(j+1)<=_;omega,next (by simp[fw eH])⟩,⟨⟨by simp,by simp⟩,rfl⟩,by show l.length-(j+1)<l.length-j;omega⟩
             |false=>
              have eH:r≠r':=by simpa using h3
              simp-implicitDefEqProofs (disch:=(first|omega|decide)) only[go_sem,↓reduceIte,seval,RP,e1,e0,t0,b0,b3,b4,h3,em,lG,spl2,wrap_i64,aa,cT]
              exact⟨⟨(j+1,m+1,e.set m ⟨r,c1⟩),by show 1<=j+1;omega,by show k+(j+1)<=_;omega,next (by simp[fw eH])⟩,⟨⟨by simp,by simp⟩,rfl⟩,by show l.length-(j+1)<l.length-j;omega⟩
           · have RP: ¬(j:Int)<((l.length-k:Nat):Int):=by omega
             have b4:(m:Int)<=(l.length:Int):=by omega
             have tm:((l.length:Int)-(m:Int)).toNat=l.length-m:=by omega
             have mP:k+j=l.length:=by omega
             rw[mP,ad (ai _)]at hm RQ;have b6:m+(l.length-m)=l.length:=by omega
             have b7:l.length<=e.length:=by omega
             have b8:(e.map eU.enc).drop l.length=[]:=by rw[aC (by rw[aa];omega)]
             have tm0:((m:Int)-0).toNat=m:=by omega
             simp-implicitDefEqProofs (disch:=(first|omega|decide)) only[go_sem,↓reduceIte,seval,RP,b4,tm,tm0,b6,b7,b8,aa,cT]
             refine⟨hm, ?_⟩
             rw[bz,<-RQ,iw,l5,RQ,<-hm];rfl
        |false=>
         have eH:c1≠c1':=by simpa using h4
         simp-implicitDefEqProofs (disch:=(first|omega|decide)) only[go_sem,↓reduceIte,seval,aH,e1,e0,t0,b0,b1,h3,h4,wrap_i64,aa]
         exact⟨⟨k+1,by omega,bo,next (by simp[fw eH])⟩,by simp,by show l.length-(k+1)<l.length-k;omega⟩
       |false=>
        have eH:r≠r':=by simpa using h3
        simp-implicitDefEqProofs (disch:=(first|omega|decide)) only[go_sem,↓reduceIte,seval,aH,e1,e0,t0,b0,b1,h3,wrap_i64,aa]
        exact⟨⟨k+1,by omega,bo,next (by simp[fw eH])⟩,by simp,by show l.length-(k+1)<l.length-k;omega⟩
     · have aH: ¬(k:Int)<(l.length:Int):=by omega
       have hc:cU l=l:=by rw[ad (by omega)]at hd;exact hd
       rw[hc]
       simp-implicitDefEqProofs (disch:=(first|omega|decide)) only[go_sem,↓reduceIte,seval,aH,aa]
       simp
theorem jK{Γ:aW}{g:Go.FuncId}{e:List A->List Go.dF.Obj->Option (A×List Go.dF.Obj×List Nat)}{xs:List A}{H:List Go.dF.Obj}:(Γ.kz g e).hp g xs H=e xs H:=if_pos rfl
theorem xB{Γ:aW}{g h:Go.FuncId}{e:List A->List Go.dF.Obj->Option (A×List Go.dF.Obj×List Nat)}{xs:List A}{H:List Go.dF.Obj}(hn:h≠g):(Γ.kz g e).hp h xs H=Γ.hp h xs H:=if_neg hn
theorem zu(l:List eU)(hl:l.length<4611686018427387904):jb Tryz.prog 189 [.row 0 0 2 l.length false,.fn 190 []] [.row 2 (l.map eU.enc)]
 (.fq []) [.row 2 ((gZ lL l).map eU.enc)] []:=
 wE Go.Proofs.YtfnohjheonlnmaaGreat.sortVer (by omega) Tryz.isAgg68 Tryz.sizeOf68 eU.cells (fun _=>rfl) (fun x a ha=>by simp only[eU.cells,aD,cN,or_false]at ha;rcases ha with rfl|rfl<;>rfl) lL swoV (dE Tryz.func190 (by kernel_rfl) (by kernel_rfl)) (fun x y=>tb x y) l hl false
def sE(l:List eU):List A:=[.row 0 0 2 l.length false,.fn 190 []]
def sO(l:List eU):List Go.dF.Obj:=[.row 2 (l.map eU.enc)]
def sK(l:List eU):Prop:=l.length<4611686018427387904
def sR(l:List eU):A×List Go.dF.Obj×List Nat:=(.fq [],[.row 2 ((gZ lL l).map eU.enc)],[])
def cE(l:List eU):List A:=[.row 0 0 2 l.length false]
def cK(l:List eU):Prop:=l.length<=4611686018427387903
def cR(l:List eU):A×List Go.dF.Obj×List Nat:=(.row 0 0 2 (cU l).length false,[.row 2 ((cU l++List.replicate (l.length-(cU l).length) (⟨0,0⟩:eU)).map eU.enc)],[])
theorem sO_inj(i j:List eU)(h:sO i=sO j):i=j:=by simpa[sO]using h
def TSa:aW:=T12h.kz 189 (dG sE sO sK sR)
def TSb:aW:=TSa.kz 191 (dG cE sO cK cR)
def TS:aW:={TSb with sg:=fun f=>f==189||f==191}
theorem TSa_ok:aN Tryz.prog TSa:=T12h_ok.kz (dE Tryz.func189 (by kernel_rfl) (by kernel_rfl)) (gm fun l h=>zu l h)
theorem TSb_ok:aN Tryz.prog TSb:=TSa_ok.kz (dE Tryz.func191 (by kernel_rfl) (by kernel_rfl)) (gm fun l h=>Ba l h)
theorem TS_ok:aN Tryz.prog TS:=⟨TSb_ok.f,TSb_ok.hp⟩
@[go_sem] theorem TS_f:TS.f=T12h.f:=rfl
@[go_sem] theorem TS_eff{g:FuncId}:TS.sg g=(g==189||g==191):=rfl
@[go_sem] theorem TS_frz{g:FuncId}:TS.xk g=false:=rfl
@[go_sem] theorem TS_fix{n:Nat}:TS.fix n=false:=rfl
@[go_sem] theorem TS_ords{n:Nat}:TS.fS n=[]:=rfl
theorem TS_sort{l:List eU}{n:Nat}(hn:n=l.length)(h:l.length<4611686018427387904):TS.hp 189 [.row 0 0 2 n false,.fn 190 []] [.row 2 (l.map eU.enc)]=some (.fq [],[.row 2 ((gZ lL l).map eU.enc)],[]):=by
 subst hn
 have h1:TS.hp 189 (sE l) (sO l)=dG sE sO sK sR (sE l) (sO l):=by
  have h2:TSb.hp 189 (sE l) (sO l)=TSa.hp 189 (sE l) (sO l):=xB (by decide)
  have h3:TSa.hp 189 (sE l) (sO l)=dG sE sO sK sR (sE l) (sO l):=jK;exact h2.trans h3
 exact h1.trans (gn (fun i j _ h=>sO_inj i j h) l h)
theorem TS_comp{l:List eU}{n:Nat}(hn:n=l.length)(h:l.length<=4611686018427387903):TS.hp 191 [.row 0 0 2 n false] [.row 2 (l.map eU.enc)]=some (.row 0 0 2 (cU l).length false,[.row 2 ((cU l++List.replicate (l.length-(cU l).length) (⟨0,0⟩:eU)).map eU.enc)],[]):=by
 subst hn;have h1:TS.hp 191 (cE l) (sO l)=dG cE sO cK cR (cE l) (sO l):=by have h2:TSb.hp 191 (cE l) (sO l)=dG cE sO cK cR (cE l) (sO l):=jK;exact h2
 exact h1.trans (gn (fun i j _ h=>sO_inj i j h) l h)
def jN(l:List eU):List eU:=cU (gZ lL (l.filter cm))
theorem Bb:aQ Tryz.prog TS Tryz.f147.ntmps (Tryz.f147.body.getD .skip)=true:=by kernel_rfl
theorem CO(l:List eU)(hl:l.length<=1000000):bp Tryz.prog 147 [.ay (l.map eU.enc)] (· = .ay ((jN l).map eU.enc)):=by
 refine ah TS_ok mixed Tryz.func147 rfl (ab rfl) Bb ?_;unfold Tryz.f147;simp-implicitDefEqProofs (disch:=(first|omega|decide)) only[go_sem,↓reduceIte,seval,aa]
 refine ch 3 2 rfl ?_;refine a_ [0,2,6,7] (ι:={k:Nat//k<=l.length}) (fun p=>[(8,.int .i64 p.1),(3,.row 0 0 2 ((l.take p.1).filter cm).length false)]) (fun p=>[(0,.row 2 (((l.take p.1).filter cm).map eU.enc))]) (fun p=>l.length-p.1) ⟨0,by omega⟩ (aw _) ?_ ?_
 · simp-implicitDefEqProofs (disch:=(first|omega|decide)) only[go_sem,↓reduceIte,seval]
   simp
 · rintro⟨k,hk⟩
   simp only;have hf:((l.take k).filter cm).length<=k:=aL (aO _ _) (by rw[aK];omega)
   by_cases bo:k<l.length
   · have aH:(k:Int)<(l.length:Int):=by omega
     have ht:l.take (k+1)=l.take k++[l[k]]:=(ar bo).symm;generalize hx:l[k]=x at ht;obtain⟨r,c⟩:=x;have e1:(l.map eU.enc)[k]? =some (.agg [.int .i64 r,.int .i64 c]):=by rw[aT,ae bo,hx];rfl
     cases hr:cm ⟨r,c⟩with
     |true=>
      simp-implicitDefEqProofs (disch:=(first|omega|decide)) only[go_sem,↓reduceIte,seval,aH,e1,hr,wrap_i64,aa]
      refine⟨⟨ai _,by omega⟩,⟨k+1,bo⟩,⟨⟨by simp, ?_⟩, ?_⟩,by show l.length-(k+1)<l.length-k;omega⟩
      · rw[ht,bP];simp[hr]
      · rw[ht,bP,ad (by simp)];simp[hr,eU.enc,eU.cells]
     |false=>
      simp-implicitDefEqProofs (disch:=(first|omega|decide)) only[go_sem,↓reduceIte,seval,aH,e1,hr,wrap_i64,aa]
      refine⟨⟨k+1,bo⟩,⟨⟨by simp, ?_⟩, ?_⟩,by show l.length-(k+1)<l.length-k;omega⟩
      · rw[ht,bP];simp[hr]
      · rw[ht,bP];simp[hr]
   · have aH: ¬(k:Int)<(l.length:Int):=by omega
     rw[ad (by omega)]at*;have hs:=TS_sort (l:=l.filter cm) rfl (by omega)
     have hp:=(i_ swoV (l.filter cm)).1.length_eq;have hc:=TS_comp (l:=gZ lL (l.filter cm)) (n:=(l.filter cm).length) hp.symm (by omega)
     simp-implicitDefEqProofs (disch:=(first|omega|decide)) only[go_sem,↓reduceIte,seval,aH,hs,hc,aa,cx,cr]
     refine⟨by rw[aj];omega, ?_⟩
     rw[bz,cO (by simp),ad (by simp)];rfl
set_option maxHeartbeats 8000000
def Xr:aW:=L14g.add 170 (entry (fun(v:List UInt8×List UInt8)=>[.str v.1,.str v.2]) (fun v=>v.1.length<=9223372036854775807/\v.2.length<=9223372036854775807) (fun v=> .int .i64 (fC v.1 v.2)))
theorem P15a_ok:aN Tryz.prog Xr:=L14g_ok.dH Tryz.func170 (by kernel_rfl) (by kernel_rfl) fun v h=>Cg v.1 v.2 h.1 h.2
@[go_sem] theorem P15a_old{g:FuncId}{xs:List A}(h:g≠170):Xr.f g xs=L14g.f g xs:=aW.aU h
theorem Qa(v:List UInt8×List UInt8)(h:v.1.length<=9223372036854775807/\v.2.length<=9223372036854775807):Xr.f 170 [.str v.1,.str v.2]=some (.int .i64 (fC v.1 v.2)):=aW.aZ (Γ:=L14g) (fun i j h=>by simpa[ag,and_assoc]using h) v h
def Xs:aW:=Xr.add 128 (entry (fun(s:List UInt8)=>[.str s]) (fun s=>s.length<=9223372036854775807) (fun s=> .bool (decide (1<=s.length/\s.length<=16))))
theorem P15b_ok:aN Tryz.prog Xs:=P15a_ok.dH Tryz.func128 (by kernel_rfl) (by kernel_rfl) fun s h=>D4 s h
@[go_sem] theorem P15b_old{g:FuncId}{xs:List A}(h:g≠128):Xs.f g xs=Xr.f g xs:=aW.aU h
theorem I2(s:List UInt8)(h:s.length<=9223372036854775807):Xs.f 128 [.str s]=some (.bool (decide (1<=s.length/\s.length<=16))):=aW.aZ (Γ:=Xr) (fun i j h=>by simpa[ag,and_assoc]using h) s h
def Xt:aW:=Xs.add 150 (entry (fun(v:List UInt8×List UInt8)=>[.str v.1,.str v.2]) (fun v=>v.1.length<=9223372036854775807/\v.2.length<=9223372036854775807) (fun v=> .bool (fC v.1 v.2== -1)))
theorem P15c_ok:aN Tryz.prog Xt:=P15b_ok.dH Tryz.func150 (by kernel_rfl) (by kernel_rfl) fun v h=>AE v.1 v.2 h.1 h.2
@[go_sem] theorem P15c_old{g:FuncId}{xs:List A}(h:g≠150):Xt.f g xs=Xs.f g xs:=aW.aU h
theorem E9(v:List UInt8×List UInt8)(h:v.1.length<=9223372036854775807/\v.2.length<=9223372036854775807):Xt.f 150 [.str v.1,.str v.2]=some (.bool (fC v.1 v.2== -1)):=aW.aZ (Γ:=Xs) (fun i j h=>by simpa[ag,and_assoc]using h) v h
def Xu:aW:=Xt.add 129 (entry (fun(s:List UInt8)=>[.str s]) (fun s=>s.length<=9223372036854775807) (fun s=> .bool (decide (1<=s.length/\s.length<=16))))
theorem P15d_ok:aN Tryz.prog Xu:=P15c_ok.dH Tryz.func129 (by kernel_rfl) (by kernel_rfl) fun s h=>yz s h
@[go_sem] theorem P15d_old{g:FuncId}{xs:List A}(h:g≠129):Xu.f g xs=Xt.f g xs:=aW.aU h
theorem CP(s:List UInt8)(h:s.length<=9223372036854775807):Xu.f 129 [.str s]=some (.bool (decide (1<=s.length/\s.length<=16))):=aW.aZ (Γ:=Xt) (fun i j h=>by simpa[ag,and_assoc]using h) s h
def Xv:aW:=Xu.add 169 (entry (fun(r:List UInt8×List UInt8×Bool)=>[.agg [.str r.1,.str r.2.1,.bool r.2.2]]) (fun r=>r.1.length<=9223372036854775807/\r.2.1.length<=9223372036854775807) (fun r=> .bool (bw ⟨r.1,r.2.1,r.2.2⟩)))
theorem P15e_ok:aN Tryz.prog Xv:=P15d_ok.dH Tryz.func169 (by kernel_rfl) (by kernel_rfl) fun r h=>AG r.1 r.2.1 r.2.2 h.1 h.2
@[go_sem] theorem P15e_old{g:FuncId}{xs:List A}(h:g≠169):Xv.f g xs=Xu.f g xs:=aW.aU h
theorem E_(r:List UInt8×List UInt8×Bool)(h:r.1.length<=9223372036854775807/\r.2.1.length<=9223372036854775807):Xv.f 169 [.agg [.str r.1,.str r.2.1,.bool r.2.2]]=some (.bool (bw ⟨r.1,r.2.1,r.2.2⟩)):=aW.aZ (Γ:=Xu) (fun i j h=>by simpa[ag,and_assoc]using h) r h
def Xw:aW:=Xv.add 143 (entry (fun(r:List UInt8×List UInt8×Bool)=>[.agg [.str r.1,.str r.2.1,.bool r.2.2]]) (fun r=>r.1.length<=9223372036854775807/\r.2.1.length<=9223372036854775807) (fun r=> .bool (bw ⟨r.1,r.2.1,r.2.2⟩)))
theorem P15f_ok:aN Tryz.prog Xw:=P15e_ok.dH Tryz.func143 (by kernel_rfl) (by kernel_rfl) fun r h=>yA r.1 r.2.1 r.2.2 h.1 h.2
@[go_sem] theorem P15f_old{g:FuncId}{xs:List A}(h:g≠143):Xw.f g xs=Xv.f g xs:=aW.aU h
theorem CQ(r:List UInt8×List UInt8×Bool)(h:r.1.length<=9223372036854775807/\r.2.1.length<=9223372036854775807):Xw.f 143 [.agg [.str r.1,.str r.2.1,.bool r.2.2]]=some (.bool (bw ⟨r.1,r.2.1,r.2.2⟩)):=aW.aZ (Γ:=Xv) (fun i j h=>by simpa[ag,and_assoc]using h) r h
def Xx:aW:=Xw.add 154 (entry (fun(r:(List UInt8×List UInt8×Bool)×List UInt8)=>[.agg [.str r.1.1,.str r.1.2.1,.bool r.1.2.2],.str r.2]) (fun r=>(r.1.1.length<=9223372036854775807/\r.1.2.1.length<=9223372036854775807)/\r.2.length<=9223372036854775807) (fun r=> .bool (eT ⟨r.1.1,r.1.2.1,r.1.2.2⟩ r.2)))
theorem P15g_ok:aN Tryz.prog Xx:=P15f_ok.dH Tryz.func154 (by kernel_rfl) (by kernel_rfl) fun r h=>HD r.1.1 r.1.2.1 r.2 r.1.2.2 h.1.1 h.1.2 h.2
@[go_sem] theorem P15g_old{g:FuncId}{xs:List A}(h:g≠154):Xx.f g xs=Xw.f g xs:=aW.aU h
theorem LF(r:(List UInt8×List UInt8×Bool)×List UInt8)(h:(r.1.1.length<=9223372036854775807/\r.1.2.1.length<=9223372036854775807)/\r.2.length<=9223372036854775807):Xx.f 154 [.agg [.str r.1.1,.str r.1.2.1,.bool r.1.2.2],.str r.2]=some (.bool (eT ⟨r.1.1,r.1.2.1,r.1.2.2⟩ r.2)):=aW.aZ (Γ:=Xw) (fun i j h=>by simpa[ag,and_assoc]using h) r h
def Xy:aW:=Xx.add 138 (entry (fun(r:(List UInt8×List UInt8×Bool)×List UInt8)=>[.agg [.str r.1.1,.str r.1.2.1,.bool r.1.2.2],.str r.2]) (fun r=>(r.1.1.length<=9223372036854775807/\r.1.2.1.length<=9223372036854775807)/\r.2.length<=9223372036854775807) (fun r=> .bool (eT ⟨r.1.1,r.1.2.1,r.1.2.2⟩ r.2)))
theorem P15h_ok:aN Tryz.prog Xy:=P15g_ok.dH Tryz.func138 (by kernel_rfl) (by kernel_rfl) fun r h=>D5 r.1.1 r.1.2.1 r.2 r.1.2.2 h.1.1 h.1.2 h.2
@[go_sem] theorem P15h_old{g:FuncId}{xs:List A}(h:g≠138):Xy.f g xs=Xx.f g xs:=aW.aU h
theorem I3(r:(List UInt8×List UInt8×Bool)×List UInt8)(h:(r.1.1.length<=9223372036854775807/\r.1.2.1.length<=9223372036854775807)/\r.2.length<=9223372036854775807):Xy.f 138 [.agg [.str r.1.1,.str r.1.2.1,.bool r.1.2.2],.str r.2]=some (.bool (eT ⟨r.1.1,r.1.2.1,r.1.2.2⟩ r.2)):=aW.aZ (Γ:=Xx) (fun i j h=>by simpa[ag,and_assoc]using h) r h
def Xz:aW:=Xy.add 148 (entry (fun(s:List UInt8)=>[.str s]) (fun s=>s.length<=9223372036854775807) (fun s=>(sj s).enc))
theorem P15i_ok:aN Tryz.prog Xz:=P15h_ok.dH Tryz.func148 (by kernel_rfl) (by kernel_rfl) fun s h=>Nv s h
@[go_sem] theorem P15i_old{g:FuncId}{xs:List A}(h:g≠148):Xz.f g xs=Xy.f g xs:=aW.aU h
theorem Qb(s:List UInt8)(h:s.length<=9223372036854775807):Xz.f 148 [.str s]=some ((sj s).enc):=aW.aZ (Γ:=Xy) (fun i j h=>by simpa[ag,and_assoc]using h) s h
def XA:aW:=Xz.add 159 (entry (fun(s:List UInt8)=>[.str s]) (fun s=>s.length<=9223372036854775807) (fun s=>(sj s).enc))
theorem P15j_ok:aN Tryz.prog XA:=P15i_ok.dH Tryz.func159 (by kernel_rfl) (by kernel_rfl) fun s h=>Hy s h
@[go_sem] theorem P15j_old{g:FuncId}{xs:List A}(h:g≠159):XA.f g xs=Xz.f g xs:=aW.aU h
theorem LG(s:List UInt8)(h:s.length<=9223372036854775807):XA.f 159 [.str s]=some ((sj s).enc):=aW.aZ (Γ:=Xz) (fun i j h=>by simpa[ag,and_assoc]using h) s h
def XB:aW:=XA.add 153 (entry (fun(l:List bk)=>[.ay (l.map bk.enc)]) (fun l=>l.length<=1000000/\iG l) (fun l=> .ay ((iC (bh l)).map bk.enc)))
theorem P15k_ok:aN Tryz.prog XB:=P15j_ok.dH Tryz.func153 (by kernel_rfl) (by kernel_rfl) fun l h=>wR l h.1 h.2
@[go_sem] theorem P15k_old{g:FuncId}{xs:List A}(h:g≠153):XB.f g xs=XA.f g xs:=aW.aU h
theorem I4(l:List bk)(h:l.length<=1000000/\iG l):XB.f 153 [.ay (l.map bk.enc)]=some (.ay ((iC (bh l)).map bk.enc)):=aW.aZ (Γ:=XA) (fun i j h=>by simpa[ag,and_assoc]using h) l h
def Qc:aW:=XB.add 105 (entry (fun(v:List bk×List UInt8)=>[.ay (v.1.map bk.enc),.str v.2]) (fun v=>v.1.length<=100000/\iG v.1/\v.2.length<=9223372036854775807) (fun v=> .bool (bh v.1 v.2)))
theorem P15l_ok:aN Tryz.prog Qc:=P15k_ok.dH Tryz.func105 (by kernel_rfl) (by kernel_rfl) fun v h=>P9 v.1 v.2 h.1 h.2.1 h.2.2
@[go_sem] theorem P15l_old{g:FuncId}{xs:List A}(h:g≠105):Qc.f g xs=XB.f g xs:=aW.aU h
theorem Fa(v:List bk×List UInt8)(h:v.1.length<=100000/\iG v.1/\v.2.length<=9223372036854775807):Qc.f 105 [.ay (v.1.map bk.enc),.str v.2]=some (.bool (bh v.1 v.2)):=aW.aZ (Γ:=XB) (fun i j h=>by simpa[ag,and_assoc]using h) v h
def P15m:aW:=Qc.add 205 (entry (fun(v:List bk×List bk)=>[.ay (v.1.map bk.enc),.ay (v.2.map bk.enc)]) (fun v=>(v.1.length<=100000/\v.2.length<=100000)/\iG v.1/\iG v.2) (fun v=> .ay ((iC fun s=>bh v.1 s&&bh v.2 s).map bk.enc)))
theorem P15m_ok:aN Tryz.prog P15m:=P15l_ok.dH Tryz.func205 (by kernel_rfl) (by kernel_rfl) fun v h=>LA v.1 v.2 h.1.1 h.1.2 h.2.1 h.2.2
@[go_sem] theorem P15m_old{g:FuncId}{xs:List A}(h:g≠205):P15m.f g xs=Qc.f g xs:=aW.aU h
def P15n:aW:=P15m.add 207 (entry (fun(l:List bk)=>[.ay (l.map bk.enc)]) (fun l=>l.length<=100000/\iG l) (fun l=> .ay ((iC fun s=> !bh l s).map bk.enc)))
theorem P15n_ok:aN Tryz.prog P15n:=P15m_ok.dH Tryz.func207 (by kernel_rfl) (by kernel_rfl) fun l h=>P8 l h.1 h.2
@[go_sem] theorem P15n_old{g:FuncId}{xs:List A}(h:g≠207):P15n.f g xs=P15m.f g xs:=aW.aU h
def I5:aW:=P15n.add 73 (entry (fun(v:List bk×List UInt8)=>[.ay (v.1.map bk.enc),.str v.2]) (fun v=>v.1.length<=100000/\iG v.1/\v.2.length<=9223372036854775807) (fun v=> .bool (bh v.1 v.2)))
theorem P15o_ok:aN Tryz.prog I5:=P15n_ok.dH Tryz.func73 (by kernel_rfl) (by kernel_rfl) fun v h=>Ua v.1 v.2 (by omega) h.2.1 h.2.2
@[go_sem] theorem P15o_old{g:FuncId}{xs:List A}(h:g≠73):I5.f g xs=P15n.f g xs:=aW.aU h
theorem I6(v:List bk×List UInt8)(h:v.1.length<=100000/\iG v.1/\v.2.length<=9223372036854775807):I5.f 73 [.ay (v.1.map bk.enc),.str v.2]=some (.bool (bh v.1 v.2)):=aW.aZ (Γ:=P15n) (fun i j h=>by simpa[ag,and_assoc]using h) v h
def P15p:aW:=I5.add 81 (entry (fun(v:List bk×List bk)=>[.ay (v.1.map bk.enc),.ay (v.2.map bk.enc)]) (fun v=>(v.1.length<=1000/\v.2.length<=1000)/\iG v.1/\iG v.2) (fun v=> .ay ((nH v.1 v.2).map .str)))
theorem P15p_ok:aN Tryz.prog P15p:=P15o_ok.dH Tryz.func81 (by kernel_rfl) (by kernel_rfl) fun v h=>Ly v.1 v.2 h.1.1 h.1.2 h.2.1 h.2.2
@[go_sem] theorem P15p_old{g:FuncId}{xs:List A}(h:g≠81):P15p.f g xs=I5.f g xs:=aW.aU h
theorem CR(v:List bk×List bk)(h:(v.1.length<=1000/\v.2.length<=1000)/\iG v.1/\iG v.2):P15p.f 81 [.ay (v.1.map bk.enc),.ay (v.2.map bk.enc)]=some (.ay ((nH v.1 v.2).map .str)):=aW.aZ (Γ:=I5) (fun i j h=>by simpa[ag,and_assoc]using h) v h
def P15q:aW:=P15p.add 71 (entry (fun(v:List bk×Int)=>[.ay (v.1.map bk.enc),.int .i64 v.2]) (fun v=>v.1.length<=4611686018427387904) (fun v=> .bool (l8 v.1 v.2)))
theorem P15q_ok:aN Tryz.prog P15q:=P15p_ok.dH Tryz.func71 (by kernel_rfl) (by kernel_rfl) fun v h=>PZ v.1 v.2 h
@[go_sem] theorem P15q_old{g:FuncId}{xs:List A}(h:g≠71):P15q.f g xs=P15p.f g xs:=aW.aU h
def Fb:aW:=P15q.add 147 (entry (fun(l:List eU)=>[.ay (l.map eU.enc)]) (fun l=>l.length<=1000000) (fun l=> .ay ((jN l).map eU.enc)))
theorem Gm:aN Tryz.prog Fb:=P15q_ok.dH Tryz.func147 (by kernel_rfl) (by kernel_rfl) fun l h=>CO l h
@[go_sem] theorem P15r_old{g:FuncId}{xs:List A}(h:g≠147):Fb.f g xs=P15q.f g xs:=aW.aU h
@[go_sem] theorem P15r_s:Fb.pl P15q:=⟨fun _=>rfl,fun _=>rfl,rfl,fun _=>rfl,rfl,fun _=>rfl,rfl⟩
theorem ya(l:List eU)(h:l.length<=1000000):Fb.f 147 [.ay (l.map eU.enc)]=some (.ay ((jN l).map eU.enc)):=aW.aZ (Γ:=P15q) (fun i j h=>by simpa[ag,and_assoc]using h) l h
@[go_sem] theorem NX{a b:List UInt8}(h:a.length<=9223372036854775807/\b.length<=9223372036854775807):Xr.f 170 [.str a,.str b]=some (.int .i64 (fC a b)):=Qa (a,b) h
@[go_sem] theorem En{s:List UInt8}(h:s.length<=9223372036854775807):Xs.f 128 [.str s]=some (.bool (decide (1<=s.length/\s.length<=16))):=I2 s h
@[go_sem] theorem oS{a b:List UInt8}(h:a.length<=9223372036854775807/\b.length<=9223372036854775807):Xt.f 150 [.str a,.str b]=some (.bool (fC a b== -1)):=E9 (a,b) h
@[go_sem] theorem yG{s:List UInt8}(h:s.length<=9223372036854775807):Xu.f 129 [.str s]=some (.bool (decide (1<=s.length/\s.length<=16))):=CP s h
@[go_sem] theorem p_span_Right{lo hi:List UInt8}{op:Bool}(h:lo.length<=9223372036854775807/\hi.length<=9223372036854775807):Xv.f 169 [.agg [.str lo,.str hi,.bool op]]=some (.bool (bw ⟨lo,hi,op⟩)):=E_ (lo,hi,op) h
@[go_sem] theorem p_ref07_Right{lo hi:List UInt8}{op:Bool}(h:lo.length<=9223372036854775807/\hi.length<=9223372036854775807):Xw.f 143 [.agg [.str lo,.str hi,.bool op]]=some (.bool (bw ⟨lo,hi,op⟩)):=CQ (lo,hi,op) h
@[go_sem] theorem p_span_Has{lo hi s:List UInt8}{op:Bool}(h:(lo.length<=9223372036854775807/\hi.length<=9223372036854775807)/\s.length<=9223372036854775807):Xx.f 154 [.agg [.str lo,.str hi,.bool op],.str s]=some (.bool (eT ⟨lo,hi,op⟩ s)):=LF ((lo,hi,op),s) h
@[go_sem] theorem p_ref07_Has{lo hi s:List UInt8}{op:Bool}(h:(lo.length<=9223372036854775807/\hi.length<=9223372036854775807)/\s.length<=9223372036854775807):Xy.f 138 [.agg [.str lo,.str hi,.bool op],.str s]=some (.bool (eT ⟨lo,hi,op⟩ s)):=I3 ((lo,hi,op),s) h
@[go_sem] theorem p_span_Of{s:List UInt8}(h:s.length<=9223372036854775807):Xz.f 148 [.str s]=some ((sj s).enc):=Qb s h
@[go_sem] theorem p_ref07_Of{s:List UInt8}(h:s.length<=9223372036854775807):XA.f 159 [.str s]=some ((sj s).enc):=LG s h
theorem Ur{l:List bk}(h:l.length<=1000000)(h':iG l):XB.f 153 [.ay (l.map bk.enc)]=some (.ay ((iC (bh l)).map bk.enc)):=I4 l ⟨h,h'⟩
theorem oT{l:List bk}{s:List UInt8}(h:l.length<=100000)(h':iG l)(hs:s.length<=9223372036854775807):Qc.f 105 [.ay (l.map bk.enc),.str s]=some (.bool (bh l s)):=Fa (l,s) ⟨h,h',hs⟩
theorem n9{l:List bk}{s:List UInt8}(h:l.length<=100000)(h':iG l)(hs:s.length<=9223372036854775807):I5.f 73 [.ay (l.map bk.enc),.str s]=some (.bool (bh l s)):=I6 (l,s) ⟨h,h',hs⟩
theorem LH{a b:List bk}(h:a.length<=1000/\b.length<=1000)(ha:iG a)(hb:iG b):P15p.f 81 [.ay (a.map bk.enc),.ay (b.map bk.enc)]=some (.ay ((nH a b).map .str)):=CR (a,b) ⟨h,ha,hb⟩
theorem Us{l:List eU}(h:l.length<=1000000):Fb.f 147 [.ay (l.map eU.enc)]=some (.ay ((jN l).map eU.enc)):=ya l h
def Pc.cells(p:Pc):List A:=[.str p.r.lo,.str p.r.hi,.bool p.r.op,.ay (p.s.map aF.enc)]
def Pc.enc(p:Pc):A:= .agg p.cells
@[go_sem] theorem Pc.za{lo hi:List UInt8}{op:Bool}{s:List aF}:Pc.enc ⟨⟨lo,hi,op⟩,s⟩= .agg [.str lo,.str hi,.bool op,.ay (s.map aF.enc)]:=rfl
theorem Pc.jM(v w:Pc)(h:v.enc=w.enc):v=w:=by obtain⟨⟨a,b,c⟩,d⟩:=v;obtain⟨⟨a',b',c'⟩,d'⟩:=w;simp only[Pc.za,A.agg.injEq,dr,A.str.injEq,A.bool.injEq,A.ay.injEq,and_true,Le]at h;obtain⟨rfl,rfl,rfl,rfl⟩:=h;rfl
@[simp] theorem map_pc_inj{l m:List Pc}:(l.map Pc.enc=m.map Pc.enc)=(l=m):=map_inj Pc.jM
theorem kJ{l:List Pc}{k:Nat}(h:k<l.length):(l.map Pc.enc)[k]? =some (.agg [.str l[k].r.lo,.str l[k].r.hi,.bool l[k].r.op,.ay (l[k].s.map aF.enc)]):=by rw[aT,ae h];rfl
def wP(k:List Pc):Nat:=(k.map fun p=>p.s.length+dt p.s).sum
def eK(k:List Pc):Prop:=(k.length<=10000/\wP k<=900000)/\ ∀p∈k,p.r.lo.length<=9223372036854775807/\p.r.hi.length<=9223372036854775807
def mH(k:List Pc):Prop:=eK k/\(∀x,(setAt k x).length+dt (setAt k x)<=40000)/\ ∀p∈k,p.s.length+dt p.s<=40000
theorem ZT{a:Int}{c:Nat}: ∀k:Nat,((List.range k).map fun i:Nat=>if a=(i:Int)+1 then c else 0).sum<=if 1<=a/\a<=k then c else 0
 |0=>by simp
 |k+1=>by
  have ih:=ZT (a:=a) (c:=c) k;rw[List.range_succ,bz,rW]
  simp only[aS,bD,cS,ja,dh]
  by_cases h:a=(k:Int)+1
  · rw[if_neg (by omega)]at ih
    rw[if_pos h,if_pos (by omega)];omega
  · rw[if_neg h,dh]
    refine aL ih ?_;by_cases h1:1<=a/\a<=(k:Int)
    · rw[if_pos h1,if_pos (by omega)];exact ai _
    · rw[if_neg h1];exact aw _
theorem sum_add{f g:Nat->Nat}(l:List Nat):(l.map fun i=>f i+g i).sum=(l.map f).sum+(l.map g).sum:=by
 induction l with
 |nil=>rfl
 |cons x l ih=>simp only[aS,cS,ih];omega
theorem I7(s:List aF)(k:Nat):((List.range k).map fun i:Nat=>(bJ s ((i:Int)+1)).length).sum<=dt s:=by
 induction s with
 |nil=>
  have: ∀l:List Nat,(l.map fun i:Nat=>(bJ [] ((i:Int)+1)).length).sum=0:=fun l=>by
   induction l with
   |nil=>rfl
   |cons x l ih=>rw[aS,cS,ih];rfl
  rw[this];exact aw _
 |cons q s ih=>
  have e:(fun i:Nat=>(bJ (q::s) ((i:Int)+1)).length)=fun i:Nat=>(if q.n=(i:Int)+1 then q.rs.length else 0)+(bJ s ((i:Int)+1)).length:=by
   funext i
   simp only[bJ]
   split
   · rw[aj]
   · rw[bY]
  have e2:dt (q::s)=q.rs.length+dt s:=by unfold dt;rw[aS,cS]
  rw[e,sum_add,e2]
  have h1:=ZT (a:=q.n) (c:=q.rs.length) k;have h2:(if 1<=q.n/\q.n<=(k:Int)then q.rs.length else 0)<=q.rs.length:=by split<;>omega
  omega
theorem Qd(t:Int->List bH): ∀k,dt (sG t k)<=((List.range k).map fun i:Nat=>(t ((i:Int)+1)).length).sum
 |0=>by simp[sG,dt]
 |k+1=>by
  have ih:=Qd t k;rw[List.range_succ,bz,rW]
  simp only[aS,bD,cS,ja,dh,sG]
  split
  · omega
  · rw[iK]
    have e:dt [⟨(k:Int)+1,t (k+1)⟩]=(t (k+1)).length:=by simp[dt]
    omega
theorem sum_le{f g:Nat->Nat}(h: ∀i,f i<=g i)(l:List Nat):(l.map f).sum<=(l.map g).sum:=by
 induction l with
 |nil=>exact ai _
 |cons x l ih=>simp only[aS,cS];have:=h x;omega
theorem I8(s:List aF):(iO s).length<=16/\dt (iO s)<=dt s:=by unfold iO sk;refine⟨uL _ 16,aL (Qd _ 16) (aL (sum_le (fun i=>qQ _) _) (I7 s 16))⟩
theorem opK_w(op:Int)(a b:List aF):(W8 op a b).length<=16/\dt (W8 op a b)<=2*dt a+2*dt b:=by
 refine⟨by unfold W8 sk;exact uL _ 16, ?_⟩
 have h1:=Qd (fun n=>fM (oq op (bJ a n) (bJ b n))) 16
 have h2:=sum_le (f:=fun i:Nat=>(fM (oq op (bJ a ((i:Int)+1)) (bJ b ((i:Int)+1)))).length) (g:=fun i:Nat=>((bJ a ((i:Int)+1)).length+(bJ a ((i:Int)+1)).length)+((bJ b ((i:Int)+1)).length+(bJ b ((i:Int)+1)).length)) (fun i=>by
  have:=T1 op (bJ a ((i:Int)+1)) (bJ b ((i:Int)+1))
  omega) (List.range 16)
 rw[sum_add,sum_add,sum_add]at h2;have h3:=I7 a 16;have h4:=I7 b 16;have h5:dt (W8 op a b)<=((List.range 16).map fun i:Nat=>(fM (oq op (bJ a ((i:Int)+1)) (bJ b ((i:Int)+1)))).length).sum:=h1;omega
theorem uS(p:Pc)(k:List Pc):wP (p::k)=(p.s.length+dt p.s)+wP k:=by unfold wP;rw[aS,cS]
theorem NY(k m:List Pc):wP (k++m)=wP k+wP m:=by simp[wP]
theorem wP_mem{k:List Pc}{p:Pc}(h:p∈k):p.s.length+dt p.s<=wP k:=by
 induction k with
 |nil=>cases h
 |cons q k ih=>
  rw[uS]
  rcases aD.1 h with rfl|h
  · omega
  · have:=ih h;omega
theorem jx{k:List Pc}(h:eK k){p:Pc}(hp:p∈k):bI p.s:=by have:=wP_mem hp;have:=h.1.2;exact⟨by omega,by omega⟩
theorem qT(k:List Pc)(x:List UInt8):(setAt k x).length+dt (setAt k x)<=wP k:=by
 induction k with
 |nil=>simp[setAt,dt]
 |cons p k ih=>
  have e:setAt (p::k) x=(if eT p.r x=true then p.s else [])++setAt k x:=by
   unfold setAt;by_cases h:eT p.r x=true
   · simp[h]
   · simp[h]
  rw[e,aj,iK,uS]
  split
  · omega
  · simp only[bC]
    have:dt []=0:=rfl;omega
theorem ZU{k:List Pc}(h:eK k)(hw:wP k<=40000):mH k:=⟨h,fun x=>aL (qT k x) hw,fun p hp=>aL (wP_mem hp) hw⟩
theorem wT{k:List Pc}(h:eK k)(x:List UInt8):bI (setAt k x)/\bI (iO (setAt k x)):=by
 have h1:=qT k x;have h2:=h.1.2;have h3:=I8 (setAt k x)
 exact⟨⟨by omega,by omega⟩,⟨by omega,by omega⟩⟩
theorem tT{k:List Pc}(h:mH k)(x:List UInt8):rS (setAt k x)/\rS (iO (setAt k x)):=by have h1:=h.2.1 x;exact⟨mid_of (by omega) (by omega),ZK (by omega)⟩
def fF(k:List Pc)(x:List UInt8):List aF:=iO (setAt k x)
theorem I9{k:List Pc}{j:Nat}(h:j<k.length)(x:List UInt8):setAt (k.take (j+1)) x=setAt (k.take j) x++(if eT k[j].r x=true then k[j].s else []):=by
 rw[<-ar h,lk]
 congr 1
 unfold setAt;by_cases h:eT k[j].r x=true
 · simp[h]
 · simp[h]
theorem ZV{k:List Pc}{j:Nat}(h:j<k.length):wP (k.take j)+(k[j].s.length+dt k[j].s)<=wP k:=by
 have e:k=k.take j++k[j]::k.drop (j+1):=by rw[<-ax h,br]
 have h2:wP k=wP (k.take j)+wP (k[j]::k.drop (j+1)):=by rw[<-NY,<-e]
 have h3:=uS k[j] (k.drop (j+1))
 omega
theorem stKns(l:List aF):((l.map aF.enc).isEmpty||eV (l.map aF.enc)==2)=true:=by cases l<;>rfl
def A15:aW:={Fb with sg:=fun f=>f==210||f==152,xk:=fun f=>f==210||f==152}
theorem A15_ok:aN Tryz.prog A15:=⟨Gm.f,Gm.hp⟩
@[go_sem] theorem A15_f:A15.f=Fb.f:=rfl
@[go_sem] theorem A15_eff{g:FuncId}:A15.sg g=(g==210||g==152):=rfl
@[go_sem] theorem A15_frz{g:FuncId}:A15.xk g=(g==210||g==152):=rfl
@[go_sem] theorem A15_fix{n:Nat}:A15.fix n=false:=rfl
@[go_sem] theorem A15_ords{n:Nat}:A15.fS n=[]:=rfl
theorem XC:aQ Tryz.prog A15 Tryz.f179.ntmps (Tryz.f179.body.getD .skip)=true:=by kernel_rfl
theorem c_know_At(k:List Pc)(x:List UInt8)(hk:eK k)(hx:x.length<=9223372036854775807):bp Tryz.prog 179 [.ay (k.map Pc.enc),.str x] (· = .ay ((fF k x).map aF.enc)):=by
 refine ah A15_ok mixed Tryz.func179 rfl (ab rfl) XC ?_;unfold Tryz.f179;obtain⟨⟨k1,k2⟩,k3⟩:=id hk;simp-implicitDefEqProofs (disch:=(first|omega|decide)) only[go_sem,↓reduceIte,seval,aa]
 refine ch 5 2 rfl ?_;refine a_ [0,1,8,9] (ι:={j:Nat//j<=k.length}) (fun p=>[(10,.int .i64 p.1),(5,.row 0 0 2 (setAt (k.take p.1) x).length false)]) (fun p=>[(0,.row 2 ((setAt (k.take p.1) x).map aF.enc))]) (fun p=>k.length-p.1) ⟨0,by omega⟩ (aw _) ?_ ?_
 · simp-implicitDefEqProofs (disch:=(first|omega|decide)) only[go_sem,↓reduceIte,seval]
   simp[setAt]
 · rintro⟨j,hj⟩
   simp only;have hw:=qT (k.take j) x;by_cases bo:j<k.length
   · have aH:(j:Int)<(k.length:Int):=by omega
     have e1:=kJ bo;have hm:=ZV bo;have fe:=I9 bo x;have mq:=k3 _ (ao bo)
     generalize hp:k[j]=p at*;obtain⟨⟨lo,hi,op⟩,s⟩:=p;simp only at hm fe mq;have st:=stKns s;cases h2:eT ⟨lo,hi,op⟩ x with
     |false=>
      rw[h2,if_neg (by simp),bj]at fe;simp-implicitDefEqProofs (disch:=(first|omega|decide)) only[go_sem,↓reduceIte,seval,aH,e1,h2,wrap_i64,aa]
      exact⟨⟨j+1,bo⟩,⟨⟨by simp,by rw[fe]⟩,by rw[fe]⟩,by show k.length-(j+1)<k.length-j;omega⟩
     |true=>
      rw[h2,if_pos rfl]at fe;simp-implicitDefEqProofs (disch:=(first|omega|decide)) only[go_sem,↓reduceIte,seval,aH,e1,h2,st,wrap_i64,aa]
      exact⟨⟨ai _,by omega⟩,⟨j+1,bo⟩,⟨⟨by simp,by rw[fe,aj]⟩,by rw[fe,bz,ad (by simp)]⟩,by show k.length-(j+1)<k.length-j;omega⟩
   · have aH: ¬(j:Int)<(k.length:Int):=by omega
     rw[ad (by omega)]at*;have ho:=xN (wT hk x).1;have tl:((setAt k x).map aF.enc).take (setAt k x).length=(setAt k x).map aF.enc:=ad (by simp)
     simp-implicitDefEqProofs (disch:=(first|omega|decide)) only[go_sem,↓reduceIte,seval,aH,ho,tl,aa,cx,cr]
     exact⟨ai _,rfl⟩
theorem Ut:aQ Tryz.prog A15 Tryz.f200.ntmps (Tryz.f200.body.getD .skip)=true:=by kernel_rfl
theorem XD(k:List Pc)(x:List UInt8)(hk:mH k)(hx:x.length<=9223372036854775807):bp Tryz.prog 200 [.ay (k.map Pc.enc),.str x] (· = .ay ((fF k x).map aF.enc)):=by
 refine ah A15_ok mixed Tryz.func200 rfl (ab rfl) Ut ?_;unfold Tryz.f200;obtain⟨⟨⟨k1,k2⟩,k3⟩,k4⟩:=id hk;simp-implicitDefEqProofs (disch:=(first|omega|decide)) only[go_sem,↓reduceIte,seval,aa]
 refine ch 5 2 rfl ?_;refine a_ [0,1] (ι:={j:Nat//j<=k.length}) (fun p=>[(6,.int .i64 p.1),(5,.row 0 0 2 (setAt (k.take p.1) x).length false)]) (fun p=>[(0,.row 2 ((setAt (k.take p.1) x).map aF.enc))]) (fun p=>k.length-p.1) ⟨0,by omega⟩ (aw _) ?_ ?_
 · simp-implicitDefEqProofs (disch:=(first|omega|decide)) only[go_sem,↓reduceIte,seval]
   simp[setAt]
 · rintro⟨j,hj⟩
   simp only;have hw:=qT (k.take j) x;by_cases bo:j<k.length
   · have aH:(j:Int)<(k.length:Int):=by omega
     have e1:=kJ bo;have hm:=ZV bo;have fe:=I9 bo x;have mq:=k3 _ (ao bo)
     generalize hp:k[j]=p at*;obtain⟨⟨lo,hi,op⟩,s⟩:=p;simp only at hm fe mq;have st:=stKns s;cases h2:eT ⟨lo,hi,op⟩ x with
     |false=>
      rw[h2,if_neg (by simp),bj]at fe;simp-implicitDefEqProofs (disch:=(first|omega|decide)) only[go_sem,↓reduceIte,seval,aH,e1,h2,wrap_i64,aa]
      exact⟨⟨j+1,bo⟩,⟨⟨by simp,by rw[fe]⟩,by rw[fe]⟩,by show k.length-(j+1)<k.length-j;omega⟩
     |true=>
      rw[h2,if_pos rfl]at fe;simp-implicitDefEqProofs (disch:=(first|omega|decide)) only[go_sem,↓reduceIte,seval,aH,e1,h2,st,wrap_i64,aa]
      exact⟨⟨ai _,by omega⟩,⟨j+1,bo⟩,⟨⟨by simp,by rw[fe,aj]⟩,by rw[fe,bz,ad (by simp)]⟩,by show k.length-(j+1)<k.length-j;omega⟩
   · have aH: ¬(j:Int)<(k.length:Int):=by omega
     rw[ad (by omega)]at*;have ho:=Iz (tT hk x).1;have tl:((setAt k x).map aF.enc).take (setAt k x).length=(setAt k x).map aF.enc:=ad (by simp)
     simp-implicitDefEqProofs (disch:=(first|omega|decide)) only[go_sem,↓reduceIte,seval,aH,ho,tl,aa,cx,cr]
     exact⟨ai _,rfl⟩
theorem LI:aQ Tryz.prog Fb Tryz.f172.ntmps (Tryz.f172.body.getD .skip)=true:=by kernel_rfl
theorem Qe(lo hi lh jU:List UInt8)(op pY:Bool):bp Tryz.prog 172 [.agg [.str lo,.str hi,.bool op],.agg [.str lh,.str jU,.bool pY]] (· = .bool (!op&&hi==lh)):=by
 refine ah Gm mixed Tryz.func172 rfl (ab rfl) LI ?_;unfold Tryz.f172;cases op with
 |true=>simp-implicitDefEqProofs (disch:=(first|omega|decide)) only[go_sem,↓reduceIte,seval,bG,aI]
 |false=>cases h:hi==lh<;>simp-implicitDefEqProofs (disch:=(first|omega|decide)) only[go_sem,↓reduceIte,seval,h,bm,aB]
def I_:aW:=Fb.add 172 (entry (fun(v:(List UInt8×List UInt8×Bool)×(List UInt8×List UInt8×Bool))=>[.agg [.str v.1.1,.str v.1.2.1,.bool v.1.2.2],.agg [.str v.2.1,.str v.2.2.1,.bool v.2.2.2]]) (fun v=>True) (fun v=> .bool (!v.1.2.2&&v.1.2.1==v.2.1)))
theorem Qf:aN Tryz.prog I_:=Gm.dH Tryz.func172 (by kernel_rfl) (by kernel_rfl) fun v h=>Qe v.1.1 v.1.2.1 v.2.1 v.2.2.1 v.1.2.2 v.2.2.2
@[go_sem] theorem P15s_old{g:FuncId}{xs:List A}(h:g≠172):I_.f g xs=Fb.f g xs:=aW.aU h
@[go_sem] theorem P15s_s:I_.pl Fb:=⟨fun _=>rfl,fun _=>rfl,rfl,fun _=>rfl,rfl,fun _=>rfl,rfl⟩
theorem Fc(v:(List UInt8×List UInt8×Bool)×(List UInt8×List UInt8×Bool))(h:True):I_.f 172 [.agg [.str v.1.1,.str v.1.2.1,.bool v.1.2.2],.agg [.str v.2.1,.str v.2.2.1,.bool v.2.2.2]]=some (.bool (!v.1.2.2&&v.1.2.1==v.2.1)):=aW.aZ (Γ:=Fb) (fun i j h=>by simpa[ag,and_assoc]using h) v h
@[go_sem] theorem p_touch{lo hi lh jU:List UInt8}{op pY:Bool}:I_.f 172 [.agg [.str lo,.str hi,.bool op],.agg [.str lh,.str jU,.bool pY]]=some (.bool (!op&&hi==lh)):=Fc ((lo,hi,op),(lh,jU,pY)) trivial
def qx(k:List Pc)(j:Nat):Option Pc:=if j=0 then none else some k[j-1]!
theorem fQ{s:List aF}(h:c6 s=true):iO s=s:=WS h
theorem LJ:aQ Tryz.prog I_ Tryz.f113.ntmps (Tryz.f113.body.getD .skip)=true:=by kernel_rfl
theorem Qg(k:List Pc)(hk:eK k):bp Tryz.prog 113 [.ay (k.map Pc.enc)] (· = .bool (cD k)):=by
 refine ah Qf mixed Tryz.func113 rfl (ab rfl) LJ ?_;unfold Tryz.f113;obtain⟨⟨k1,k2⟩,k3⟩:=id hk;simp-implicitDefEqProofs (disch:=(first|omega|decide)) only[go_sem,↓reduceIte,seval,aa]
 refine a_ [0,6,7] (ι:={j:Nat//j<=k.length/\cD k=Pm (qx k j) (k.drop j)/\ ∀q,qx k j=some q->c6 q.s=true}) (fun p=>[(8,.int .i64 p.1)]) (fun _=>[]) (fun p=>k.length-p.1) ⟨0,by omega,rfl,fun q hq=>by cases hq⟩ (aw _) ?_ ?_
 · simp-implicitDefEqProofs (disch:=(first|omega|decide)) only[go_sem,↓reduceIte,seval]
 · rintro⟨j,hj,hd,hpr⟩
   simp only at hj hd hpr⊢;by_cases bo:j<k.length
   · have aH:(j:Int)<(k.length:Int):=by omega
     have e1:=kJ bo;have mq:=k3 _ (ao bo)
     have Fe:=jx hk (ao bo)
     have yu:qx k (j+1)=some k[j]:=by unfold qx;rw[if_neg (by omega),jL,getElem!_pos k j bo]
     rw[ax bo]at hd;generalize hx:k[j]=x at*;obtain⟨⟨lo,hi,op⟩,s⟩:=x;simp only[Pm,jc]at hd mq Fe;have next:cD k=Pm (some ⟨⟨lo,hi,op⟩,s⟩) (k.drop (j+1))->c6 s=true-> ∃i:{j:Nat//j<=k.length/\cD k=Pm (qx k j) (k.drop j)/\ ∀q,qx k j=some q->c6 q.s=true},(j:Int)+1=(i.1:Int)/\k.length-i.1<k.length-j:=fun h h'=>⟨⟨j+1,bo,by rw[yu];exact h,fun q hq=>by rw[yu]at hq;obtain rfl:=an hq;exact h'⟩,by simp,by show k.length-(j+1)<k.length-j;omega⟩
     cases h1:bw ⟨lo,hi,op⟩with
     |false=>
      have hh:cD k=false:=by rw[hd,h1];simp
      simp-implicitDefEqProofs (disch:=(first|omega|decide)) only[go_sem,↓reduceIte,seval,aH,e1,h1,hh,aa]
     |true=>
      cases h2:((s.length:Int)==0)with
      |true=>
       have:s=[]:=aV.1 (by have:(s.length:Int)=0:=by simpa using h2
                           omega)
       have hh:cD k=false:=by rw[hd,this];simp
       simp-implicitDefEqProofs (disch:=(first|omega|decide)) only[go_sem,↓reduceIte,seval,aH,e1,h1,h2,hh,aa]
      |false=>
       have eH:s.isEmpty=false:=by
          cases s with
          |nil=>simp at h2
          |cons _ _=>rfl
       have yw:=PF Fe;cases h3:c6 s with
       |false=>
          have hh:cD k=false:=by rw[hd,h3];simp
          rw[h3]at yw;simp-implicitDefEqProofs (disch:=(first|omega|decide)) only[go_sem,↓reduceIte,seval,aH,e1,h1,h2,yw,hh,aa]
       |true=>
          rw[h3]at yw;rw[h1,eH,h3]at hd;simp only[bm,dO,aB]at hd;by_cases hj0:j=0
          · have hz:((j:Int)==0)=true:=by simp[hj0]
            have hh:cD k=Pm (some ⟨⟨lo,hi,op⟩,s⟩) (k.drop (j+1)):=by rw[hd];unfold qx;rw[if_pos hj0,aB]
            simp-implicitDefEqProofs (disch:=(first|omega|decide)) only[go_sem,↓reduceIte,seval,aH,e1,h1,h2,yw,hz,wrap_i64,aa]
            exact next hh h3
          · have hz:((j:Int)==0)=false:=by simp;omega
            have qH:j-1<k.length:=by omega
            have e2:=kJ qH;have KL:=k3 _ (ao qH)
            have hsm2:=jx hk (ao qH)
            have VM:qx k j=some k[j-1]:=by unfold qx;rw[if_neg hj0,getElem!_pos k (j-1) qH]
            have hr2:=hpr _ VM;rw[VM]at hd;generalize hy:k[j-1]=y at*;obtain⟨⟨lh,jU,pY⟩,s'⟩:=y;simp only at KL hsm2 hr2;have c1:((j:Int)-1).toNat=j-1:=by omega
            have c2:(0:Int)<=(j:Int)-1:=by omega
            have jo:=PX hsm2 Fe (by rw[fQ hr2];exact hsm2) (by rw[fQ h3];exact Fe)
            rw[fQ hr2,fQ h3]at jo;simp only[Co]at hd;cases h4:pY with
            |true=>
             have hh:cD k=false:=by rw[hd,h4];simp
             subst h4;simp-implicitDefEqProofs (maxSteps:=600000) (disch:=(first|omega|decide)) only[go_sem,↓reduceIte,seval,aH,e1,h1,h2,yw,hz,e2,c1,c2,hh,wrap_i64,aa]
            |false=>
             subst h4;cases h5:cL lo jU with
             |true=>
              have hh:cD k=false:=by rw[hd,h5];simp
              simp-implicitDefEqProofs (maxSteps:=600000) (disch:=(first|omega|decide)) only[go_sem,↓reduceIte,seval,aH,e1,h1,h2,yw,hz,e2,c1,c2,h5,hh,wrap_i64,aa]
             |false=>
              cases h6:jU==lo with
              |false=>
               have hh:cD k=Pm (some ⟨⟨lo,hi,op⟩,s⟩) (k.drop (j+1)):=by rw[hd,h5,h6];simp
               simp-implicitDefEqProofs (maxSteps:=600000) (disch:=(first|omega|decide)) only[go_sem,↓reduceIte,seval,aH,e1,h1,h2,yw,hz,e2,c1,c2,h5,h6,wrap_i64,aa]
               exact next hh h3
              |true=>
               cases h7:dA s' s with
               |true=>
                have h7':s'=s:=by simpa[dA]using h7
                rw[h7]at jo;have hh:cD k=false:=by rw[hd,h6,h7'];simp
                simp-implicitDefEqProofs (maxSteps:=600000) (disch:=(first|omega|decide)) only[go_sem,↓reduceIte,seval,aH,e1,h1,h2,yw,hz,e2,c1,c2,h5,h6,jo,hh,wrap_i64,aa]
               |false=>
                have h7':s'≠s:=by simpa[dA]using h7
                rw[h7]at jo;have hh:cD k=Pm (some ⟨⟨lo,hi,op⟩,s⟩) (k.drop (j+1)):=by rw[hd,h5,h6,decide_eq_false h7'];simp
                simp-implicitDefEqProofs (maxSteps:=600000) (disch:=(first|omega|decide)) only[go_sem,↓reduceIte,seval,aH,e1,h1,h2,yw,hz,e2,c1,c2,h5,h6,jo,wrap_i64,aa]
                exact next hh h3
   · have aH: ¬(j:Int)<(k.length:Int):=by omega
     have hh:cD k=true:=by rw[hd,aC (by omega)];rfl
     simp-implicitDefEqProofs (disch:=(first|omega|decide)) only[go_sem,↓reduceIte,seval,aH,hh,aa]
def E15a:aW:=I_.kz 214 (dG Aa yF stK Ue)
def E15b:aW:=E15a.kz 215 (dG Em BO cpK Uf)
def E15:aW:={E15b with sg:=fun f=>f==214||f==215}
theorem E15a_ok:aN Tryz.prog E15a:=Qf.kz (dE Tryz.func214 (by kernel_rfl) (by kernel_rfl)) (gm stH)
theorem ZW:aN Tryz.prog E15b:=E15a_ok.kz (dE Tryz.func215 (by kernel_rfl) (by kernel_rfl)) (gm cpH)
theorem E15_ok:aN Tryz.prog E15:=⟨ZW.f,ZW.hp⟩
@[go_sem] theorem E15_f:E15.f=I_.f:=rfl
@[go_sem] theorem E15_eff{g:FuncId}:E15.sg g=(g==214||g==215):=rfl
@[go_sem] theorem E15_frz{g:FuncId}:E15.xk g=false:=rfl
@[go_sem] theorem E15_fix{n:Nat}:E15.fix n=false:=rfl
@[go_sem] theorem E15_ords{n:Nat}:E15.fS n=[]:=rfl
theorem E15_st(i:StI)(h:stK i):E15.hp 214 (Aa i) (yF i)=some (Ue i):=by
 have h1:E15b.hp 214 (Aa i) (yF i)=E15a.hp 214 (Aa i) (yF i):=aW.xB (by decide)
 have h2:E15a.hp 214 (Aa i) (yF i)=dG Aa yF stK Ue (Aa i) (yF i):=aW.jK;have h3:=gn (enc:=Aa) (Kx:=yF) (ok:=stK) (spec:=Ue) (fun i j h h'=>st_inj i j h h') i h;exact(show E15.hp 214 (Aa i) (yF i)=E15b.hp 214 (Aa i) (yF i)from rfl).trans (h1.trans (h2.trans h3))
theorem E15_cp(i:CpI)(h:cpK i):E15.hp 215 (Em i) (BO i)=some (Uf i):=by have h2:E15b.hp 215 (Em i) (BO i)=dG Em BO cpK Uf (Em i) (BO i):=aW.jK;have h3:=gn (enc:=Em) (Kx:=BO) (ok:=cpK) (spec:=Uf) (fun i j h h'=>cp_inj i j h h') i h;exact(show E15.hp 215 (Em i) (BO i)=E15b.hp 215 (Em i) (BO i)from rfl).trans (h2.trans h3)
def pcL(k:List Pc):A:= .ay (k.map Pc.enc)
theorem pcL_inj(l m:List Pc)(h:pcL l=pcL m):l=m:=by simpa[pcL]using h
@[simp] theorem map_pcL_inj{L M:List (List Pc)}:(L.map pcL=M.map pcL)=(L=M):=map_inj pcL_inj
def xP(k:List Pc):List bk:=(k.map (·.r)).filter bw
theorem rsP_snoc{k:List Pc}{j:Nat}(h:j<k.length):xP (k.take (j+1))=xP (k.take j)++(if bw k[j].r=true then [k[j].r]else []):=by
 rw[<-ar h]
 unfold xP;rw[bz,bP]
 congr 1
 by_cases h:bw k[j].r=true
 · simp[h]
 · simp[h]
theorem ZX(k:List Pc):(xP k).length<=k.length:=by unfold xP;exact aL (aO _ _) (by simp)
theorem rsP_right(k:List Pc): ∀r∈xP k,bw r=true:=fun r hr=>(aP.1 hr).2
def oU(LL:List (List Pc))(o:Nat):List (List UInt8):=gz [[]] ((LL.take o).flatMap xP)
def l9(LL:List (List Pc)):List (List UInt8):=cU (oP (gz [[]] (LL.flatMap xP)))
def Ff(E:List (List UInt8)):List Go.dF.Obj:=if E.length=1 then []else [.box [.any,.any,.any,.any],.row 1 (E.map .str)]
theorem sQ{E:List (List UInt8)}(h:E.length=1):Gj E= .clip [.str []]/\Ff E=[]:=by simp[Gj,Ff,h]
theorem iM{E:List (List UInt8)}(h:E.length≠1):Gj E= .row 1 0 1 E.length false/\Ff E=[.box [.any,.any,.any,.any],.row 1 (E.map .str)]:=by simp[Gj,Ff,h]
theorem CS{E:List (List UInt8)}:(Gj E).under (Ff E).length=true:=by
 by_cases h:E.length=1
 · rw[(sQ h).1];simp[A.under]
 · rw[(iM h).1,(iM h).2];simp[A.under]
theorem XE{E:List (List UInt8)}:yp (Ff E).length (Ff E) (Ff E):=by
 by_cases h:E.length=1
 · rw[(sQ h).2];simp[yp]
 · rw[(iM h).2];simp[yp,Y4,RI]
theorem XF{LL:List (List Pc)}{o:Nat}(h:o<LL.length):gz (oU LL o) (xP LL[o])=oU LL (o+1):=by
 unfold oU;rw[<-ar h,List.flatMap_append,wL]
 simp
def sn(LL:List (List Pc)):Nat:=(LL.map List.length).sum
theorem I'(LL:List (List Pc))(o:Nat):((LL.take o).flatMap xP).length<=sn LL:=by
 have h1: ∀M:List (List Pc),(M.flatMap xP).length<=sn M:=fun M=>by
  induction M with
  |nil=>simp
  |cons k M ih=>
   have:=ZX k;simp only[j_,aj,sn,aS,cS]at ih⊢;omega
 have h2:sn LL=sn (LL.take o)+sn (LL.drop o):=by unfold sn;rw[<-rW,<-bz,br]
 have:=h1 (LL.take o)
 omega
theorem tot_mem{LL:List (List Pc)}{k:List Pc}(h:k∈LL):k.length<=sn LL:=by
 induction LL with
 |nil=>cases h
 |cons q M ih=>
  unfold sn at ih⊢;rw[aS,cS]
  rcases aD.1 h with rfl|h
  · omega
  · have:=ih h;omega
theorem ZY{LL:List (List Pc)}{o:Nat}(h:o<LL.length):(LL.map pcL)[o]? =some (.ay (LL[o].map Pc.enc)):=by rw[aT,ae h];rfl
theorem Ja{m:List bk}(hm: ∀r∈m,bw r=true): ∀s∈gz [[]] m,s.length<=17:=fun s hs=>by
 rcases(nw _ _ _).1 hs with h|⟨r,hr,h⟩
 · simp at h;subst h;simp
 · obtain⟨k1,k2,_,_⟩:=fy (hm r hr)
   rcases h with rfl|⟨_,rfl⟩
   · exact k1
   · exact k2
theorem rX(LL:List (List Pc)): ∀r∈LL.flatMap xP,bw r=true:=fun r hr=>by obtain⟨k,_,h⟩:=qy.1 hr;exact rsP_right k r h
theorem LK:aQ Tryz.prog E15 Tryz.f177.ntmps (Tryz.f177.body.getD .skip)=true:=by kernel_rfl
theorem Qh(LL:List (List Pc))(hL:LL.length<=1000)(ht:sn LL<=1000000)(mq: ∀k∈LL,∀p∈k,p.r.lo.length<=9223372036854775807/\p.r.hi.length<=9223372036854775807):bp Tryz.prog 177 [.ay (LL.map pcL)] (· = .ay ((l9 LL).map .str)):=by
 refine ah E15_ok mixed Tryz.func177 rfl (ab rfl) LK ?_;unfold Tryz.f177;simp-implicitDefEqProofs (disch:=(first|omega|decide)) only[go_sem,↓reduceIte,seval,aa]
 refine xo [9,10] (ι:={o:Nat//o<=LL.length}) (fun p=>[(11,.int .i64 p.1),(3,Gj (oU LL p.1))]) (fun p=>Ff (oU LL p.1)) (fun p=>LL.length-p.1) ⟨0,by omega⟩ (fun _=>aw _) ?_ ?_
 · have e:oU LL 0=[[]]:=rfl
   simp only[e]
   simp-implicitDefEqProofs (disch:=(first|omega|decide)) only[go_sem,↓reduceIte,seval,Gj,Ff]
 · rintro⟨o,ho⟩
   simp only;by_cases ho2:o<LL.length
   · have B5:(o:Int)<(LL.length:Int):=by omega
     have hd:=ZY ho2;have hacc:=XF ho2;have RT:=tot_mem (ao ho2)
     have hlk:=mq _ (ao ho2)
     generalize LL[o]=l at*;have hel:(oU LL o).length<=2000001:=by unfold oU;have h1:=(lN ((LL.take o).flatMap xP) [[]]).2;have h2:=I' LL o;simp only[dw]at h1;omega
     obtain⟨m0,hm0⟩: ∃m,oU LL o=gz [[]] m:=⟨_,rfl⟩
     have nr: ∃j:{o:Nat//o<=LL.length},(o:Int)+1=(j.1:Int)/\oU LL (o+1)=oU LL j.1/\LL.length-j.1<LL.length-o:=⟨⟨o+1,ho2⟩,by simp,rfl,by show LL.length-(o+1)<LL.length-o;omega⟩
     rw[<-hacc]at nr;generalize oU LL o=E0 at*;have hE5:(Gj E0).under (Ff E0).length=true:=CS;have hE5b:yp (Ff E0).length (Ff E0) (Ff E0):=XE;simp-implicitDefEqProofs (disch:=(first|omega|decide)) only[go_sem,↓reduceIte,seval,B5,hd,aa]
     refine xo [9,10,11,15,16] (ι:={j:Nat//j<=l.length}) (fun p=>[(17,.int .i64 p.1),(3,Gj (gz E0 (xP (l.take p.1))))]) (fun p=>Ff (gz E0 (xP (l.take p.1)))) (fun p=>l.length-p.1) ⟨0,by omega⟩ (fun _=>aw _) ?_ ?_
     · have e:gz E0 (xP (l.take 0))=E0:=rfl
       simp only[e]
       simp-implicitDefEqProofs (disch:=(first|omega|decide)) only[go_sem,↓reduceIte,seval,hE5,hE5b]
     · rintro⟨j,hj⟩
       simp only;obtain⟨m1,hm1⟩: ∃m,gz E0 (xP (l.take j))=gz [[]] m:=⟨m0++xP (l.take j),by rw[hm0,wL]⟩
       have hlenE:=(lN (xP (l.take j)) E0).2;have hrl:=ZX (l.take j)
       rw[aK,fZ hj]at hrl;have hgeE:=(lN m1 [[]]).1;rw[<-hm1,dw]at hgeE;by_cases bo:j<l.length
       · have aH:(j:Int)<(l.length:Int):=by omega
         have e1:=kJ bo;have VM:=hlk _ (ao bo)
         have eO:=rsP_snoc bo
         have Uu:gz E0 (xP (l.take (j+1)))=if bw l[j].r=true then zq (gz E0 (xP (l.take j))) l[j].r else gz E0 (xP (l.take j)):=by
          rw[eO,wL]
          by_cases h:bw l[j].r=true
          · rw[if_pos h,if_pos h];rfl
          · rw[if_neg h,if_neg h];rfl
         have next: ∀E',gz E0 (xP (l.take (j+1)))=E'-> ∃i:{j:Nat//j<=l.length},(j:Int)+1=(i.1:Int)/\(Gj (gz E0 (xP (l.take i.1)))=Gj E'/\Ff (gz E0 (xP (l.take i.1)))=Ff E')/\l.length-i.1<l.length-j:=fun E' h1=>⟨⟨j+1,bo⟩,by simp,by rw[h1];exact⟨rfl,rfl⟩,by show l.length-(j+1)<l.length-j;omega⟩
         clear eO;generalize gz E0 (xP (l.take j))=E at*;generalize hx:l[j]=x at*;obtain⟨⟨lo,hi,op⟩,s⟩:=x;simp only at VM Uu;have hU:(Gj E).under (Ff E).length=true:=CS;have hUb:yp (Ff E).length (Ff E) (Ff E):=XE;cases hr:bw ⟨lo,hi,op⟩with
         |false=>
          rw[hr,if_neg (by simp)]at Uu;obtain⟨i,n1,⟨n2,n3⟩,n4⟩:=next _ Uu
          by_cases hE:E.length=1
          · rw[(sQ hE).1,(sQ hE).2]at*
            simp-implicitDefEqProofs (disch:=(first|omega|decide)) only[go_sem,↓reduceIte,seval,aH,e1,hr,wrap_i64,aa]
            refine⟨i, ?_,n4⟩
            rw[n2,n3]
            simp-implicitDefEqProofs (disch:=(first|omega|decide)) only[go_sem,↓reduceIte,seval,n1]
          · rw[(iM hE).1,(iM hE).2]at*
            simp-implicitDefEqProofs (disch:=(first|omega|decide)) only[go_sem,↓reduceIte,seval,aH,e1,hr,wrap_i64,aa]
            refine⟨i, ?_,n4⟩
            rw[n2,n3]
            simp-implicitDefEqProofs (disch:=(first|omega|decide)) only[go_sem,↓reduceIte,seval,n1]
            try simp
         |true=>
          rw[hr,if_pos rfl]at Uu;by_cases hE:E.length=1
          · have hE1:E=[[]]:=by rw[hm1]at hE⊢;exact Gk hE
            rw[(sQ hE).1,(sQ hE).2]
            subst hE1;cases op with
            |true=>
              obtain⟨i,n1,⟨n2,n3⟩,n4⟩:=next [[],lo] Uu
              rw[(iM (E:=[[],lo]) (by simp)).1]at n2;rw[(iM (E:=[[],lo]) (by simp)).2]at n3;simp-implicitDefEqProofs (disch:=(first|omega|decide)) only[go_sem,↓reduceIte,seval,aH,e1,hr,wrap_i64,aa]
              refine⟨i, ?_,n4⟩
              rw[n2,n3]
              simp-implicitDefEqProofs (disch:=(first|omega|decide)) only[go_sem,↓reduceIte,seval,n1]
              try simp
            |false=>
              obtain⟨i,n1,⟨n2,n3⟩,n4⟩:=next [[],lo,hi] Uu
              rw[(iM (E:=[[],lo,hi]) (by simp)).1]at n2;rw[(iM (E:=[[],lo,hi]) (by simp)).2]at n3;simp-implicitDefEqProofs (disch:=(first|omega|decide)) only[go_sem,↓reduceIte,seval,aH,e1,hr,wrap_i64,aa]
              refine⟨i, ?_,n4⟩
              rw[n2,n3]
              simp-implicitDefEqProofs (disch:=(first|omega|decide)) only[go_sem,↓reduceIte,seval,n1]
              try simp
          · rw[(iM hE).1,(iM hE).2]
            have tl:(E.map A.str).take E.length=E.map A.str:=ad (by simp)
            have tl2:(E.map A.str++[A.str lo]).take (E.length+1)=E.map A.str++[A.str lo]:=ad (by simp)
            have ll2:(E.map A.str++[A.str lo]).length=E.length+1:=by simp
            cases op with
            |true=>
              obtain⟨i,n1,⟨n2,n3⟩,n4⟩:=next (E++[lo]) Uu
              have eH:(E++[lo]).length≠1:=by rw[aj];show E.length+1≠1;omega
              rw[(iM eH).1]at n2;rw[(iM eH).2]at n3;simp-implicitDefEqProofs (disch:=(first|omega|decide)) only[go_sem,↓reduceIte,seval,aH,e1,hr,tl,wrap_i64,aa]
              refine⟨⟨ai _,by omega⟩,i, ?_,n4⟩
              rw[n2,n3]
              simp-implicitDefEqProofs (disch:=(first|omega|decide)) only[go_sem,↓reduceIte,seval,n1]
              try simp
            |false=>
              obtain⟨i,n1,⟨n2,n3⟩,n4⟩:=next (E++[lo,hi]) Uu
              have eH:(E++[lo,hi]).length≠1:=by rw[aj];show E.length+2≠1;omega
              rw[(iM eH).1]at n2;rw[(iM eH).2]at n3;simp-implicitDefEqProofs (disch:=(first|omega|decide)) only[go_sem,↓reduceIte,seval,aH,e1,hr,tl,tl2,ll2,wrap_i64,aa]
              refine⟨⟨ai _,by omega⟩,⟨ai _,by omega⟩,i, ?_,n4⟩
              rw[n2,n3]
              simp-implicitDefEqProofs (disch:=(first|omega|decide)) only[go_sem,↓reduceIte,seval,n1]
              try simp
       · have aH: ¬(j:Int)<(l.length:Int):=by omega
         rw[ad (by omega)]at*;obtain⟨i,n1,n2,n3⟩:=nr;rw[n2]
         have hU:(Gj (oU LL i.1)).under (Ff (oU LL i.1)).length=true:=CS;have hUb:yp (Ff (oU LL i.1)).length (Ff (oU LL i.1)) (Ff (oU LL i.1)):=XE;have w:IntKind.i64.wrap ((o:Int)+1)=(o:Int)+1:=wrap_i64 (by omega)
         simp-implicitDefEqProofs (disch:=(first|omega|decide)) only[go_sem,↓reduceIte,seval,aH,w,aa]
         refine⟨i, ?_,n3⟩
         simp-implicitDefEqProofs (disch:=(first|omega|decide)) only[go_sem,↓reduceIte,seval,n1,hU,hUb]
   · have B5: ¬(o:Int)<(LL.length:Int):=by omega
     obtain rfl:o=LL.length:=by omega
     have hE2:oU LL LL.length=gz [[]] (LL.flatMap xP):=by unfold oU;rw[ca]
     have h17:=Ja (rX LL)
     have hel:=(lN (LL.flatMap xP) [[]]).2;have htt:=I' LL LL.length;rw[ca]at htt;rw[dw]at hel;rw[hE2]
     unfold l9;have gw:= @Gk (LL.flatMap xP)
     generalize gz [[]] (LL.flatMap xP)=E at*;by_cases hE:E.length=1
     · have hE1:=gw hE
       rw[(sQ hE).1,(sQ hE).2]
       subst hE1;have s1:=E15_st (.inr []) trivial;have s2:=E15_cp (.inr []) trivial;simp only[Aa,yF,Ue]at s1;simp only[Em,BO,Uf]at s2;have hs:oP [[]]=[[]]:=by have:=(kq h17).1;exact(uQ (n:=1) (a:=([]:List UInt8))).1 this
       rw[hs]
       simp-implicitDefEqProofs (disch:=(first|omega|decide)) only[go_sem,↓reduceIte,seval,B5,s1,s2,cU,cx,cr,aa]
     · rw[(iM hE).1,(iM hE).2]
       have s1:=E15_st (.inl (asB E h17)) (by show(asB E h17).length<_;rw[Gi];omega)
       simp only[Aa,yF,Ue,ZP,Gi,NS]at s1;have hp:=(kq h17).1.length_eq;have s2:=E15_cp (.inl (oP E)) (by show(oP E).length<=_;rw[hp];omega)
       simp only[Em,BO,Uf,hp]at s2;have o6:(cU (oP E)).length=((cU (oP E)).map A.str).length:=by simp
       simp-implicitDefEqProofs (disch:=(first|omega|decide)) only[go_sem,↓reduceIte,seval,B5,s1,s2,cx,cr,aa]
       refine⟨by rw[aj];omega, ?_⟩
       rw[bz,cO (by simp),ad (by simp)]
end Go.Proofs.YtfnohjheonlnmaaGreat
