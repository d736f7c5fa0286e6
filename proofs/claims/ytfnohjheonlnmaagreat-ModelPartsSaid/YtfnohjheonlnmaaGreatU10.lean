/- What the laws of this claim rest on: the abstract executor, its soundness, and what the functions compute on pure data. No condition. -/
import Derived.Test.YtfnohjheonlnmaaGreatU9
noncomputable section
set_option linter.unusedVariables false
set_option linter.unusedSimpArgs false
namespace Go.Proofs.YtfnohjheonlnmaaGreat
open Go.dF Go.zK
set_option linter.unusedSimpArgs false
set_option linter.unusedVariables false
set_option maxRecDepth 20000
set_option maxHeartbeats 8000000
theorem sym_C{n:Nat}(hT:aN Tryz.prog (VQ n))(P X Y Q:List It)(h:(P++(X++(Y++Q))).length<=1000000)(hX:qd fA X)(hY:qd fA Y)(kX: ∀x∈X,x.ok)(kY: ∀y∈Y,y.ok)(hX0:1<X.length)(hY0:1<Y.length)(hn:X.length+Y.length<=n):jb Tryz.prog 233 [.row 0 0 7 (P++(X++(Y++Q))).length false,.int .i64 P.length,.int .i64 (P.length+X.length:Nat),.int .i64 (P.length+X.length+Y.length:Nat),.fn 182 []] [.row 7 ((P++(X++(Y++Q))).map It.enc)]
 (.fq []) [.row 7 ((P++(dp fA (X++Y)++Q)).map It.enc)] []:=by
 refine e_ hT mixed Tryz.func233 rfl (ab rfl) (fun n h _=>by simp at h;subst h;rfl) (by show _<=1;simp) (by show 1<=_;simp) eN ?_;unfold Tryz.f233;obtain⟨N,hN⟩: ∃N,(P++(X++(Y++Q))).length=N:=⟨_,rfl⟩
 have WV:=hN;simp only[aj]at WV;obtain⟨p,hp⟩: ∃p,P.length=p:=⟨_,rfl⟩
 obtain⟨xl,hxl⟩: ∃xl,X.length=xl:=⟨_,rfl⟩
 obtain⟨yl,hyl⟩: ∃yl,Y.length=yl:=⟨_,rfl⟩
 obtain⟨hf,hhf⟩: ∃hf,(xl+yl)/2=hf:=⟨_,rfl⟩
 obtain⟨R0,hR0⟩: ∃R0,P++(X++(Y++Q))=R0:=⟨_,rfl⟩
 have gX: ∀c (hc:c<xl),R0[p+c]? =some (X[c]!):=fun c hc=>by rw[<-hR0,<-hp,bX (by omega),dU,ck (by omega),ae (by omega),getElem!_pos X c (by omega)]
 have gY: ∀c (hc:c<yl),R0[p+xl+c]? =some (Y[c]!):=fun c hc=>by
  rw[<-hR0,<-hp,bX (by omega),bX (by omega),ck (by omega)]
  rw[show P.length+xl+c-P.length-X.length=c by omega,ae (by omega),getElem!_pos Y c (by omega)]
 have oX: ∀c (hc:c<xl),(X[c]!).ok:=fun c hc=>by rw[getElem!_pos X c (by omega)];exact kX _ (ao _)
 have oY: ∀c (hc:c<yl),(Y[c]!).ok:=fun c hc=>by rw[getElem!_pos Y c (by omega)];exact kY _ (ao _)
 rw[hN]at h⊢;rw[hp,hxl,hyl,hR0]
 rw[hR0]at hN;rw[hp,hxl,hyl]at WV;have e1:((p+xl:Nat):Int)-(p:Int)=(xl:Int):=by omega
 have e1b:((xl:Int)==1)=false:=by rw[beq_eq_false_iff_ne];omega
 have e2:((p+xl+yl:Nat):Int)-((p+xl:Nat):Int)=(yl:Int):=by omega
 have e2b:((yl:Int)==1)=false:=by rw[beq_eq_false_iff_ne];omega
 have s1:(p:Int)+((p+xl+yl:Nat):Int)=((2*p+xl+yl:Nat):Int):=by omega
 have s2:((2*p+xl+yl:Nat):Int).fdiv 2=((p+hf:Nat):Int):=by rw[fL _ (by omega)];omega
 have s3:((p+hf:Nat):Int)+((p+xl:Nat):Int)=((2*p+hf+xl:Nat):Int):=by omega
 have s4:((2*p+hf+xl:Nat):Int)-1=((2*p+hf+xl-1:Nat):Int):=by omega
 have vM:hf-yl<=min hf xl:=by omega
 have rl0:R0.length=N:=hN
 have fin: ∀s,hf-yl<=s->s<=min hf xl->(s=hf-yl\/fA (Y[hf-s]!) (X[s-1]!)=false)->(s=min hf xl\/fA (Y[hf-1-s]!) (X[s]!)=true)->
  ∃R1 R2:List It,(¬(s<xl/\0<hf-s)->R0=R1)/\(¬(0<s/\0<hf-s)->R1=R2)/\(¬(s<xl/\hf-s<yl)->R2=P++(dp fA (X++Y)++Q))/\
   (s<xl/\0<hf-s->(VQ n).hp 264 [.row 0 0 7 N false,.int .i64 ((p+s:Nat):Int),.int .i64 ((p+xl:Nat):Int),.int .i64 ((p+xl+(hf-s):Nat):Int),.fn 182 []] [.row 7 (R0.map It.enc)]=some (.fq [],[.row 7 (R1.map It.enc)],[]))/\
   (0<s/\0<hf-s->(VQ n).hp 233 [.row 0 0 7 N false,.int .i64 (p:Int),.int .i64 ((p+s:Nat):Int),.int .i64 ((p+hf:Nat):Int),.fn 182 []] [.row 7 (R1.map It.enc)]=some (.fq [],[.row 7 (R2.map It.enc)],[]))/\
   (s<xl/\hf-s<yl->(VQ n).hp 233 [.row 0 0 7 N false,.int .i64 ((p+hf:Nat):Int),.int .i64 ((p+xl+(hf-s):Nat):Int),.int .i64 ((p+xl+yl:Nat):Int),.fn 182 []] [.row 7 (R2.map It.enc)]=some (.fq [],[.row 7 ((P++(dp fA (X++Y)++Q)).map It.enc)],[])):=by
  intro s hs1 hs2 i1 i2;have O0:=sym_cut hX hY (h:=hf) (s:=s) (by omega) (by rw[hxl];exact i2) (by rw[hyl];exact i1)
  have lX1:(X.take s).length=s:=by rw[aK];omega
  have lX2:(X.drop s).length=xl-s:=by rw[cj];omega
  have lY1:(Y.take (hf-s)).length=hf-s:=by rw[aK];omega
  have lY2:(Y.drop (hf-s)).length=yl-(hf-s):=by rw[cj];omega
  have eX:X.take s++X.drop s=X:=br _ _;have eY:Y.take (hf-s)++Y.drop (hf-s)=Y:=br _ _;have sX1:=qd.take hX s;have sX2:=qd.drop hX s;have sY1:=qd.take hY (hf-s)
  have sY2:=qd.drop hY (hf-s)
  have kX1: ∀x∈X.take s,x.ok:=fun x hx=>kX x (b_ hx)
  have kX2: ∀x∈X.drop s,x.ok:=fun x hx=>kX x (dj hx)
  have kY1: ∀x∈Y.take (hf-s),x.ok:=fun x hx=>kY x (b_ hx)
  have kY2: ∀x∈Y.drop (hf-s),x.ok:=fun x hx=>kY x (dj hx)
  rw[<-O0]
  rw[<-eX,<-eY]at hR0;generalize X.take s=X1 at*;generalize X.drop s=X2 at*;generalize Y.take (hf-s)=Y1 at*;generalize Y.drop (hf-s)=Y2 at*;have hS1:(dp fA (X1++Y1)).length=hf:=by rw[eP,aj];omega
  simp only[ba]at hR0;refine⟨P++(X1++(Y1++(X2++(Y2++Q)))),P++(dp fA (X1++Y1)++(X2++(Y2++Q))), ?_, ?_, ?_, ?_, ?_, ?_⟩
  · intro th
    rw[<-hR0]
    by_cases h1:s<xl
    · obtain rfl:Y1=[]:=aV.1 (by omega)
      simp
    · obtain rfl:X2=[]:=aV.1 (by omega)
      simp
  · intro th
    have:dp fA (X1++Y1)=X1++Y1:=by
     by_cases h1:0<s
     · obtain rfl:Y1=[]:=aV.1 (by omega)
       rw[bj];exact uZ mV sX1
     · obtain rfl:X1=[]:=aV.1 (by omega)
       rw[bx];exact uZ mV sY1
    rw[this,ba]
  · intro th
    have:dp fA (X2++Y2)=X2++Y2:=by
     by_cases h1:s<xl
     · obtain rfl:Y2=[]:=aV.1 (by omega)
       rw[bj];exact uZ mV sX2
     · obtain rfl:X2=[]:=aV.1 (by omega)
       rw[bx];exact uZ mV sY2
    rw[this];simp only[ba]
  · intro hyes
    exact hp_rot (m:=n) (P:=P++X1) (U:=X2) (W:=Y1) (Q:=Y2++Q) (by rw[<-hR0];simp only[ba]) (by simp only[ba]) rl0 h (by rw[aj];omega) (by omega) (by omega) (by omega) (by omega)
  · intro hyes
    exact hp_sym (P:=P) (U:=X1) (W:=Y1) (Q:=X2++(Y2++Q)) rfl rfl (by rw[<-rl0,<-hR0];simp only[aj];omega) h hp (by omega) (by omega) (by omega) (by omega) sX1 sY1 kX1 kY1 (by omega)
  · intro hyes
    exact hp_sym (P:=P++dp fA (X1++Y1)) (U:=X2) (W:=Y2) (Q:=Q) (by simp only[ba]) (by simp only[ba]) (by rw[<-rl0,<-hR0];simp only[aj,hS1];omega) h (by rw[aj];omega) (by omega) (by omega) (by omega) (by omega) sX2 sY2 kX2 kY2 (by omega)
 generalize P++(dp fA (X++Y)++Q)=RF at*;have run:hf<xl\/ ¬hf<xl:=Decidable.em _;rcases run with hc|hc
 · have c1:((p+hf:Nat):Int)<((p+xl:Nat):Int):=by omega
   have s5:((2*p+hf+xl:Nat):Int)-((p+xl+yl:Nat):Int)=((p+(hf-yl):Nat):Int):=by omega
   have EC:min hf xl=hf:=by omega
   simp-implicitDefEqProofs (maxSteps:=600000) (disch:=(first|omega|decide)) only[go_sem,↓reduceIte,seval,e1,e1b,e2,e2b,s1,s2,s3,s4,s5,c1,Mt,nA,wrap_u64,wrap_i64,aa,beq_self_eq_true]
   refine a_ [0,1,2,3,4,18,19,22] (ι:={q:Nat×Nat//hf-yl<=q.1/\q.1<=q.2/\q.2<=min hf xl/\(q.1=hf-yl\/fA (Y[hf-q.1]!) (X[q.1-1]!)=false)/\(q.2=min hf xl\/fA (Y[hf-1-q.2]!) (X[q.2]!)=true)}) (fun q=>[(20,.int .i64 ((p+q.1.1:Nat):Int)),(21,.int .i64 ((p+q.1.2:Nat):Int))]) (fun q=>[(0,.row 7 (R0.map It.enc))]) (fun q=>q.1.2-q.1.1) ⟨(hf-yl,min hf xl),ai _,vM,ai _,.inl rfl,.inl rfl⟩ (by show 1<=_;simp) ?_ ?_
   · simp-implicitDefEqProofs (maxSteps:=600000) (disch:=(first|omega|decide)) only[go_sem,↓reduceIte,seval,EC]
     try rfl
   · rintro⟨⟨s,e⟩,h1,h2,h3,i1,i2⟩
     simp only at h1 h2 h3 i1 i2⊢;by_cases bo:s<e
     · have d0:((p+s:Nat):Int)<((p+e:Nat):Int):=by omega
       obtain⟨c,hcd⟩: ∃c,(s+e)/2=c:=⟨_,rfl⟩
       have t1:((p+s:Nat):Int)+((p+e:Nat):Int)=((2*p+s+e:Nat):Int):=by omega
       have t2:((2*p+s+e:Nat):Int).fdiv 2=((p+c:Nat):Int):=by rw[fL _ (by omega)];omega
       have t3:((2*p+hf+xl-1:Nat):Int)-((p+c:Nat):Int)=((p+xl+(hf-1-c):Nat):Int):=by omega
       have t4:((p+c:Nat):Int)+1=((p+(c+1):Nat):Int):=by omega
       have gx:=ik (gX c (by omega))
       have gy:=ik (gY (hf-1-c) (by omega))
       have gc:=JA (x:=Y[hf-1-c]!) (y:=X[c]!) ⟨oY _ (by omega),oX _ (by omega)⟩
       have r1:((p+c:Nat):Int)<(N:Int):=by omega
       have r2:(0:Int)<=((p+c:Nat):Int):=by omega
       have r3:((p+c:Nat):Int).toNat=p+c:=bg _;have r4:((p+xl+(hf-1-c):Nat):Int)<(N:Int):=by omega
       have r5:(0:Int)<=((p+xl+(hf-1-c):Nat):Int):=by omega
       have r6:((p+xl+(hf-1-c):Nat):Int).toNat=p+xl+(hf-1-c):=bg _;have hlb:fA (Y[hf-1-c]!) (X[c]!)=cL (Y[hf-1-c]!).key (X[c]!).key:=rfl;have nx1:cL (Y[hf-1-c]!).key (X[c]!).key=false->fA (Y[hf-(c+1)]!) (X[c+1-1]!)=false:=fun hh=>by rw[show hf-(c+1)=hf-1-c by omega,show c+1-1=c by omega,hlb,hh]
       have nx2:cL (Y[hf-1-c]!).key (X[c]!).key=true->fA (Y[hf-1-c]!) (X[c]!)=true:=fun hh=>by rw[hlb,hh]
       clear hlb fin;generalize hdy:Y[hf-1-c]! =dy at gy gc nx1 nx2;generalize hdx:X[c]! =dx at gx gc nx1 nx2;cases hb:cL dy.key dx.key with
       |false=>
        have nx1:=nx1 hb;simp-implicitDefEqProofs (maxSteps:=600000) (disch:=(first|omega|decide)) only[go_sem,↓reduceIte,seval,d0,t1,t2,t3,t4,gx,gy,rl0,gc,hb,r1,r2,r3,r4,r5,r6,Mt,nA,wrap_u64,wrap_i64,aa]
        exact⟨⟨(c+1,e),by show hf-yl<=c+1;omega,by show c+1<=e;omega,h3,.inr nx1,i2⟩,⟨by simp,rfl⟩,by show e-(c+1)<e-s;omega⟩
       |true=>
        have nx2:=nx2 hb;rw[<-hdy,<-hdx]at nx2;simp-implicitDefEqProofs (maxSteps:=600000) (disch:=(first|omega|decide)) only[go_sem,↓reduceIte,seval,d0,t1,t2,t3,gx,gy,rl0,gc,hb,r1,r2,r3,r4,r5,r6,Mt,nA,wrap_u64,wrap_i64,aa]
        exact⟨⟨(s,c),h1,by show s<=c;omega,by show c<=min hf xl;omega,i1,.inr nx2⟩,⟨by simp,rfl⟩,by show c-s<e-s;omega⟩
     · have d0: ¬((p+s:Nat):Int)<((p+e:Nat):Int):=by omega
       obtain rfl:s=e:=by omega
       obtain⟨R1,R2,E1,E2,E3,F1,F2,F3⟩:=fin s h1 h3 i1 i2;have t5:((2*p+hf+xl:Nat):Int)-((p+s:Nat):Int)=((p+xl+(hf-s):Nat):Int):=by omega
       clear fin gX gY oX oY i1 i2 hR0;have lb1:s<xl\/s=xl:=by omega
       have lb2:0<hf-s\/hf-s=0:=by omega
       have lb3:0<s\/s=0:=by omega
       have lb4:hf-s<yl\/hf-s=yl:=by omega
       have K1:(((p+s:Nat):Int)<((p+xl:Nat):Int))=(s<xl):=propext ⟨fun _=>by omega,fun _=>by omega⟩
       have K2:(((p+xl:Nat):Int)<((p+xl+(hf-s):Nat):Int))=(0<hf-s):=propext ⟨fun _=>by omega,fun _=>by omega⟩
       have K3:((p:Int)<((p+s:Nat):Int))=(0<s):=propext ⟨fun _=>by omega,fun _=>by omega⟩
       have K4:(((p+s:Nat):Int)<((p+hf:Nat):Int))=(0<hf-s):=propext ⟨fun _=>by omega,fun _=>by omega⟩
       have K5:(((p+hf:Nat):Int)<((p+xl+(hf-s):Nat):Int))=(s<xl):=propext ⟨fun _=>by omega,fun _=>by omega⟩
       have K6:(((p+xl+(hf-s):Nat):Int)<((p+xl+yl:Nat):Int))=(hf-s<yl):=propext ⟨fun _=>by omega,fun _=>by omega⟩
       by_cases a1:s<xl<;>by_cases a2:0<hf-s<;>by_cases a3:0<s<;>by_cases a4:hf-s<yl
       all_goals
        first
         |(have F1:=F1 ⟨a1,a2⟩)
         |(obtain rfl:=E1 (fun h=>by first|exact a1 h.1|exact a2 h.2);clear F1;have F1:([]:List It)++[]=[]:=rfl)
       all_goals
        first
         |(have F2:=F2 ⟨a3,a2⟩)
         |(obtain rfl:=E2 (fun h=>by first|exact a3 h.1|exact a2 h.2);clear F2;have F2:([]:List It)++[]=[]:=rfl)
       all_goals
        first
         |(have F3:=F3 ⟨a1,a4⟩)
         |(obtain rfl:=E3 (fun h=>by first|exact a1 h.1|exact a4 h.2);clear F3;have F3:([]:List It)++[]=[]:=rfl)
       all_goals
        simp-implicitDefEqProofs (maxSteps:=600000) (disch:=(first|omega|decide)) only[go_sem,↓reduceIte,seval,d0,t5,K1,K2,K3,K4,K5,K6,a1,a2,a3,a4,F1,F2,F3,wrap_i64,aa]
 · have c1: ¬((p+hf:Nat):Int)<((p+xl:Nat):Int):=by omega
   have EC:min hf xl=xl:=by omega
   have hlo0:hf-yl=0:=by omega
   simp-implicitDefEqProofs (maxSteps:=600000) (disch:=(first|omega|decide)) only[go_sem,↓reduceIte,seval,e1,e1b,e2,e2b,s1,s2,s3,s4,c1,Mt,nA,wrap_u64,wrap_i64,aa,beq_self_eq_true]
   refine a_ [0,1,2,3,4,18,19,22] (ι:={q:Nat×Nat//hf-yl<=q.1/\q.1<=q.2/\q.2<=min hf xl/\(q.1=hf-yl\/fA (Y[hf-q.1]!) (X[q.1-1]!)=false)/\(q.2=min hf xl\/fA (Y[hf-1-q.2]!) (X[q.2]!)=true)}) (fun q=>[(20,.int .i64 ((p+q.1.1:Nat):Int)),(21,.int .i64 ((p+q.1.2:Nat):Int))]) (fun q=>[(0,.row 7 (R0.map It.enc))]) (fun q=>q.1.2-q.1.1) ⟨(hf-yl,min hf xl),ai _,vM,ai _,.inl rfl,.inl rfl⟩ (by show 1<=_;simp) ?_ ?_
   · simp-implicitDefEqProofs (maxSteps:=600000) (disch:=(first|omega|decide)) only[go_sem,↓reduceIte,seval,EC,hlo0,dh]
     try rfl
   · rintro⟨⟨s,e⟩,h1,h2,h3,i1,i2⟩
     simp only at h1 h2 h3 i1 i2⊢;by_cases bo:s<e
     · have d0:((p+s:Nat):Int)<((p+e:Nat):Int):=by omega
       obtain⟨c,hcd⟩: ∃c,(s+e)/2=c:=⟨_,rfl⟩
       have t1:((p+s:Nat):Int)+((p+e:Nat):Int)=((2*p+s+e:Nat):Int):=by omega
       have t2:((2*p+s+e:Nat):Int).fdiv 2=((p+c:Nat):Int):=by rw[fL _ (by omega)];omega
       have t3:((2*p+hf+xl-1:Nat):Int)-((p+c:Nat):Int)=((p+xl+(hf-1-c):Nat):Int):=by omega
       have t4:((p+c:Nat):Int)+1=((p+(c+1):Nat):Int):=by omega
       have gx:=ik (gX c (by omega))
       have gy:=ik (gY (hf-1-c) (by omega))
       have gc:=JA (x:=Y[hf-1-c]!) (y:=X[c]!) ⟨oY _ (by omega),oX _ (by omega)⟩
       have r1:((p+c:Nat):Int)<(N:Int):=by omega
       have r2:(0:Int)<=((p+c:Nat):Int):=by omega
       have r3:((p+c:Nat):Int).toNat=p+c:=bg _;have r4:((p+xl+(hf-1-c):Nat):Int)<(N:Int):=by omega
       have r5:(0:Int)<=((p+xl+(hf-1-c):Nat):Int):=by omega
       have r6:((p+xl+(hf-1-c):Nat):Int).toNat=p+xl+(hf-1-c):=bg _;have hlb:fA (Y[hf-1-c]!) (X[c]!)=cL (Y[hf-1-c]!).key (X[c]!).key:=rfl;have nx1:cL (Y[hf-1-c]!).key (X[c]!).key=false->fA (Y[hf-(c+1)]!) (X[c+1-1]!)=false:=fun hh=>by rw[show hf-(c+1)=hf-1-c by omega,show c+1-1=c by omega,hlb,hh]
       have nx2:cL (Y[hf-1-c]!).key (X[c]!).key=true->fA (Y[hf-1-c]!) (X[c]!)=true:=fun hh=>by rw[hlb,hh]
       clear hlb fin;generalize hdy:Y[hf-1-c]! =dy at gy gc nx1 nx2;generalize hdx:X[c]! =dx at gx gc nx1 nx2;cases hb:cL dy.key dx.key with
       |false=>
        have nx1:=nx1 hb;simp-implicitDefEqProofs (maxSteps:=600000) (disch:=(first|omega|decide)) only[go_sem,↓reduceIte,seval,d0,t1,t2,t3,t4,gx,gy,rl0,gc,hb,r1,r2,r3,r4,r5,r6,Mt,nA,wrap_u64,wrap_i64,aa]
        exact⟨⟨(c+1,e),by show hf-yl<=c+1;omega,by show c+1<=e;omega,h3,.inr nx1,i2⟩,⟨by simp,rfl⟩,by show e-(c+1)<e-s;omega⟩
       |true=>
        have nx2:=nx2 hb;rw[<-hdy,<-hdx]at nx2;simp-implicitDefEqProofs (maxSteps:=600000) (disch:=(first|omega|decide)) only[go_sem,↓reduceIte,seval,d0,t1,t2,t3,gx,gy,rl0,gc,hb,r1,r2,r3,r4,r5,r6,Mt,nA,wrap_u64,wrap_i64,aa]
        exact⟨⟨(s,c),h1,by show s<=c;omega,by show c<=min hf xl;omega,i1,.inr nx2⟩,⟨by simp,rfl⟩,by show c-s<e-s;omega⟩
     · have d0: ¬((p+s:Nat):Int)<((p+e:Nat):Int):=by omega
       obtain rfl:s=e:=by omega
       obtain⟨R1,R2,E1,E2,E3,F1,F2,F3⟩:=fin s h1 h3 i1 i2;have t5:((2*p+hf+xl:Nat):Int)-((p+s:Nat):Int)=((p+xl+(hf-s):Nat):Int):=by omega
       clear fin gX gY oX oY i1 i2 hR0;have lb1:s<xl\/s=xl:=by omega
       have lb2:0<hf-s\/hf-s=0:=by omega
       have lb3:0<s\/s=0:=by omega
       have lb4:hf-s<yl\/hf-s=yl:=by omega
       have K1:(((p+s:Nat):Int)<((p+xl:Nat):Int))=(s<xl):=propext ⟨fun _=>by omega,fun _=>by omega⟩
       have K2:(((p+xl:Nat):Int)<((p+xl+(hf-s):Nat):Int))=(0<hf-s):=propext ⟨fun _=>by omega,fun _=>by omega⟩
       have K3:((p:Int)<((p+s:Nat):Int))=(0<s):=propext ⟨fun _=>by omega,fun _=>by omega⟩
       have K4:(((p+s:Nat):Int)<((p+hf:Nat):Int))=(0<hf-s):=propext ⟨fun _=>by omega,fun _=>by omega⟩
       have K5:(((p+hf:Nat):Int)<((p+xl+(hf-s):Nat):Int))=(s<xl):=propext ⟨fun _=>by omega,fun _=>by omega⟩
       have K6:(((p+xl+(hf-s):Nat):Int)<((p+xl+yl:Nat):Int))=(hf-s<yl):=propext ⟨fun _=>by omega,fun _=>by omega⟩
       by_cases a1:s<xl<;>by_cases a2:0<hf-s<;>by_cases a3:0<s<;>by_cases a4:hf-s<yl
       all_goals
        first
         |(have F1:=F1 ⟨a1,a2⟩)
         |(obtain rfl:=E1 (fun h=>by first|exact a1 h.1|exact a2 h.2);clear F1;have F1:([]:List It)++[]=[]:=rfl)
       all_goals
        first
         |(have F2:=F2 ⟨a3,a2⟩)
         |(obtain rfl:=E2 (fun h=>by first|exact a3 h.1|exact a2 h.2);clear F2;have F2:([]:List It)++[]=[]:=rfl)
       all_goals
        first
         |(have F3:=F3 ⟨a1,a4⟩)
         |(obtain rfl:=E3 (fun h=>by first|exact a1 h.1|exact a4 h.2);clear F3;have F3:([]:List It)++[]=[]:=rfl)
       all_goals
        simp-implicitDefEqProofs (maxSteps:=600000) (disch:=(first|omega|decide)) only[go_sem,↓reduceIte,seval,d0,t5,K1,K2,K3,K4,K5,K6,a1,a2,a3,a4,F1,F2,F3,wrap_i64,aa]
theorem JT: ∀(n:Nat) (v:RtA),smK n v->jb Tryz.prog 233 (De v) (mL (yd v)) (smR v).1 (smR v).2.1 (smR v).2.2
 |0,v,h=>absurd h.2.2.2.2.2 (by omega)
 |n+1,(P,X,Y,Q),⟨⟨k1,k2,k3⟩,k4,k5,k6,k7,k8⟩=>by
  have hT:=TIm_ok (n:=n) (JT n)
  simp only[yd]at k1 k2 k3 k4 k5 k6 k7 k8;by_cases h1:X.length=1
  · obtain⟨x,rfl⟩:=sq.1 h1
    exact sym_A hT P Y Q x k1 k5 (k6 x (by simp)) k7 k3
  · by_cases h2:Y.length=1
    · obtain⟨y,rfl⟩:=sq.1 h2
      exact sym_B hT P X Q y k1 k4 (k7 y (by simp)) k6 (by omega)
    · exact sym_C hT P X Y Q k1 k4 k5 k6 k7 (by omega) (by omega) (by omega)
end Go.Proofs.YtfnohjheonlnmaaGreat
namespace Go.zK
set_option linter.unusedVariables false
set_option linter.unusedSimpArgs false
section
variable{V:Type}{lt:V->V->Bool}
inductive Gt(lt:V->V->Bool)(bs:Nat):List V->List V->Prop
 |last (l:List V):l.length<=bs->Gt lt bs l (dp lt l)
 |cons (B l r:List V):B.length=bs->Gt lt bs l r->Gt lt bs (B++l) (dp lt B++r)
theorem Gt.len{bs:Nat}{l r:List V}(h:Gt lt bs l r):r.length=l.length:=by
 induction h with
 |last l h=>exact eP l
 |cons B l r hB h ih=>rw[aj,aj,eP,ih]
theorem Gt.nil{bs:Nat}{r:List V}(h:Gt lt bs [] r):r=[]:=aV.1 h.len
theorem Gt.small{bs:Nat}{l r:List V}(h:Gt lt bs l r)(hl:l.length<=bs):r=dp lt l:=by
 cases h with
 |last l h=>rfl
 |cons B l r hB h=>
  rw[aj]at hl;obtain rfl:l=[]:=aV.1 (by omega)
  rw[h.nil,bj,bj]
theorem Gt.part{bs:Nat}{l r:List V}(h:Gt lt bs l r)(hl:bs<=l.length): ∃B l' r',l=B++l'/\B.length=bs/\r=dp lt B++r'/\Gt lt bs l' r':=by
 cases h with
 |last l h=>exact⟨l,[],[],by simp,by omega,by simp,Gt.last [] (by simp)⟩
 |cons B l r hB h=>exact⟨B,l,r,rfl,hB,rfl,h⟩
end
end Go.zK
namespace Go.Proofs.YtfnohjheonlnmaaGreat
open Go.dF Go.zK
set_option linter.unusedSimpArgs false
set_option linter.unusedVariables false
set_option maxRecDepth 20000
set_option maxHeartbeats 8000000
abbrev InsA:=List It×List It×List It
def Df(v:InsA):List It:=v.1++(v.2.1++v.2.2)
def Mu(v:InsA):List A:=[.row 0 0 7 (Df v).length false,.int .i64 v.1.length,.int .i64 (v.1.length+v.2.1.length:Nat),.fn 182 []]
def insK(v:InsA):Prop:=(Df v).length<=1000000/\ ∀x∈v.2.1,x.ok
def insR(v:InsA):A×List Go.dF.Obj×List Nat:=(.fq [],mL (v.1++(dp fA v.2.1++v.2.2)),[])
def syK(v:RtA):Prop:=rtK v/\qd fA v.2.1/\qd fA v.2.2.1/\(∀x∈v.2.1,x.ok)/\(∀x∈v.2.2.1,x.ok)
theorem ins_inj(i j:InsA)(h:Mu i=Mu j)(h':mL (Df i)=mL (Df j)):i=j:=by
 obtain⟨P,S,T⟩:=i;obtain⟨P',S',T'⟩:=j;have e:=Bp h';simp only[Mu,dr,A.int.injEq,true_and,and_true,tY]at h;obtain⟨_,h1,h2⟩:=h;simp only[Df]at e;obtain⟨p1,e1⟩:=lx e h1;obtain⟨p2,p3⟩:=lx e1 (by rw[p1]at h2;omega)
 rw[p1,p2,p3]
def TIv0:aW:=TIs.kz 232 (dG Mu (fun v=>mL (Df v)) insK insR)
def TIv1:aW:=TIv0.kz 233 (dG De (fun v=>mL (yd v)) syK smR)
def TIv:aW:={TIv1 with sg:=fun f=>f==232||f==233}
@[go_sem] theorem TIv_eff{g:FuncId}:TIv.sg g=(g==232||g==233):=rfl
@[go_sem] theorem TIv_frz{g:FuncId}:TIv.xk g=false:=rfl
@[go_sem] theorem TIv_ords{n:Nat}:TIv.fS n=[]:=rfl
theorem TIv_ok:aN Tryz.prog TIv:=by
 have h1:aN Tryz.prog TIv0:=Da.kz (dE Tryz.func232 (by kernel_rfl) (by kernel_rfl)) (gm fun v h=>c_insSort v.1 v.2.1 v.2.2 h.1 h.2)
 have h2:aN Tryz.prog TIv1:=h1.kz (dE Tryz.func233 (by kernel_rfl) (by kernel_rfl)) (gm fun v h=>JT (v.2.1.length+v.2.2.1.length+1) v ⟨h.1,h.2.1,h.2.2.1,h.2.2.2.1,h.2.2.2.2,by omega⟩)
 exact⟨h2.f,h2.hp⟩
theorem hv_ins{N a b:Nat}{P S T R0 R1:List It}(e0:P++(S++T)=R0)(e1:P++(dp fA S++T)=R1)(hN:R0.length=N)(hl:N<=1000000)(ha:P.length=a)(hb:a+S.length=b)(kS: ∀x∈S,x.ok):TIv.hp 232 [.row 0 0 7 N false,.int .i64 (a:Int),.int .i64 (b:Int),.fn 182 []] [.row 7 (R0.map It.enc)]=some (.fq [],[.row 7 (R1.map It.enc)],[]):=by subst e0 e1 hN ha hb;have h00:TIv1.hp 232 (Mu (P,S,T)) (mL (Df (P,S,T)))=dG Mu (fun v=>mL (Df v)) insK insR (Mu (P,S,T)) (mL (Df (P,S,T))):=(aW.xB (by decide)).trans aW.jK;have h0:TIv.hp 232 (Mu (P,S,T)) (mL (Df (P,S,T)))=dG Mu (fun v=>mL (Df v)) insK insR (Mu (P,S,T)) (mL (Df (P,S,T))):=h00;exact h0.trans (gn (Kx:=fun v:InsA=>mL (Df v)) ins_inj (P,S,T) ⟨hl,kS⟩)
theorem hv_sym{N a b c:Nat}{P U W Q R0 R1:List It}(e0:P++(U++(W++Q))=R0)(e1:P++(dp fA (U++W)++Q)=R1)(hN:R0.length=N)(hl:N<=1000000)(ha:P.length=a)(hb:a+U.length=b)(hc:b+W.length=c)(hU:0<U.length)(hW:0<W.length)(sU:qd fA U)(sW:qd fA W)(kU: ∀x∈U,x.ok)(kW: ∀x∈W,x.ok):TIv.hp 233 [.row 0 0 7 N false,.int .i64 (a:Int),.int .i64 (b:Int),.int .i64 (c:Int),.fn 182 []] [.row 7 (R0.map It.enc)]=some (.fq [],[.row 7 (R1.map It.enc)],[]):=by subst e0 e1 hN ha hb hc;have h00:TIv1.hp 233 (De (P,U,W,Q)) (mL (yd (P,U,W,Q)))=dG De (fun v=>mL (yd v)) syK smR (De (P,U,W,Q)) (mL (yd (P,U,W,Q))):=aW.jK;have h0:TIv.hp 233 (De (P,U,W,Q)) (mL (yd (P,U,W,Q)))=dG De (fun v=>mL (yd v)) syK smR (De (P,U,W,Q)) (mL (yd (P,U,W,Q))):=h00;exact h0.trans (gn (Kx:=fun v:RtA=>mL (yd v)) Yi (P,U,W,Q) ⟨⟨hl,hU,hW⟩,sU,sW,kU,kW⟩)
theorem Br{B:List It}(h: ∀x∈B,x.ok): ∀x∈dp fA B,x.ok:=fun x hx=>h x ((St.mem mV (mJ mV B) x).1 hx)
theorem lP:aQ Tryz.prog TIv Tryz.f217.ntmps (Tryz.f217.body.getD .skip)=true:=by kernel_rfl
theorem c_stable(l:List It)(h:l.length<=1000000)(hk: ∀x∈l,x.ok):jb Tryz.prog 217 [.row 0 0 7 l.length false,.int .i64 l.length,.fn 182 []] [.row 7 (l.map It.enc)]
 (.fq []) [.row 7 ((dp fA l).map It.enc)] []:=by
 refine e_ TIv_ok mixed Tryz.func217 rfl (ab rfl) (fun n h _=>by simp at h;subst h;rfl) (by show _<=1;simp) (by show 1<=_;simp) lP ?_;unfold Tryz.f217;obtain⟨N,hN⟩: ∃N,l.length=N:=⟨_,rfl⟩
 rw[hN]at h⊢;simp-implicitDefEqProofs (disch:=(first|omega|decide)) only[go_sem,↓reduceIte,seval,wrap_i64,aa]
 refine a_ [0,1,2,6] (ι:={p:List It×List It//p.1.length+p.2.length=N/\(∀r,Gt fA 20 p.2 r->Gt fA 20 l (p.1++r))/\ ∀x∈p.2,x.ok}) (fun p=>[(7,.int .i64 (p.1.1.length:Int)),(8,.int .i64 ((p.1.1.length+20:Nat):Int))]) (fun p=>[(0,.row 7 ((p.1.1++p.1.2).map It.enc))]) (fun p=>p.1.2.length) ⟨([],l),by simpa using hN,fun r hr=>hr,hk⟩ (by show 1<=_;simp) ?_ ?_
 · simp-implicitDefEqProofs (disch:=(first|omega|decide)) only[go_sem,↓reduceIte,seval,bx,bC]
   try first|done|rfl|exact⟨rfl,rfl⟩
 · rintro⟨⟨D,B⟩,h1,h2,h3⟩
   simp only at h1 h2 h3⊢;by_cases bo:20<=B.length
   · have c0:((D.length+20:Nat):Int)<=(N:Int):=by omega
     have tl:(B.take 20).length=20:=by rw[aK];omega
     have f:=hv_ins (N:=N) (a:=D.length) (b:=D.length+20) (P:=D) (S:=B.take 20) (T:=B.drop 20) (R0:=D++B) (by rw[br]) rfl (by rw[aj];omega) h rfl (by omega) (fun x hx=>h3 x (b_ hx))
     simp-implicitDefEqProofs (disch:=(first|omega|decide)) only[go_sem,↓reduceIte,seval,c0,f,wrap_i64,aa]
     refine⟨⟨(D++dp fA (B.take 20),B.drop 20),by rw[aj,eP,cj];omega,fun r hr=> ?_,fun x hx=>h3 x (dj hx)⟩,⟨⟨by simp[eP];omega,by simp[eP];omega⟩,by simp⟩,by show(B.drop 20).length<B.length;rw[cj];omega⟩
     have hc:=Gt.cons (lt:=fA) (B.take 20) (B.drop 20) r tl hr;rw[br]at hc;have:=h2 _ hc
     rwa [ba]
   · have c0: ¬((D.length+20:Nat):Int)<=(N:Int):=by omega
     have f:=hv_ins (N:=N) (a:=D.length) (b:=N) (P:=D) (S:=B) (T:=[]) (R0:=D++B) (by rw[bj]) rfl (by rw[aj];omega) h rfl (by omega) h3;have hb:=h2 _ (Gt.last B (by omega))
     rw[bj]at f;generalize D++dp fA B=R at*;simp-implicitDefEqProofs (disch:=(first|omega|decide)) only[go_sem,↓reduceIte,seval,c0,f,wrap_i64,aa]
     clear f h1 h2 h3 c0 bo;refine a_ [0,1,2] (ι:={p:Nat×List It//20<=p.1/\p.1<=2000020/\Gt fA p.1 l p.2}) (fun p=>[(6,.int .i64 (p.1.1:Int))]) (fun p=>[(0,.row 7 (p.1.2.map It.enc))]) (fun p=>N-p.1.1) ⟨(20,R),by simp,by simp,hb⟩ (by show 1<=_;simp) ?_ ?_
     · simp-implicitDefEqProofs (disch:=(first|omega|decide)) only[go_sem,↓reduceIte,seval]
       try first|done|rfl|exact⟨rfl,rfl⟩
     · rintro⟨⟨bs,R'⟩,k1,k2,k3⟩
       simp only at k1 k2 k3⊢;clear hb;by_cases hbs:bs<N
       · have c1:(bs:Int)<(N:Int):=by omega
         have d1:2*(bs:Int)=((2*bs:Nat):Int):=by omega
         have d1':(bs:Int)*2=((2*bs:Nat):Int):=by omega
         simp-implicitDefEqProofs (disch:=(first|omega|decide)) only[go_sem,↓reduceIte,seval,c1,d1,d1',wrap_i64,aa]
         refine a_ [0,1,2,6] (ι:={p:List It×List It×List It//p.1.length+p.2.1.length=N/\Gt fA bs p.2.1 p.2.2/\(∀r,Gt fA (2*bs) p.2.1 r->Gt fA (2*bs) l (p.1++r))/\ ∀x∈p.2.1,x.ok}) (fun p=>[(7,.int .i64 (p.1.1.length:Int)),(8,.int .i64 ((p.1.1.length+2*bs:Nat):Int))]) (fun p=>[(0,.row 7 ((p.1.1++p.1.2.2).map It.enc))]) (fun p=>p.1.2.1.length) ⟨([],l,R'),by simpa using hN,k3,fun r hr=>hr,hk⟩ (by show 1<=_;simp) ?_ ?_
         · simp-implicitDefEqProofs (disch:=(first|omega|decide)) only[go_sem,↓reduceIte,seval,bx,bC,bY]
           try first|done|rfl|exact⟨rfl,rfl⟩
         · rintro⟨⟨D,B,r⟩,h1,h2,h3,h4⟩
           simp only at h1 h2 h3 h4⊢;have d2:(D.length:Int)+(bs:Int)=((D.length+bs:Nat):Int):=by omega
           by_cases bo:2*bs<=B.length
           · have c0:((D.length+2*bs:Nat):Int)<=(N:Int):=by omega
             obtain⟨B1,B',r',rfl,b1,rfl,g2⟩:=h2.part (by omega)
             have lb':(B1++B').length=B1.length+B'.length:=aj;obtain⟨B2,B3,r3,rfl,b2,rfl,g3⟩:=g2.part (by omega)
             have lb2:(B2++B3).length=B2.length+B3.length:=aj;have lr:=g3.len;have o1: ∀x∈B1,x.ok:=fun x hx=>h4 x (by simp[hx])
             have o2: ∀x∈B2,x.ok:=fun x hx=>h4 x (by simp[hx])
             have f:=hv_sym (N:=N) (a:=D.length) (b:=D.length+bs) (c:=D.length+2*bs) (P:=D) (U:=dp fA B1) (W:=dp fA B2) (Q:=r3) (R0:=D++(dp fA B1++(dp fA B2++r3))) rfl rfl (by simp only[aj,eP];omega) h rfl (by rw[eP];omega) (by rw[eP];omega) (by rw[eP];omega) (by rw[eP];omega) (tX mV _) (tX mV _) (Br o1) (Br o2)
             rw[N8 mV]at f;have d3:((D.length+2*bs:Nat):Int)+((2*bs:Nat):Int)=((D.length+2*bs+2*bs:Nat):Int):=by omega
             simp-implicitDefEqProofs (disch:=(first|omega|decide)) only[go_sem,↓reduceIte,seval,c0,d1,d1',d2,d3,f,wrap_i64,aa]
             refine⟨⟨(D++dp fA (B1++B2),B3,r3),by show(D++dp fA (B1++B2)).length+B3.length=N;rw[aj,eP,aj];omega,g3,fun r hr=> ?_,fun x hx=>h4 x (by simp[hx])⟩,⟨⟨by simp[eP];omega,by simp[eP];omega⟩,by simp⟩,by show B3.length<(B1++(B2++B3)).length;omega⟩
             have:=h3 (dp fA (B1++B2)++r) (by
              rw[<-ba]
              exact Gt.cons (B1++B2) B3 r (by rw[aj];omega) hr)
             rwa [ba]
           · have c0: ¬((D.length+2*bs:Nat):Int)<=(N:Int):=by omega
             by_cases hm:bs<B.length
             · have c2:((D.length+bs:Nat):Int)<(N:Int):=by omega
               obtain⟨B1,B2,r2,rfl,b1,rfl,g2⟩:=h2.part (by omega)
               have lb':(B1++B2).length=B1.length+B2.length:=aj;obtain rfl:=g2.small (by omega)
               have o1: ∀x∈B1,x.ok:=fun x hx=>h4 x (by simp[hx])
               have o2: ∀x∈B2,x.ok:=fun x hx=>h4 x (by simp[hx])
               have f:=hv_sym (N:=N) (a:=D.length) (b:=D.length+bs) (c:=N) (P:=D) (U:=dp fA B1) (W:=dp fA B2) (Q:=[]) (R0:=D++(dp fA B1++dp fA B2)) (by rw[bj]) rfl (by simp only[aj,eP];omega) h rfl (by rw[eP];omega) (by rw[eP];omega) (by rw[eP];omega) (by rw[eP];omega) (tX mV _) (tX mV _) (Br o1) (Br o2)
               rw[N8 mV,bj]at f;have hb:=h3 _ (Gt.last (B1++B2) (by omega))
               generalize D++dp fA (B1++B2)=R2 at*;simp-implicitDefEqProofs (disch:=(first|omega|decide)) only[go_sem,↓reduceIte,seval,c0,c2,d1,d1',d2,f,wrap_i64,aa]
               exact⟨⟨(2*bs,R2),by show 20<=2*bs;omega,by show 2*bs<=2000020;omega,hb⟩,⟨by simp,by simp⟩,by show N-2*bs<N-bs;omega⟩
             · have c2: ¬((D.length+bs:Nat):Int)<(N:Int):=by omega
               obtain rfl:=h2.small (by omega)
               have hb:=h3 _ (Gt.last B (by omega))
               generalize D++dp fA B=R2 at*;simp-implicitDefEqProofs (disch:=(first|omega|decide)) only[go_sem,↓reduceIte,seval,c0,c2,d1,d1',d2,wrap_i64,aa]
               exact⟨⟨(2*bs,R2),by show 20<=2*bs;omega,by show 2*bs<=2000020;omega,hb⟩,⟨by simp,by simp⟩,by show N-2*bs<N-bs;omega⟩
       · have c1: ¬(bs:Int)<(N:Int):=by omega
         have e:=k3.small (by omega)
         rw[e]
         simp-implicitDefEqProofs (disch:=(first|omega|decide)) only[go_sem,↓reduceIte,seval,c1,aa]
def sbE(l:List It):List A:=[.row 0 0 7 l.length false,.int .i64 l.length,.fn 182 []]
def sbK(l:List It):Prop:=l.length<=1000000/\ ∀x∈l,x.ok
def sbR(l:List It):A×List Go.dF.Obj×List Nat:=(.fq [],mL (dp fA l),[])
def soE(l:List It):List A:=[.row 0 0 7 l.length false,.fn 182 []]
def TIw0:aW:=TIs.kz 217 (dG sbE mL sbK sbR)
def TIw:aW:={TIw0 with sg:=fun f=>f==217}
theorem TIw_ok:aN Tryz.prog TIw:=by
 have h1:aN Tryz.prog TIw0:=Da.kz (dE Tryz.func217 (by kernel_rfl) (by kernel_rfl)) (gm fun l h=>c_stable l h.1 h.2)
 exact⟨h1.f,h1.hp⟩
@[go_sem] theorem TIw_eff{g:FuncId}:TIw.sg g=(g==217):=rfl
@[go_sem] theorem TIw_frz{g:FuncId}:TIw.xk g=false:=rfl
@[go_sem] theorem TIw_ords{n:Nat}:TIw.fS n=[]:=rfl
theorem hp_stable{l:List It}(h:sbK l):TIw.hp 217 [.row 0 0 7 l.length false,.int .i64 l.length,.fn 182 []] [.row 7 (l.map It.enc)]=some (.fq [],[.row 7 ((dp fA l).map It.enc)],[]):=by have h00:TIw0.hp 217 (sbE l) (mL l)=dG sbE mL sbK sbR (sbE l) (mL l):=aW.jK;have h0:TIw.hp 217 (sbE l) (mL l)=dG sbE mL sbK sbR (sbE l) (mL l):=h00;exact h0.trans (gn (fun i j _ h=>Bp h) l h)
theorem il:aQ Tryz.prog TIw Tryz.f181.ntmps (Tryz.f181.body.getD .skip)=true:=by kernel_rfl
theorem QY(l:List It)(h:sbK l):jb Tryz.prog 181 [.row 0 0 7 l.length false,.fn 182 []] [.row 7 (l.map It.enc)]
 (.fq []) [.row 7 ((dp fA l).map It.enc)] []:=by
 refine e_ TIw_ok mixed Tryz.func181 rfl (ab rfl) (fun n h _=>by simp at h;subst h;rfl) (by show _<=1;simp) (by show 1<=_;simp) il ?_;unfold Tryz.f181;have f:=hp_stable h;simp-implicitDefEqProofs (disch:=(first|omega|decide)) only[go_sem,↓reduceIte,seval,f,aa]
def X18m0:aW:=Mm.kz 181 (dG soE mL sbK sbR)
def QZ:aW:={X18m0 with sg:=fun f=>f==181}
theorem X18m_ok:aN Tryz.prog QZ:=by
 have h1:aN Tryz.prog X18m0:=aab.kz (dE Tryz.func181 (by kernel_rfl) (by kernel_rfl)) (gm fun l h=>QY l h)
 exact⟨h1.f,h1.hp⟩
@[go_sem] theorem X18m_f:QZ.f=Mm.f:=rfl
@[go_sem] theorem X18m_eff{g:FuncId}:QZ.sg g=(g==181):=rfl
@[go_sem] theorem X18m_frz{g:FuncId}:QZ.xk g=false:=rfl
@[go_sem] theorem X18m_fix{n:Nat}:QZ.fix n=false:=rfl
@[go_sem] theorem X18m_ords{n:Nat}:QZ.fS n=[]:=rfl
theorem Mv{l:List It}{n:Nat}(hn:n=l.length)(h:sbK l):QZ.hp 181 [.row 0 0 7 n false,.fn 182 []] [.row 7 (l.map It.enc)]=some (.fq [],[.row 7 ((dp fA l).map It.enc)],[]):=by subst hn;have h00:X18m0.hp 181 (soE l) (mL l)=dG soE mL sbK sbR (soE l) (mL l):=aW.jK;have h0:QZ.hp 181 (soE l) (mL l)=dG soE mL sbK sbR (soE l) (mL l):=h00;exact h0.trans (gn (fun i j _ h=>Bp h) l h)
theorem Mw:aQ Tryz.prog QZ Tryz.f131.ntmps (Tryz.f131.body.getD .skip)=true:=by kernel_rfl
theorem Q0(L:List (List It))(hL:L.length<=1000000)(hk: ∀m∈L,∀x∈m,x.ok)(hs:L.flatten.length<=1000000):bp Tryz.prog 131 [.ay (L.map fun m=> .ay (m.map It.enc))] (· = .ay ((bM L.flatten).map It.enc)):=by
 refine ah X18m_ok mixed Tryz.func131 rfl (ab rfl) Mw ?_;unfold Tryz.f131;have tk: ∀m:List It,(m.map It.enc).take m.length=m.map It.enc:=fun m=>ad (by simp)
 simp-implicitDefEqProofs (disch:=(first|omega|decide)) only[go_sem,↓reduceIte,seval,aa]
 refine ch 3 7 rfl ?_;refine a_ [0,12,13] (ι:={i:Nat//i<=L.length}) (fun i=>[(14,.int .i64 i.1),(3,.row 0 0 7 ((L.take i.1).flatten.filter bQ).length false)]) (fun i=>[(0,.row 7 (((L.take i.1).flatten.filter bQ).map It.enc))]) (fun i=>L.length-i.1) ⟨0,by omega⟩ (aw _) ?_ ?_
 · simp-implicitDefEqProofs (disch:=(first|omega|decide)) only[go_sem,↓reduceIte,seval]
   first|done|simp
 · rintro⟨i,hi⟩
   simp only;by_cases bo:i<L.length
   · have aH:(i:Int)<(L.length:Int):=by omega
     have em:(L.map fun m=>A.ay (m.map It.enc))[i]? =some (.ay (L[i].map It.enc)):=by rw[aT,ae bo];rfl
     have hm:=hk _ (ao bo)
     have hF:((L.take (i+1)).flatten).filter bQ=((L.take i).flatten).filter bQ++L[i].filter bQ:=by rw[JC bo,bP]
     have hb:((L.take i).flatten.filter bQ).length+L[i].length<=1000000:=by
      have h1:=X_ L (i+1)
      rw[JC bo,aj]at h1;have h2:=aO bQ (L.take i).flatten;omega
     generalize L[i]=m at*;generalize hFi:(L.take i).flatten.filter bQ=F at*;simp-implicitDefEqProofs (disch:=(first|omega|decide)) only[go_sem,↓reduceIte,seval,aH,em,wrap_i64,aa]
     refine a_ [0,12,13,14,18,19] (ι:={j:Nat//j<=m.length}) (fun j=>[(20,.int .i64 j.1),(3,.row 0 0 7 (F++(m.take j.1).filter bQ).length false)]) (fun j=>[(0,.row 7 ((F++(m.take j.1).filter bQ).map It.enc))]) (fun j=>m.length-j.1) ⟨0,by omega⟩ (aw _) ?_ ?_
     · simp-implicitDefEqProofs (disch:=(first|omega|decide)) only[go_sem,↓reduceIte,seval,mc,iz,bj]
       first|done|(simp;done)|exact⟨⟨rfl,rfl⟩,rfl⟩
     · rintro⟨j,hj⟩
       simp only;by_cases mP:j<m.length
       · have ie:(j:Int)<(m.length:Int):=by omega
         have ej:=eG mP;have gr:=aac (hm _ (ao mP))
         have fe:=jr (f:=bQ) mP
         have VP:(F++(m.take j).filter bQ).length<=1000000:=by
          have:=aO bQ (m.take j)
          rw[aK]at this;rw[aj];omega
         have hgl2:(F++(m.take j).filter bQ).length+1<=1000001:=by omega
         generalize m[j]=x at*;obtain⟨G,hG⟩: ∃G,F++(m.take j).filter bQ=G:=⟨_,rfl⟩
         have Ya:=tk G;cases hr:bQ x with
         |true=>
          rw[hr]at gr fe;have hn:F++(m.take (j+1)).filter bQ=G++[x]:=by rw[fe,<-hG];simp
          rw[hG]at VP hgl2⊢;simp-implicitDefEqProofs (disch:=(first|omega|decide)) only[go_sem,↓reduceIte,seval,ie,ej,gr,Ya,wrap_i64,aa]
          refine⟨⟨ai _,by omega⟩,⟨j+1,mP⟩,⟨⟨by simp,by rw[hn];simp⟩,by rw[hn,<-jG]⟩,by show m.length-(j+1)<m.length-j;omega⟩
         |false=>
          rw[hr]at gr fe;have hn:F++(m.take (j+1)).filter bQ=G:=by rw[fe,<-hG];simp
          rw[hG]
          simp-implicitDefEqProofs (disch:=(first|omega|decide)) only[go_sem,↓reduceIte,seval,ie,ej,gr,wrap_i64,aa]
          exact⟨⟨j+1,mP⟩,⟨⟨by simp,by rw[hn]⟩,by rw[hn]⟩,by show m.length-(j+1)<m.length-j;omega⟩
       · have ie: ¬(j:Int)<(m.length:Int):=by omega
         rw[ad (by omega),<-hF]
         simp-implicitDefEqProofs (disch:=(first|omega|decide)) only[go_sem,↓reduceIte,seval,ie,wrap_i64,aa]
         exact⟨⟨i+1,bo⟩,⟨⟨by simp,rfl⟩,rfl⟩,by show L.length-(i+1)<L.length-i;omega⟩
   · have aH: ¬(i:Int)<(L.length:Int):=by omega
     rw[ad (by omega)]
     have hsort:sbK (L.flatten.filter bQ):=⟨aL (aO _ _) hs,fun x hx=>by obtain⟨m,hm,hx⟩:=ng.1 (aP.1 hx).1;exact hk m hm x hx⟩
     have f:=Mv rfl hsort;have hres:bM L.flatten=((dp fA (L.flatten.filter bQ)).foldl (jq fA bt) []).reverse:=rfl;have vz:(dp fA (L.flatten.filter bQ)).length=(L.flatten.filter bQ).length:=eP _;have hb:=hsort.1;rw[hres]
     rw[<-vz]at f⊢;rw[<-vz]at hb;generalize hFl:L.flatten.filter bQ=F at*;generalize hS:dp fA F=S at*;simp-implicitDefEqProofs (disch:=(first|omega|decide)) only[go_sem,↓reduceIte,seval,aH,f,wrap_i64,aa]
     refine ch 8 7 rfl ?_;refine a_ [3,34,35] (ι:={k:Nat//k<=S.length}) (fun k=>[(36,.int .i64 k.1),(8,.row 1 0 7 (((S.take k.1).foldl (jq fA bt) []).reverse).length false)]) (fun k=>[(0,.row 7 (S.map It.enc)),(1,.row 7 ((((S.take k.1).foldl (jq fA bt) []).reverse).map It.enc))]) (fun k=>S.length-k.1) ⟨0,by omega⟩ (aw _) ?_ ?_
     · simp-implicitDefEqProofs (disch:=(first|omega|decide)) only[go_sem,↓reduceIte,seval]
       first|done|(simp;done)|rfl
     · rintro⟨k,M9⟩
       simp only;by_cases hkl:k<S.length
       · have hkl':(k:Int)<(S.length:Int):=by omega
         have ek:=eG hkl;have eO:(S.take (k+1)).foldl (jq fA bt) []=jq fA bt ((S.take k).foldl (jq fA bt) []) S[k]:=by rw[<-ar hkl,cp];rfl
         have hrl:((S.take k).foldl (jq fA bt) []).length<=1000000:=by
          have:=N9 (S.take k) []
          rw[aK]at this;simp only[bC]at this;omega
         generalize S[k]=x at*;generalize hr2:(S.take (k+1)).foldl (jq fA bt) []=r2 at*
         have fin: ∀(o2:List It) (c:Nat) (es:List A),r2.reverse=o2->c=o2.length->es=o2.map It.enc-> ∃j:{k:Nat//k<=S.length},(((k:Int)+1=(j.1:Int)/\c=(((S.take j.1).foldl (jq fA bt) []).reverse).length)/\es=(((S.take j.1).foldl (jq fA bt) []).reverse).map It.enc)/\S.length-j.1<S.length-k:=fun o2 c es h1 h2 h3=>
          ⟨⟨k+1,hkl⟩,⟨⟨by simp,by rw[hr2,h1];exact h2⟩,by rw[hr2,h1];exact h3⟩,by show S.length-(k+1)<S.length-k;omega⟩
         generalize(S.take k).foldl (jq fA bt) []=r at*;cases r with
         |nil=>
          have hn:r2=[x]:=eO;subst hn;have z0:((0:Int)==0)=true:=rfl;simp-implicitDefEqProofs (disch:=(first|omega|decide)) only[go_sem,↓reduceIte,seval,hkl',ek,z0,wrap_i64,aa,List.reverse_nil,bC,bD]
          exact fin [x] 1 _ rfl rfl rfl
         |cons y r'=>
          rw[mB]
          simp only[aG]at hrl;obtain⟨o,ho⟩: ∃o,r'.reverse=o:=⟨_,rfl⟩
          have vv:o.length=r'.length:=by rw[<-ho,er]
          have vM:(o++[y]).length=o.length+1:=by simp
          have c0:((((o.length+1:Nat):Int))==0)=false:=by rw[beq_eq_false_iff_ne];omega
          have c1:((o.length+1:Nat):Int)-1=(o.length:Int):=by omega
          have c2:(o.length:Int)<((o.length+1:Nat):Int):=by omega
          have gy:((o++[y]).map It.enc)[o.length]? =some (.agg [.str y.key,.int .i64 y.rep,.int .i64 y.da,.int .i64 y.du,.int .i64 y.prio,.bool y.dead,.str y.body]):=ik (by simp)
          have gset:=u0 (o++[y]) o.length x;have lG:(o++[y]).set o.length x=o++[x]:=by simp
          rw[lG]at gset;have Gr:=tk (o++[y])
          rw[vM]at Gr;have gcmp:=x_Cmp (x:=x) (y:=y)
          have hbt:=Z' x y;have EB:eqv fA x y=(x.key==y.key):=eqvI;simp only[jq,EB]at eO;rw[ho]
          cases JL:y.key==x.key with
          |false=>
           have hkey':(x.key==y.key)=false:=by rw[beq_eq_false_iff_ne]at*;exact fun e=>JL e.symm
           rw[hkey']at eO;have hn:r2.reverse=o++[y]++[x]:=by rw[eO];simp[ho]
           simp-implicitDefEqProofs (disch:=(first|omega|decide)) only[go_sem,↓reduceIte,seval,hkl',ek,vM,c0,c1,c2,gy,JL,Gr,wrap_i64,aa]
           exact⟨⟨ai _,by omega⟩,fin (o++[y]++[x]) _ _ hn (by simp) (jG (o++[y]) x)⟩
          |true=>
           have hkey':(x.key==y.key)=true:=by rw[beq_iff_eq]at*;exact JL.symm
           rw[hkey']at eO;cases hw:bt x y with
           |true=>
              rw[hw]at hbt;have hn:r2.reverse=o++[x]:=by rw[eO];simp[ho,better,hw]
              simp-implicitDefEqProofs (disch:=(first|omega|decide)) only[go_sem,↓reduceIte,seval,hkl',ek,vM,c0,c1,c2,gy,JL,gcmp,hbt,gset,spl7,wrap_i64,aa]
              exact fin (o++[x]) _ _ hn (by simp) rfl
           |false=>
              rw[hw]at hbt;have hn:r2.reverse=o++[y]:=by rw[eO];simp[ho,better,hw]
              simp-implicitDefEqProofs (disch:=(first|omega|decide)) only[go_sem,↓reduceIte,seval,hkl',ek,vM,c0,c1,c2,gy,JL,gcmp,hbt,wrap_i64,aa]
              exact fin (o++[y]) _ _ hn (by simp) rfl
       · have hkl': ¬(k:Int)<(S.length:Int):=by omega
         rw[ad (by omega)]
         have Gr:=tk (S.foldl (jq fA bt) []).reverse;simp-implicitDefEqProofs (disch:=(first|omega|decide)) only[go_sem,↓reduceIte,seval,hkl',Gr,wrap_i64,aa]
         exact ai _
def JU(last:Option (List UInt8))(x:It):Bool:=match last with|none=>true|some k=>cL k x.key
def qB(last:Option (List UInt8))(x:It):Bool:=bQ x&&JU last x
def Mx(l:List It)(last:Option (List UInt8)):Nat->Int
 |0=> -1
 |n+1=>if qB last (l[n]!)&&(decide (Mx l last n<0)||cL (l[n]!).key (l[(Mx l last n).toNat]!).key)then(n:Int)else Mx l last n
theorem w9(l:List It)(last:Option (List UInt8)): ∀n,(Mx l last n= -1/\ ∀i,i<n->qB last (l[i]!)=false)\/(∃j,j<n/\Mx l last n=(j:Int)/\qB last (l[j]!)=true/\ ∀i,i<n->qB last (l[i]!)=true->cL (l[i]!).key (l[j]!).key=false)
 |0=> .inl ⟨rfl,fun i h=>absurd h (by omega)⟩
 |n+1=>by
  have ih:=w9 l last n;simp only[Mx]
  cases hc:qB last (l[n]!)with
  |false=>
   simp only[aI,az,if_false]
   rcases ih with⟨h1,h2⟩|⟨j,h1,h2,h3,h4⟩
   · refine .inl ⟨h1,fun i hi=> ?_⟩
     by_cases e:i=n
     · subst e;exact hc
     · exact h2 i (by omega)
   · refine .inr ⟨j,by omega,h2,h3,fun i hi hci=> ?_⟩
     by_cases e:i=n
     · subst e;rw[hc]at hci;cases hci
     · exact h4 i (by omega) hci
  |true=>
   simp only[aB]
   rcases ih with⟨h1,h2⟩|⟨j,h1,h2,h3,h4⟩
   · rw[h1]
     refine .inr ⟨n,by omega,by simp,hc,fun i hi hci=> ?_⟩
     by_cases e:i=n
     · subst e;exact lt_irrefl _
     · rw[h2 i (by omega)]at hci;cases hci
   · rw[h2]
     have h0: ¬((j:Int)<0):=by omega
     have ht:((j:Nat):Int).toNat=j:=bg _;simp only[decide_eq_false h0,bu,ht]
     cases hb:cL (l[n]!).key (l[j]!).key with
     |true=>
      refine .inr ⟨n,by omega,by simp,hc,fun i hi hci=> ?_⟩
      by_cases e:i=n
      · subst e;exact lt_irrefl _
      · have:=h4 i (by omega) hci
        cases g:cL (l[i]!).key (l[n]!).key with
        |false=>rfl
        |true=>rw[fa g hb]at this;cases this
     |false=>
      refine .inr ⟨j,by omega,by simp,h3,fun i hi hci=> ?_⟩
      by_cases e:i=n
      · subst e;exact hb
      · exact h4 i (by omega) hci
def kV(o:List It):Option (List UInt8):=o.getLast?.map (·.key)
theorem zM{M:List It}{n:Nat}(h:n<=M.length)(h0:0<n):kV (M.take n)=some (M[n-1]'(by omega)).key:=by
 unfold kV;rw[qk,aK,fZ h,qW (by omega),ae (by omega)]
 rfl
theorem JV{l:List It}{i:Nat}(h:i<(bM l).length): ∃k,k<l.length/\l[k]! =(bM l)[i]/\bQ (bM l)[i]=true:=by
 obtain⟨h1,h2⟩:=fB (ao h)
 obtain⟨k,hk,he⟩:=bW h1;exact⟨k,hk,by rw[getElem!_pos l k hk,he],h2⟩
theorem JW{l:List It}{i j:Nat}(Cc:i<j)(h:j<(bM l).length):cL ((bM l)[i]'(by omega)).key ((bM l)[j]).key=true:=
 (b9.1 (ke l).1) i j (by omega) h Cc
theorem JX{l:List It}{n i:Nat}(hn:n<=i)(h:i<(bM l).length):qB (kV ((bM l).take n)) (bM l)[i]=true:=by
 obtain⟨_,_,_,hr⟩:=JV h;unfold qB;rw[hr,aB]
 by_cases h0:n=0
 · subst h0;rfl
 · rw[zM (by omega) (by omega)]
   exact JW (by omega) h
theorem Yj{l:List It}{n:Nat}(hn:n<=(bM l).length)(h:Mx l (kV ((bM l).take n)) l.length= -1):n=(bM l).length:=by
 rcases w9 l (kV ((bM l).take n)) l.length with⟨_,h2⟩|⟨j,_,h2,_⟩
 · by_cases bo:n<(bM l).length
   · obtain⟨k,hk,he,_⟩:=JV bo
     have:=h2 k hk;rw[he,JX (ai _) bo]at this;cases this
   · omega
 · omega
theorem Yk{l:List It}{n j:Nat}(hn:n<=(bM l).length)(h:Mx l (kV ((bM l).take n)) l.length=(j:Int)):
 j<l.length/\n<(bM l).length/\ ∃k,k<l.length/\JE l (l[j]!).key false l.length=(k:Int)/\(bM l)[n]? =some (l[k]!):=by
 rcases w9 l (kV ((bM l).take n)) l.length with⟨h1,_⟩|⟨j',BM,h2,h3,h4⟩
 · omega
 · obtain rfl:j'=j:=by omega
   obtain⟨x,hx⟩: ∃x,l[j']! =x:=⟨_,rfl⟩
   rw[hx]at h3 h4⊢;have hxm:x∈l:=by rw[<-hx,getElem!_pos l j' BM];exact ao _
   have hxr:bQ x=true:=by unfold qB at h3;simp only[ak]at h3;exact h3.1
   have hxa:JU (kV ((bM l).take n)) x=true:=by unfold qB at h3;simp only[ak]at h3;exact h3.2
   have hf: ∀z:It,z.key=x.key->(l.filter bQ).filter (fun y=>z.key==y.key)=l.filter (tZ x.key false):=fun z hz=>by
    rw[pn]
    refine kc fun y _=> ?_;unfold tZ;rw[hz,bu,Bool.and_comm,show(x.key==y.key)=(y.key==x.key)from Bool.beq_comm]
   rcases JF l x.key false l.length (ai _)with⟨_,b2⟩|⟨k,k1,k2,k3⟩
   · rw[ca]at b2
     have:=C_ b2;have hm:x∈l.filter (tZ x.key false):=aP.2 ⟨hxm,by simp[tZ,hxr]⟩
     rw[this]at hm;cases hm
   · rw[ca]at k3
     obtain⟨z,hz⟩: ∃z,l[k]! =z:=⟨_,rfl⟩
     rw[hz]at k3;have hzk:z.key=x.key:=by have:=(aP.1 (qa k3)).2;simp only[tZ,bu,ak,beq_iff_eq]at this;exact this.2
     have hzM:z∈bM l:=((ke l).2 z).2 (by rw[hf z hzk];exact k3)
     obtain⟨i,hi,hiz⟩:=bW hzM
     have hin:n<=i:=by
      by_cases bo:i<n
      · rw[zM hn (by omega)]at hxa
        have hxa:cL ((bM l)[n-1]'(by omega)).key x.key=true:=hxa;rw[<-hzk,<-hiz]at hxa;by_cases e:i=n-1
        · subst e;rw[lt_irrefl]at hxa;cases hxa
        · have:=JW (l:=l) (i:=i) (j:=n-1) (by omega) (by omega)
          rw[kG this]at hxa;cases hxa
      · omega
     have hni:i=n:=by
      by_cases bo:n<i
      · obtain⟨k0,Ey,he0,_⟩:=JV (l:=l) (i:=n) (by omega)
        have hc:=h4 k0 Ey (by rw[he0];exact JX (ai _) (by omega))
        rw[he0,<-hzk,<-hiz,JW bo hi]at hc;cases hc
      · omega
     subst hni;exact⟨BM,hi,k,k1,k2,by rw[hz,ae hi,hiz]⟩
theorem JY:aQ Tryz.prog yc Tryz.f103.ntmps (Tryz.f103.body.getD .skip)=true:=by kernel_rfl
theorem My(l:List It)(hl:l.length<=1000000)(hk: ∀x∈l,x.ok):bp Tryz.prog 103 [.ay (l.map It.enc)] (· = .ay ((bM l).map It.enc)):=by
 refine ah qU mixed Tryz.func103 rfl (ab rfl) JY ?_;unfold Tryz.f103;have tk: ∀m:List It,(m.map It.enc).take m.length=m.map It.enc:=fun m=>ad (by simp)
 have hMl:=mK l;obtain⟨M,hM⟩: ∃M,bM l=M:=⟨_,rfl⟩
 have Nk: ∀n,n<=M.length->Mx l (kV (M.take n)) l.length= -1->n=M.length:=fun n=>by rw[<-hM];exact Yj
 have hsome: ∀n j,n<=M.length->Mx l (kV (M.take n)) l.length=((j:Nat):Int)->j<l.length/\n<M.length/\ ∃k,k<l.length/\JE l (l[j]!).key false l.length=(k:Int)/\M[n]? =some (l[k]!):=fun n j=>by rw[<-hM];exact Yk
 have hMk: ∀n (h:n<M.length),M[n].ok:=fun n h=>by
  have:=fB (l:=l) (x:=M[n]) (by rw[hM];exact ao h)
  exact hk _ this.1
 rw[hM]at hMl⊢;simp-implicitDefEqProofs (disch:=(first|omega|decide)) only[go_sem,↓reduceIte,seval]
 refine ch 3 7 rfl ?_;refine a_ [0] (ι:={n:Nat//n<=M.length}) (fun n=>[(3,.row 0 0 7 (M.take n.1).length false)]) (fun n=>[(0,.row 7 ((M.take n.1).map It.enc))]) (fun n=>M.length-n.1) ⟨0,by omega⟩ (aw _) ?_ ?_
 · simp-implicitDefEqProofs (disch:=(first|omega|decide)) only[go_sem,↓reduceIte,seval]
   first|done|(simp;done)|exact⟨rfl,rfl⟩
 · rintro⟨n,hn⟩
   simp only;have hnl:(M.take n).length=n:=by rw[aK];omega
   have c0:(n:Int)<=(l.length:Int):=by omega
   have tkn:=tk (M.take n)
   rw[hnl]at tkn⊢;simp-implicitDefEqProofs (disch:=(first|omega|decide)) only[go_sem,↓reduceIte,seval,c0,aa]
   refine a_ [0,3] (ι:={i:Nat//i<=l.length}) (fun i=>[(5,.int .i64 i.1),(4,.int .i64 (Mx l (kV (M.take n)) i.1))]) (fun i=>[(0,.row 7 ((M.take n).map It.enc))]) (fun i=>l.length-i.1) ⟨0,by omega⟩ (aw _) ?_ ?_
   · simp-implicitDefEqProofs (disch:=(first|omega|decide)) only[go_sem,↓reduceIte,seval,Mx]
     try rfl
   · rintro⟨i,hi⟩
     simp only;by_cases bo:i<l.length
     · have aH:(i:Int)<(l.length:Int):=by omega
       have p1:(0:Int)<=(i:Int):=by omega
       have t1:((i:Nat):Int).toNat=i:=bg _;have e1:=ik (l:=l) (k:=i) (x:=l[i]!) (by rw[getElem!_pos l i bo,ae bo])
       have ox:(l[i]!).ok:=by rw[getElem!_pos l i bo];exact hk _ (ao bo)
       have g1:=JG ox;have hb:Mx l (kV (M.take n)) (i+1)=if qB (kV (M.take n)) (l[i]!)&&(decide (Mx l (kV (M.take n)) i<0)||cL (l[i]!).key (l[(Mx l (kV (M.take n)) i).toNat]!).key)then(i:Int)else Mx l (kV (M.take n)) i:=rfl
       have hr:Mx l (kV (M.take n)) i= -1\/ ∃j,j<i/\Mx l (kV (M.take n)) i=(j:Int):=by
        rcases w9 l (kV (M.take n)) i with h|⟨j,h1,h2,_⟩
        · exact .inl h.1
        · exact .inr ⟨j,h1,h2⟩
       have gI: ∀v:Int,Mx l (kV (M.take n)) (i+1)=v-> ∃j:{i:Nat//i<=l.length},((i:Int)+1=(j.1:Int)/\v=Mx l (kV (M.take n)) j.1)/\l.length-j.1<l.length-i:=fun v hv=>⟨⟨i+1,bo⟩,⟨by simp,hv.symm⟩,by show l.length-(i+1)<l.length-i;omega⟩
       have e2: ∀j,j<i->(l.map It.enc)[j]? =some (.agg [.str (l[j]!).key,.int .i64 (l[j]!).rep,.int .i64 (l[j]!).da,.int .i64 (l[j]!).du,.int .i64 (l[j]!).prio,.bool (l[j]!).dead,.str (l[j]!).body]):=fun j hj=>ik (by rw[getElem!_pos l j (by omega),ae (by omega)])
       have oy: ∀j,j<i->(l[j]!).ok:=fun j hj=>by rw[getElem!_pos l j (by omega)];exact hk _ (ao _)
       generalize l[i]! =x at*;generalize Mx l (kV (M.take n)) i=a at*;cases hR:bQ x with
       |false=>
        rw[hR]at g1;simp only[qB,hR,aI,az,if_false]at hb;simp-implicitDefEqProofs (disch:=(first|omega|decide)) only[go_sem,↓reduceIte,seval,aH,p1,t1,e1,g1,wrap_i64,aa]
        exact gI _ hb
       |true=>
        rw[hR]at g1;by_cases hn0:n=0
        · have haa:JU (kV (M.take n)) x=true:=by subst hn0;rfl
          have z0: ¬(0:Int)<(n:Int):=by omega
          rcases hr with rfl|⟨j,hj,rfl⟩
          · have hm:decide ((-1:Int)<0)=true:=rfl
            simp only[qB,hR,haa,aB,hm,cM,if_true]at hb;simp-implicitDefEqProofs (disch:=(first|omega|decide)) only[go_sem,↓reduceIte,seval,aH,p1,t1,e1,g1,z0,wrap_i64,aa]
            exact gI _ hb
          · have q1: ¬((j:Int)<0):=by omega
            have q2:(0:Int)<=(j:Int):=by omega
            have q3:(j:Int)<(l.length:Int):=by omega
            have q4:((j:Nat):Int).toNat=j:=bg _;have ej:=e2 j hj;have gl:=oS (a:=x.key) (b:=(l[j]!).key) ⟨ox.1,(oy j hj).1⟩
            rw[show(fC x.key (l[j]!).key== -1)=cL x.key (l[j]!).key from rfl]at gl;simp only[qB,hR,haa,aB,decide_eq_false q1,bu,q4]at hb;generalize l[j]! =y at*;cases hw:cL x.key y.key with
            |true=>
             rw[hw]at gl;simp only[hw,if_true]at hb;simp-implicitDefEqProofs (disch:=(first|omega|decide)) only[go_sem,↓reduceIte,seval,aH,p1,t1,e1,g1,z0,q1,q2,q3,q4,ej,gl,wrap_i64,aa]
             exact gI _ hb
            |false=>
             rw[hw]at gl;simp only[hw,az,if_false]at hb;simp-implicitDefEqProofs (disch:=(first|omega|decide)) only[go_sem,↓reduceIte,seval,aH,p1,t1,e1,g1,z0,q1,q2,q3,q4,ej,gl,wrap_i64,aa]
             exact gI _ hb
        · have z0:(0:Int)<(n:Int):=by omega
          have z1:(n:Int)-1=((n-1:Nat):Int):=by omega
          have z2:(0:Int)<=((n-1:Nat):Int):=by omega
          have z3:((n-1:Nat):Int)<(n:Int):=by omega
          have z4:((n-1:Nat):Int).toNat=n-1:=bg _;have hn1:n-1<M.length:=by omega
          have eM:=ik (l:=M.take n) (k:=n-1) (x:=M[n-1]) (by rw[qW (by omega),ae hn1])
          have oM:=hMk (n-1) hn1;have hla:JU (kV (M.take n)) x=cL M[n-1].key x.key:=by rw[zM hn (by omega)];rfl
          have gM:=oS (a:=M[n-1].key) (b:=x.key) ⟨oM.1,ox.1⟩
          rw[show(fC M[n-1].key x.key== -1)=cL M[n-1].key x.key from rfl,<-hla]at gM;generalize M[n-1]=z at*;cases haa:JU (kV (M.take n)) x with
          |false=>
            rw[haa]at gM;simp only[qB,hR,haa,bN,aI,az,if_false]at hb;simp-implicitDefEqProofs (disch:=(first|omega|decide)) only[go_sem,↓reduceIte,seval,aH,p1,t1,e1,g1,z0,z1,z2,z3,z4,eM,gM,wrap_i64,aa]
            exact gI _ hb
          |true=>
            rw[haa]at gM;rcases hr with rfl|⟨j,hj,rfl⟩
            · have hm:decide ((-1:Int)<0)=true:=rfl
              simp only[qB,hR,haa,aB,hm,cM,if_true]at hb;simp-implicitDefEqProofs (disch:=(first|omega|decide)) only[go_sem,↓reduceIte,seval,aH,p1,t1,e1,g1,z0,z1,z2,z3,z4,eM,gM,wrap_i64,aa]
              exact gI _ hb
            · have q1: ¬((j:Int)<0):=by omega
              have q2:(0:Int)<=(j:Int):=by omega
              have q3:(j:Int)<(l.length:Int):=by omega
              have q4:((j:Nat):Int).toNat=j:=bg _;have ej:=e2 j hj;have gl:=oS (a:=x.key) (b:=(l[j]!).key) ⟨ox.1,(oy j hj).1⟩
              rw[show(fC x.key (l[j]!).key== -1)=cL x.key (l[j]!).key from rfl]at gl;simp only[qB,hR,haa,aB,decide_eq_false q1,bu,q4]at hb;generalize l[j]! =y at*;cases hw:cL x.key y.key with
              |true=>
               rw[hw]at gl;simp only[hw,if_true]at hb;simp-implicitDefEqProofs (disch:=(first|omega|decide)) only[go_sem,↓reduceIte,seval,aH,p1,t1,e1,g1,z0,z1,z2,z3,z4,eM,gM,q1,q2,q3,q4,ej,gl,wrap_i64,aa]
               exact gI _ hb
              |false=>
               rw[hw]at gl;simp only[hw,az,if_false]at hb;simp-implicitDefEqProofs (disch:=(first|omega|decide)) only[go_sem,↓reduceIte,seval,aH,p1,t1,e1,g1,z0,z1,z2,z3,z4,eM,gM,q1,q2,q3,q4,ej,gl,wrap_i64,aa]
               exact gI _ hb
     · have aH: ¬(i:Int)<(l.length:Int):=by omega
       obtain rfl:i=l.length:=by omega
       rcases w9 l (kV (M.take n)) l.length with⟨h1,_⟩|⟨j,_,h2,_⟩
       · have hnM:=Nk n hn h1
         rw[h1]
         have tM:M.take n=M:=ad (by omega)
         rw[tM]at tkn⊢;simp-implicitDefEqProofs (disch:=(first|omega|decide)) only[go_sem,↓reduceIte,seval,aH,tkn,aa]
         exact hn
       · obtain⟨hj,hnM,k,hkl,hbk,hMn⟩:=hsome n j hn h2
         rw[h2]
         have q1: ¬((j:Int)<0):=by omega
         have q2:(0:Int)<=(j:Int):=by omega
         have q3:(j:Int)<(l.length:Int):=by omega
         have q4:((j:Nat):Int).toNat=j:=bg _;have q5:(0:Int)<=(k:Int):=by omega
         have q6:(k:Int)<(l.length:Int):=by omega
         have q7:((k:Nat):Int).toNat=k:=bg _;have ej:=ik (l:=l) (k:=j) (x:=l[j]!) (by rw[getElem!_pos l j hj,ae hj])
         have ek:=ik (l:=l) (k:=k) (x:=l[k]!) (by rw[getElem!_pos l k hkl,ae hkl])
         have gb:=x_Best (l:=l) (k:=(l[j]!).key) (all:=false) ⟨hl,hk⟩
         rw[hbk]at gb
         have fe:M.take (n+1)=M.take n++[l[k]!]:=by
          rw[<-ar hnM]
          rw[ae hnM]at hMn;rw[an hMn]
         generalize l[j]! =x at*;generalize l[k]! =y at*;simp-implicitDefEqProofs (disch:=(first|omega|decide)) only[go_sem,↓reduceIte,seval,aH,tkn,q1,q2,q3,q4,q5,q6,q7,ej,ek,gb,aa]
         exact⟨⟨di hnl.symm,by omega⟩,⟨n+1,hnM⟩,⟨by show n+1=(M.take (n+1)).length;rw[aK];omega,by show _=(M.take (n+1)).map It.enc;rw[fe];exact jG _ y⟩,by show M.length-(n+1)<M.length-n;omega⟩
theorem dK:aQ Tryz.prog Yh Tryz.f133.ntmps (Tryz.f133.body.getD .skip)=true:=by kernel_rfl
theorem U7(l:List bk)(hl:l.length<=1000000):bp Tryz.prog 133 [.ay (l.map bk.enc)] (· = .ay (l.map bk.enc)):=by
 cases l with
 |nil=>
  refine Nr ?_ ?_
  · refine ah Gs mixed Tryz.func133 rfl (ab rfl) dK ?_
    unfold Tryz.f133;simp-implicitDefEqProofs (disch:=(first|omega|decide)) only[go_sem,↓reduceIte,seval]
  · refine ah Gs mixed Tryz.func133 rfl (ab rfl) dK ?_
    unfold Tryz.f133;simp-implicitDefEqProofs (disch:=(first|omega|decide)) only[go_sem,↓reduceIte,seval]
 |cons r l=>
  refine ah Gs mixed Tryz.func133 rfl (ab rfl) dK ?_;unfold Tryz.f133;obtain⟨lo,hi,op⟩:=r;simp only[aG]at hl;simp-implicitDefEqProofs (disch:=(first|omega|decide)) only[go_sem,↓reduceIte,seval,aa]
  exact⟨by omega,ai _,by rw[ad (by simp)]⟩
@[simp] theorem map_LIt_inj{l m:List (List It)}:(l.map (fun x=>A.ay (x.map It.enc))=m.map (fun x=>A.ay (x.map It.enc)))=(l=m):=map_inj (fun a b h=>by simpa using h)
def U8:aW:=Yh.add 133 (entry (fun(l:List bk)=>[.ay (l.map bk.enc)]) (fun l=>l.length<=1000000) (fun l=> .ay (l.map bk.enc)))
theorem Y23g_ok:aN Tryz.prog U8:=Gs.dH Tryz.func133 (by kernel_rfl) (by kernel_rfl) fun l h=>U7 l h
@[go_sem] theorem Y23g_old{g:FuncId}{xs:List A}(h:g≠133):U8.f g xs=Yh.f g xs:=aW.aU h
theorem iP(l:List bk)(h:l.length<=1000000):U8.f 133 [.ay (l.map bk.enc)]=some (.ay (l.map bk.enc)):=aW.aZ (Γ:=Yh) (fun i j h=>by simpa[ag,and_assoc]using h) l h
def Mz:aW:=U8.add 131 (entry (fun(L:List (List It))=>[.ay (L.map fun m=> .ay (m.map It.enc))]) (fun L=>(L.length<=1000000/\L.flatten.length<=1000000)/\ ∀m∈L,∀x∈m,x.ok) (fun L=> .ay ((bM L.flatten).map It.enc)))
theorem aai:aN Tryz.prog Mz:=Y23g_ok.dH Tryz.func131 (by kernel_rfl) (by kernel_rfl) fun L h=>Q0 L h.1.1 h.2 h.1.2
@[go_sem] theorem Y23h_old{g:FuncId}{xs:List A}(h:g≠131):Mz.f g xs=U8.f g xs:=aW.aU h
@[go_sem] theorem Y23h_s:Mz.pl U8:=⟨fun _=>rfl,fun _=>rfl,rfl,fun _=>rfl,rfl,fun _=>rfl,rfl⟩
theorem FC(L:List (List It))(h:(L.length<=1000000/\L.flatten.length<=1000000)/\ ∀m∈L,∀x∈m,x.ok):Mz.f 131 [.ay (L.map fun m=> .ay (m.map It.enc))]=some (.ay ((bM L.flatten).map It.enc)):=aW.aZ (Γ:=U8) (fun i j h=>by simpa[ag,and_assoc]using h) L h
theorem aaj{l:List bk}(h:l.length<=1000000):U8.f 133 [.ay (l.map bk.enc)]=some (.ay (l.map bk.enc)):=iP l h
theorem U9{a b:List It}(h:a.length+b.length<=1000000)(ha: ∀x∈a,x.ok)(hb: ∀x∈b,x.ok):Mz.f 131 [.ay [.ay (a.map It.enc),.ay (b.map It.enc)]]=some (.ay ((bM (a++b)).map It.enc)):=by
 have e: [a,b].flatten=a++b:=by simp
 have:=FC [a,b] ⟨⟨by simp,by rw[e,aj];exact h⟩,fun m hm=>by
  simp only[aD,cN,or_false]at hm;rcases hm with rfl|rfl
  · exact ha
  · exact hb⟩
 rw[e]at this;exact this
theorem JZ:aQ Tryz.prog Mz Tryz.f59.ntmps (Tryz.f59.body.getD .skip)=true:=by kernel_rfl
theorem MA(s:bA)(k:List UInt8)(hl:s.bq.length<=1000000):bp Tryz.prog 59 [s.enc,.str k] (· = .int .i64 (rZ s.bq k)):=by
 refine ah aai mixed Tryz.func59 rfl (ab rfl) JZ ?_;unfold Tryz.f59;obtain⟨id,F,I,K,ct⟩:=s;simp only[bA.enc,bA.cells]at*;simp-implicitDefEqProofs (disch:=(first|omega|decide)) only[go_sem,↓reduceIte,seval,aa]
 refine a_ [1,2] (ι:={i:Nat//i<=I.length/\ ∀j,j<i-> ∀h:j<I.length,(I[j].key==k)=false}) (fun i=>[(5,.int .i64 i.1)]) (fun _=>[]) (fun i=>I.length-i.1) ⟨0,by omega,fun j hj=>absurd hj (by omega)⟩ (aw _) ?_ ?_
 · simp-implicitDefEqProofs (disch:=(first|omega|decide)) only[go_sem,↓reduceIte,seval]
   try rfl
 · rintro⟨i,hi,hd⟩
   simp only;by_cases bo:i<I.length
   · have aH:(i:Int)<(I.length:Int):=by omega
     have p1:(0:Int)<=(i:Int):=by omega
     have t1:((i:Nat):Int).toNat=i:=bg _;have e1:=eG bo;cases hk:I[i].key==k with
     |true=>
      have hp:rZ I k=(i:Int):=by unfold rZ;rw[ni.2 ⟨bo,hk,fun j hj=>by rw[hd j hj (by omega)];simp⟩]
      rw[hp]
      generalize I[i]=x at*;simp-implicitDefEqProofs (disch:=(first|omega|decide)) only[go_sem,↓reduceIte,seval,aH,p1,t1,e1,hk,wrap_i64,aa]
     |false=>
      have Z_: ∀j,j<i+1-> ∀h:j<I.length,(I[j].key==k)=false:=fun j hj h=>by
       by_cases e:j=i
       · subst e;exact hk
       · exact hd j (by omega) h
      generalize I[i]=x at*;simp-implicitDefEqProofs (disch:=(first|omega|decide)) only[go_sem,↓reduceIte,seval,aH,p1,t1,e1,hk,wrap_i64,aa]
      exact⟨⟨i+1,bo,Z_⟩,by simp,by show I.length-(i+1)<I.length-i;omega⟩
   · have aH: ¬(i:Int)<(I.length:Int):=by omega
     have hp:rZ I k= -1:=by unfold rZ;rw[ql.2 fun x hx=>by obtain⟨j,hj,rfl⟩:=bW hx;exact hd j (by omega) hj]
     rw[hp]
     simp-implicitDefEqProofs (disch:=(first|omega|decide)) only[go_sem,↓reduceIte,seval,aH,aa]
def MB:aW:=Mz.add 59 (entry (fun(v:bA×List UInt8)=>[v.1.enc,.str v.2]) (fun v=>v.1.bq.length<=1000000) (fun v=> .int .i64 (rZ v.1.bq v.2)))
theorem Q1:aN Tryz.prog MB:=aai.dH Tryz.func59 (by kernel_rfl) (by kernel_rfl) fun v h=>MA v.1 v.2 h
@[go_sem] theorem Y23i_old{g:FuncId}{xs:List A}(h:g≠59):MB.f g xs=Mz.f g xs:=aW.aU h
@[go_sem] theorem Y23i_s:MB.pl Mz:=⟨fun _=>rfl,fun _=>rfl,rfl,fun _=>rfl,rfl,fun _=>rfl,rfl⟩
theorem Dg(v:bA×List UInt8)(h:v.1.bq.length<=1000000):MB.f 59 [v.1.enc,.str v.2]=some (.int .i64 (rZ v.1.bq v.2)):=aW.aZ (Γ:=Mz) (fun i j h=>by simpa[ag,and_assoc]using h) v h
theorem xQ{s:bA}{k:List UInt8}(h:s.bq.length<=1000000):MB.f 59 [.agg [.int .i64 s.id,.ay (s.fl.map bk.enc),.ay (s.bq.map It.enc),.ay (s.kn.map Pc.enc),.int .i64 s.ct],.str k]=some (.int .i64 (rZ s.bq k)):=Dg (s,k) h
theorem rr(l:List It)(k:List UInt8):(rZ l k= -1/\iu l k=none)\/ ∃i,∃h:i<l.length,rZ l k=(i:Int)/\iu l k=some l[i]:=by
 unfold rZ iu;cases h:l.findIdx? (fun x=>x.key==k)with
 |none=>
  refine .inl ⟨rfl, ?_⟩
  rw[po]
  intro x hx;have:=ql.1 h x hx;simpa using this
 |some i=>
  obtain⟨hi,h1,h2⟩:=ni.1 h;refine .inr ⟨i,hi,rfl, ?_⟩
  rw[List.find?_eq_some_iff_getElem]
  exact⟨h1,i,hi,rfl,fun j hj=>by simpa using h2 j hj⟩
def h_(l:List It)(k:List UInt8):Int:=match iu l k with|some x=>x.du|none=>0
theorem MC:aQ Tryz.prog MB Tryz.f126.ntmps (Tryz.f126.body.getD .skip)=true:=by kernel_rfl
theorem Q2(s:bA)(k:List UInt8)(hl:s.bq.length<=1000000):bp Tryz.prog 126 [s.enc,.str k] (· = .int .i64 (h_ s.bq k)):=by
 refine ah Q1 mixed Tryz.func126 rfl (ab rfl) MC ?_;unfold Tryz.f126;have g:=xQ (s:=s) (k:=k) hl;have hp:=rr s.bq k;obtain⟨id,F,I,K,ct⟩:=s;simp only[bA.enc,bA.cells]at*;unfold h_;rcases hp with⟨h1,h2⟩|⟨i,hi,h1,h2⟩
 · rw[h1]at g
   rw[h2]
   simp-implicitDefEqProofs (disch:=(first|omega|decide)) only[go_sem,↓reduceIte,seval,g]
 · rw[h1]at g
   rw[h2]
   have e1:=eG hi;have q1: ¬((i:Int)<0):=by omega
   have q2:(0:Int)<=(i:Int):=by omega
   have q3:(i:Int)<(I.length:Int):=by omega
   have q4:((i:Nat):Int).toNat=i:=bg _;generalize I[i]=x at*;simp-implicitDefEqProofs (disch:=(first|omega|decide)) only[go_sem,↓reduceIte,seval,g,e1,q1,q2,q3,q4,aa]
def fj(s:bA)(x:It):It:=⟨x.key,s.id,s.ct+1,x.du,x.prio,x.dead,x.body⟩
structure w_(s:bA)(x:It):Prop where
 fl:s.fl.length<=1000000
 bq:s.bq.length<=999999/\sS s.bq
 kn:eK s.kn/\eK (s.kn++eR x.key [⟨s.id,s.ct+1⟩])
 ok:x.ok
 ct:0<=s.ct/\s.ct<=1099511627776
theorem Q3:aQ Tryz.prog MB Tryz.f125.ntmps (Tryz.f125.body.getD .skip)=true:=by kernel_rfl
theorem U_(s:bA)(x:It)(h:w_ s x):bp Tryz.prog 125 [s.enc,x.enc] (· =(ig s (fj s x)).enc):=by
 refine ah Q1 mixed Tryz.func125 rfl (ab rfl) Q3 ?_;unfold Tryz.f125;obtain⟨h1,⟨h2,h3⟩,⟨h4,h5⟩,h6,h7,h8⟩:=h;have gA:=q_Add (k:=s.kn) (x:=x.key) (l:=[⟨s.id,s.ct+1⟩]) h4 h5 h6.1 (by simp)
 have gM:=U9 (a:=[fj s x]) (b:=s.bq) (by simp;omega) (fun y hy=>by obtain rfl:=bc.1 hy;exact h6) h3;have gC:=aaj (l:=s.fl) h1;simp only[ig,bA.enc,bA.cells,It.enc]
 rw[show [fj s x]++s.bq=fj s x::s.bq from rfl]at gM;have hv:(fj s x).key=x.key:=rfl;have hr:(fj s x).rep=s.id:=rfl;have hc:(fj s x).da=s.ct+1:=rfl;rw[hv,hr,hc]
 generalize bM (fj s x::s.bq)=M at*;generalize cF (fF (s.kn++eR x.key [⟨s.id,s.ct+1⟩]))=Q at*;simp only[aS,bD,It.enc,eU.enc,eU.cells,fj]at gM gA;simp-implicitDefEqProofs (disch:=(first|omega|decide)) only[go_sem,↓reduceIte,seval,gA,gM,gC,wrap_i64,aa]
def Va:aW:=MB.add 125 (entry (fun(v:bA×It)=>[v.1.enc,v.2.enc]) (fun v=>w_ v.1 v.2) (fun v=>(ig v.1 (fj v.1 v.2)).enc))
theorem Y23j_ok:aN Tryz.prog Va:=Q1.dH Tryz.func125 (by kernel_rfl) (by kernel_rfl) fun v h=>U_ v.1 v.2 h
@[go_sem] theorem Y23j_old{g:FuncId}{xs:List A}(h:g≠125):Va.f g xs=MB.f g xs:=aW.aU h
theorem J0(v:bA×It)(h:w_ v.1 v.2):Va.f 125 [v.1.enc,v.2.enc]=some ((ig v.1 (fj v.1 v.2)).enc):=aW.aZ (Γ:=MB) (fun i j h=>by simpa[ag,and_assoc]using h) v h
theorem y_put{s:bA}{x:It}(h:w_ s x):Va.f 125 [.agg [.int .i64 s.id,.ay (s.fl.map bk.enc),.ay (s.bq.map It.enc),.ay (s.kn.map Pc.enc),.int .i64 s.ct],.agg [.str x.key,.int .i64 x.rep,.int .i64 x.da,.int .i64 x.du,.int .i64 x.prio,.bool x.dead,.str x.body]]=some (ig s (fj s x)).enc:=J0 (s,x) h
def Q4:aW:=Va.add 56 (entry (fun(s:bA)=>[s.enc]) (fun s=>fV s) (fun s=> .bool (cq s)))
theorem aak:aN Tryz.prog Q4:=Y23j_ok.dH Tryz.func56 (by kernel_rfl) (by kernel_rfl) fun s h=>yK s h
@[go_sem] theorem Y23k_old{g:FuncId}{xs:List A}(h:g≠56):Q4.f g xs=Va.f g xs:=aW.aU h
@[go_sem] theorem Y23k_s:Q4.pl Va:=⟨fun _=>rfl,fun _=>rfl,rfl,fun _=>rfl,rfl,fun _=>rfl,rfl⟩
theorem iA(s:bA)(h:fV s):Q4.f 56 [s.enc]=some (.bool (cq s)):=aW.aZ (Γ:=Va) (fun i j h=>by simpa[ag,and_assoc]using h) s h
def e9:bA:=⟨0,[],[],[],0⟩
def ly(k:List UInt8)(prio:Int)(body:List UInt8):Bool:= !decide (1<=k.length/\k.length<=16)||decide (prio<0)||decide (255<prio)||decide (64<body.length)
def dz(s:bA)(k:List UInt8)(prio:Int)(body:List UInt8):Int:=
 if cq s=false then 41 else if ly k prio body=true then 2 else if bh s.fl k=false then 30
 else if s.ct=1099511627776\/h_ s.bq k=1099511627776 then 33 else if iu s.bq k=none/\s.bq.length=4096 then 32 else 0
def sr(s:bA)(k:List UInt8)(prio:Int)(body:List UInt8):It:=⟨k,0,0,h_ s.bq k+1,prio,false,body⟩
def Q5(s:bA)(k:List UInt8)(prio:Int)(body:List UInt8):bA:=if dz s k prio body=0 then ig s (fj s (sr s k prio body))else e9
def tf(s:bA)(k:List UInt8)(prio:Int)(body:List UInt8):A:= .fq [(Q5 s k prio body).enc,.int .i64 (dz s k prio body)]
theorem nP{s:bA}(h:cq s=true)(k:List UInt8):0<=h_ s.bq k/\h_ s.bq k<=1099511627776:=by
 unfold h_;cases hg:iu s.bq k with
 |none=>simp
 |some x=>
  have hx:=dD hg;have hr:=(dN s).1 h;have:=hr.right x hx;simp only[bQ,ak,decide_eq_true_eq]at this;show 0<=x.du/\x.du<=_;omega
theorem get_parts(l:List It)(k:List UInt8): ∃(o:It) (ok:Bool),FA (iu l k)= .fq [o.enc,.bool ok]/\o.du=h_ l k/\(ok=false ↔ iu l k=none)/\(∀x,iu l k=some x->o=x):=by
 unfold h_;cases h:iu l k with
 |none=>exact⟨Oa,false,rfl,rfl,by simp,fun x e=>by cases e⟩
 |some x=>exact⟨x,true,rfl,rfl,by simp,fun y e=>by cases e;rfl⟩
theorem J1:aQ Tryz.prog Q4 Tryz.f62.ntmps (Tryz.f62.body.getD .skip)=true:=by kernel_rfl
theorem MD(s:bA)(k:List UInt8)(prio:Int)(body:List UInt8)(h:fV s)(hk:k.length<=9223372036854775807)(hb:body.length<=9223372036854775807)(hp:dz s k prio body=0->w_ s (sr s k prio body)):
 bp Tryz.prog 62 [s.enc,.str k,.int .i64 prio,.str body] (· =tf s k prio body):=by
 refine ah aak mixed Tryz.func62 rfl (ab rfl) J1 ?_;unfold Tryz.f62;have gG:=U6 (s:=s) (k:=k) h.bq.1;have gR:=iA s h;have gK:=En (s:=k) hk;have gH:=oT (l:=s.fl) (s:=k) (by have:=h.fl.1;omega) h.fl.2 hk;have NZ: ∀hh:cq s=true,_:=fun hh=>nP hh k;unfold tf Q5;obtain⟨o,ok,hgA,hor,mq,zH⟩:=get_parts s.bq k;rw[hgA]at gG;simp only[bA.enc,bA.cells,It.enc]at*;rw[hor]at gG;have fail: ∀e:Int,e≠0->dz s k prio body=e->A.fq [.agg [.int .i64 0,.ay [],.ay [],.ay [],.int .i64 0],.int .i64 e]= .fq [.agg [.int .i64 (if dz s k prio body=0 then ig s (fj s (sr s k prio body))else e9).id,.ay ((if dz s k prio body=0 then ig s (fj s (sr s k prio body))else e9).fl.map bk.enc),.ay ((if dz s k prio body=0 then ig s (fj s (sr s k prio body))else e9).bq.map It.enc),.ay ((if dz s k prio body=0 then ig s (fj s (sr s k prio body))else e9).kn.map Pc.enc),.int .i64 (if dz s k prio body=0 then ig s (fj s (sr s k prio body))else e9).ct],.int .i64 (dz s k prio body)]:=fun e he hc=>by rw[hc,if_neg he];rfl
 generalize hZ:A.fq [.agg [.int .i64 (if dz s k prio body=0 then ig s (fj s (sr s k prio body))else e9).id,.ay ((if dz s k prio body=0 then ig s (fj s (sr s k prio body))else e9).fl.map bk.enc),.ay ((if dz s k prio body=0 then ig s (fj s (sr s k prio body))else e9).bq.map It.enc),.ay ((if dz s k prio body=0 then ig s (fj s (sr s k prio body))else e9).kn.map Pc.enc),.int .i64 (if dz s k prio body=0 then ig s (fj s (sr s k prio body))else e9).ct],.int .i64 (dz s k prio body)]=Z at*;cases hR:cq s with
 |false=>
  have fl:=fail 41 (by decide) (by unfold dz;rw[if_pos hR])
  rw[hR]at gR;simp-implicitDefEqProofs (disch:=(first|omega|decide)) only[go_sem,↓reduceIte,seval,gG,gR,fl]
 |true=>
  have NZ:=NZ hR;rw[hR]at gR;have hC:dz s k prio body=if ly k prio body=true then 2 else if bh s.fl k=false then 30 else if s.ct=1099511627776\/h_ s.bq k=1099511627776 then 33 else if iu s.bq k=none/\s.bq.length=4096 then 32 else 0:=by unfold dz;rw[if_neg (by rw[hR];simp)]
  have bad:ly k prio body=true->A.fq [.agg [.int .i64 0,.ay [],.ay [],.ay [],.int .i64 0],.int .i64 2]=Z:=fun hb=>fail 2 (by decide) (by rw[hC,if_pos hb])
  cases b1:decide (1<=k.length/\k.length<=16)with
  |false=>
   have fl:=bad (by unfold ly;rw[b1];rfl)
   rw[b1]at gK;simp-implicitDefEqProofs (disch:=(first|omega|decide)) only[go_sem,↓reduceIte,seval,gG,gR,gK,fl]
  |true=>
   rw[b1]at gK;by_cases b2:prio<0
   · have fl:=bad (by unfold ly;rw[b1,decide_eq_true b2];rfl)
     simp-implicitDefEqProofs (disch:=(first|omega|decide)) only[go_sem,↓reduceIte,seval,gG,gR,gK,b2,fl]
   · by_cases b3:255<prio
     · have fl:=bad (by unfold ly;rw[b1,decide_eq_true b3];simp)
       simp-implicitDefEqProofs (disch:=(first|omega|decide)) only[go_sem,↓reduceIte,seval,gG,gR,gK,b2,b3,fl]
     · by_cases b4:64<body.length
       · have fl:=bad (by unfold ly;rw[decide_eq_true b4];simp)
         have Vb:(64:Int)<(body.length:Int):=by omega
         simp-implicitDefEqProofs (disch:=(first|omega|decide)) only[go_sem,↓reduceIte,seval,gG,gR,gK,b2,b3,Vb,fl]
       · have Vb: ¬(64:Int)<(body.length:Int):=by omega
         have hbf: ¬ly k prio body=true:=by unfold ly;rw[b1,decide_eq_false b2,decide_eq_false b3,decide_eq_false b4];simp
         rw[if_neg hbf]at hC;cases b5:bh s.fl k with
         |false=>
          have fl:=fail 30 (by decide) (by rw[hC,if_pos b5])
          rw[b5]at gH;simp-implicitDefEqProofs (disch:=(first|omega|decide)) only[go_sem,↓reduceIte,seval,gG,gR,gK,gH,b2,b3,Vb,fl]
         |true=>
          rw[b5]at gH;rw[if_neg (by rw[b5];simp)]at hC;cases b6:s.ct==1099511627776 with
          |true=>
           have fl:=fail 33 (by decide) (by rw[hC,if_pos (.inl (by simpa using b6))])
           simp-implicitDefEqProofs (maxSteps:=600000) (disch:=(first|omega|decide)) only[go_sem,↓reduceIte,seval,gG,gR,gK,gH,b2,b3,Vb,b6,fl]
          |false=>
           cases b7:h_ s.bq k==1099511627776 with
           |true=>
            have fl:=fail 33 (by decide) (by rw[hC,if_pos (.inr (by simpa using b7))])
            simp-implicitDefEqProofs (maxSteps:=600000) (disch:=(first|omega|decide)) only[go_sem,↓reduceIte,seval,gG,gR,gK,gH,b2,b3,Vb,b6,b7,fl]
           |false=>
            rw[if_neg (by simp at b6 b7;omega)]at hC;cases b8:(s.bq.length:Int)==4096 with
            |true=>
             cases ok with
             |false=>
              have fl:=fail 32 (by decide) (by rw[hC,if_pos ⟨mq.1 rfl,by simp at b8;omega⟩])
              simp-implicitDefEqProofs (maxSteps:=600000) (disch:=(first|omega|decide)) only[go_sem,↓reduceIte,seval,gG,gR,gK,gH,b2,b3,Vb,b6,b7,b8,fl,aa]
             |true=>
              have h0:dz s k prio body=0:=by rw[hC,if_neg (fun e=>by have:=mq.2 e.1;cases this)]
              have gP:=y_put (hp h0)
              rw[h0,if_pos rfl]at hZ;simp only[sr,bA.enc,bA.cells]at gP hZ;simp-implicitDefEqProofs (maxSteps:=600000) (disch:=(first|omega|decide)) only[go_sem,↓reduceIte,seval,gG,gR,gK,gH,gP,b2,b3,Vb,b6,b7,b8,hZ,wrap_i64,aa]
            |false=>
             have h0:dz s k prio body=0:=by rw[hC,if_neg (fun e=>by simp at b8;omega)]
             have gP:=y_put (hp h0)
             rw[h0,if_pos rfl]at hZ;simp only[sr,bA.enc,bA.cells]at gP hZ;cases ok<;>simp-implicitDefEqProofs (maxSteps:=600000) (disch:=(first|omega|decide)) only[go_sem,↓reduceIte,seval,gG,gR,gK,gH,gP,b2,b3,Vb,b6,b7,b8,hZ,wrap_i64,aa]
def Q6:aW:=Q4.add 62 (entry (fun(v:bA×List UInt8×Int×List UInt8)=>[v.1.enc,.str v.2.1,.int .i64 v.2.2.1,.str v.2.2.2]) (fun v=>(fV v.1/\(dz v.1 v.2.1 v.2.2.1 v.2.2.2=0->w_ v.1 (sr v.1 v.2.1 v.2.2.1 v.2.2.2)))/\v.2.1.length<=9223372036854775807/\v.2.2.2.length<=9223372036854775807) (fun v=>tf v.1 v.2.1 v.2.2.1 v.2.2.2))
theorem aal:aN Tryz.prog Q6:=aak.dH Tryz.func62 (by kernel_rfl) (by kernel_rfl) fun v h=>MD v.1 v.2.1 v.2.2.1 v.2.2.2 h.1.1 h.2.1 h.2.2 h.1.2
@[go_sem] theorem Y23l_old{g:FuncId}{xs:List A}(h:g≠62):Q6.f g xs=Q4.f g xs:=aW.aU h
@[go_sem] theorem Y23l_s:Q6.pl Q4:=⟨fun _=>rfl,fun _=>rfl,rfl,fun _=>rfl,rfl,fun _=>rfl,rfl⟩
theorem Dh(v:bA×List UInt8×Int×List UInt8)(h:(fV v.1/\(dz v.1 v.2.1 v.2.2.1 v.2.2.2=0->w_ v.1 (sr v.1 v.2.1 v.2.2.1 v.2.2.2)))/\v.2.1.length<=9223372036854775807/\v.2.2.2.length<=9223372036854775807):Q6.f 62 [v.1.enc,.str v.2.1,.int .i64 v.2.2.1,.str v.2.2.2]=some (tf v.1 v.2.1 v.2.2.1 v.2.2.2):=aW.aZ (Γ:=Q4) (fun i j h=>by simpa[ag,and_assoc]using h) v h
theorem y_Write{s:bA}{k:List UInt8}{prio:Int}{body:List UInt8}(h:(fV s/\(dz s k prio body=0->w_ s (sr s k prio body)))/\k.length<=9223372036854775807/\body.length<=9223372036854775807):Q6.f 62 [.agg [.int .i64 s.id,.ay (s.fl.map bk.enc),.ay (s.bq.map It.enc),.ay (s.kn.map Pc.enc),.int .i64 s.ct],.str k,.int .i64 prio,.str body]=some (tf s k prio body):=Dh (s,k,prio,body) h
def yL(l:List It)(k:List UInt8):Bool:=match iu l k with|some x=>x.dead|none=>true
def Bs(l:List It)(k:List UInt8):Int:=match iu l k with|some x=>x.prio|none=>0
def kt(s:bA)(k:List UInt8):Int:=
 if cq s=false then 41 else if yL s.bq k=true then 31
 else if s.ct=1099511627776\/h_ s.bq k=1099511627776 then 33 else 0
def Eo(s:bA)(k:List UInt8):It:=⟨k,0,0,h_ s.bq k+1,Bs s.bq k,true,[]⟩
def delS(s:bA)(k:List UInt8):bA:=if kt s k=0 then ig s (fj s (Eo s k))else e9
def delA(s:bA)(k:List UInt8):A:= .fq [(delS s k).enc,.int .i64 (kt s k)]
theorem Yl(l:List It)(k:List UInt8): ∃(o:It) (ok:Bool),FA (iu l k)= .fq [o.enc,.bool ok]/\o.du=h_ l k/\yL l k=(!ok||o.dead)/\(ok=true->o.prio=Bs l k):=by
 unfold h_ yL Bs;cases h:iu l k with
 |none=>exact⟨Oa,false,rfl,rfl,rfl,fun e=>by cases e⟩
 |some x=>exact⟨x,true,rfl,rfl,by simp,fun _=>rfl⟩
theorem FD:aQ Tryz.prog Q6 Tryz.f60.ntmps (Tryz.f60.body.getD .skip)=true:=by kernel_rfl
theorem J2(s:bA)(k:List UInt8)(h:fV s)(hk:k.length<=9223372036854775807)(hp:kt s k=0->w_ s (Eo s k)):
 bp Tryz.prog 60 [s.enc,.str k] (· =delA s k):=by
 refine ah aal mixed Tryz.func60 rfl (ab rfl) FD ?_;unfold Tryz.f60;have gG:=U6 (s:=s) (k:=k) h.bq.1;have gR:=iA s h;have NZ: ∀hh:cq s=true,_:=fun hh=>nP hh k;unfold delA delS;obtain⟨o,ok,hgA,hor,hod,hop⟩:=Yl s.bq k;rw[hgA]at gG;simp only[bA.enc,bA.cells,It.enc]at*;rw[hor]at gG;have fail: ∀e:Int,e≠0->kt s k=e->A.fq [.agg [.int .i64 0,.ay [],.ay [],.ay [],.int .i64 0],.int .i64 e]= .fq [.agg [.int .i64 (if kt s k=0 then ig s (fj s (Eo s k))else e9).id,.ay ((if kt s k=0 then ig s (fj s (Eo s k))else e9).fl.map bk.enc),.ay ((if kt s k=0 then ig s (fj s (Eo s k))else e9).bq.map It.enc),.ay ((if kt s k=0 then ig s (fj s (Eo s k))else e9).kn.map Pc.enc),.int .i64 (if kt s k=0 then ig s (fj s (Eo s k))else e9).ct],.int .i64 (kt s k)]:=fun e he hc=>by rw[hc,if_neg he];rfl
 generalize hZ:A.fq [.agg [.int .i64 (if kt s k=0 then ig s (fj s (Eo s k))else e9).id,.ay ((if kt s k=0 then ig s (fj s (Eo s k))else e9).fl.map bk.enc),.ay ((if kt s k=0 then ig s (fj s (Eo s k))else e9).bq.map It.enc),.ay ((if kt s k=0 then ig s (fj s (Eo s k))else e9).kn.map Pc.enc),.int .i64 (if kt s k=0 then ig s (fj s (Eo s k))else e9).ct],.int .i64 (kt s k)]=Z at*;cases hR:cq s with
 |false=>
  have fl:=fail 41 (by decide) (by unfold kt;rw[if_pos hR])
  rw[hR]at gR;simp-implicitDefEqProofs (disch:=(first|omega|decide)) only[go_sem,↓reduceIte,seval,gG,gR,fl]
 |true=>
  have NZ:=NZ hR;rw[hR]at gR;have hC:kt s k=if yL s.bq k=true then 31 else if s.ct=1099511627776\/h_ s.bq k=1099511627776 then 33 else 0:=by unfold kt;rw[if_neg (by rw[hR];simp)]
  rw[hod]at hC;cases ok with
  |false=>
   have fl:=fail 31 (by decide) (by rw[hC];rfl)
   simp-implicitDefEqProofs (disch:=(first|omega|decide)) only[go_sem,↓reduceIte,seval,gG,gR,fl]
  |true=>
   have hop:=hop rfl;rw[hop]at gG;cases hdd:o.dead with
   |true=>
    rw[hdd]at gG hC;have fl:=fail 31 (by decide) (by rw[hC];rfl)
    simp-implicitDefEqProofs (disch:=(first|omega|decide)) only[go_sem,↓reduceIte,seval,gG,gR,fl]
   |false=>
    rw[hdd]at gG hC;rw[if_neg (by simp)]at hC;cases b6:s.ct==1099511627776 with
    |true=>
     have fl:=fail 33 (by decide) (by rw[hC,if_pos (.inl (by simpa using b6))])
     simp-implicitDefEqProofs (disch:=(first|omega|decide)) only[go_sem,↓reduceIte,seval,gG,gR,b6,fl]
    |false=>
     cases b7:h_ s.bq k==1099511627776 with
     |true=>
      have fl:=fail 33 (by decide) (by rw[hC,if_pos (.inr (by simpa using b7))])
      simp-implicitDefEqProofs (disch:=(first|omega|decide)) only[go_sem,↓reduceIte,seval,gG,gR,b6,b7,fl]
     |false=>
      have h0:kt s k=0:=by rw[hC,if_neg (by simp at b6 b7;omega)]
      have gP:=y_put (hp h0)
      rw[h0,if_pos rfl]at hZ;simp only[Eo,bA.enc,bA.cells]at gP hZ;simp-implicitDefEqProofs (disch:=(first|omega|decide)) only[go_sem,↓reduceIte,seval,gG,gR,gP,b6,b7,hZ,wrap_i64,aa]
def Y23m:aW:=Q6.add 60 (entry (fun(v:bA×List UInt8)=>[v.1.enc,.str v.2]) (fun v=>(fV v.1/\(kt v.1 v.2=0->w_ v.1 (Eo v.1 v.2)))/\v.2.length<=9223372036854775807) (fun v=>delA v.1 v.2))
theorem Y23m_ok:aN Tryz.prog Y23m:=aal.dH Tryz.func60 (by kernel_rfl) (by kernel_rfl) fun v h=>J2 v.1 v.2 h.1.1 h.2 h.1.2
@[go_sem] theorem Y23m_old{g:FuncId}{xs:List A}(h:g≠60):Y23m.f g xs=Q6.f g xs:=aW.aU h
def Q7:aW:=Y23m.add 101 (entry (fun(v:Int×Int)=>[.agg [.int .i64 v.1,.int .i64 v.2]]) (fun v=>True) (fun v=> .bool (cm ⟨v.1,v.2⟩)))
theorem aam:aN Tryz.prog Q7:=Y23m_ok.dH Tryz.func101 (by kernel_rfl) (by kernel_rfl) fun v h=>ta v.1 v.2
@[go_sem] theorem Y23n_old{g:FuncId}{xs:List A}(h:g≠101):Q7.f g xs=Y23m.f g xs:=aW.aU h
@[go_sem] theorem Y23n_s:Q7.pl Y23m:=⟨fun _=>rfl,fun _=>rfl,rfl,fun _=>rfl,rfl,fun _=>rfl,rfl⟩
theorem Di(v:Int×Int)(h:True):Q7.f 101 [.agg [.int .i64 v.1,.int .i64 v.2]]=some (.bool (cm ⟨v.1,v.2⟩)):=aW.aZ (Γ:=Y23m) (fun i j h=>by simpa[ag,and_assoc]using h) v h
theorem y_vRight{r c:Int}:Q7.f 101 [.agg [.int .i64 r,.int .i64 c]]=some (.bool (cm ⟨r,c⟩)):=Di (r,c) trivial
theorem Q8:aQ Tryz.prog Q7 Tryz.f49.ntmps (Tryz.f49.body.getD .skip)=true:=by kernel_rfl
theorem Vc(k:List UInt8)(v:eU)(hk:k.length<=9223372036854775807)(hv:cm v=true):bp Tryz.prog 49 [.str k,.agg [.int .i64 v.r,.int .i64 v.c]] (· = .ay ((eR k [v]).map Pc.enc)):=by
 refine ah aam mixed Tryz.func49 rfl (ab rfl) Q8 ?_;unfold Tryz.f49;have g1:=y_vRight (r:=v.r) (c:=v.c)
 have g2:=q_One (x:=k) (l:=[v]) hk (by simp)
 rw[show(⟨v.r,v.c⟩:eU)=v from rfl,hv]at g1;simp only[aS,bD,eU.enc,eU.cells]at g2;generalize(eR k [v]).map Pc.enc=R at*;simp-implicitDefEqProofs (disch:=(first|omega|decide)) only[go_sem,↓reduceIte,seval,g1,g2]
def Vd:aW:=Q7.add 49 (entry (fun(v:List UInt8×Int×Int)=>[.str v.1,.agg [.int .i64 v.2.1,.int .i64 v.2.2]]) (fun v=>v.1.length<=9223372036854775807/\cm ⟨v.2.1,v.2.2⟩=true) (fun v=> .ay ((eR v.1 [⟨v.2.1,v.2.2⟩]).map Pc.enc)))
theorem Y23o_ok:aN Tryz.prog Vd:=aam.dH Tryz.func49 (by kernel_rfl) (by kernel_rfl) fun v h=>Vc v.1 ⟨v.2.1,v.2.2⟩ h.1 h.2
@[go_sem] theorem Y23o_old{g:FuncId}{xs:List A}(h:g≠49):Vd.f g xs=Q7.f g xs:=aW.aU h
theorem J3(v:List UInt8×Int×Int)(h:v.1.length<=9223372036854775807/\cm ⟨v.2.1,v.2.2⟩=true):Vd.f 49 [.str v.1,.agg [.int .i64 v.2.1,.int .i64 v.2.2]]=some (.ay ((eR v.1 [⟨v.2.1,v.2.2⟩]).map Pc.enc)):=aW.aZ (Γ:=Q7) (fun i j h=>by simpa[ag,and_assoc]using h) v h
def Q9:aW:=Vd.add 126 (entry (fun(v:bA×List UInt8)=>[v.1.enc,.str v.2]) (fun v=>v.1.bq.length<=1000000) (fun v=> .int .i64 (h_ v.1.bq v.2)))
theorem aan:aN Tryz.prog Q9:=Y23o_ok.dH Tryz.func126 (by kernel_rfl) (by kernel_rfl) fun v h=>Q2 v.1 v.2 h
@[go_sem] theorem Y23p_old{g:FuncId}{xs:List A}(h:g≠126):Q9.f g xs=Vd.f g xs:=aW.aU h
@[go_sem] theorem Y23p_s:Q9.pl Vd:=⟨fun _=>rfl,fun _=>rfl,rfl,fun _=>rfl,rfl,fun _=>rfl,rfl⟩
theorem FE(v:bA×List UInt8)(h:v.1.bq.length<=1000000):Q9.f 126 [v.1.enc,.str v.2]=some (.int .i64 (h_ v.1.bq v.2)):=aW.aZ (Γ:=Vd) (fun i j h=>by simpa[ag,and_assoc]using h) v h
theorem aao{k:List UInt8}{r c:Int}(h:k.length<=9223372036854775807/\cm ⟨r,c⟩=true):Vd.f 49 [.str k,.agg [.int .i64 r,.int .i64 c]]=some (.ay ((eR k [⟨r,c⟩]).map Pc.enc)):=J3 (k,r,c) h
theorem Ym{s:bA}{k:List UInt8}(h:s.bq.length<=1000000):Q9.f 126 [.agg [.int .i64 s.id,.ay (s.fl.map bk.enc),.ay (s.bq.map It.enc),.ay (s.kn.map Pc.enc),.int .i64 s.ct],.str k]=some (.int .i64 (h_ s.bq k)):=FE (s,k) h
def fX(x:It)(p:List It×Bool)(y:It):List It×Bool:=
 (if y.key==x.key then(if !p.2&& !cL y.key x.key then p.1++[x]else p.1)else(if !p.2&& !cL y.key x.key then p.1++[x]else p.1)++[y],p.2|| !cL y.key x.key)
def Ve(x:It)(l:List It):List It:=if(l.foldl (fX x) ([],false)).2 then(l.foldl (fX x) ([],false)).1 else(l.foldl (fX x) ([],false)).1++[x]
theorem stepI_len(x:It)(p:List It×Bool)(y:It):(fX x p y).1.length<=p.1.length+2:=by unfold fX;simp only;split<;>split<;>simp
theorem Dj(x:It): ∀(l:List It) (p:List It×Bool),(l.foldl (fX x) p).1.length<=p.1.length+2*l.length
 | [],p=>by simp
 |y::l,p=>by
  rw[cg]
  have h1:=Dj x l (fX x p y)
  have h2:=stepI_len x p y;simp only[aG];omega
structure xa(s:bA)(x:It):Prop where
 bq:s.bq.length<=100000/\sS s.bq
 kn:mH s.kn/\s.kn.length<=500
 one:mH (eR x.key [⟨s.id,s.ct+1⟩])/\(eR x.key [⟨s.id,s.ct+1⟩]).length<=500
 ok:x.ok
 ct:0<=s.ct/\s.ct<=1099511627776
 v:cm ⟨s.id,s.ct+1⟩=true
 rk:0<=h_ s.bq x.key/\h_ s.bq x.key<=1099511627776
def r_(s:bA)(x:It):It:=⟨x.key,s.id,s.ct+1,h_ s.bq x.key+1,x.prio,x.dead,x.body⟩
def Q_(s:bA)(x:It):bA:=⟨s.id,s.fl,Ve (r_ s x) s.bq,cF (fF (s.kn++eR x.key [⟨s.id,s.ct+1⟩])),s.ct+1⟩
theorem Ra:aQ Tryz.prog Q9 Tryz.f127.ntmps (Tryz.f127.body.getD .skip)=true:=by kernel_rfl
theorem Vf(s:bA)(x:It)(h:xa s x):bp Tryz.prog 127 [s.enc,x.enc] (· =(Q_ s x).enc):=by
 refine ah aan mixed Tryz.func127 rfl (ab rfl) Ra ?_;unfold Tryz.f127;obtain⟨⟨h1,h2⟩,⟨h3,h4⟩,⟨h5,h6⟩,h7,⟨h8,h9⟩,h10,h11,h12⟩:=h;have tk: ∀m:List It,(m.map It.enc).take m.length=m.map It.enc:=fun m=>ad (by simp)
 have gR:=Ym (s:=s) (k:=x.key) (by omega)
 have gV:=aao (k:=x.key) (r:=s.id) (c:=s.ct+1) ⟨h7.1,h10⟩
 have gJ:=X0 (a:=s.kn) (b:=eR x.key [⟨s.id,s.ct+1⟩]) h3 h5 ⟨h4,h6⟩
 simp only[Q_,bA.enc,bA.cells,It.enc]
 generalize cF (fF (s.kn++eR x.key [⟨s.id,s.ct+1⟩]))=Q at*;generalize(eR x.key [⟨s.id,s.ct+1⟩]).map Pc.enc=O at*;obtain⟨X,hX⟩: ∃X,r_ s x=X:=⟨_,rfl⟩
 have hXe:A.agg [.str x.key,.int .i64 s.id,.int .i64 (s.ct+1),.int .i64 (h_ s.bq x.key+1),.int .i64 x.prio,.bool x.dead,.str x.body]=X.enc:=by rw[<-hX];rfl
 have hXk:X.key=x.key:=by rw[<-hX];rfl
 rw[hX]
 simp-implicitDefEqProofs (disch:=(first|omega|decide)) only[go_sem,↓reduceIte,seval,gR,wrap_i64,aa]
 refine KC 3 2 7 _ rfl rfl ?_;refine a_ [2,3,4,5] (ι:={i:Nat//i<=s.bq.length}) (fun i=>[(7,.int .i64 i.1),(6,.bool ((s.bq.take i.1).foldl (fX X) ([],false)).2)]) (fun i=>[(3,.box [.int .i64 s.id,.ay (s.fl.map bk.enc),.row 4 0 7 ((s.bq.take i.1).foldl (fX X) ([],false)).1.length false,.d_,.int .i64 (s.ct+1)]),(4,.row 7 (((s.bq.take i.1).foldl (fX X) ([],false)).1.map It.enc))]) (fun i=>s.bq.length-i.1) ⟨0,by omega⟩ (aw _) ?_ ?_
 · simp-implicitDefEqProofs (disch:=(first|omega|decide)) only[go_sem,↓reduceIte,seval]
   first|done|(simp;done)|exact⟨rfl,rfl⟩
 · rintro⟨i,hi⟩
   simp only;by_cases bo:i<s.bq.length
   · have aH:(i:Int)<(s.bq.length:Int):=by omega
     have p1:(0:Int)<=(i:Int):=by omega
     have t1:((i:Nat):Int).toNat=i:=bg _;have e1:=eG bo;have oy:=h2 _ (ao bo)
     have eO:(s.bq.take (i+1)).foldl (fX X) ([],false)=fX X ((s.bq.take i).foldl (fX X) ([],false)) s.bq[i]:=by rw[<-ar bo,cp];rfl
     have vv:((s.bq.take i).foldl (fX X) ([],false)).1.length<=200000:=by
      have:=Dj X (s.bq.take i) ([],false)
      rw[aK]at this;simp only[bC]at this;omega
     have gL:=oS (a:=s.bq[i].key) (b:=x.key) ⟨oy.1,h7.1⟩
     rw[show(fC s.bq[i].key x.key== -1)=cL s.bq[i].key x.key from rfl]at gL
     have fin: ∀(o2:List It) (d2:Bool) (c:Nat) (es:List A),(s.bq.take (i+1)).foldl (fX X) ([],false)=(o2,d2)->c=o2.length->es=o2.map It.enc-> ∃j:{i:Nat//i<=s.bq.length},(((i:Int)+1=(j.1:Int)/\d2=((s.bq.take j.1).foldl (fX X) ([],false)).2)/\c=((s.bq.take j.1).foldl (fX X) ([],false)).1.length/\es=((s.bq.take j.1).foldl (fX X) ([],false)).1.map It.enc)/\s.bq.length-j.1<s.bq.length-i:=fun o2 d2 c es q1 q2 q3=>
      ⟨⟨i+1,bo⟩,⟨⟨by simp,by rw[q1]⟩,by rw[q1];exact q2,by rw[q1];exact q3⟩,by show s.bq.length-(i+1)<s.bq.length-i;omega⟩
     generalize s.bq[i]=y at*;generalize(s.bq.take i).foldl (fX X) ([],false)=p at*;obtain⟨o,d⟩:=p;simp only at vv⊢;have Gr:=tk o;simp only[fX,hXk]at eO;cases d with
     |true=>
      cases hk:y.key==x.key with
      |true=>
       simp only[hk,bG,aI,az,if_false,if_true,cM]at eO;simp-implicitDefEqProofs (disch:=(first|omega|decide)) only[go_sem,↓reduceIte,seval,aH,p1,t1,e1,hk,wrap_i64,aa]
       exact fin o true _ _ eO rfl rfl
      |false=>
       simp only[hk,bG,aI,az,if_false,if_true,cM]at eO;simp-implicitDefEqProofs (disch:=(first|omega|decide)) only[go_sem,↓reduceIte,seval,aH,p1,t1,e1,hk,Gr,wrap_i64,aa]
       exact⟨⟨ai _,by omega⟩,fin (o++[y]) true _ _ eO (by simp) (jG o y)⟩
     |false=>
      cases hl:cL y.key x.key with
      |true=>
       rw[hl]at gL;cases hk:y.key==x.key with
       |true=>
          simp only[hk,hl,bG,bm,aB,az,if_false,if_true,bu]at eO;simp-implicitDefEqProofs (disch:=(first|omega|decide)) only[go_sem,↓reduceIte,seval,aH,p1,t1,e1,gL,hk,wrap_i64,aa]
          exact fin o false _ _ eO rfl rfl
       |false=>
          simp only[hk,hl,bG,bm,aB,az,if_false,if_true,bu]at eO;simp-implicitDefEqProofs (maxSteps:=600000) (disch:=(first|omega|decide)) only[go_sem,↓reduceIte,seval,aH,p1,t1,e1,gL,hk,Gr,wrap_i64,aa]
          exact⟨⟨ai _,by omega⟩,fin (o++[y]) false _ _ eO (by simp) (jG o y)⟩
      |false=>
       rw[hl]at gL;have tk2:(o.map It.enc++[A.agg [.str x.key,.int .i64 s.id,.int .i64 (s.ct+1),.int .i64 (h_ s.bq x.key+1),.int .i64 x.prio,.bool x.dead,.str x.body]]).take (o.length+1)=o.map It.enc++[A.agg [.str x.key,.int .i64 s.id,.int .i64 (s.ct+1),.int .i64 (h_ s.bq x.key+1),.int .i64 x.prio,.bool x.dead,.str x.body]]:=ad (by simp)
       cases hk:y.key==x.key with
       |true=>
          simp only[hk,hl,bG,bm,aB,az,if_false,if_true,bu]at eO;simp-implicitDefEqProofs (disch:=(first|omega|decide)) only[go_sem,↓reduceIte,seval,aH,p1,t1,e1,gL,hk,Gr,wrap_i64,aa]
          exact⟨⟨ai _,by omega⟩,fin (o++[X]) true _ _ eO (by simp) (by rw[hXe];simp)⟩
       |false=>
          simp only[hk,hl,bG,bm,aB,az,if_false,if_true,bu]at eO;simp-implicitDefEqProofs (maxSteps:=600000) (disch:=(first|omega|decide)) only[go_sem,↓reduceIte,seval,aH,p1,t1,e1,gL,hk,Gr,tk2,wrap_i64,aa]
          exact⟨⟨ai _,by omega⟩,⟨by simp,by omega⟩,fin (o++[X]++[y]) true _ _ eO (by simp) (by rw[hXe,<-jG];simp)⟩
   · have aH: ¬(i:Int)<(s.bq.length:Int):=by omega
     rw[ad (by omega)]
     have vv:(s.bq.foldl (fX X) ([],false)).1.length<=200000:=by
      have:=Dj X s.bq ([],false)
      simp only[bC]at this;omega
     have hin:Ve X s.bq=if(s.bq.foldl (fX X) ([],false)).2 then(s.bq.foldl (fX X) ([],false)).1 else(s.bq.foldl (fX X) ([],false)).1++[X]:=rfl
     generalize s.bq.foldl (fX X) ([],false)=p at*;obtain⟨o,d⟩:=p;simp only at vv hin⊢;have Gr:=tk o;cases d with
     |true=>
      rw[hin,if_pos rfl]
      simp-implicitDefEqProofs (disch:=(first|omega|decide)) only[go_sem,↓reduceIte,seval,aH,gV,gJ,Gr,wrap_i64,aa]
      exact ai _
     |false=>
      rw[hin,if_neg (by simp)]
      simp-implicitDefEqProofs (disch:=(first|omega|decide)) only[go_sem,↓reduceIte,seval,aH,gV,gJ,Gr,wrap_i64,aa]
      refine⟨⟨ai _,by omega⟩,by simp, ?_⟩
      rw[ad (by simp),hXe,bz];rfl
theorem key_eq_of{x y:It}(h1:cL y.key x.key=false)(h2:cL x.key y.key=false):y.key=x.key:=by
 rcases vu.tri y.key x.key with r|r|r
 · rw[h1]at r;cases r
 · exact r
 · rw[h2]at r;cases r
theorem Vg(x:It): ∀(l:List It) (p:List It×Bool),(l.foldl (fX x) p).2=(p.2||l.any fun y=> !cL y.key x.key)
 | [],p=>by simp
 |y::l,p=>by
  rw[cg,Vg x l,cI]
  simp[fX,tK]
theorem Vh(x z:It): ∀(l:List It) (p:List It×Bool),z∈(l.foldl (fX x) p).1 ↔ z∈p.1\/(z∈l/\z.key≠x.key)\/(z=x/\p.2=false/\(l.any fun y=> !cL y.key x.key)=true)
 | [],p=>by simp
 |y::l,p=>by
  rw[cg,Vh x z l,cI]
  obtain⟨o,d⟩:=p;simp only[fX]
  cases hk:y.key==x.key<;>cases hl:cL y.key x.key<;>cases d<;>simp only[bm,bG,cv,bN,aB,aI,lD,gi,cM,bu,if_true,az,if_false,aJ,bc,aD]
  all_goals
   have M9:(y.key=x.key)\/ ¬(y.key=x.key):=Decidable.em _
   first
    |(have e:y.key=x.key:=by simpa using hk
      constructor
      · intro h;simp at h⊢;grind
      · intro h;simp at h⊢;grind)
    |(have e: ¬y.key=x.key:=by simpa using hk
      constructor
      · intro h;simp at h⊢;grind
      · intro h;simp at h⊢;grind)
theorem insF_mem{x z:It}{l:List It}:z∈Ve x l ↔ z=x\/(z∈l/\z.key≠x.key):=by
 unfold Ve;have h1:=Vg x l ([],false)
 have h2:=Vh x z l ([],false)
 rw[bu]at h1;cases hd:(l.any fun y=> !cL y.key x.key)with
 |true=>
  rw[hd]at h1;rw[if_pos h1,h2,hd]
  simp only[cN,false_or,and_true]
  exact Or.comm
 |false=>
  rw[hd]at h1;rw[if_neg (by rw[h1];simp),aJ,h2,hd]
  simp only[cN,false_or,az,and_false,or_false,bc]
  exact Or.comm
theorem xR(x:It): ∀(l:List It) (o:List It) (d:Bool),l.Pairwise (fun a b=>cL a.key b.key=true)->o.Pairwise (fun a b=>cL a.key b.key=true)->(∀a∈o,∀b∈l,cL a.key b.key=true)->
 (d=false-> ∀a∈o,cL a.key x.key=true)->(d=true-> ∀b∈l,cL b.key x.key=false)->
 (if(l.foldl (fX x) (o,d)).2 then(l.foldl (fX x) (o,d)).1 else(l.foldl (fX x) (o,d)).1++[x]).Pairwise (fun a b=>cL a.key b.key=true)
 | [],o,d,_,ho,_,h1,_=>by
  cases d with
  |true=>exact ho
  |false=>
   simp only[oF,az,if_false]
   rw[cZ]
   exact⟨ho,by simp,fun a ha b hb=>by rw[bc.1 hb];exact h1 rfl a ha⟩
 |y::l,o,d,hl,ho,vv,h1,h2=>by
  rw[aR]at hl;rw[cg]
  have snoc: ∀{o:List It} {z:It},o.Pairwise (fun a b=>cL a.key b.key=true)->(∀a∈o,cL a.key z.key=true)->(o++[z]).Pairwise (fun a b=>cL a.key b.key=true):=fun{o z} g1 g2=>by
   rw[cZ]
   exact⟨g1,by simp,fun a ha b hb=>by rw[bc.1 hb];exact g2 a ha⟩
  cases hk:y.key==x.key with
  |true=>
   have e:y.key=x.key:=by simpa using hk
   have bo:cL y.key x.key=false:=by rw[e];exact lt_irrefl _
   have rest: ∀b∈l,cL b.key x.key=false:=fun b hb=>by rw[<-e];exact kG (hl.1 b hb)
   cases d with
   |true=>
    have:fX x (o,true) y=(o,true):=by simp[fX,hk]
    rw[this]
    exact xR x l o true hl.2 ho (fun a ha b hb=>vv a ha b (by simp[hb])) (fun e=>by cases e) (fun _=>rest)
   |false=>
    have:fX x (o,false) y=(o++[x],true):=by simp[fX,hk,bo]
    rw[this]
    refine xR x l _ true hl.2 (snoc ho (h1 rfl)) (fun a ha b hb=> ?_) (fun e=>by cases e) (fun _=>rest)
    rcases aJ.1 ha with ha|ha
    · exact vv a ha b (by simp[hb])
    · rw[bc.1 ha,<-e];exact hl.1 b hb
  |false=>
   have e:y.key≠x.key:=by simpa using hk
   cases bo:cL y.key x.key with
   |true=>
    cases d with
    |true=>have:=h2 rfl y (by simp);rw[bo]at this;cases this
    |false=>
     have:fX x (o,false) y=(o++[y],false):=by simp[fX,hk,bo]
     rw[this]
     refine xR x l _ false hl.2 (snoc ho (fun a ha=>vv a ha y (by simp))) (fun a ha b hb=> ?_) (fun _ a ha=> ?_) (fun e=>by cases e)
     · rcases aJ.1 ha with ha|ha
       · exact vv a ha b (by simp[hb])
       · rw[bc.1 ha];exact hl.1 b hb
     · rcases aJ.1 ha with ha|ha
       · exact h1 rfl a ha
       · rw[bc.1 ha];exact bo
   |false=>
    have Cr:cL x.key y.key=true:=by
     cases g:cL x.key y.key with
     |true=>rfl
     |false=>exact absurd (key_eq_of bo g) e
    have rest: ∀b∈l,cL b.key x.key=false:=fun b hb=>kG (fa Cr (hl.1 b hb))
    cases d with
    |true=>
     have:fX x (o,true) y=(o++[y],true):=by simp[fX,hk]
     rw[this]
     refine xR x l _ true hl.2 (snoc ho (fun a ha=>vv a ha y (by simp))) (fun a ha b hb=> ?_) (fun e=>by cases e) (fun _=>rest)
     rcases aJ.1 ha with ha|ha
     · exact vv a ha b (by simp[hb])
     · rw[bc.1 ha];exact hl.1 b hb
    |false=>
     have:fX x (o,false) y=(o++[x]++[y],true):=by simp[fX,hk,bo]
     rw[this]
     refine xR x l _ true hl.2 (snoc (snoc ho (h1 rfl)) (fun a ha=> ?_)) (fun a ha b hb=> ?_) (fun e=>by cases e) (fun _=>rest)
     · rcases aJ.1 ha with ha|ha
       · exact vv a ha y (by simp)
       · rw[bc.1 ha];exact Cr
     · rcases aJ.1 ha with ha|ha
       · rcases aJ.1 ha with ha|ha
         · exact vv a ha b (by simp[hb])
         · rw[bc.1 ha];exact fa Cr (hl.1 b hb)
       · rw[bc.1 ha];exact hl.1 b hb
theorem insF_up{x:It}{l:List It}(h:l.Pairwise fun a b=>cL a.key b.key=true):(Ve x l).Pairwise fun a b=>cL a.key b.key=true:=
 xR x l [] false h List.Pairwise.nil (fun a ha=>by cases ha) (fun _ a ha=>by cases ha) (fun e=>by cases e)
theorem filter_one{l:List It}{z:It}(h:l.Pairwise fun a b=>cL a.key b.key=true)(hz:z∈l):l.filter (fun y=>z.key==y.key)=[z]:=by
 induction l with
 |nil=>cases hz
 |cons y l ih=>
  rw[aR]at h;rcases aD.1 hz with rfl|hz
  · have:l.filter (fun y=>z.key==y.key)=[]:=by
     rw[cy]
     intro a ha e;have:=h.1 a ha;rw[show a.key=z.key from(by simpa using e:z.key=a.key).symm,lt_irrefl]at this;cases this
    rw[bV (by simp),this]
  · have eH: ¬(z.key==y.key)=true:=fun e=>by
     have:=h.1 z hz;rw[show z.key=y.key by simpa using e,lt_irrefl]at this;cases this
    rw[df (p:=fun y:It=>z.key==y.key) eH,ih h.2 hz]
theorem filter_none{l:List It}{k:List UInt8}(h: ∀y∈l,y.key≠k):l.filter (fun y=>k==y.key)=[]:=by
 rw[cy]
 intro a ha e;exact h a ha (by simpa using e:k=a.key).symm
theorem bt_asy{x y:It}(h:bt x y=true):bt y x=false:=by
 cases g:bt y x with
 |false=>rfl
 |true=>
  have:=bt_tr h g;rw[JN]at this;cases this
theorem J4{x:It}{l:List It}(hl:l.Pairwise fun a b=>cL a.key b.key=true)(hr: ∀y∈l,bQ y=true)(hx:bQ x=true)(hb: ∀y∈l,y.key=x.key->bt x y=true):Ve x l=bM (x::l):=by
 have hf:(x::l).filter bQ=x::l:=dv.2 fun y hy=>by
  rcases aD.1 hy with rfl|hy
  · exact hx
  · exact hr y hy
 unfold bM;rw[hf]
 refine Ju mV (insF_up hl) fun z=> ?_;rw[insF_mem]
 have hfe:eqv fA z=fun y=>z.key==y.key:=funext fun y=>eqvI;rw[hfe]
 by_cases hk:z.key=x.key
 · have h1:(x::l).filter (fun y=>z.key==y.key)=x::l.filter (fun y=>z.key==y.key):=bV (by simp[hk])
   rw[h1]
   have hbest:kA bt (x::l.filter (fun y=>z.key==y.key))=some x:=by
    by_cases he: ∃y∈l,y.key=z.key
    · obtain⟨y,hy,hyk⟩:=he
      rw[<-hyk,filter_one hl hy]
      have:=bt_asy (hb y hy (by rw[hyk,hk]))
      simp[kA,better,this]
    · rw[filter_none fun y hy e=>he ⟨y,hy,e⟩];rfl
   rw[hbest]
   constructor
   · rintro(rfl|⟨_,h⟩)
     · rfl
     · exact absurd hk h
   · intro h
     exact .inl (an h).symm
 · have h1:(x::l).filter (fun y=>z.key==y.key)=l.filter (fun y=>z.key==y.key):=df (by simpa using hk)
   rw[h1]
   constructor
   · rintro(rfl|⟨h,_⟩)
     · exact absurd rfl hk
     · rw[filter_one hl h];rfl
   · intro h
     exact .inr ⟨(aP.1 (qa h)).1,hk⟩
theorem get_mem{l:List It}{k:List UInt8}{y:It}(h:l.Pairwise fun a b=>cL a.key b.key=true)(hy:y∈l)(hk:y.key=k):iu l k=some y:=by
 unfold iu;cases hg:l.find? (fun x=>x.key==k)with
 |none=>
  have:=po.1 hg y hy;exact absurd (by simpa using hk) this
 |some z=>
  have h1:=dD hg;have h2:=jH hg;have hzk:z.key=k:=by simpa using h2
  have e:=filter_one h hy;have hz:z∈l.filter (fun x=>y.key==x.key):=aP.2 ⟨h1,by simp[hk,hzk]⟩
  rw[e]at hz;rw[bc.1 hz]
theorem aap{s:bA}{x:It}(h:dg s)(hx:bQ (r_ s x)=true):Q_ s x=ig s (r_ s x):=by
 have:Ve (r_ s x) s.bq=bM (r_ s x::s.bq):=J4 h.up h.right hx fun y hy hk=>by
  have hg:=get_mem h.up hy (show y.key=x.key from hk)
  have hr:h_ s.bq x.key=y.du:=by unfold h_;rw[hg]
  unfold bt;have:y.du<(r_ s x).du:=by show y.du<h_ s.bq x.key+1;omega
  rw[decide_eq_true this];rfl
 unfold Q_ ig;rw[this]
 rfl
def Rb:aW:=Q9.add 127 (entry (fun(v:bA×It)=>[v.1.enc,v.2.enc]) (fun v=>xa v.1 v.2) (fun v=>(Q_ v.1 v.2).enc))
theorem Y23q_ok:aN Tryz.prog Rb:=aan.dH Tryz.func127 (by kernel_rfl) (by kernel_rfl) fun v h=>Vf v.1 v.2 h
@[go_sem] theorem Y23q_old{g:FuncId}{xs:List A}(h:g≠127):Rb.f g xs=Q9.f g xs:=aW.aU h
theorem J5(v:bA×It)(h:xa v.1 v.2):Rb.f 127 [v.1.enc,v.2.enc]=some ((Q_ v.1 v.2).enc):=aW.aZ (Γ:=Q9) (fun i j h=>by simpa[ag,and_assoc]using h) v h
def Vi:aW:=Rb.add 37 (entry (fun(s:bA)=>[s.enc]) (fun s=>fV s) (fun s=> .bool (cq s)))
theorem aaq:aN Tryz.prog Vi:=Y23q_ok.dH Tryz.func37 (by kernel_rfl) (by kernel_rfl) fun s h=>Mg s h
@[go_sem] theorem Y23r_old{g:FuncId}{xs:List A}(h:g≠37):Vi.f g xs=Rb.f g xs:=aW.aU h
@[go_sem] theorem Y23r_s:Vi.pl Rb:=⟨fun _=>rfl,fun _=>rfl,rfl,fun _=>rfl,rfl,fun _=>rfl,rfl⟩
theorem dP(s:bA)(h:fV s):Vi.f 37 [s.enc]=some (.bool (cq s)):=aW.aZ (Γ:=Rb) (fun i j h=>by simpa[ag,and_assoc]using h) s h
theorem y_rput{s:bA}{x:It}(h:xa s x):Rb.f 127 [.agg [.int .i64 s.id,.ay (s.fl.map bk.enc),.ay (s.bq.map It.enc),.ay (s.kn.map Pc.enc),.int .i64 s.ct],.agg [.str x.key,.int .i64 x.rep,.int .i64 x.da,.int .i64 x.du,.int .i64 x.prio,.bool x.dead,.str x.body]]=some (Q_ s x).enc:=J5 (s,x) h
def J6(k:List UInt8)(prio:Int)(body:List UInt8):It:=⟨k,0,0,0,prio,false,body⟩
def FF(s:bA)(k:List UInt8):It:=⟨k,0,0,0,Bs s.bq k,true,[]⟩
theorem Dk{s:bA}(h:dg s)(hc:s.ct≠1099511627776):cm ⟨s.id,s.ct+1⟩=true:=by have:=h.id;have:=h.ct;simp[cm];omega
theorem putW_eq{s:bA}{k:List UInt8}{prio:Int}{body:List UInt8}(h:dz s k prio body=0):Q_ s (J6 k prio body)=ig s (fj s (sr s k prio body)):=by
 unfold dz at h;split at h
 · cases h
 rename_i hR;have hR:cq s=true:=by simpa using hR
 have hS:=(dN s).1 hR;have NZ:=nP hR k;split at h
 · cases h
 rename_i hb;split at h
 · cases h
 split at h
 · cases h
 rename_i hm;have hv:=Dk hS (fun e=>hm (.inl e))
 have e:r_ s (J6 k prio body)=fj s (sr s k prio body):=rfl;rw[<-e]
 refine aap hS ?_;unfold ly at hb;simp only[bE,bT,decide_eq_false_iff_not,decide_eq_true_eq,not_or]at hb;obtain⟨⟨⟨b1,b2⟩,b3⟩,b4⟩:=hb;unfold bQ;have hk:(r_ s (J6 k prio body)).key=k:=rfl;have hver:cm ⟨(r_ s (J6 k prio body)).rep,(r_ s (J6 k prio body)).da⟩=true:=hv;rw[hver]
 have r1:(r_ s (J6 k prio body)).du=h_ s.bq k+1:=rfl;have r2:(r_ s (J6 k prio body)).prio=prio:=rfl;have r3:(r_ s (J6 k prio body)).body=body:=rfl;have r4:(r_ s (J6 k prio body)).dead=false:=rfl;rw[hk,r1,r2,r3,r4]
 have b1:1<=k.length/\k.length<=16:=Decidable.not_not.1 b1;have hm2:h_ s.bq k≠1099511627776:=fun e=>hm (.inr e)
 simp only[decide_eq_true b1,aB,bm,cM,cv,ak,decide_eq_true_eq]
 omega
theorem J7:aQ Tryz.prog Vi Tryz.f63.ntmps (Tryz.f63.body.getD .skip)=true:=by kernel_rfl
theorem ME(s:bA)(k:List UInt8)(prio:Int)(body:List UInt8)(h:fV s)(hk:k.length<=9223372036854775807)(hb:body.length<=9223372036854775807)(hp:dz s k prio body=0->xa s (J6 k prio body)):
 bp Tryz.prog 63 [s.enc,.str k,.int .i64 prio,.str body] (· =tf s k prio body):=by
 refine ah aaq mixed Tryz.func63 rfl (ab rfl) J7 ?_;unfold Tryz.f63;have gR:=dP s h;have gK:=yG (s:=k) hk;have gH:=n9 (l:=s.fl) (s:=k) (by have:=h.fl.1;omega) h.fl.2 hk;have gP:=xQ (s:=s) (k:=k) h.bq.1;have gN:=Ym (s:=s) (k:=k) h.bq.1;have hpg:=rr s.bq k;have NZ: ∀hh:cq s=true,_:=fun hh=>nP hh k;unfold tf Q5;simp only[bA.enc,bA.cells,It.enc]at*;have fail: ∀e:Int,e≠0->dz s k prio body=e->A.fq [.agg [.int .i64 0,.ay [],.ay [],.ay [],.int .i64 0],.int .i64 e]= .fq [.agg [.int .i64 (if dz s k prio body=0 then ig s (fj s (sr s k prio body))else e9).id,.ay ((if dz s k prio body=0 then ig s (fj s (sr s k prio body))else e9).fl.map bk.enc),.ay ((if dz s k prio body=0 then ig s (fj s (sr s k prio body))else e9).bq.map It.enc),.ay ((if dz s k prio body=0 then ig s (fj s (sr s k prio body))else e9).kn.map Pc.enc),.int .i64 (if dz s k prio body=0 then ig s (fj s (sr s k prio body))else e9).ct],.int .i64 (dz s k prio body)]:=fun e he hc=>by rw[hc,if_neg he];rfl
 generalize hZ:A.fq [.agg [.int .i64 (if dz s k prio body=0 then ig s (fj s (sr s k prio body))else e9).id,.ay ((if dz s k prio body=0 then ig s (fj s (sr s k prio body))else e9).fl.map bk.enc),.ay ((if dz s k prio body=0 then ig s (fj s (sr s k prio body))else e9).bq.map It.enc),.ay ((if dz s k prio body=0 then ig s (fj s (sr s k prio body))else e9).kn.map Pc.enc),.int .i64 (if dz s k prio body=0 then ig s (fj s (sr s k prio body))else e9).ct],.int .i64 (dz s k prio body)]=Z at*;cases hR:cq s with
 |false=>
  have fl:=fail 41 (by decide) (by unfold dz;rw[if_pos hR])
  rw[hR]at gR;simp-implicitDefEqProofs (disch:=(first|omega|decide)) only[go_sem,↓reduceIte,seval,gR,fl]
 |true=>
  have NZ:=NZ hR;rw[hR]at gR;have hC:dz s k prio body=if ly k prio body=true then 2 else if bh s.fl k=false then 30 else if s.ct=1099511627776\/h_ s.bq k=1099511627776 then 33 else if iu s.bq k=none/\s.bq.length=4096 then 32 else 0:=by unfold dz;rw[if_neg (by rw[hR];simp)]
  have bad:ly k prio body=true->A.fq [.agg [.int .i64 0,.ay [],.ay [],.ay [],.int .i64 0],.int .i64 2]=Z:=fun hb=>fail 2 (by decide) (by rw[hC,if_pos hb])
  cases b1:decide (1<=k.length/\k.length<=16)with
  |false=>
   have fl:=bad (by unfold ly;rw[b1];rfl)
   rw[b1]at gK;simp-implicitDefEqProofs (disch:=(first|omega|decide)) only[go_sem,↓reduceIte,seval,gR,gK,fl]
  |true=>
   rw[b1]at gK;by_cases b2:prio<0
   · have fl:=bad (by unfold ly;rw[b1,decide_eq_true b2];rfl)
     simp-implicitDefEqProofs (disch:=(first|omega|decide)) only[go_sem,↓reduceIte,seval,gR,gK,b2,fl]
   · by_cases b3:255<prio
     · have fl:=bad (by unfold ly;rw[b1,decide_eq_true b3];simp)
       simp-implicitDefEqProofs (disch:=(first|omega|decide)) only[go_sem,↓reduceIte,seval,gR,gK,b2,b3,fl]
     · by_cases b4:64<body.length
       · have fl:=bad (by unfold ly;rw[decide_eq_true b4];simp)
         have Vb:(64:Int)<(body.length:Int):=by omega
         simp-implicitDefEqProofs (disch:=(first|omega|decide)) only[go_sem,↓reduceIte,seval,gR,gK,b2,b3,Vb,fl]
       · have Vb: ¬(64:Int)<(body.length:Int):=by omega
         have hbf: ¬ly k prio body=true:=by unfold ly;rw[b1,decide_eq_false b2,decide_eq_false b3,decide_eq_false b4];simp
         rw[if_neg hbf]at hC;cases b5:bh s.fl k with
         |false=>
          have fl:=fail 30 (by decide) (by rw[hC,if_pos b5])
          rw[b5]at gH;simp-implicitDefEqProofs (disch:=(first|omega|decide)) only[go_sem,↓reduceIte,seval,gR,gK,gH,b2,b3,Vb,fl]
         |true=>
          rw[b5]at gH;rw[if_neg (by rw[b5];simp)]at hC;cases b6:s.ct==1099511627776 with
          |true=>
           have fl:=fail 33 (by decide) (by rw[hC,if_pos (.inl (by simpa using b6))])
           simp-implicitDefEqProofs (disch:=(first|omega|decide)) only[go_sem,↓reduceIte,seval,gR,gK,gH,b2,b3,Vb,b6,fl]
          |false=>
           cases b7:h_ s.bq k==1099511627776 with
           |true=>
            have fl:=fail 33 (by decide) (by rw[hC,if_pos (.inr (by simpa using b7))])
            simp-implicitDefEqProofs (disch:=(first|omega|decide)) only[go_sem,↓reduceIte,seval,gR,gK,gH,gN,b2,b3,Vb,b6,b7,fl]
           |false=>
            rw[if_neg (by simp at b6 b7;omega)]at hC
            have ye:dz s k prio body=0->Rb.f 127 [.agg [.int .i64 s.id,.ay (s.fl.map bk.enc),.ay (s.bq.map It.enc),.ay (s.kn.map Pc.enc),.int .i64 s.ct],.agg [.str k,.int .i64 0,.int .i64 0,.int .i64 0,.int .i64 prio,.bool false,.str body]]=some (ig s (fj s (sr s k prio body))).enc:=fun h0=>by
             have:=y_rput (hp h0)
             rw[putW_eq h0]at this;exact this
            rcases hpg with⟨q1,q2⟩|⟨i,hi,q1,q2⟩
            · rw[q1]at gP
              cases b8:(s.bq.length:Int)==4096 with
              |true=>
               have fl:=fail 32 (by decide) (by rw[hC,if_pos ⟨q2,by simp at b8;omega⟩])
               simp-implicitDefEqProofs (disch:=(first|omega|decide)) only[go_sem,↓reduceIte,seval,gR,gK,gH,gN,gP,b2,b3,Vb,b6,b7,b8,fl,aa]
              |false=>
               have h0:dz s k prio body=0:=by rw[hC,if_neg (fun e=>by simp at b8;omega)]
               have ye:=ye h0;rw[h0,if_pos rfl]at hZ;simp only[bA.enc,bA.cells]at ye hZ;simp-implicitDefEqProofs (maxSteps:=600000) (disch:=(first|omega|decide)) only[go_sem,↓reduceIte,seval,gR,gK,gH,gN,gP,ye,b2,b3,Vb,b6,b7,b8,hZ,wrap_i64,aa]
            · rw[q1]at gP
              have q3: ¬((i:Int)<0):=by omega
              have h0:dz s k prio body=0:=by rw[hC,if_neg (fun e=>by rw[q2]at e;cases e.1)]
              have ye:=ye h0;rw[h0,if_pos rfl]at hZ;simp only[bA.enc,bA.cells]at ye hZ;simp-implicitDefEqProofs (maxSteps:=600000) (disch:=(first|omega|decide)) only[go_sem,↓reduceIte,seval,gR,gK,gH,gN,gP,ye,q3,b2,b3,Vb,b6,b7,hZ,wrap_i64,aa]
def Yn:aW:=Vi.add 63 (entry (fun(v:bA×List UInt8×Int×List UInt8)=>[v.1.enc,.str v.2.1,.int .i64 v.2.2.1,.str v.2.2.2]) (fun v=>(fV v.1/\(dz v.1 v.2.1 v.2.2.1 v.2.2.2=0->xa v.1 (J6 v.2.1 v.2.2.1 v.2.2.2)))/\v.2.1.length<=9223372036854775807/\v.2.2.2.length<=9223372036854775807) (fun v=>tf v.1 v.2.1 v.2.2.1 v.2.2.2))
theorem aar:aN Tryz.prog Yn:=aaq.dH Tryz.func63 (by kernel_rfl) (by kernel_rfl) fun v h=>ME v.1 v.2.1 v.2.2.1 v.2.2.2 h.1.1 h.2.1 h.2.2 h.1.2
@[go_sem] theorem Y23s_old{g:FuncId}{xs:List A}(h:g≠63):Yn.f g xs=Vi.f g xs:=aW.aU h
@[go_sem] theorem Y23s_s:Yn.pl Vi:=⟨fun _=>rfl,fun _=>rfl,rfl,fun _=>rfl,rfl,fun _=>rfl,rfl⟩
theorem del_get{s:bA}{k:List UInt8}(h:kt s k=0):cq s=true/\s.ct≠1099511627776/\h_ s.bq k≠1099511627776/\ ∃o,iu s.bq k=some o/\o.dead=false/\o.prio=Bs s.bq k:=by
 unfold kt at h;split at h
 · cases h
 rename_i hR;split at h
 · cases h
 rename_i hd;split at h
 · cases h
 rename_i hm;refine⟨by simpa using hR,fun e=>hm (.inl e),fun e=>hm (.inr e), ?_⟩
 unfold yL at hd;unfold Bs;cases hg:iu s.bq k with
 |none=>rw[hg]at hd;simp at hd
 |some o=>rw[hg]at hd;exact⟨o,rfl,by simpa using hd,rfl⟩
theorem putD_eq{s:bA}{k:List UInt8}(h:kt s k=0):Q_ s (FF s k)=ig s (fj s (Eo s k)):=by
 obtain⟨hR,h1,h2,o,ho,hd,hp⟩:=del_get h;have hS:=(dN s).1 hR;have NZ:=nP hR k;have hv:=Dk hS h1;have hor:=hS.right o (dD ho)
 have mq:o.key=k:=by have:(o.key==k)=true:=jH (p:=fun x:It=>x.key==k) ho;simpa using this
 have e:r_ s (FF s k)=fj s (Eo s k):=rfl;rw[<-e]
 refine aap hS ?_;unfold bQ at hor⊢;have hver:cm ⟨(r_ s (FF s k)).rep,(r_ s (FF s k)).da⟩=true:=hv;rw[hver]
 have r0:(r_ s (FF s k)).key=k:=rfl;have r1:(r_ s (FF s k)).du=h_ s.bq k+1:=rfl;have r2:(r_ s (FF s k)).prio=Bs s.bq k:=rfl;have r3:(r_ s (FF s k)).body=[]:=rfl;have r4:(r_ s (FF s k)).dead=true:=rfl;rw[r0,r1,r2,r3,r4,<-hp]
 rw[mq]at hor;simp only[ak,decide_eq_true_eq]at hor⊢;obtain⟨⟨⟨⟨⟨⟨⟨a1,a2⟩,a3⟩,a4⟩,a5⟩,a6⟩,a7⟩,a8⟩:=hor;exact⟨⟨⟨⟨⟨⟨⟨a1,trivial⟩,by omega⟩,by omega⟩,a5⟩,a6⟩,by simp⟩,by simp⟩
theorem FG:aQ Tryz.prog Yn Tryz.f61.ntmps (Tryz.f61.body.getD .skip)=true:=by kernel_rfl
theorem J8(s:bA)(k:List UInt8)(h:fV s)(hk:k.length<=9223372036854775807)(hp:kt s k=0->xa s (FF s k)):
 bp Tryz.prog 61 [s.enc,.str k] (· =delA s k):=by
 refine ah aar mixed Tryz.func61 rfl (ab rfl) FG ?_;unfold Tryz.f61;have gR:=dP s h;have gP:=xQ (s:=s) (k:=k) h.bq.1;have gN:=Ym (s:=s) (k:=k) h.bq.1;have hpg:=rr s.bq k;have NZ: ∀hh:cq s=true,_:=fun hh=>nP hh k;unfold delA delS;simp only[bA.enc,bA.cells,It.enc]at*;have fail: ∀e:Int,e≠0->kt s k=e->A.fq [.agg [.int .i64 0,.ay [],.ay [],.ay [],.int .i64 0],.int .i64 e]= .fq [.agg [.int .i64 (if kt s k=0 then ig s (fj s (Eo s k))else e9).id,.ay ((if kt s k=0 then ig s (fj s (Eo s k))else e9).fl.map bk.enc),.ay ((if kt s k=0 then ig s (fj s (Eo s k))else e9).bq.map It.enc),.ay ((if kt s k=0 then ig s (fj s (Eo s k))else e9).kn.map Pc.enc),.int .i64 (if kt s k=0 then ig s (fj s (Eo s k))else e9).ct],.int .i64 (kt s k)]:=fun e he hc=>by rw[hc,if_neg he];rfl
 generalize hZ:A.fq [.agg [.int .i64 (if kt s k=0 then ig s (fj s (Eo s k))else e9).id,.ay ((if kt s k=0 then ig s (fj s (Eo s k))else e9).fl.map bk.enc),.ay ((if kt s k=0 then ig s (fj s (Eo s k))else e9).bq.map It.enc),.ay ((if kt s k=0 then ig s (fj s (Eo s k))else e9).kn.map Pc.enc),.int .i64 (if kt s k=0 then ig s (fj s (Eo s k))else e9).ct],.int .i64 (kt s k)]=Z at*;cases hR:cq s with
 |false=>
  have fl:=fail 41 (by decide) (by unfold kt;rw[if_pos hR])
  rw[hR]at gR;simp-implicitDefEqProofs (disch:=(first|omega|decide)) only[go_sem,↓reduceIte,seval,gR,fl]
 |true=>
  have NZ:=NZ hR;rw[hR]at gR;have hC:kt s k=if yL s.bq k=true then 31 else if s.ct=1099511627776\/h_ s.bq k=1099511627776 then 33 else 0:=by unfold kt;rw[if_neg (by rw[hR];simp)]
  rcases hpg with⟨q1,q2⟩|⟨i,hi,q1,q2⟩
  · rw[q1]at gP
    have fl:=fail 31 (by decide) (by rw[hC,if_pos (by unfold yL;rw[q2])])
    simp-implicitDefEqProofs (disch:=(first|omega|decide)) only[go_sem,↓reduceIte,seval,gR,gP,fl]
  · rw[q1]at gP
    have q3: ¬((i:Int)<0):=by omega
    have q4:(0:Int)<=(i:Int):=by omega
    have q5:(i:Int)<(s.bq.length:Int):=by omega
    have q6:((i:Nat):Int).toNat=i:=bg _;have e1:=eG hi;have hdd:yL s.bq k=s.bq[i].dead:=by unfold yL;rw[q2]
    have RK:Bs s.bq k=s.bq[i].prio:=by unfold Bs;rw[q2]
    rw[<-hdd,<-RK]at e1;cases b5:yL s.bq k with
    |true=>
     rw[b5]at e1;have fl:=fail 31 (by decide) (by rw[hC,if_pos b5])
     simp-implicitDefEqProofs (disch:=(first|omega|decide)) only[go_sem,↓reduceIte,seval,gR,gP,q3,q4,q5,q6,e1,fl,aa]
    |false=>
     rw[b5]at e1;rw[if_neg (by rw[b5];simp)]at hC;cases b6:s.ct==1099511627776 with
     |true=>
      have fl:=fail 33 (by decide) (by rw[hC,if_pos (.inl (by simpa using b6))])
      simp-implicitDefEqProofs (disch:=(first|omega|decide)) only[go_sem,↓reduceIte,seval,gR,gP,q3,q4,q5,q6,e1,b6,fl,aa]
     |false=>
      cases b7:h_ s.bq k==1099511627776 with
      |true=>
       have fl:=fail 33 (by decide) (by rw[hC,if_pos (.inr (by simpa using b7))])
       simp-implicitDefEqProofs (disch:=(first|omega|decide)) only[go_sem,↓reduceIte,seval,gR,gP,gN,q3,q4,q5,q6,e1,b6,b7,fl,aa]
      |false=>
       have h0:kt s k=0:=by rw[hC,if_neg (by simp at b6 b7;omega)]
       have gU:=y_rput (hp h0)
       rw[putD_eq h0]at gU;rw[h0,if_pos rfl]at hZ;simp only[FF,bA.enc,bA.cells]at gU hZ;simp-implicitDefEqProofs (disch:=(first|omega|decide)) only[go_sem,↓reduceIte,seval,gR,gP,gN,gU,q3,q4,q5,q6,e1,b6,b7,hZ,wrap_i64,aa]
def Yo:aW:=Yn.add 61 (entry (fun(v:bA×List UInt8)=>[v.1.enc,.str v.2]) (fun v=>(fV v.1/\(kt v.1 v.2=0->xa v.1 (FF v.1 v.2)))/\v.2.length<=9223372036854775807) (fun v=>delA v.1 v.2))
theorem aas:aN Tryz.prog Yo:=aar.dH Tryz.func61 (by kernel_rfl) (by kernel_rfl) fun v h=>J8 v.1 v.2 h.1.1 h.2 h.1.2
@[go_sem] theorem Y23t_old{g:FuncId}{xs:List A}(h:g≠61):Yo.f g xs=Yn.f g xs:=aW.aU h
@[go_sem] theorem Y23t_s:Yo.pl Yn:=⟨fun _=>rfl,fun _=>rfl,rfl,fun _=>rfl,rfl,fun _=>rfl,rfl⟩
def wtP(k:List Pc)(w:Nat):Prop:= ∀p∈k,p.s.length+dt p.s<=w
theorem Bt{k:List Pc}{w:Nat}(h:cD k=true)(hw:wtP k w)(x:List UInt8):(setAt k x).length+dt (setAt k x)<=w:=by
 by_cases he: ∃p∈k,eT p.r x=true
 · obtain⟨p,hp,hx⟩:=he
   rw[wC h hp hx];exact hw p hp
 · have:k.filter (fun p=>eT p.r x)=[]:=cy.2 fun p hp hx=>he ⟨p,hp,hx⟩
   have e:setAt k x=[]:=by unfold setAt;rw[this];rfl
   rw[e];exact aw _
theorem Vj{k:List Pc}{x:List UInt8}{W:Nat}(h:(setAt k x).length+dt (setAt k x)<=W):(fF k x).length+dt (fF k x)<=16+W:=by
 have h1:=I8 (setAt k x)
 unfold fF;omega
theorem setP_wt{P:List UInt8->List aF}{es:List (List UInt8)}(hE:Po P es){B:Nat}(hB: ∀x,(P x).length+dt (P x)<=B):wtP (cF P) B:=by
 have nn:=(sI hE).1;have Bf:=wU P es es.length;rw[<-nn]
 intro p hp;obtain⟨e,he⟩:=Bf p (kD.1 hp)
 rw[he];exact hB e
theorem okP_atw{k:List Pc}{N W:Nat}(h1:k.length<=N)(hW: ∀x,(setAt k x).length+dt (setAt k x)<=W)(hm:(1+2*N)*(16+W)<=900000)(hN:N<=1000):
 eK (cF (fF k))/\(cF (fF k)).length<=1+2*N/\wP (cF (fF k))<=(1+2*N)*(16+W)/\wtP (cF (fF k)) (16+W):=by
 have hl:=nL (LL:=[k])
 simp only[sn,aS,bD,cS,ja]at hl;obtain⟨a,b,c⟩:=Jl (edg1 k) (B:=16+W) (fun x=>Vj (hW x)) (N:=1+2*N) (by omega) hm (by omega)
 exact⟨a,b,c,setP_wt (edg1 k) fun x=>Vj (hW x)⟩
theorem Rc{k:List Pc}{l:List bk}{x:List UInt8}{W:Nat}(h:(setAt k x).length+dt (setAt k x)<=W):(c7 k l x).length+dt (c7 k l x)<=16+W:=by
 unfold c7;split
 · exact Vj h
 · simp[dt]
theorem Ep(key:List UInt8)(v:eU):(eR key [v]).length<=1/\wP (eR key [v])<=32:=by
 unfold eR;split
 · have h1:dt (f_ [v])<=1:=by cases hv:cm v<;>simp[f_,dt,hv]
   have h2:=ZJ h1;refine⟨by simp, ?_⟩
   simp only[wP,aS,bD,cS,ja]
   omega
 · exact⟨by simp,by simp[wP]⟩
theorem setAt_put{k:List Pc}{key:List UInt8}{v:eU}{w:Nat}(h:cD k=true)(hw:wtP k w)(x:List UInt8):(setAt (k++eR key [v]) x).length+dt (setAt (k++eR key [v]) x)<=w+32:=by
 rw[lk,aj,iK]
 have h1:=Bt h hw x;have h2:=qT (eR key [v]) x;have h3:=(Ep key v).2;omega
theorem Vk{k:List Pc}{w:Nat}(h:wtP k w):wP k<=k.length*w:=by
 induction k with
 |nil=>simp[wP]
 |cons p k ih=>
  have a:=ih fun q hq=>h q (by simp[hq])
  have b:=h p (by simp)
  rw[uS,aG,lM];omega
theorem Gu(key:List UInt8)(v:eU): ∀p∈eR key [v],p.r.lo.length<=9223372036854775807/\p.r.hi.length<=9223372036854775807:=by
 intro p hp;unfold eR at hp;split at hp
 · rename_i h
   obtain rfl:=bc.1 hp;have:=of_decide_eq_true h.1;show(sj key).lo.length<=_/\(sj key).hi.length<=_;have e:sj key=⟨key,key++[0],false⟩:=by unfold sj;rw[if_neg (by omega)]
   rw[e]
   simp only[aj,aG,bC];omega
 · cases hp
structure mW(s:bA)(N w n:Nat):Prop where
 right:dg s
 fl:s.fl.length<=8/\iG s.fl
 bq:s.bq.length<=n/\sS s.bq
 kn:s.kn.length<=N/\wtP s.kn w
theorem mW.eK{s:bA}{N w n:Nat}(h:mW s N w n)(hN:N<=400)(hw:w<=2200):mH s.kn:=by
 have h1:=Vk h.kn.2;have h2:s.kn.length*w<=400*2200:=oW (aL h.kn.1 hN) hw;refine⟨⟨⟨by have:=h.kn.1;omega,by omega⟩,fun p hp=> ?_⟩,fun x=>by have:=Bt h.right.kn h.kn.2 x;omega,fun p hp=>by have:=h.kn.2 p hp;omega⟩
 have:=(iZ.1 h.right.kn).1 p hp;simp only[jc,ak]at this;obtain⟨k1,k2,_,_⟩:=fy this.1.1;omega
theorem mW.okR'{s:bA}{N w n:Nat}(h:mW s N w n)(hN:N<=400)(hw:w<=2200)(hn:n<=1000):fV s:=by
 have h1:=h.fl;have h2:=h.bq;have h3:=h.kn.1;have hk:=h.eK hN hw;have hr:cF (c7 s.kn s.fl)=s.kn:=by rw[wZ.2 h.right.inF,jY h.right.kn]
 exact⟨⟨by omega,h1.2⟩,⟨by omega,h2.2⟩,⟨hk,by omega⟩,by rw[hr];exact hk.1⟩
theorem mW.okPut{s:bA}{x:It}{N w n:Nat}(h:mW s N w n)(hN:N<=400)(hw:w<=2200)(hn:n<=1000)(hx:x.ok):w_ s x:=by
 have hk:=h.eK hN hw;have h1:=Ep x.key ⟨s.id,s.ct+1⟩
 have h2:=h.kn.1;have h3:=h.bq;have h4:=h.fl;have h5:wP s.kn<=880000:=aL (Vk h.kn.2) (oW (aL h2 hN) hw)
 refine⟨by omega,⟨by omega,h3.2⟩,⟨hk.1,rY hk.1 ⟨⟨by omega,by omega⟩,Gu _ _⟩ (by omega) (by omega)⟩,hx,h.right.ct⟩
theorem mW.put{s:bA}{x:It}{N w n:Nat}(h:mW s N w n)(hN:N<=198)(hw:w<=2000)(hR:dg (ig s x))(hx:x.ok):mW (ig s x) (1+2*(N+1)) (48+w) (n+1):=by
 have h1:=Ep x.key ⟨x.rep,x.da⟩
 have hl:(s.kn++eR x.key [⟨x.rep,x.da⟩]).length<=N+1:=by rw[aj];have:=h.kn.1;omega
 have hm:(1+2*(N+1))*(16+(w+32))<=900000:=aL (oW (show 1+2*(N+1)<=399 by omega) (show 16+(w+32)<=2048 by omega)) (by decide)
 have hk:=okP_atw (N:=N+1) (W:=w+32) hl (fun y=>setAt_put h.right.kn h.kn.2 y) hm (by omega)
 refine⟨hR,h.fl,⟨?_,fun y hy=> ?_⟩,⟨hk.2.1,fun p hp=> ?_⟩⟩
 · have:=mK (x::s.bq)
   simp only[aG]at this;show(bM (x::s.bq)).length<=n+1;have:=h.bq.1;omega
 · rcases aD.1 (fB hy).1 with rfl|hy
   · exact hx
   · exact h.bq.2 y hy
 · have:=hk.2.2.2 p hp
   omega
theorem Yp(a:List It):mh a a=true:=by simp[mh]
theorem Ob{a b:List It}(h:a.length≠b.length):mh a b=false:=decide_eq_false fun e=>h (by rw[e])
theorem J9(x y:It)(a b:List It):mh (x::a) (y::b)=(decide (x=y)&&mh a b):=by unfold mh;rw[bS];simp
theorem it_eq{x y:It}:decide (x=y)=(x.key==y.key&&(x.rep==y.rep&&(x.da==y.da&&(x.du==y.du&&(x.prio==y.prio&&(x.dead==y.dead&&x.body==y.body)))))):=by
 obtain⟨a,b,c,d,e,f,g⟩:=x;obtain⟨a',b',c',d',e',f',g'⟩:=y;rw[bS,decide_eq_true_iff]
 simp[and_assoc]
theorem MF:aQ Tryz.prog Yo Tryz.f43.ntmps (Tryz.f43.body.getD .skip)=true:=by kernel_rfl
theorem Re(a b:List It)(ha:a.length<=4611686018427387904)(hb:b.length<=4611686018427387904):bp Tryz.prog 43 [.ay (a.map It.enc),.ay (b.map It.enc)] (· = .bool (mh a b)):=by
 refine ah aas mixed Tryz.func43 rfl (ab rfl) MF ?_;unfold Tryz.f43;cases h0:((a.length:Int)==(b.length:Int))with
 |false=>
  have eH:a.length≠b.length:=fun e=>by rw[e]at h0;simp at h0
  rw[Ob eH]
  simp-implicitDefEqProofs (disch:=(first|omega|decide)) only[go_sem,↓reduceIte,seval,h0,aa]
 |true=>
  have hlen:a.length=b.length:=by simp at h0;omega
  simp-implicitDefEqProofs (disch:=(first|omega|decide)) only[go_sem,↓reduceIte,seval,h0,aa]
  refine a_ [0,1] (ι:={k:Nat//k<=a.length/\mh a b=mh (a.drop k) (b.drop k)}) (fun p=>[(5,.int .i64 p.1)]) (fun _=>[]) (fun p=>a.length-p.1) ⟨0,by omega,rfl⟩ (aw _) ?_ ?_
  · simp-implicitDefEqProofs (disch:=(first|omega|decide)) only[go_sem,↓reduceIte,seval]
  · rintro⟨k,hk,hd⟩
    simp only;by_cases bo:k<a.length
    · have aH:(k:Int)<(a.length:Int):=by omega
      have jD:k<b.length:=by omega
      have yB:(k:Int)<(b.length:Int):=by omega
      have p1:(0:Int)<=(k:Int):=by omega
      have t1:((k:Nat):Int).toNat=k:=bg _;have e1:=eG bo;have e2:=eG jD;rw[ax bo,ax jD]at hd;rw[J9,it_eq]at hd;generalize a[k]=x at*;generalize b[k]=y at*;cases k1:(x.key==y.key&&(x.rep==y.rep&&(x.da==y.da&&(x.du==y.du&&(x.prio==y.prio&&(x.dead==y.dead&&x.body==y.body))))))with
      |false=>
       rw[k1,aI]at hd;rw[hd]
       simp-implicitDefEqProofs (disch:=(first|omega|decide)) only[go_sem,↓reduceIte,seval,aH,yB,p1,t1,e1,e2,k1,aa]
      |true=>
       rw[k1,aB]at hd;simp-implicitDefEqProofs (disch:=(first|omega|decide)) only[go_sem,↓reduceIte,seval,aH,yB,p1,t1,e1,e2,k1,wrap_i64,aa]
       exact⟨⟨k+1,bo,hd⟩,by simp,by show a.length-(k+1)<a.length-k;omega⟩
    · have aH: ¬(k:Int)<(a.length:Int):=by omega
      rw[aC (by omega),aC (by omega)]at hd;have hd:mh a b=true:=hd;rw[hd]
      simp-implicitDefEqProofs (disch:=(first|omega|decide)) only[go_sem,↓reduceIte,seval,aH,aa]
def Vl:aW:=Yo.add 43 (entry (fun(v:List It×List It)=>[.ay (v.1.map It.enc),.ay (v.2.map It.enc)]) (fun v=>v.1.length<=1000000/\v.2.length<=1000000) (fun v=> .bool (mh v.1 v.2)))
theorem Y23u_ok:aN Tryz.prog Vl:=aas.dH Tryz.func43 (by kernel_rfl) (by kernel_rfl) fun v h=>Re v.1 v.2 (aL h.1 (by decide)) (aL h.2 (by decide))
@[go_sem] theorem Y23u_old{g:FuncId}{xs:List A}(h:g≠43):Vl.f g xs=Yo.f g xs:=aW.aU h
theorem FH(v:List It×List It)(h:v.1.length<=1000000/\v.2.length<=1000000):Vl.f 43 [.ay (v.1.map It.enc),.ay (v.2.map It.enc)]=some (.bool (mh v.1 v.2)):=aW.aZ (Γ:=Yo) (fun i j h=>by simpa[ag,and_assoc]using h) v h
def Bu:aW:=Vl.add 27 (entry (fun(v:List bk×List bk)=>[.ay (v.1.map bk.enc),.ay (v.2.map bk.enc)]) (fun v=>v.1.length<=1000000/\v.2.length<=1000000) (fun v=> .bool (jk v.1 v.2)))
theorem Bv:aN Tryz.prog Bu:=Y23u_ok.dH Tryz.func27 (by kernel_rfl) (by kernel_rfl) fun v h=>P0 v.1 v.2 (aL h.1 (by decide)) (aL h.2 (by decide))
@[go_sem] theorem Y23v_old{g:FuncId}{xs:List A}(h:g≠27):Bu.f g xs=Vl.f g xs:=aW.aU h
@[go_sem] theorem Y23v_s:Bu.pl Vl:=⟨fun _=>rfl,fun _=>rfl,rfl,fun _=>rfl,rfl,fun _=>rfl,rfl⟩
theorem FI(v:List bk×List bk)(h:v.1.length<=1000000/\v.2.length<=1000000):Bu.f 27 [.ay (v.1.map bk.enc),.ay (v.2.map bk.enc)]=some (.bool (jk v.1 v.2)):=aW.aZ (Γ:=Vl) (fun i j h=>by simpa[ag,and_assoc]using h) v h
theorem Vm{a b:List It}(h:a.length<=1000000/\b.length<=1000000):Vl.f 43 [.ay (a.map It.enc),.ay (b.map It.enc)]=some (.bool (mh a b)):=FH (a,b) h
theorem y_rSameR{a b:List bk}(h:a.length<=1000000/\b.length<=1000000):Bu.f 27 [.ay (a.map bk.enc),.ay (b.map bk.enc)]=some (.bool (jk a b)):=FI (a,b) h
def m_(s t:bA):Bool:=s.id==t.id&&(s.ct==t.ct&&(jk s.fl t.fl&&(mh s.bq t.bq&&fb s.kn t.kn)))
theorem pL{s t:bA}:m_ s t=true ↔ s=t:=by
 obtain⟨a,b,c,d,e⟩:=s;obtain⟨a',b',c',d',e'⟩:=t;simp[m_,jk,mh,fb]
 intro _;constructor
 · rintro⟨h2,h3,h4,h5⟩;exact⟨h3,h4,h5,h2⟩
 · rintro⟨h3,h4,h5,h2⟩;exact⟨h2,h3,h4,h5⟩
theorem MG:aQ Tryz.prog Bu Tryz.f36.ntmps (Tryz.f36.body.getD .skip)=true:=by kernel_rfl
theorem Rf(s t:bA)(h:(s.fl.length<=1000000/\t.fl.length<=1000000)/\(s.bq.length<=1000000/\t.bq.length<=1000000)/\eK s.kn/\eK t.kn):bp Tryz.prog 36 [s.enc,t.enc] (· = .bool (m_ s t)):=by
 refine ah Bv mixed Tryz.func36 rfl (ab rfl) MG ?_;unfold Tryz.f36;obtain⟨h1,h2,h3,h4⟩:=h;have g1:=y_rSameR (a:=s.fl) (b:=t.fl) h1;have g2:=Vm (a:=s.bq) (b:=t.bq) h2;have g3:=Z5 h3 h4;unfold m_;simp only[bA.enc,bA.cells]
 generalize jk s.fl t.fl=b3 at*;generalize mh s.bq t.bq=b4 at*;generalize fb s.kn t.kn=b5 at*;cases b1:s.id==t.id with
 |false=>simp-implicitDefEqProofs (disch:=(first|omega|decide)) only[go_sem,↓reduceIte,seval,b1]
 |true=>
  cases b2:s.ct==t.ct with
  |false=>simp-implicitDefEqProofs (disch:=(first|omega|decide)) only[go_sem,↓reduceIte,seval,b1,b2]
  |true=>
   cases b3 with
   |false=>simp-implicitDefEqProofs (disch:=(first|omega|decide)) only[go_sem,↓reduceIte,seval,b1,b2,g1]
   |true=>
    cases b4 with
    |false=>simp-implicitDefEqProofs (disch:=(first|omega|decide)) only[go_sem,↓reduceIte,seval,b1,b2,g1,g2]
    |true=>simp-implicitDefEqProofs (disch:=(first|omega|decide)) only[go_sem,↓reduceIte,seval,b1,b2,g1,g2,g3]
def lz(s:bA)(k:List Pc):List Pc:=cF (c7 k s.fl)
def loneI(s:bA)(l:List It)(k:List Pc):Bool:=(ku s.fl l).any fun x=> !dq s.kn x.key x.rep x.da&& !dq (lz s k) x.key x.rep x.da
def jt(s:bA)(l:List It)(k:List Pc):Int:=
 if cq s=false then 41 else if(eZ l&&cD k)=false then 2 else if loneI s l k=true then 2 else if s.ct<hI (lz s k) s.id then 2
 else if gq (bM (s.bq++ku s.fl l))=false then 2 else if 4096<(bM (s.bq++ku s.fl l)).length then 32 else 0
def kM(s:bA)(l:List It)(k:List Pc):bA:=if jt s l k=0 then yJ s (ku s.fl l) (lz s k)else e9
def kv(s:bA)(l:List It)(k:List Pc):A:= .fq [(kM s l k).enc,.int .i64 (jt s l k)]
structure Vn(s:bA)(l:List It)(k:List Pc):Prop where
 hs:fV s
 hl:l.length<=100000/\sS l
 hi:s.bq.length<=100000
 hk:mH k/\k.length<=500
 ho:mH (lz s k)/\(lz s k).length<=500
 ha:eK (s.kn++lz s k)
def Rg:aW:=Bu.add 93 (entry (fun(v:List It×List bk)=>[.ay (v.1.map It.enc),.ay (v.2.map bk.enc)]) (fun v=>(v.1.length<=1000000/\sS v.1)/\v.2.length<=100000/\iG v.2) (fun v=> .ay ((ku v.2 v.1).map It.enc)))
theorem Y23w_ok:aN Tryz.prog Rg:=Bv.dH Tryz.func93 (by kernel_rfl) (by kernel_rfl) fun v h=>c_item_In v.1 v.2 h.1.1 h.2 h.1.2
@[go_sem] theorem Y23w_old{g:FuncId}{xs:List A}(h:g≠93):Rg.f g xs=Bu.f g xs:=aW.aU h
@[go_sem] theorem Y23w_s:Rg.pl Bu:=⟨fun _=>rfl,fun _=>rfl,rfl,fun _=>rfl,rfl,fun _=>rfl,rfl⟩
theorem Rh(v:List It×List bk)(h:(v.1.length<=1000000/\sS v.1)/\v.2.length<=100000/\iG v.2):Rg.f 93 [.ay (v.1.map It.enc),.ay (v.2.map bk.enc)]=some (.ay ((ku v.2 v.1).map It.enc)):=aW.aZ (Γ:=Bu) (fun i j h=>by simpa[ag,and_assoc]using h) v h
def Yq:aW:=Rg.add 94 (entry (fun(v:List It×List bk)=>[.ay (v.1.map It.enc),.ay (v.2.map bk.enc)]) (fun v=>(v.1.length<=1000000/\sS v.1)/\v.2.length<=100000/\iG v.2) (fun v=> .ay ((ku v.2 v.1).map It.enc)))
theorem Y23x_ok:aN Tryz.prog Yq:=Y23w_ok.dH Tryz.func94 (by kernel_rfl) (by kernel_rfl) fun v h=>Yb v.1 v.2 h.1.1 h.2 h.1.2
@[go_sem] theorem Y23x_old{g:FuncId}{xs:List A}(h:g≠94):Yq.f g xs=Rg.f g xs:=aW.aU h
theorem MH(v:List It×List bk)(h:(v.1.length<=1000000/\sS v.1)/\v.2.length<=100000/\iG v.2):Yq.f 94 [.ay (v.1.map It.enc),.ay (v.2.map bk.enc)]=some (.ay ((ku v.2 v.1).map It.enc)):=aW.aZ (Γ:=Rg) (fun i j h=>by simpa[ag,and_assoc]using h) v h
def Yr:aW:=Yq.add 103 (entry (fun(l:List It)=>[.ay (l.map It.enc)]) (fun l=>l.length<=1000000/\sS l) (fun l=> .ay ((bM l).map It.enc)))
theorem Y23y_ok:aN Tryz.prog Yr:=Y23x_ok.dH Tryz.func103 (by kernel_rfl) (by kernel_rfl) fun l h=>My l h.1 h.2
@[go_sem] theorem Y23y_old{g:FuncId}{xs:List A}(h:g≠103):Yr.f g xs=Yq.f g xs:=aW.aU h
theorem Dl(l:List It)(h:l.length<=1000000/\sS l):Yr.f 103 [.ay (l.map It.enc)]=some (.ay ((bM l).map It.enc)):=aW.aZ (Γ:=Yq) (fun i j h=>by simpa[ag,and_assoc]using h) l h
theorem y_In{l:List It}{F:List bk}(h:(l.length<=1000000/\sS l)/\F.length<=100000/\iG F):Rg.f 93 [.ay (l.map It.enc),.ay (F.map bk.enc)]=some (.ay ((ku F l).map It.enc)):=Rh (l,F) h
theorem y_rIn{l:List It}{F:List bk}(h:(l.length<=1000000/\sS l)/\F.length<=100000/\iG F):Yq.f 94 [.ay (l.map It.enc),.ay (F.map bk.enc)]=some (.ay ((ku F l).map It.enc)):=MH (l,F) h
theorem y_rMerge{l:List It}(h:l.length<=1000000/\sS l):Yr.f 103 [.ay (l.map It.enc)]=some (.ay ((bM l).map It.enc)):=Dl l h
theorem Oc{s:bA}{l:List It}{k:List Pc}{e:Int}(he:e≠0)(hc:jt s l k=e):A.fq [.agg [.int .i64 0,.ay [],.ay [],.ay [],.int .i64 0],.int .i64 e]=kv s l k:=by unfold kv kM;rw[hc,if_neg he];rfl
theorem Od{s:bA}{l:List It}{k:List Pc}(hc:jt s l k=0):A.fq [.agg [.int .i64 s.id,.ay (s.fl.map bk.enc),.ay ((bM (s.bq++ku s.fl l)).map It.enc),.ay ((cF (fF (s.kn++lz s k))).map Pc.enc),.int .i64 s.ct],.int .i64 0]=kv s l k:=by unfold kv kM;rw[hc,if_pos rfl];rfl
theorem MI:aQ Tryz.prog Rg Tryz.f65.ntmps (Tryz.f65.body.getD .skip)=true:=by kernel_rfl
theorem Ri(s:bA)(l:List It)(k:List Pc)(h:Vn s l k):bp Tryz.prog 65 [s.enc,.ay (l.map It.enc),.ay (k.map Pc.enc)] (· =kv s l k):=by
 refine ah Y23w_ok mixed Tryz.func65 rfl (ab rfl) MI ?_;unfold Tryz.f65;obtain⟨hs,⟨hl1,hl2⟩,hi,⟨qD,hk2⟩,⟨ho1,ho2⟩,nn⟩:=h;have hfl:=hs.fl;have hln:=mi s.fl l;have vM:sS (ku s.fl l):=fun x hx=>hl2 x (aP.1 hx).1;have xw:=mK (s.bq++ku s.fl l)
 rw[aj]at xw;have g0:=iA s hs;have g1:=y_List (l:=l) ⟨by omega,hl2⟩
 have g2:=Qk qD.1;have g3:=y_In (l:=l) (F:=s.fl) ⟨⟨by omega,hl2⟩,by omega,hfl.2⟩
 have g4:=zB (k:=k) (l:=s.fl) qD.1 (by omega) hfl.2;rw[Jk,show cF (c7 k s.fl)=lz s k from rfl]at g4;have g5: ∀(x:List UInt8) (n c:Int),x.length<=9223372036854775807->C1.f 99 [.ay (s.kn.map Pc.enc),.str x,.agg [.int .i64 n,.int .i64 c]]=some (.bool (dq s.kn x n c)):=fun x n c hx=>N3 hs.kn.1.1 hx;have g6: ∀(x:List UInt8) (n c:Int),x.length<=9223372036854775807->C1.f 99 [.ay ((lz s k).map Pc.enc),.str x,.agg [.int .i64 n,.int .i64 c]]=some (.bool (dq (lz s k) x n c)):=fun x n c hx=>N3 ho1.1 hx;have g7:=y_most (id:=s.id) ho1;have g8:=U9 (a:=s.bq) (b:=ku s.fl l) (by omega) hs.bq.2 vM;have g9:=aah (l:=bM (s.bq++ku s.fl l)) ⟨by omega,fun x hx=>(fB hx).2⟩
 have g10:=Z2 nn;have g11:=aaj (l:=s.fl) (by omega)
 have hC:jt s l k=if cq s=false then 41 else if(eZ l&&cD k)=false then 2 else if((ku s.fl l).any fun x=> !dq s.kn x.key x.rep x.da&& !dq (lz s k) x.key x.rep x.da)=true then 2 else if s.ct<hI (lz s k) s.id then 2
  else if gq (bM (s.bq++ku s.fl l))=false then 2 else if 4096<(bM (s.bq++ku s.fl l)).length then 32 else 0:=rfl
 have fail: ∀e:Int,e≠0->jt s l k=e->A.fq [.agg [.int .i64 0,.ay [],.ay [],.ay [],.int .i64 0],.int .i64 e]=kv s l k:=fun e he hc=>Oc he hc;have ye:=Od (s:=s) (l:=l) (k:=k)
 generalize kv s l k=Z at*;generalize jt s l k=C at*;generalize hLL:ku s.fl l=L at*;generalize lz s k=O at*;generalize cF (fF (s.kn++O))=J at*;generalize hI O s.id=m at*;generalize gq (bM (s.bq++L))=ap at*;generalize bM (s.bq++L)=M at*;generalize cq s=b0 at*;generalize eZ l=b1 at*;generalize cD k=b2 at*;have stM:(M.map It.enc).take M.length=M.map It.enc:=ad (by simp)
 obtain⟨id,F,I,K,ct⟩:=s;simp only[bA.enc,bA.cells]at*;cases b0 with
 |false=>
  have fl:=fail 41 (by decide) (by rw[hC];rfl)
  simp-implicitDefEqProofs (disch:=(first|omega|decide)) only[go_sem,↓reduceIte,seval,g0,fl]
 |true=>
  cases b1 with
  |false=>
   have fl:=fail 2 (by decide) (by rw[hC];rfl)
   simp-implicitDefEqProofs (disch:=(first|omega|decide)) only[go_sem,↓reduceIte,seval,g0,g1,fl]
  |true=>
   cases b2 with
   |false=>
    have fl:=fail 2 (by decide) (by rw[hC];rfl)
    simp-implicitDefEqProofs (disch:=(first|omega|decide)) only[go_sem,↓reduceIte,seval,g0,g1,g2,fl]
   |true=>
    simp only[l_,if_false,dO]at hC;simp-implicitDefEqProofs (maxSteps:=600000) (disch:=(first|omega|decide)) only[go_sem,↓reduceIte,seval,g0,g1,g2,g3,g4,aa]
    refine a_ [1,2,3,6,7,34,35] (ι:={i:Nat//i<=L.length/\(L.any fun x=> !dq K x.key x.rep x.da&& !dq O x.key x.rep x.da)=((L.drop i).any fun x=> !dq K x.key x.rep x.da&& !dq O x.key x.rep x.da)}) (fun p=>[(36,.int .i64 p.1)]) (fun _=>[]) (fun p=>L.length-p.1) ⟨0,by omega,rfl⟩ (aw _) ?_ ?_
    · simp-implicitDefEqProofs (disch:=(first|omega|decide)) only[go_sem,↓reduceIte,seval]
      try rfl
    · rintro⟨i,hi,hd⟩
      simp only;by_cases bo:i<L.length
      · have aH:(i:Int)<(L.length:Int):=by omega
        have ei:=eG bo;have zH:=vM _ (ao bo)
        rw[ax bo,cI]at hd;generalize L[i]=x at*;have g5:=g5 x.key x.rep x.da zH.1;have g6:=g6 x.key x.rep x.da zH.1;cases k1:dq K x.key x.rep x.da with
        |true=>
         rw[k1]at g5 hd;rw[bG,aI,bu]at hd;simp-implicitDefEqProofs (disch:=(first|omega|decide)) only[go_sem,↓reduceIte,seval,aH,ei,g5,wrap_i64,aa]
         exact⟨⟨i+1,bo,hd⟩,by simp,by show L.length-(i+1)<L.length-i;omega⟩
        |false=>
         rw[k1]at g5 hd;cases k2:dq O x.key x.rep x.da with
         |true=>
          rw[k2]at g6 hd;rw[bG,bN,bu]at hd;simp-implicitDefEqProofs (disch:=(first|omega|decide)) only[go_sem,↓reduceIte,seval,aH,ei,g5,g6,wrap_i64,aa]
          exact⟨⟨i+1,bo,hd⟩,by simp,by show L.length-(i+1)<L.length-i;omega⟩
         |false=>
          rw[k2]at g6 hd;have fl:=fail 2 (by decide) (by rw[hC,hd];rfl)
          simp-implicitDefEqProofs (disch:=(first|omega|decide)) only[go_sem,↓reduceIte,seval,aH,ei,g5,g6,fl,aa]
      · have aH: ¬(i:Int)<(L.length:Int):=by omega
        rw[aC (by omega),u']at hd;rw[hd]at hC;simp only[az,if_false]at hC;by_cases d1:ct<m
        · have fl:=fail 2 (by decide) (by rw[hC,if_pos d1])
          simp-implicitDefEqProofs (disch:=(first|omega|decide)) only[go_sem,↓reduceIte,seval,aH,g7,d1,fl,aa]
        · rw[if_neg d1]at hC
          cases ap with
          |false=>
           have fl:=fail 2 (by decide) (by rw[hC];rfl)
           simp-implicitDefEqProofs (disch:=(first|omega|decide)) only[go_sem,↓reduceIte,seval,aH,g7,g8,g9,d1,fl,aa]
          |true=>
           simp only[l_,if_false]at hC;by_cases d2:4096<M.length
           · have d2':(4096:Int)<(M.length:Int):=by omega
             have fl:=fail 32 (by decide) (by rw[hC,if_pos d2])
             simp-implicitDefEqProofs (disch:=(first|omega|decide)) only[go_sem,↓reduceIte,seval,aH,g7,g8,g9,d1,d2',fl,aa]
           · have d2': ¬(4096:Int)<(M.length:Int):=by omega
             have ye:=ye (by rw[hC,if_neg d2])
             simp-implicitDefEqProofs (maxSteps:=600000) (disch:=(first|omega|decide)) only[go_sem,↓reduceIte,seval,aH,g7,g8,g9,g10,g11,d1,d2',ye,aa]
end Go.Proofs.YtfnohjheonlnmaaGreat
