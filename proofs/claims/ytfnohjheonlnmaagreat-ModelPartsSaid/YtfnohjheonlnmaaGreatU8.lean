/- What the laws of this claim rest on: the abstract executor, its soundness, and what the functions compute on pure data. No condition. -/
import Derived.Test.YtfnohjheonlnmaaGreatU7
noncomputable section
set_option linter.unusedVariables false
set_option linter.unusedSimpArgs false
namespace Go.Proofs.YtfnohjheonlnmaaGreat
open Go.dF
set_option linter.unusedSimpArgs false
set_option linter.unusedVariables false
set_option maxRecDepth 20000
set_option maxHeartbeats 16000000
def iE(acc:List Pc):List A:=acc.reverse.map Pc.enc
theorem cV(q:Pc)(qs:List Pc):iE (q::qs)=iE qs++[.agg [.str q.r.lo,.str q.r.hi,.bool q.r.op,.ay (q.s.map aF.enc)]]:=by simp[iE,Pc.enc,Pc.cells]
theorem je(l:List Pc):(iE l).length=l.length:=by simp[iE]
theorem p':iE []=[]:=rfl
theorem wU(P:List UInt8->List aF)(es:List (List UInt8)): ∀(k:Nat),∀p∈qN P es k,∃e,p.s=P e
 |0,p,hp=>by cases hp
 |k+1,p,hp=>by
  have ih:=wU P es k;simp only[qN]at hp;split at hp
  · exact ih p hp
  · revert hp
    cases hm:qN P es k with
    |nil=>
     intro hp;simp only[fi,bc]at hp;subst hp;exact⟨_,rfl⟩
    |cons q qs=>
     intro hp;rw[hm]at ih;simp only[fi]at hp;split at hp
     · rcases aD.1 hp with rfl|hp
       · obtain⟨e,he⟩:=ih q (by simp)
         exact⟨e,he⟩
       · exact ih p (by simp[hp])
     · rcases aD.1 hp with rfl|hp
       · exact⟨_,rfl⟩
       · exact ih p hp
theorem Bc{l:List (List UInt8)}{k:Nat}(h:k<l.length):(l.map A.str)[k]? =some (.str (l[k]!)):=by rw[aT,ae h,getElem!_pos l k h];rfl
def XG:aW:=I_.add 179 (entry (fun(v:List Pc×List UInt8)=>[.ay (v.1.map Pc.enc),.str v.2]) (fun v=>eK v.1/\v.2.length<=9223372036854775807) (fun v=> .ay ((fF v.1 v.2).map aF.enc)))
theorem P15t_ok:aN Tryz.prog XG:=Qf.dH Tryz.func179 (by kernel_rfl) (by kernel_rfl) fun v h=>c_know_At v.1 v.2 h.1 h.2
@[go_sem] theorem P15t_old{g:FuncId}{xs:List A}(h:g≠179):XG.f g xs=I_.f g xs:=aW.aU h
theorem Qi(v:List Pc×List UInt8)(h:eK v.1/\v.2.length<=9223372036854775807):XG.f 179 [.ay (v.1.map Pc.enc),.str v.2]=some (.ay ((fF v.1 v.2).map aF.enc)):=aW.aZ (Γ:=I_) (fun i j h=>by simpa[ag,and_assoc]using h) v h
def Uv:aW:=XG.add 200 (entry (fun(v:List Pc×List UInt8)=>[.ay (v.1.map Pc.enc),.str v.2]) (fun v=>mH v.1/\v.2.length<=9223372036854775807) (fun v=> .ay ((fF v.1 v.2).map aF.enc)))
theorem P15u_ok:aN Tryz.prog Uv:=P15t_ok.dH Tryz.func200 (by kernel_rfl) (by kernel_rfl) fun v h=>XD v.1 v.2 h.1 h.2
@[go_sem] theorem P15u_old{g:FuncId}{xs:List A}(h:g≠200):Uv.f g xs=XG.f g xs:=aW.aU h
theorem LM(v:List Pc×List UInt8)(h:mH v.1/\v.2.length<=9223372036854775807):Uv.f 200 [.ay (v.1.map Pc.enc),.str v.2]=some (.ay ((fF v.1 v.2).map aF.enc)):=aW.aZ (Γ:=XG) (fun i j h=>by simpa[ag,and_assoc]using h) v h
def LN:aW:=Uv.add 113 (entry (fun(k:List Pc)=>[.ay (k.map Pc.enc)]) (fun k=>eK k) (fun k=> .bool (cD k)))
theorem Qj:aN Tryz.prog LN:=P15u_ok.dH Tryz.func113 (by kernel_rfl) (by kernel_rfl) fun k h=>Qg k h
@[go_sem] theorem P15v_old{g:FuncId}{xs:List A}(h:g≠113):LN.f g xs=Uv.f g xs:=aW.aU h
@[go_sem] theorem P15v_s:LN.pl Uv:=⟨fun _=>rfl,fun _=>rfl,rfl,fun _=>rfl,rfl,fun _=>rfl,rfl⟩
theorem Fg(k:List Pc)(h:eK k):LN.f 113 [.ay (k.map Pc.enc)]=some (.bool (cD k)):=aW.aZ (Γ:=Uv) (fun i j h=>by simpa[ag,and_assoc]using h) k h
theorem p_At{k:List Pc}{x:List UInt8}(h:eK k)(hx:x.length<=9223372036854775807):XG.f 179 [.ay (k.map Pc.enc),.str x]=some (.ay ((fF k x).map aF.enc)):=Qi (k,x) ⟨h,hx⟩
theorem p_rAt{k:List Pc}{x:List UInt8}(h:mH k)(hx:x.length<=9223372036854775807):Uv.f 200 [.ay (k.map Pc.enc),.str x]=some (.ay ((fF k x).map aF.enc)):=LM (k,x) ⟨h,hx⟩
theorem Qk{k:List Pc}(h:eK k):LN.f 113 [.ay (k.map Pc.enc)]=some (.bool (cD k)):=Fg k h
theorem Ql:aQ Tryz.prog LN Tryz.f213.ntmps (Tryz.f213.body.getD .skip)=true:=by kernel_rfl
theorem XH(k:List Pc)(x:List UInt8)(hk:eK k)(hx:x.length<=9223372036854775807):bp Tryz.prog 213 [.str x,.iU [.ay (k.map Pc.enc)]] (· = .ay ((fF k x).map aF.enc)):=by refine ah Qj mixed Tryz.func213 rfl (ab rfl) Ql ?_;unfold Tryz.f213;have h:=p_At hk hx;simp-implicitDefEqProofs (disch:=(first|omega|decide)) only[go_sem,↓reduceIte,seval,h]
def c7(k:List Pc)(l:List bk)(x:List UInt8):List aF:=if bh l x=true then fF k x else []
theorem zw:aQ Tryz.prog LN Tryz.f178.ntmps (Tryz.f178.body.getD .skip)=true:=by kernel_rfl
theorem CU(k:List Pc)(l:List bk)(x:List UInt8)(hk:eK k)(hl:l.length<=100000)(vv:iG l)(hx:x.length<=9223372036854775807):bp Tryz.prog 178 [.str x,.iU [.ay (l.map bk.enc)],.iU [.ay (k.map Pc.enc)]] (· = .ay ((c7 k l x).map aF.enc)):=by
 refine ah Qj mixed Tryz.func178 rfl (ab rfl) zw ?_;unfold Tryz.f178;have h1:=p_At hk hx;have h2:=oT hl vv hx;unfold c7;cases h:bh l x with
 |false=>
  rw[h]at h2;simp-implicitDefEqProofs (disch:=(first|omega|decide)) only[go_sem,↓reduceIte,seval,h2,bD,az]
 |true=>
  rw[h]at h2;simp-implicitDefEqProofs (disch:=(first|omega|decide)) only[go_sem,↓reduceIte,seval,h1,h2]
def P15w:aW:=LN.add 213 (entry (fun(v:List UInt8×List Pc)=>[.str v.1,.iU [.ay (v.2.map Pc.enc)]]) (fun v=>eK v.2/\v.1.length<=9223372036854775807) (fun v=> .ay ((fF v.2 v.1).map aF.enc)))
theorem P15w_ok:aN Tryz.prog P15w:=Qj.dH Tryz.func213 (by kernel_rfl) (by kernel_rfl) fun v h=>XH v.2 v.1 h.1 h.2
@[go_sem] theorem P15w_old{g:FuncId}{xs:List A}(h:g≠213):P15w.f g xs=LN.f g xs:=aW.aU h
theorem Jb(v:List UInt8×List Pc)(h:eK v.2/\v.1.length<=9223372036854775807):P15w.f 213 [.str v.1,.iU [.ay (v.2.map Pc.enc)]]=some (.ay ((fF v.2 v.1).map aF.enc)):=aW.aZ (Γ:=LN) (fun i j h=>by simpa[ag,and_assoc]using h) v h
def P15x:aW:=P15w
theorem P15x_ok:aN Tryz.prog P15x:=P15w_ok
@[go_sem] theorem P15x_old{g:FuncId}{xs:List A}:P15x.f g xs=P15w.f g xs:=rfl
def CV:aW:=P15x.add 178 (entry (fun(v:List UInt8×List bk×List Pc)=>[.str v.1,.iU [.ay (v.2.1.map bk.enc)],.iU [.ay (v.2.2.map Pc.enc)]]) (fun v=>(eK v.2.2/\iG v.2.1)/\v.2.1.length<=100000/\v.1.length<=9223372036854775807) (fun v=> .ay ((c7 v.2.2 v.2.1 v.1).map aF.enc)))
theorem Gn:aN Tryz.prog CV:=P15x_ok.dH Tryz.func178 (by kernel_rfl) (by kernel_rfl) fun v h=>CU v.2.2 v.2.1 v.1 h.1.1 h.2.1 h.1.2 h.2.2
@[go_sem] theorem P15y_old{g:FuncId}{xs:List A}(h:g≠178):CV.f g xs=P15x.f g xs:=aW.aU h
@[go_sem] theorem P15y_s:CV.pl P15x:=⟨fun _=>rfl,fun _=>rfl,rfl,fun _=>rfl,rfl,fun _=>rfl,rfl⟩
theorem wV(v:List UInt8×List bk×List Pc)(h:(eK v.2.2/\iG v.2.1)/\v.2.1.length<=100000/\v.1.length<=9223372036854775807):CV.f 178 [.str v.1,.iU [.ay (v.2.1.map bk.enc)],.iU [.ay (v.2.2.map Pc.enc)]]=some (.ay ((c7 v.2.2 v.2.1 v.1).map aF.enc)):=aW.aZ (Γ:=P15x) (fun i j h=>by simpa[ag,and_assoc]using h) v h
theorem p_Of1{k:List Pc}{x:List UInt8}(h:eK k)(hx:x.length<=9223372036854775807):CV.f 213 [.str x,.iU [.ay (k.map Pc.enc)]]=some (.ay ((fF k x).map aF.enc)):=by
 have h:=Jb (x,k) ⟨h,hx⟩
 simp-implicitDefEqProofs (disch:=(first|omega|decide)) only[go_sem,↓reduceIte,seval,h]
theorem Uw{k:List Pc}{l:List bk}{x:List UInt8}(h:eK k)(hl:l.length<=100000)(vv:iG l)(hx:x.length<=9223372036854775807):CV.f 178 [.str x,.iU [.ay (l.map bk.enc)],.iU [.ay (k.map Pc.enc)]]=some (.ay ((c7 k l x).map aF.enc)):=wV (x,l,k) ⟨⟨h,vv⟩,hl,hx⟩
structure Caps(o7:List A):Prop where
 pure:A.pure.cX o7=true
 view: ∀H,mX H o7=some o7
 under: ∀m,A.under.my m o7=true
 mem: ∀n,A.mem.lW n o7=false
def B15:aW:={CV with fS:=fun n=>if n=12 then [[0,1,2,3,4,5,6,7,8,10,11,12,9,13,14,15,16,17],[0,1,2,3,4,5,6,7,8,10,11,12,13,9,14,15,16,17]]else []}
theorem B15_ok:aN Tryz.prog B15:=⟨Gn.f,Gn.hp⟩
@[go_sem] theorem B15_f:B15.f=CV.f:=rfl
@[go_sem] theorem B15_eff{g:FuncId}:B15.sg g=false:=rfl
@[go_sem] theorem B15_effT:B15.effT=false:=rfl
@[go_sem] theorem B15_fix{n:Nat}:B15.fix n=false:=rfl
@[go_sem] theorem B15_ords12:B15.fS 12=[[0,1,2,3,4,5,6,7,8,10,11,12,9,13,14,15,16,17],[0,1,2,3,4,5,6,7,8,10,11,12,13,9,14,15,16,17]]:=rfl
@[go_sem] theorem B15_ords{n:Nat}(h:n≠12):B15.fS n=[]:=if_neg h
theorem LO:aQ Tryz.prog B15 Tryz.f176.ntmps (Tryz.f176.body.getD .skip)=true:=by kernel_rfl
theorem Be(es:List (List UInt8))(g:FuncId)(o7:List A)(P:List UInt8->List aF)(hc:Caps o7)(hE:Po P es)(hel:es.length<=1000000)(Fe: ∀x,bI (P x))
 (hg: ∀x∈es,CV.f g (.str x::o7)=some (.ay ((P x).map aF.enc))):
 bp Tryz.prog 176 [.ay (es.map .str),.fn g o7] (· = .ay ((cF P).map Pc.enc)):=by
 refine ah B15_ok mixed Tryz.func176 rfl (ab rfl) LO ?_;unfold Tryz.f176;have hcp:=hc.pure;have hcv:=hc.view;have hcu:=hc.under;have RN:=hc.mem;simp-implicitDefEqProofs (disch:=(first|omega|decide)) only[go_sem,↓reduceIte,seval,aa]
 refine ch 5 4 rfl ?_;refine a_ [0,1,11,12] (ι:={k:Nat//k<=es.length}) (fun p=>[(13,.int .i64 p.1),(5,.row 0 0 4 (qN P es p.1).length false)]) (fun p=>[(0,.row 4 (iE (qN P es p.1)))]) (fun p=>es.length-p.1) ⟨0,by omega⟩ (aw _) ?_ ?_
 · simp-implicitDefEqProofs (disch:=(first|omega|decide)) only[go_sem,↓reduceIte,seval,hcu]
   simp[qN,iE]
 · rintro⟨k,hk⟩
   simp only;have xw:=AV P es k;by_cases bo:k<es.length
   · have aH:(k:Int)<(es.length:Int):=by omega
     have e1:=Bc bo;have hin:es[k]! ∈es:=by rw[getElem!_pos es k bo];exact ao _
     have Fh:=hg _ hin;have H4:=(wD hE k (by omega)).1;have Bf:=wU P es k;have XI:=Fe (es[k]!)
     have NZ:=hE.right (es[k]!)
     have next: ∀m',qN P es (k+1)=m'-> ∃i:{k:Nat//k<=es.length},(((k:Int)+1=(i.1:Int)/\m'.length=(qN P es i.1).length)/\iE m'=iE (qN P es i.1))/\es.length-i.1<es.length-k:=fun m' h=>⟨⟨k+1,bo⟩,⟨⟨by simp,by rw[h]⟩,by rw[h]⟩,by show es.length-(k+1)<es.length-k;omega⟩
     have eO:qN P es (k+1)=if P (es[k]!)=[]then qN P es k else fi (qN P es k) ⟨p_ es k,P (es[k]!)⟩:=rfl
     generalize qN P es k=m at*;generalize hs:es[k]! =s at*;generalize hS:P s=S at*;by_cases hn:k+1<es.length
     · have pz:(k:Int)+1<(es.length:Int):=by omega
       have e2:=Bc hn;have c9:((k:Int)+1).toNat=k+1:=by omega
       have c8:(0:Int)<=(k:Int)+1:=by omega
       have hr:p_ es k=⟨s,es[k+1]!,false⟩:=by unfold p_;rw[if_pos hn,hs]
       rw[hr]at eO;cases uT:((S.length:Int)==0)with
       |true=>
        have hS00:(S.length:Int)=0:=by simpa using uT
        have XJ:S=[]:=aV.1 (by omega)
        rw[if_pos XJ]at eO;have fin:=next _ eO
        simp-implicitDefEqProofs (disch:=(first|omega|decide)) only[go_sem,↓reduceIte,seval,aH,e1,Fh,hcp,hcv,hcu,RN,pz,e2,c9,c8,uT,wrap_i64,aa]
        exact fin
       |false=>
        have XJ:S≠ []:=fun e=>by rw[e]at uT;simp at uT
        rw[if_neg XJ]at eO;cases m with
        |nil=>
          have fin:=next _ eO
          simp only[fi,cV,p',bx,aG,bC]at fin;rw[p']
          simp-implicitDefEqProofs (maxSteps:=600000) (disch:=(first|omega|decide)) only[go_sem,↓reduceIte,seval,aH,e1,Fh,hcp,hcv,hcu,RN,pz,e2,c9,c8,uT,wrap_i64,aa,bC]
          exact fin
        |cons q qs=>
          have Zt:c6 q.s=true:=by have:=H4 q (by simp);simp only[jc,ak]at this;exact this.2
          have hqs:bI q.s:=by obtain⟨e,he⟩:=Bf q (by simp);rw[he];exact Fe e
          obtain⟨⟨lh,jU,pY⟩,s'⟩:=q;simp only at Zt hqs;have jo:=PX hqs XI (by rw[fQ Zt];exact hqs) (by rw[fQ NZ];exact XI)
          rw[fQ Zt,fQ NZ]at jo;have hml':qs.length+1<=k:=xw;have b0:(0:Int)<((qs.length+1:Nat):Int):=by omega
          have b1:(((qs.length+1:Nat):Int)-1).toNat=qs.length:=by omega
          have b2:(0:Int)<=((qs.length+1:Nat):Int)-1:=by omega
          have b3:((qs.length+1:Nat):Int)-1<((qs.length+1:Nat):Int):=by omega
          have g1: ∀x:A,(iE qs++[x])[qs.length]? =some x:=fun x=>by
           have:=Go.dF.mE (x:=x) (l:=iE qs)
           rwa [je]at this
          have g2: ∀x v:A,fE (iE qs++[x]) qs.length v=iE qs++[v]:=fun x v=>by
           have:=Go.dF.mF (x:=x) (v:=v) (l:=iE qs)
           rwa [je]at this
          have gl: ∀x:A,(iE qs++[x]).length=qs.length+1:=fun x=>by rw[aj,je];rfl
          have gt: ∀x:A,(iE qs++[x]).take (qs.length+1)=iE qs++[x]:=fun x=>ad (di (gl x))
          rw[cV]
          cases pY with
          |true=>
           have jE:fi (⟨⟨lh,jU,true⟩,s'⟩::qs) ⟨⟨s,es[k+1]!,false⟩,S⟩=⟨⟨s,es[k+1]!,false⟩,S⟩::⟨⟨lh,jU,true⟩,s'⟩::qs:=by simp[fi]
           have fin:=next _ eO
           rw[jE,cV,cV]at fin;simp-implicitDefEqProofs (maxSteps:=600000) (disch:=(first|omega|decide)) only[go_sem,↓reduceIte,seval,aH,e1,Fh,hcp,hcv,hcu,RN,pz,e2,c9,c8,uT,b0,b1,b2,b3,g1,g2,gl,gt,wrap_i64,aa,aG,bG,aI]
           exact⟨⟨ai _,by omega⟩,fin⟩
          |false=>
           cases h1:jU==s with
           |false=>
            have jE:fi (⟨⟨lh,jU,false⟩,s'⟩::qs) ⟨⟨s,es[k+1]!,false⟩,S⟩=⟨⟨s,es[k+1]!,false⟩,S⟩::⟨⟨lh,jU,false⟩,s'⟩::qs:=by simp only[fi];rw[if_neg (by rw[h1];simp)]
            have fin:=next _ eO
            rw[jE,cV,cV]at fin;simp-implicitDefEqProofs (maxSteps:=600000) (disch:=(first|omega|decide)) only[go_sem,↓reduceIte,seval,aH,e1,Fh,hcp,hcv,hcu,RN,pz,e2,c9,c8,uT,b0,b1,b2,b3,g1,g2,gl,gt,h1,wrap_i64,aa,aG,bm,aB]
            exact⟨⟨ai _,by omega⟩,fin⟩
           |true=>
            cases h2:dA s' S with
            |false=>
             have tE:s'≠S:=by simpa[dA]using h2
             rw[h2]at jo;have jE:fi (⟨⟨lh,jU,false⟩,s'⟩::qs) ⟨⟨s,es[k+1]!,false⟩,S⟩=⟨⟨s,es[k+1]!,false⟩,S⟩::⟨⟨lh,jU,false⟩,s'⟩::qs:=by simp only[fi];rw[if_neg (by simp[tE])]
             have fin:=next _ eO
             rw[jE,cV,cV]at fin;simp-implicitDefEqProofs (maxSteps:=600000) (disch:=(first|omega|decide)) only[go_sem,↓reduceIte,seval,aH,e1,Fh,hcp,hcv,hcu,RN,pz,e2,c9,c8,uT,b0,b1,b2,b3,g1,g2,gl,gt,h1,jo,wrap_i64,aa,aG,bm,aB]
             exact⟨⟨ai _,by omega⟩,fin⟩
            |true=>
             have tE:s'=S:=by simpa[dA]using h2
             rw[h2]at jo;have jE:fi (⟨⟨lh,jU,false⟩,s'⟩::qs) ⟨⟨s,es[k+1]!,false⟩,S⟩=⟨⟨lh,es[k+1]!,false⟩,s'⟩::qs:=by simp only[fi];rw[if_pos (by simp[h1,tE])]
             have fin:=next _ eO
             rw[jE,cV]at fin;simp-implicitDefEqProofs (maxSteps:=600000) (disch:=(first|omega|decide)) only[go_sem,↓reduceIte,seval,aH,e1,Fh,hcp,hcv,hcu,RN,pz,e2,c9,c8,uT,b0,b1,b2,b3,g1,g2,gl,gt,h1,jo,wrap_i64,aa,aG,bm,aB]
             exact fin
     · have pz: ¬(k:Int)+1<(es.length:Int):=by omega
       have hr:p_ es k=⟨s,[],true⟩:=by unfold p_;rw[if_neg hn,hs]
       rw[hr]at eO;cases uT:((S.length:Int)==0)with
       |true=>
        have hS00:(S.length:Int)=0:=by simpa using uT
        have XJ:S=[]:=aV.1 (by omega)
        rw[if_pos XJ]at eO;have fin:=next _ eO
        simp-implicitDefEqProofs (disch:=(first|omega|decide)) only[go_sem,↓reduceIte,seval,aH,e1,Fh,hcp,hcv,hcu,RN,pz,uT,wrap_i64,aa]
        exact fin
       |false=>
        have XJ:S≠ []:=fun e=>by rw[e]at uT;simp at uT
        rw[if_neg XJ]at eO;cases m with
        |nil=>
          have fin:=next _ eO
          simp only[fi,cV,p',bx,aG,bC]at fin;rw[p']
          simp-implicitDefEqProofs (maxSteps:=600000) (disch:=(first|omega|decide)) only[go_sem,↓reduceIte,seval,aH,e1,Fh,hcp,hcv,hcu,RN,pz,uT,wrap_i64,aa,bC]
          exact fin
        |cons q qs=>
          have Zt:c6 q.s=true:=by have:=H4 q (by simp);simp only[jc,ak]at this;exact this.2
          have hqs:bI q.s:=by obtain⟨e,he⟩:=Bf q (by simp);rw[he];exact Fe e
          obtain⟨⟨lh,jU,pY⟩,s'⟩:=q;simp only at Zt hqs;have jo:=PX hqs XI (by rw[fQ Zt];exact hqs) (by rw[fQ NZ];exact XI)
          rw[fQ Zt,fQ NZ]at jo;have hml':qs.length+1<=k:=xw;have b0:(0:Int)<((qs.length+1:Nat):Int):=by omega
          have b1:(((qs.length+1:Nat):Int)-1).toNat=qs.length:=by omega
          have b2:(0:Int)<=((qs.length+1:Nat):Int)-1:=by omega
          have b3:((qs.length+1:Nat):Int)-1<((qs.length+1:Nat):Int):=by omega
          have g1: ∀x:A,(iE qs++[x])[qs.length]? =some x:=fun x=>by
           have:=Go.dF.mE (x:=x) (l:=iE qs)
           rwa [je]at this
          have g2: ∀x v:A,fE (iE qs++[x]) qs.length v=iE qs++[v]:=fun x v=>by
           have:=Go.dF.mF (x:=x) (v:=v) (l:=iE qs)
           rwa [je]at this
          have gl: ∀x:A,(iE qs++[x]).length=qs.length+1:=fun x=>by rw[aj,je];rfl
          have gt: ∀x:A,(iE qs++[x]).take (qs.length+1)=iE qs++[x]:=fun x=>ad (di (gl x))
          rw[cV]
          cases pY with
          |true=>
           have jE:fi (⟨⟨lh,jU,true⟩,s'⟩::qs) ⟨⟨s,[],true⟩,S⟩=⟨⟨s,[],true⟩,S⟩::⟨⟨lh,jU,true⟩,s'⟩::qs:=by simp[fi]
           have fin:=next _ eO
           rw[jE,cV,cV]at fin;simp-implicitDefEqProofs (maxSteps:=600000) (disch:=(first|omega|decide)) only[go_sem,↓reduceIte,seval,aH,e1,Fh,hcp,hcv,hcu,RN,pz,uT,b0,b1,b2,b3,g1,g2,gl,gt,wrap_i64,aa,aG,bG,aI]
           exact⟨⟨ai _,by omega⟩,fin⟩
          |false=>
           cases h1:jU==s with
           |false=>
            have jE:fi (⟨⟨lh,jU,false⟩,s'⟩::qs) ⟨⟨s,[],true⟩,S⟩=⟨⟨s,[],true⟩,S⟩::⟨⟨lh,jU,false⟩,s'⟩::qs:=by simp only[fi];rw[if_neg (by rw[h1];simp)]
            have fin:=next _ eO
            rw[jE,cV,cV]at fin;simp-implicitDefEqProofs (maxSteps:=600000) (disch:=(first|omega|decide)) only[go_sem,↓reduceIte,seval,aH,e1,Fh,hcp,hcv,hcu,RN,pz,uT,b0,b1,b2,b3,g1,g2,gl,gt,h1,wrap_i64,aa,aG,bm,aB]
            exact⟨⟨ai _,by omega⟩,fin⟩
           |true=>
            cases h2:dA s' S with
            |false=>
             have tE:s'≠S:=by simpa[dA]using h2
             rw[h2]at jo;have jE:fi (⟨⟨lh,jU,false⟩,s'⟩::qs) ⟨⟨s,[],true⟩,S⟩=⟨⟨s,[],true⟩,S⟩::⟨⟨lh,jU,false⟩,s'⟩::qs:=by simp only[fi];rw[if_neg (by simp[tE])]
             have fin:=next _ eO
             rw[jE,cV,cV]at fin;simp-implicitDefEqProofs (maxSteps:=600000) (disch:=(first|omega|decide)) only[go_sem,↓reduceIte,seval,aH,e1,Fh,hcp,hcv,hcu,RN,pz,uT,b0,b1,b2,b3,g1,g2,gl,gt,h1,jo,wrap_i64,aa,aG,bm,aB]
             exact⟨⟨ai _,by omega⟩,fin⟩
            |true=>
             have tE:s'=S:=by simpa[dA]using h2
             rw[h2]at jo;have jE:fi (⟨⟨lh,jU,false⟩,s'⟩::qs) ⟨⟨s,[],true⟩,S⟩=⟨⟨lh,[],true⟩,s'⟩::qs:=by simp only[fi];rw[if_pos (by simp[h1,tE])]
             have fin:=next _ eO
             rw[jE,cV]at fin;simp-implicitDefEqProofs (maxSteps:=600000) (disch:=(first|omega|decide)) only[go_sem,↓reduceIte,seval,aH,e1,Fh,hcp,hcv,hcu,RN,pz,uT,b0,b1,b2,b3,g1,g2,gl,gt,h1,jo,wrap_i64,aa,aG,bm,aB]
             exact fin
   · have aH: ¬(k:Int)<(es.length:Int):=by omega
     obtain rfl:k=es.length:=by omega
     have nn:=(sI hE).1;have nr:iE (qN P es es.length)=(cF P).map Pc.enc:=by unfold iE;rw[nn]
     have tk:List.take (qN P es es.length).length (iE (qN P es es.length))=iE (qN P es es.length):=ad (by rw[je];exact ai _)
     have RT:=je (qN P es es.length)
     simp-implicitDefEqProofs (disch:=(first|omega|decide)) only[go_sem,↓reduceIte,seval,aH,tk,RT,wrap_i64,aa]
     rw[<-nr]
     exact⟨ai _,rfl⟩
end Go.Proofs.YtfnohjheonlnmaaGreat
namespace Go.Proofs.YtfnohjheonlnmaaGreat
open Go.dF
set_option linter.unusedSimpArgs false
set_option linter.unusedVariables false
theorem XK{r:bk}{es:List (List UInt8)}(he:bw r=true->r.lo∈es/\(r.op=false->r.hi∈es)){x e:List UInt8}(h1:cL x e=false)(h2: ∀y∈es,cL e y=true->cL x y=true):eT r x=eT r e:=by have:=zc (l:=[r]) (es:=es) (fun q hq=>by simp only[bc]at hq;subst hq;exact he) h1 h2;simpa[bh]using this
theorem Ux{k:List Pc}{x e:List UInt8}(h: ∀p∈k,eT p.r x=eT p.r e):setAt k x=setAt k e:=by unfold setAt;rw[kc h]
theorem Gp{m:List bk}{P:List UInt8->List aF}{es:List (List UInt8)}(up:es.Pairwise (fun x y=>cL x y=true))(nil: []∈es)(len: ∀e∈es,e.length<=17)
 (all: ∀r∈m,bw r=true->r.lo∈es/\(r.op=false->r.hi∈es)) (hright: ∀x,c6 (P x)=true) (Ao: ∀x e,(∀r∈m,eT r x=eT r e)->P x=P e):Po P es:=
 ⟨up,nil,len,fun x e he h1 h2=>Ao x e fun r hr=>XK (all r hr) h1 h2,hright⟩
section
variable{LL:List (List Pc)}
theorem uU(x:List UInt8):x∈l9 LL ↔ x∈gz [[]] (LL.flatMap xP):=by
 unfold l9;rw[rn]
 exact(kq (Ja (rX LL))).1.mem_iff
theorem CW:(l9 LL).Pairwise (fun x y=>cL x y=true):=P2 (kq (Ja (rX LL))).2
theorem zx: []∈l9 LL:=(uU []).2 ((nw _ _ _).2 (.inl (by simp)))
theorem CX: ∀e∈l9 LL,e.length<=17:=fun e he=>Ja (rX LL) e ((uU e).1 he)
theorem zy: ∀r∈(LL.flatMap fun k=>k.map (·.r)),bw r=true->r.lo∈l9 LL/\(r.op=false->r.hi∈l9 LL):=fun r hr h=>by
 have hm:r∈LL.flatMap xP:=by obtain⟨k,hk,hr⟩:=qy.1 hr;exact qy.2 ⟨k,hk,aP.2 ⟨hr,h⟩⟩
 exact⟨(uU _).2 ((nw _ _ _).2 (.inr ⟨r,hm,.inl rfl⟩)),fun ho=>(uU _).2 ((nw _ _ _).2 (.inr ⟨r,hm,.inr ⟨ho,rfl⟩⟩))⟩
theorem nL:(l9 LL).length<=1+2*sn LL:=by
 have h1:=(kq (Ja (rX LL))).1.length_eq;have h2:=(lN (LL.flatMap xP) [[]]).2;have h3:=xO (oP (gz [[]] (LL.flatMap xP)))
 have h4:=I' LL LL.length;rw[ca]at h4;rw[dw]at h2;unfold l9;omega
end
theorem wW{k:List Pc}{x e:List UInt8}(h: ∀r∈k.map (·.r),eT r x=eT r e):fF k x=fF k e:=by unfold fF;rw[Ux fun p hp=>h p.r (bZ.2 ⟨p,hp,rfl⟩)]
theorem wX{l:List bk}{x e:List UInt8}(h: ∀r∈l,eT r x=eT r e):bh l x=bh l e:=by
 unfold bh;induction l with
 |nil=>rfl
 |cons r l ih=>rw[cI,cI,h r (by simp),ih fun q hq=>h q (by simp[hq])]
theorem ic(k:List Pc)(x:List UInt8):c6 (fF k x)=true:=NP _
theorem CY(op:Int)(a b:List aF):c6 (W8 op a b)=true:=HV fun n=>mD _
theorem jY{k:List Pc}(h:cD k=true):cF (fF k)=k:=by
 symm;have gw:=(iZ.1 h).1;refine Pn h fun x l=> ?_;rw[AU gw]
 have key: ∀p∈k,eT p.r x=true->fF k x=p.s:=fun p hp hx=>by
  unfold fF;rw[wC h hp hx]
  have:=gw p hp;simp only[jc,ak]at this;exact fQ this.2
 constructor
 · rintro⟨p,hp,hx,rfl⟩
   refine⟨key p hp hx,fun e=> ?_⟩
   have:=gw p hp;simp only[jc,ak]at this;rw[e]at this;simp at this
 · rintro⟨h1,h2⟩
   by_cases hex: ∃p∈k,eT p.r x=true
   · obtain⟨p,hp,hx⟩:=hex
     exact⟨p,hp,hx,by rw[<-key p hp hx];exact h1⟩
   · exfalso
     apply h2;rw[<-h1]
     have:setAt k x=[]:=by unfold setAt;rw[cy.2 (fun p hp hx=>hex ⟨p,hp,hx⟩)];rfl
     unfold fF;rw[this]
     exact ZO fun n _=>NQ fun c=>rfl
end Go.Proofs.YtfnohjheonlnmaaGreat
namespace Go.Proofs.YtfnohjheonlnmaaGreat
open Go.dF
set_option linter.unusedSimpArgs false
set_option linter.unusedVariables false
set_option maxRecDepth 20000
set_option maxHeartbeats 16000000
theorem caps1(cs:List A):Caps [.iU cs]:=⟨rfl,fun _=>rfl,fun _=>rfl,fun _=>rfl⟩
theorem caps2(cs ds:List A):Caps [.iU cs,.iU ds]:=⟨rfl,fun _=>rfl,fun _=>rfl,fun _=>rfl⟩
theorem stP(l:List Pc):((l.map Pc.enc).isEmpty||eV (l.map Pc.enc)==4)=true:=by cases l<;>rfl
def nM(k:List Pc):List Pc:=k.map fun p=>⟨p.r,iO p.s⟩
theorem LP:aQ Tryz.prog CV Tryz.f212.ntmps (Tryz.f212.body.getD .skip)=true:=by kernel_rfl
theorem Qm(k:List Pc)(hk:eK k):bp Tryz.prog 212 [.ay (k.map Pc.enc)] (· = .ay ((nM k).map Pc.enc)):=by
 refine ah Gn mixed Tryz.func212 rfl (ab rfl) LP ?_;unfold Tryz.f212;obtain⟨⟨k1,k2⟩,k3⟩:=id hk;simp-implicitDefEqProofs (disch:=(first|omega|decide)) only[go_sem,↓reduceIte,seval,aa]
 refine ch 3 4 rfl ?_;refine a_ [0,6,7] (ι:={j:Nat//j<=k.length}) (fun p=>[(8,.int .i64 p.1),(3,.row 0 0 4 p.1 false)]) (fun p=>[(0,.row 4 ((nM (k.take p.1)).map Pc.enc))]) (fun p=>k.length-p.1) ⟨0,by omega⟩ (aw _) ?_ ?_
 · simp-implicitDefEqProofs (disch:=(first|omega|decide)) only[go_sem,↓reduceIte,seval]
   simp[nM]
 · rintro⟨j,hj⟩
   simp only;have o6:((nM (k.take j)).map Pc.enc).length=j:=by simp[nM];omega
   have tl:((nM (k.take j)).map Pc.enc).take j=(nM (k.take j)).map Pc.enc:=ad (di o6)
   by_cases bo:j<k.length
   · have aH:(j:Int)<(k.length:Int):=by omega
     have e1:=kJ bo;have Fe:=jx hk (ao bo)
     have eO:nM (k.take (j+1))=nM (k.take j)++[⟨k[j].r,iO k[j].s⟩]:=by rw[<-ar bo];unfold nM;rw[bz];rfl
     generalize hp:k[j]=p at*;obtain⟨⟨lo,hi,op⟩,s⟩:=p;simp only at Fe eO;have ho:=xN Fe;simp-implicitDefEqProofs (disch:=(first|omega|decide)) only[go_sem,↓reduceIte,seval,aH,e1,ho,tl,o6,wrap_i64,aa]
     exact⟨by omega,⟨j+1,bo⟩,⟨⟨by simp,rfl⟩,by rw[eO,bz];rfl⟩,by show k.length-(j+1)<k.length-j;omega⟩
   · have aH: ¬(j:Int)<(k.length:Int):=by omega
     obtain rfl:j=k.length:=by omega
     rw[ca]at*;simp-implicitDefEqProofs (disch:=(first|omega|decide)) only[go_sem,↓reduceIte,seval,aH,tl,o6,aa]
     try exact ai _
def XL:aW:=CV.add 212 (entry (fun(k:List Pc)=>[.ay (k.map Pc.enc)]) (fun k=>eK k) (fun k=> .ay ((nM k).map Pc.enc)))
theorem P16a_ok:aN Tryz.prog XL:=Gn.dH Tryz.func212 (by kernel_rfl) (by kernel_rfl) fun k h=>Qm k h
@[go_sem] theorem P16a_old{g:FuncId}{xs:List A}(h:g≠212):XL.f g xs=CV.f g xs:=aW.aU h
theorem Fi(k:List Pc)(h:eK k):XL.f 212 [.ay (k.map Pc.enc)]=some (.ay ((nM k).map Pc.enc)):=aW.aZ (Γ:=CV) (fun i j h=>by simpa[ag,and_assoc]using h) k h
def Jc:aW:=XL.add 177 (entry (fun(LL:List (List Pc))=>[.ay (LL.map pcL)]) (fun LL=>(LL.length<=1000/\sn LL<=1000000)/\ ∀k∈LL,∀p∈k,p.r.lo.length<=9223372036854775807/\p.r.hi.length<=9223372036854775807) (fun LL=> .ay ((l9 LL).map .str)))
theorem ZZ:aN Tryz.prog Jc:=P16a_ok.dH Tryz.func177 (by kernel_rfl) (by kernel_rfl) fun LL h=>Qh LL h.1.1 h.1.2 h.2
@[go_sem] theorem P16b_old{g:FuncId}{xs:List A}(h:g≠177):Jc.f g xs=XL.f g xs:=aW.aU h
theorem vd(LL:List (List Pc))(h:(LL.length<=1000/\sn LL<=1000000)/\ ∀k∈LL,∀p∈k,p.r.lo.length<=9223372036854775807/\p.r.hi.length<=9223372036854775807):Jc.f 177 [.ay (LL.map pcL)]=some (.ay ((l9 LL).map .str)):=aW.aZ (Γ:=XL) (fun i j h=>by simpa[ag,and_assoc]using h) LL h
theorem p_clone{k:List Pc}(h:eK k):XL.f 212 [.ay (k.map Pc.enc)]=some (.ay ((nM k).map Pc.enc)):=Fi k h
theorem p_edges1{k:List Pc}(h:eK k):Jc.f 177 [.ay [.ay (k.map Pc.enc)]]=some (.ay ((l9 [k]).map .str)):=vd [k] ⟨⟨by simp,by have:=h.1.1;simp[sn];omega⟩,fun m hm=>by simp only[bc]at hm;subst hm;exact h.2⟩
theorem p_edges2{a b:List Pc}(ha:eK a)(hb:eK b):Jc.f 177 [.ay [.ay (a.map Pc.enc),.ay (b.map Pc.enc)]]=some (.ay ((l9 [a,b]).map .str)):=vd [a,b] ⟨⟨by simp,by have:=ha.1.1;have:=hb.1.1;simp[sn];omega⟩,fun m hm=>by
 simp only[aD,cN,or_false]at hm;rcases hm with rfl|rfl
 · exact ha.2
 · exact hb.2⟩
theorem edg1(k:List Pc):Po (fF k) (l9 [k]):=Gp CW zx CX zy (ic k) fun x e h=>wW fun r hr=>h r (by simpa using hr)
theorem XM{k:List Pc}(h:cD k=true):nM k=k:=by
 have gw:=(iZ.1 h).1;unfold nM
 conv=>rhs;rw[<-List.map_id k]
 apply k_;intro p hp;have:=gw p hp;simp only[jc,ak]at this;rw[fQ this.2];rfl
def P16c:aW:=Jc.add 176 (entry (fun(v:List (List UInt8)×List Pc)=>[.ay (v.1.map .str),.fn 213 [.iU [.ay (v.2.map Pc.enc)]]]) (fun v=>(Po (fF v.2) v.1/\eK v.2)/\v.1.length<=1000000) (fun v=> .ay ((cF (fF v.2)).map Pc.enc)))
theorem Z0:aN Tryz.prog P16c:=ZZ.dH Tryz.func176 (by kernel_rfl) (by kernel_rfl) fun v h=>Be v.1 _ _ (fF v.2) (caps1 _) h.1.1 h.2 (fun x=>(wT h.1.2 x).2) (fun x hx=>p_Of1 h.1.2 (by have:=h.1.1.len x hx;omega))
@[go_sem] theorem P16c_old{g:FuncId}{xs:List A}(h:g≠176):P16c.f g xs=Jc.f g xs:=aW.aU h
theorem Fj(v:List (List UInt8)×List Pc)(h:(Po (fF v.2) v.1/\eK v.2)/\v.1.length<=1000000):P16c.f 176 [.ay (v.1.map .str),.fn 213 [.iU [.ay (v.2.map Pc.enc)]]]=some (.ay ((cF (fF v.2)).map Pc.enc)):=aW.aZ (Γ:=Jc) (fun i j h=>by simpa[ag,and_assoc]using h) v h
theorem p_buildOf{es:List (List UInt8)}{k:List Pc}(hE:Po (fF k) es)(hk:eK k)(hl:es.length<=1000000):P16c.f 176 [.ay (es.map .str),.fn 213 [.iU [.ay (k.map Pc.enc)]]]=some (.ay ((cF (fF k)).map Pc.enc)):=Fj (es,k) ⟨⟨hE,hk⟩,hl⟩
def O15:aW:={P16c with sg:=fun f=>f==176,xk:=fun f=>f==176}
theorem O15_ok:aN Tryz.prog O15:=⟨Z0.f,Z0.hp⟩
@[go_sem] theorem O15_f:O15.f=P16c.f:=rfl
@[go_sem] theorem O15_eff{g:FuncId}:O15.sg g=(g==176):=rfl
@[go_sem] theorem O15_frz{g:FuncId}:O15.xk g=(g==176):=rfl
@[go_sem] theorem O15_fix{n:Nat}:O15.fix n=false:=rfl
@[go_sem] theorem O15_ords{n:Nat}:O15.fS n=[]:=rfl
theorem XN:aQ Tryz.prog O15 Tryz.f174.ntmps (Tryz.f174.body.getD .skip)=true:=by kernel_rfl
theorem c_know_Of(k:List Pc)(hk:eK k):bp Tryz.prog 174 [.ay (k.map Pc.enc)] (· = .ay ((cF (fF k)).map Pc.enc)):=by
 refine ah O15_ok mixed Tryz.func174 rfl (ab rfl) XN ?_;unfold Tryz.f174;have h1:=Qk hk;cases hr:cD k with
 |true=>
  rw[hr]at h1;have h2:=p_clone hk;rw[XM hr]at h2;simp-implicitDefEqProofs (disch:=(first|omega|decide)) only[go_sem,↓reduceIte,seval,h1,h2]
  rw[jY hr]
 |false=>
  rw[hr]at h1;have h2:=p_edges1 hk;have h3:=p_buildOf (edg1 k) hk (by have:=nL (LL:=[k]);have:=hk.1.1;simp[sn]at*;omega)
  simp-implicitDefEqProofs (disch:=(first|omega|decide)) only[go_sem,↓reduceIte,seval,h1,h2,h3,cx,cr]
def P16e:aW:=Jc.add 174 (entry (fun(k:List Pc)=>[.ay (k.map Pc.enc)]) (fun k=>eK k) (fun k=> .ay ((cF (fF k)).map Pc.enc)))
theorem P16e_ok:aN Tryz.prog P16e:=ZZ.dH Tryz.func174 (by kernel_rfl) (by kernel_rfl) fun k h=>c_know_Of k h
@[go_sem] theorem P16e_old{g:FuncId}{xs:List A}(h:g≠174):P16e.f g xs=Jc.f g xs:=aW.aU h
theorem Qn(k:List Pc)(h:eK k):P16e.f 174 [.ay (k.map Pc.enc)]=some (.ay ((cF (fF k)).map Pc.enc)):=aW.aZ (Γ:=Jc) (fun i j h=>by simpa[ag,and_assoc]using h) k h
def P16f:aW:=P16e
theorem Qo:aN Tryz.prog P16f:=P16e_ok
@[go_sem] theorem P16f_old{g:FuncId}{xs:List A}:P16f.f g xs=P16e.f g xs:=rfl
theorem p_Of{k:List Pc}(h:eK k):P16e.f 174 [.ay (k.map Pc.enc)]=some (.ay ((cF (fF k)).map Pc.enc)):=Qn k h
def J15:aW:={P16f with sg:=fun f=>f==174,xk:=fun f=>f==174}
theorem J15_ok:aN Tryz.prog J15:=⟨Qo.f,Qo.hp⟩
@[go_sem] theorem J15_f:J15.f=P16f.f:=rfl
@[go_sem] theorem J15_eff{g:FuncId}:J15.sg g=(g==174):=rfl
@[go_sem] theorem J15_frz{g:FuncId}:J15.xk g=(g==174):=rfl
@[go_sem] theorem J15_fix{n:Nat}:J15.fix n=false:=rfl
@[go_sem] theorem J15_ords{n:Nat}:J15.fS n=[]:=rfl
theorem flat_take{LL:List (List Pc)}{o:Nat}(h:o<LL.length):(LL.take (o+1)).flatten=(LL.take o).flatten++LL[o]:=by rw[<-ar h,lq];simp
theorem flat_len(LL:List (List Pc))(o:Nat):(LL.take o).flatten.length<=LL.flatten.length:=by
 conv=>rhs;rw[<-br o LL]
 rw[lq,aj];omega
theorem Qp:aQ Tryz.prog J15 Tryz.f132.ntmps (Tryz.f132.body.getD .skip)=true:=by kernel_rfl
theorem Uy(LL:List (List Pc))(hL:LL.length<=1000000)(hk:eK LL.flatten):bp Tryz.prog 132 [.ay (LL.map pcL)] (· = .ay ((cF (fF LL.flatten)).map Pc.enc)):=by
 refine ah J15_ok mixed Tryz.func132 rfl (ab rfl) Qp ?_;unfold Tryz.f132;have hkl:=hk.1.1;simp-implicitDefEqProofs (disch:=(first|omega|decide)) only[go_sem,↓reduceIte,seval,aa]
 refine ch 3 4 rfl ?_;refine a_ [0,6,7] (ι:={o:Nat//o<=LL.length}) (fun p=>[(8,.int .i64 p.1),(3,.row 0 0 4 (LL.take p.1).flatten.length false)]) (fun p=>[(0,.row 4 ((LL.take p.1).flatten.map Pc.enc))]) (fun p=>LL.length-p.1) ⟨0,by omega⟩ (aw _) ?_ ?_
 · simp-implicitDefEqProofs (disch:=(first|omega|decide)) only[go_sem,↓reduceIte,seval]
   simp
 · rintro⟨o,ho⟩
   simp only;have hfl:=flat_len LL (o+1)
   by_cases bo:o<LL.length
   · have aH:(o:Int)<(LL.length:Int):=by omega
     have hd:=ZY bo;have eO:=flat_take bo;rw[eO,aj]at hfl;generalize LL[o]=k at*;have st:=stP k;have tl:((LL.take o).flatten.map Pc.enc).take (LL.take o).flatten.length=(LL.take o).flatten.map Pc.enc:=ad (by rw[aa];exact ai _)
     simp-implicitDefEqProofs (disch:=(first|omega|decide)) only[go_sem,↓reduceIte,seval,aH,hd,st,tl,wrap_i64,aa]
     exact⟨⟨ai _,by omega⟩,⟨o+1,bo⟩,⟨⟨by simp,by rw[eO,aj]⟩,by rw[eO,bz]⟩,by show LL.length-(o+1)<LL.length-o;omega⟩
   · have aH: ¬(o:Int)<(LL.length:Int):=by omega
     obtain rfl:o=LL.length:=by omega
     rw[ca]at*;have h:=p_Of hk;have tl:(LL.flatten.map Pc.enc).take LL.flatten.length=LL.flatten.map Pc.enc:=ad (by rw[aa];exact ai _)
     simp-implicitDefEqProofs (disch:=(first|omega|decide)) only[go_sem,↓reduceIte,seval,aH,h,tl,aa,cx,cr]
     exact ai _
def P16g:aW:=P16f
theorem P16g_ok:aN Tryz.prog P16g:=Qo
@[go_sem] theorem P16g_old{g:FuncId}{xs:List A}:P16g.f g xs=P16f.f g xs:=rfl
def LQ:aW:=P16g.add 132 (entry (fun(LL:List (List Pc))=>[.ay (LL.map pcL)]) (fun LL=>LL.length<=1000000/\eK LL.flatten) (fun LL=> .ay ((cF (fF LL.flatten)).map Pc.enc)))
theorem Z1:aN Tryz.prog LQ:=P16g_ok.dH Tryz.func132 (by kernel_rfl) (by kernel_rfl) fun LL h=>Uy LL h.1 h.2
@[go_sem] theorem P16h_old{g:FuncId}{xs:List A}(h:g≠132):LQ.f g xs=P16g.f g xs:=aW.aU h
@[go_sem] theorem P16h_s:LQ.pl P16g:=⟨fun _=>rfl,fun _=>rfl,rfl,fun _=>rfl,rfl,fun _=>rfl,rfl⟩
theorem Jd(LL:List (List Pc))(h:LL.length<=1000000/\eK LL.flatten):LQ.f 132 [.ay (LL.map pcL)]=some (.ay ((cF (fF LL.flatten)).map Pc.enc)):=aW.aZ (Γ:=P16g) (fun i j h=>by simpa[ag,and_assoc]using h) LL h
theorem Z2{a b:List Pc}(h:eK (a++b)):LQ.f 132 [.ay [.ay (a.map Pc.enc),.ay (b.map Pc.enc)]]=some (.ay ((cF (fF (a++b))).map Pc.enc)):=by
 have e: [a,b].flatten=a++b:=by simp
 have:=Jd [a,b] ⟨by simp,by rw[e];exact h⟩
 rw[e]at this;exact this
def fb(a b:List Pc):Bool:=decide (a=b)
def VO(lo hi:List UInt8)(op:Bool)(lh jU:List UInt8)(pY:Bool):Bool:=(lo==lh&&hi==jU)&&op==pY
theorem Je:aQ Tryz.prog LQ Tryz.f175.ntmps (Tryz.f175.body.getD .skip)=true:=by kernel_rfl
theorem Qq(x y:Pc)(hx:bI x.s/\bI (iO x.s))(hy:bI y.s/\bI (iO y.s)):bp Tryz.prog 175 [.agg [.str x.r.lo,.str x.r.hi,.bool x.r.op,.ay (x.s.map aF.enc)],.agg [.str y.r.lo,.str y.r.hi,.bool y.r.op,.ay (y.s.map aF.enc)]] (· = .bool (VO x.r.lo x.r.hi x.r.op y.r.lo y.r.hi y.r.op&&dA (iO x.s) (iO y.s))):=by
 refine ah Z1 mixed Tryz.func175 rfl (ab rfl) Je ?_;unfold Tryz.f175;have h:=PX hx.1 hy.1 hx.2 hy.2;unfold VO;cases h1:x.r.lo==y.r.lo with
 |false=>simp-implicitDefEqProofs (disch:=(first|omega|decide)) only[go_sem,↓reduceIte,seval,h1,aI]
 |true=>
  cases h2:x.r.hi==y.r.hi with
  |false=>simp-implicitDefEqProofs (disch:=(first|omega|decide)) only[go_sem,↓reduceIte,seval,h1,h2,aI,bN,aB]
  |true=>
   cases h3:x.r.op==y.r.op with
   |false=>simp-implicitDefEqProofs (disch:=(first|omega|decide)) only[go_sem,↓reduceIte,seval,h1,h2,h3,aI,bN,aB]
   |true=>simp-implicitDefEqProofs (disch:=(first|omega|decide)) only[go_sem,↓reduceIte,seval,h1,h2,h3,h,aB,cv]
def LR:aW:=LQ.add 175 (entry (fun(v:((List UInt8×List UInt8×Bool)×List aF)×((List UInt8×List UInt8×Bool)×List aF))=>[.agg [.str v.1.1.1,.str v.1.1.2.1,.bool v.1.1.2.2,.ay (v.1.2.map aF.enc)],.agg [.str v.2.1.1,.str v.2.1.2.1,.bool v.2.1.2.2,.ay (v.2.2.map aF.enc)]]) (fun v=>(bI v.1.2/\bI (iO v.1.2))/\bI v.2.2/\bI (iO v.2.2)) (fun v=> .bool (VO v.1.1.1 v.1.1.2.1 v.1.1.2.2 v.2.1.1 v.2.1.2.1 v.2.1.2.2&&dA (iO v.1.2) (iO v.2.2))))
theorem Z3:aN Tryz.prog LR:=Z1.dH Tryz.func175 (by kernel_rfl) (by kernel_rfl) fun v h=>Qq ⟨⟨v.1.1.1,v.1.1.2.1,v.1.1.2.2⟩,v.1.2⟩ ⟨⟨v.2.1.1,v.2.1.2.1,v.2.1.2.2⟩,v.2.2⟩ h.1 h.2
@[go_sem] theorem P16i_old{g:FuncId}{xs:List A}(h:g≠175):LR.f g xs=LQ.f g xs:=aW.aU h
@[go_sem] theorem P16i_s:LR.pl LQ:=⟨fun _=>rfl,fun _=>rfl,rfl,fun _=>rfl,rfl,fun _=>rfl,rfl⟩
theorem CZ(v:((List UInt8×List UInt8×Bool)×List aF)×((List UInt8×List UInt8×Bool)×List aF))(h:(bI v.1.2/\bI (iO v.1.2))/\bI v.2.2/\bI (iO v.2.2)):LR.f 175 [.agg [.str v.1.1.1,.str v.1.1.2.1,.bool v.1.1.2.2,.ay (v.1.2.map aF.enc)],.agg [.str v.2.1.1,.str v.2.1.2.1,.bool v.2.1.2.2,.ay (v.2.2.map aF.enc)]]=some (.bool (VO v.1.1.1 v.1.1.2.1 v.1.1.2.2 v.2.1.1 v.2.1.2.1 v.2.1.2.2&&dA (iO v.1.2) (iO v.2.2))):=aW.aZ (Γ:=LQ) (fun i j h=>by simpa[ag,and_assoc]using h) v h
theorem p_Same1{lo hi lh jU:List UInt8}{op pY:Bool}{s s':List aF}(h:bI s/\bI (iO s))(h':bI s'/\bI (iO s')):LR.f 175 [.agg [.str lo,.str hi,.bool op,.ay (s.map aF.enc)],.agg [.str lh,.str jU,.bool pY,.ay (s'.map aF.enc)]]=some (.bool (VO lo hi op lh jU pY&&dA (iO s) (iO s'))):=CZ (((lo,hi,op),s),((lh,jU,pY),s')) ⟨h,h'⟩
theorem eh:aQ Tryz.prog LR Tryz.f124.ntmps (Tryz.f124.body.getD .skip)=true:=by kernel_rfl
theorem Qr(a b:List Pc)(ha:eK a)(hb:eK b)(ra: ∀p∈a,c6 p.s=true)(rb: ∀p∈b,c6 p.s=true):bp Tryz.prog 124 [.ay (a.map Pc.enc),.ay (b.map Pc.enc),.fn 175 []] (· = .bool (fb a b)):=by
 refine ah Z3 mixed Tryz.func124 rfl (ab rfl) eh ?_;unfold Tryz.f124;obtain⟨⟨a1,a2⟩,a3⟩:=id ha;obtain⟨⟨b1,b2⟩,b3⟩:=id hb;cases h0:((a.length:Int)==(b.length:Int))with
 |false=>
  have eH:a.length≠b.length:=by
   have:(a.length:Int)≠(b.length:Int):=by simpa using h0
   omega
  have hh:fb a b=false:=by unfold fb;simp;intro e;exact eH (by rw[e])
  simp-implicitDefEqProofs (disch:=(first|omega|decide)) only[go_sem,↓reduceIte,seval,h0,hh,aa]
 |true=>
  have he:a.length=b.length:=by
   have:(a.length:Int)=(b.length:Int):=by simpa using h0
   omega
  simp-implicitDefEqProofs (disch:=(first|omega|decide)) only[go_sem,↓reduceIte,seval,h0,aa]
  refine a_ [0,1,2,15,16] (ι:={k:Nat//k<=a.length/\a.take k=b.take k}) (fun p=>[(17,.int .i64 p.1)]) (fun _=>[]) (fun p=>a.length-p.1) ⟨0,by omega,rfl⟩ (aw _) ?_ ?_
  · simp-implicitDefEqProofs (disch:=(first|omega|decide)) only[go_sem,↓reduceIte,seval]
  · rintro⟨k,hk,hd⟩
    simp only;by_cases bo:k<a.length
    · have aH:(k:Int)<(a.length:Int):=by omega
      have og:(k:Int)<(b.length:Int):=by omega
      have jD:k<b.length:=by omega
      have e1:=kJ bo;have e2:=kJ jD;have s1:=jx ha (ao bo)
      have s2:=jx hb (ao jD)
      have r1:=ra _ (ao bo)
      have r2:=rb _ (ao jD)
      have t1:=(ar bo).symm;have t2:=(ar jD).symm;have th:a[k]≠b[k]->fb a b=false:=fun h=>by unfold fb;simp;intro e;subst e;exact h rfl
      generalize hx:a[k]=x at*;generalize hy:b[k]=y at*;obtain⟨⟨lo,hi,op⟩,s⟩:=x;obtain⟨⟨lh,jU,pY⟩,s'⟩:=y;simp only at s1 s2 r1 r2;have hs:=p_Same1 (lo:=lo) (hi:=hi) (op:=op) (lh:=lh) (jU:=jU) (pY:=pY) (s:=s) (s':=s') ⟨s1,by rw[fQ r1];exact s1⟩ ⟨s2,by rw[fQ r2];exact s2⟩
      rw[fQ r1,fQ r2]at hs;cases h1:(VO lo hi op lh jU pY&&dA s s')with
      |false=>
       have hh:=th (fun e=>by simp only[Pc.mk.injEq,bk.mk.injEq]at e;obtain⟨⟨rfl,rfl,rfl⟩,rfl⟩:=e;simp[VO,dA]at h1)
       rw[h1]at hs;simp-implicitDefEqProofs (disch:=(first|omega|decide)) only[go_sem,↓reduceIte,seval,aH,og,e1,e2,hs,hh,aa]
      |true=>
       rw[h1]at hs;have e:(⟨⟨lo,hi,op⟩,s⟩:Pc)=⟨⟨lh,jU,pY⟩,s'⟩:=by simp only[VO,dA,ak,beq_iff_eq,decide_eq_true_iff]at h1;obtain⟨⟨⟨rfl,rfl⟩,rfl⟩,rfl⟩:=h1;rfl
       simp-implicitDefEqProofs (disch:=(first|omega|decide)) only[go_sem,↓reduceIte,seval,aH,og,e1,e2,hs,wrap_i64,aa]
       exact⟨⟨k+1,bo,by rw[t1,t2,hd,e]⟩,by simp,by show a.length-(k+1)<a.length-k;omega⟩
    · have aH: ¬(k:Int)<(a.length:Int):=by omega
      have hh:fb a b=true:=by rw[ad (by omega),ad (by omega)]at hd;simp[fb,hd]
      simp-implicitDefEqProofs (disch:=(first|omega|decide)) only[go_sem,↓reduceIte,seval,aH,hh,aa]
def Qs:aW:=LR.add 124 (entry (fun(v:List Pc×List Pc)=>[.ay (v.1.map Pc.enc),.ay (v.2.map Pc.enc),.fn 175 []]) (fun v=>(eK v.1/\eK v.2)/\(∀p∈v.1,c6 p.s=true)/\ ∀p∈v.2,c6 p.s=true) (fun v=> .bool (fb v.1 v.2)))
theorem Z4:aN Tryz.prog Qs:=Z3.dH Tryz.func124 (by kernel_rfl) (by kernel_rfl) fun v h=>Qr v.1 v.2 h.1.1 h.1.2 h.2.1 h.2.2
@[go_sem] theorem P16j_old{g:FuncId}{xs:List A}(h:g≠124):Qs.f g xs=LR.f g xs:=aW.aU h
@[go_sem] theorem P16j_s:Qs.pl LR:=⟨fun _=>rfl,fun _=>rfl,rfl,fun _=>rfl,rfl,fun _=>rfl,rfl⟩
theorem dW(v:List Pc×List Pc)(h:(eK v.1/\eK v.2)/\(∀p∈v.1,c6 p.s=true)/\ ∀p∈v.2,c6 p.s=true):Qs.f 124 [.ay (v.1.map Pc.enc),.ay (v.2.map Pc.enc),.fn 175 []]=some (.bool (fb v.1 v.2)):=aW.aZ (Γ:=LR) (fun i j h=>by simpa[ag,and_assoc]using h) v h
theorem N1(P:List UInt8->List aF): ∀p∈cF P,c6 p.s=true:=fun p hp=>by have:=(iZ.1 (km P)).1 p hp;simp only[jc,ak]at this;exact this.2
theorem Uz{P Q:List UInt8->List aF}(ha:eK (cF P))(hb:eK (cF Q)):Qs.f 124 [.ay ((cF P).map Pc.enc),.ay ((cF Q).map Pc.enc),.fn 175 []]=some (.bool (fb (cF P) (cF Q))):=dW (cF P,cF Q) ⟨⟨ha,hb⟩,N1 P,N1 Q⟩
theorem Qt:aQ Tryz.prog Qs Tryz.f114.ntmps (Tryz.f114.body.getD .skip)=true:=by kernel_rfl
theorem UA(a b:List Pc)(ha:eK a)(hb:eK b)(OP:eK (cF (fF a)))(vN:eK (cF (fF b))):bp Tryz.prog 114 [.ay (a.map Pc.enc),.ay (b.map Pc.enc)] (· = .bool (fb (cF (fF a)) (cF (fF b)))):=by refine ah Z4 mixed Tryz.func114 rfl (ab rfl) Qt ?_;unfold Tryz.f114;have h1:=p_Of ha;have h2:=p_Of hb;have h3:=Uz OP vN;simp-implicitDefEqProofs (disch:=(first|omega|decide)) only[go_sem,↓reduceIte,seval,h1,h2,h3]
def UB:aW:=Qs.add 114 (entry (fun(v:List Pc×List Pc)=>[.ay (v.1.map Pc.enc),.ay (v.2.map Pc.enc)]) (fun v=>(eK v.1/\eK v.2)/\eK (cF (fF v.1))/\eK (cF (fF v.2))) (fun v=> .bool (fb (cF (fF v.1)) (cF (fF v.2)))))
theorem P16k_ok:aN Tryz.prog UB:=Z4.dH Tryz.func114 (by kernel_rfl) (by kernel_rfl) fun v h=>UA v.1 v.2 h.1.1 h.1.2 h.2.1 h.2.2
@[go_sem] theorem P16k_old{g:FuncId}{xs:List A}(h:g≠114):UB.f g xs=Qs.f g xs:=aW.aU h
theorem Jf(v:List Pc×List Pc)(h:(eK v.1/\eK v.2)/\eK (cF (fF v.1))/\eK (cF (fF v.2))):UB.f 114 [.ay (v.1.map Pc.enc),.ay (v.2.map Pc.enc)]=some (.bool (fb (cF (fF v.1)) (cF (fF v.2)))):=aW.aZ (Γ:=Qs) (fun i j h=>by simpa[ag,and_assoc]using h) v h
theorem p_Same{a b:List Pc}(ha:eK a)(hb:eK b)(OP:eK (cF (fF a)))(vN:eK (cF (fF b))):UB.f 114 [.ay (a.map Pc.enc),.ay (b.map Pc.enc)]=some (.bool (fb (cF (fF a)) (cF (fF b)))):=Jf (a,b) ⟨⟨ha,hb⟩,OP,vN⟩
def nN(l:List bk)(s:List aF):List Pc:=l.map fun r=>⟨r,s⟩
theorem edg3(k:List Pc)(own:List bk):Po (c7 k own) (l9 [k,nN own []]):=Gp CW zx CX zy (fun x=>by
 unfold c7;split
 · exact ic k x
 · rfl) fun x e h=>by
 unfold c7
 rw[wW (k:=k) fun r hr=>h r (by simp only[j_,aJ];exact .inl hr),wX (l:=own) fun r hr=>h r (by
  simp only[j_,aJ]
  exact .inr (.inl (bZ.2 ⟨⟨r,[]⟩,bZ.2 ⟨r,hr,rfl⟩,rfl⟩)))]
def UC:aW:=UB.add 176 (entry (fun(v:List (List UInt8)×List bk×List Pc)=>[.ay (v.1.map .str),.fn 178 [.iU [.ay (v.2.1.map bk.enc)],.iU [.ay (v.2.2.map Pc.enc)]]]) (fun v=>((Po (c7 v.2.2 v.2.1) v.1/\eK v.2.2)/\iG v.2.1/\v.2.1.length<=100000)/\v.1.length<=1000000) (fun v=> .ay ((cF (c7 v.2.2 v.2.1)).map Pc.enc)))
theorem Qu:aN Tryz.prog UC:=P16k_ok.dH Tryz.func176 (by kernel_rfl) (by kernel_rfl) fun v h=>Be v.1 _ _ (c7 v.2.2 v.2.1) (caps2 _ _) h.1.1.1 h.2 (fun x=>by unfold c7;split;exact(wT h.1.1.2 x).2;exact⟨by simp,by simp[dt]⟩) (fun x hx=>Uw h.1.1.2 h.1.2.2 h.1.2.1 (by have:=h.1.1.1.len x hx;omega))
@[go_sem] theorem P16l_old{g:FuncId}{xs:List A}(h:g≠176):UC.f g xs=UB.f g xs:=aW.aU h
theorem Fk(v:List (List UInt8)×List bk×List Pc)(h:((Po (c7 v.2.2 v.2.1) v.1/\eK v.2.2)/\iG v.2.1/\v.2.1.length<=100000)/\v.1.length<=1000000):UC.f 176 [.ay (v.1.map .str),.fn 178 [.iU [.ay (v.2.1.map bk.enc)],.iU [.ay (v.2.2.map Pc.enc)]]]=some (.ay ((cF (c7 v.2.2 v.2.1)).map Pc.enc)):=aW.aZ (Γ:=UB) (fun i j h=>by simpa[ag,and_assoc]using h) v h
theorem UD{es:List (List UInt8)}{own:List bk}{k:List Pc}(hE:Po (c7 k own) es)(hk:eK k)(ho:iG own)(vv:own.length<=100000)(hl:es.length<=1000000):UC.f 176 [.ay (es.map .str),.fn 178 [.iU [.ay (own.map bk.enc)],.iU [.ay (k.map Pc.enc)]]]=some (.ay ((cF (c7 k own)).map Pc.enc)):=Fk (es,own,k) ⟨⟨⟨hE,hk⟩,ho,vv⟩,hl⟩
def R15:aW:={UC with sg:=fun f=>f==176,xk:=fun f=>f==176,fS:=fun n=>if n=8 then [[999999,2]]else []}
theorem R15_ok:aN Tryz.prog R15:=⟨Qu.f,Qu.hp⟩
@[go_sem] theorem R15_f:R15.f=UC.f:=rfl
@[go_sem] theorem R15_eff{g:FuncId}:R15.sg g=(g==176):=rfl
@[go_sem] theorem R15_frz{g:FuncId}:R15.xk g=(g==176):=rfl
@[go_sem] theorem R15_fix{n:Nat}:R15.fix n=false:=rfl
@[go_sem] theorem R15_ords8:R15.fS 8=[[999999,2]]:=rfl
@[go_sem] theorem R15_ords{n:Nat}(h:n≠8):R15.fS n=[]:=if_neg h
theorem setS_okL(l:List bk):iG (iC (bh l))/\(iC (bh l)).length<=l.length:=⟨A' _,wS l⟩
theorem C0:aQ Tryz.prog R15 Tryz.f115.ntmps (Tryz.f115.body.getD .skip)=true:=by kernel_rfl
theorem Fl(k:List Pc)(l:List bk)(hk:eK k)(hl:l.length<=1000)(vv:iG l):bp Tryz.prog 115 [.ay (k.map Pc.enc),.ay (l.map bk.enc)] (· = .ay ((cF (c7 k (iC (bh l)))).map Pc.enc)):=by
 refine ah R15_ok mixed Tryz.func115 rfl (ab rfl) C0 ?_;unfold Tryz.f115;have h0:=Ur (l:=l) (by omega) vv;obtain⟨o1,o2⟩:=setS_okL l;generalize iC (bh l)=own at*;simp-implicitDefEqProofs (disch:=(first|omega|decide)) only[go_sem,↓reduceIte,seval,h0,aa]
 refine ch 6 4 rfl ?_;refine a_ [0,1,2,4,5,11,12] (ι:={j:Nat//j<=own.length}) (fun p=>[(13,.int .i64 p.1),(6,.row 2 0 4 p.1 false)]) (fun p=>[(2,.row 4 ((nN (own.take p.1) []).map Pc.enc))]) (fun p=>own.length-p.1) ⟨0,by omega⟩ (aw _) ?_ ?_
 · simp-implicitDefEqProofs (disch:=(first|omega|decide)) only[go_sem,↓reduceIte,seval]
   simp[nN]
 · rintro⟨j,hj⟩
   simp only;have o6:((nN (own.take j) []).map Pc.enc).length=j:=by simp[nN];omega
   have tl:((nN (own.take j) []).map Pc.enc).take j=(nN (own.take j) []).map Pc.enc:=ad (di o6)
   by_cases bo:j<own.length
   · have aH:(j:Int)<(own.length:Int):=by omega
     have e1:=im bo;have eO:nN (own.take (j+1)) []=nN (own.take j) []++[⟨own[j],[]⟩]:=by rw[<-ar bo];unfold nN;rw[bz];rfl
     generalize hp:own[j]=p at*;obtain⟨lo,hi,op⟩:=p;simp-implicitDefEqProofs (disch:=(first|omega|decide)) only[go_sem,↓reduceIte,seval,aH,e1,tl,o6,wrap_i64,aa]
     exact⟨by omega,⟨j+1,bo⟩,⟨⟨by simp,rfl⟩,by rw[eO,bz];rfl⟩,by show own.length-(j+1)<own.length-j;omega⟩
   · have aH: ¬(j:Int)<(own.length:Int):=by omega
     obtain rfl:j=own.length:=by omega
     rw[ca]at*
     have oc:eK (nN own []):=⟨⟨by simp[nN];omega,by
      have: ∀m:List bk,wP (nN m [])=0:=fun m=>by
       induction m with
       |nil=>rfl
       |cons r m ih=>show wP (⟨r,[]⟩::nN m [])=0;rw[uS,ih];rfl
      rw[this];omega⟩,fun p hp=>by
      obtain⟨r,hr,rfl⟩:=bZ.1 hp;exact o1 r hr⟩
     have h2:=p_edges2 hk oc;have h3:=UD (edg3 k own) hk o1 (by omega) (by have:=nL (LL:=[k,nN own []]);have:=hk.1.1;simp[sn,nN]at*;omega)
     have hle:(own.length<=own.length)=True:=by simp
     simp-implicitDefEqProofs (disch:=(first|omega|decide)) only[go_sem,↓reduceIte,seval,aH,h2,h3,tl,o6,hle,aa,cx,cr]
def P17a:aW:=UC
theorem P17a_ok:aN Tryz.prog P17a:=Qu
@[go_sem] theorem P17a_old{g:FuncId}{xs:List A}:P17a.f g xs=UC.f g xs:=rfl
def Bg:aW:=P17a.add 115 (entry (fun(v:List Pc×List bk)=>[.ay (v.1.map Pc.enc),.ay (v.2.map bk.enc)]) (fun v=>(eK v.1/\iG v.2)/\v.2.length<=1000) (fun v=> .ay ((cF (c7 v.1 (iC (bh v.2)))).map Pc.enc)))
theorem uV:aN Tryz.prog Bg:=P17a_ok.dH Tryz.func115 (by kernel_rfl) (by kernel_rfl) fun v h=>Fl v.1 v.2 h.1.1 h.2 h.1.2
@[go_sem] theorem P17b_old{g:FuncId}{xs:List A}(h:g≠115):Bg.f g xs=P17a.f g xs:=aW.aU h
@[go_sem] theorem P17b_s:Bg.pl P17a:=⟨fun _=>rfl,fun _=>rfl,rfl,fun _=>rfl,rfl,fun _=>rfl,rfl⟩
theorem zA(v:List Pc×List bk)(h:(eK v.1/\iG v.2)/\v.2.length<=1000):Bg.f 115 [.ay (v.1.map Pc.enc),.ay (v.2.map bk.enc)]=some (.ay ((cF (c7 v.1 (iC (bh v.2)))).map Pc.enc)):=aW.aZ (Γ:=P17a) (fun i j h=>by simpa[ag,and_assoc]using h) v h
theorem zB{k:List Pc}{l:List bk}(hk:eK k)(hl:l.length<=1000)(vv:iG l):Bg.f 115 [.ay (k.map Pc.enc),.ay (l.map bk.enc)]=some (.ay ((cF (c7 k (iC (bh l)))).map Pc.enc)):=zA (k,l) ⟨⟨hk,vv⟩,hl⟩
theorem N2(p:Pc)(k:List Pc)(x:List UInt8)(n c:Int):dq (p::k) x n c=((eT p.r x&&uK p.s n c)||dq k x n c):=rfl
theorem UE:aQ Tryz.prog Bg Tryz.f99.ntmps (Tryz.f99.body.getD .skip)=true:=by kernel_rfl
theorem XO(k:List Pc)(x:List UInt8)(n c:Int)(hk:eK k)(hx:x.length<=9223372036854775807):bp Tryz.prog 99 [.ay (k.map Pc.enc),.str x,.agg [.int .i64 n,.int .i64 c]] (· = .bool (dq k x n c)):=by
 refine ah uV mixed Tryz.func99 rfl (ab rfl) UE ?_;unfold Tryz.f99;obtain⟨⟨k1,k2⟩,k3⟩:=id hk;simp-implicitDefEqProofs (disch:=(first|omega|decide)) only[go_sem,↓reduceIte,seval,aa]
 refine a_ [0,1,5,9,10] (ι:={j:Nat//j<=k.length/\dq k x n c=dq (k.drop j) x n c}) (fun p=>[(11,.int .i64 p.1)]) (fun _=>[]) (fun p=>k.length-p.1) ⟨0,by omega,rfl⟩ (aw _) ?_ ?_
 · simp-implicitDefEqProofs (disch:=(first|omega|decide)) only[go_sem,↓reduceIte,seval]
 · rintro⟨j,hj,hd⟩
   simp only at hj hd⊢;by_cases bo:j<k.length
   · have aH:(j:Int)<(k.length:Int):=by omega
     have e1:=kJ bo;have mq:=k3 _ (ao bo)
     have Fe:=jx hk (ao bo)
     rw[ax bo,N2]at hd;generalize hp:k[j]=p at*;obtain⟨⟨lo,hi,op⟩,s⟩:=p;simp only at hd mq Fe;have hh:=W4 (n:=n) (c:=c) Fe;have next:dq k x n c=dq (k.drop (j+1)) x n c-> ∃i:{j:Nat//j<=k.length/\dq k x n c=dq (k.drop j) x n c},(j:Int)+1=(i.1:Int)/\k.length-i.1<k.length-j:=fun h=>⟨⟨j+1,bo,h⟩,by simp,by show k.length-(j+1)<k.length-j;omega⟩
     cases h1:eT ⟨lo,hi,op⟩ x with
     |false=>
      rw[h1,aI,bu]at hd;simp-implicitDefEqProofs (disch:=(first|omega|decide)) only[go_sem,↓reduceIte,seval,aH,e1,h1,wrap_i64,aa]
      exact next hd
     |true=>
      cases h2:uK s n c with
      |false=>
       rw[h1,h2,bN,bu]at hd;rw[h2]at hh;simp-implicitDefEqProofs (disch:=(first|omega|decide)) only[go_sem,↓reduceIte,seval,aH,e1,h1,hh,wrap_i64,aa]
       exact next hd
      |true=>
       rw[h1,h2]at hd;have hh2:dq k x n c=true:=by rw[hd];rfl
       rw[h2]at hh;simp-implicitDefEqProofs (disch:=(first|omega|decide)) only[go_sem,↓reduceIte,seval,aH,e1,h1,hh,hh2,wrap_i64,aa]
   · have aH: ¬(j:Int)<(k.length:Int):=by omega
     have hh:dq k x n c=false:=by rw[hd,aC (by omega)];rfl
     simp-implicitDefEqProofs (disch:=(first|omega|decide)) only[go_sem,↓reduceIte,seval,aH,hh,aa]
theorem Qv:aQ Tryz.prog Bg Tryz.f74.ntmps (Tryz.f74.body.getD .skip)=true:=by kernel_rfl
theorem UF(k:List Pc)(x:List UInt8)(n c:Int)(hk:eK k)(hx:x.length<=9223372036854775807):bp Tryz.prog 74 [.ay (k.map Pc.enc),.str x,.agg [.int .i64 n,.int .i64 c]] (· = .bool (dq k x n c)):=by
 refine ah uV mixed Tryz.func74 rfl (ab rfl) Qv ?_;unfold Tryz.f74;obtain⟨⟨k1,k2⟩,k3⟩:=id hk;simp-implicitDefEqProofs (disch:=(first|omega|decide)) only[go_sem,↓reduceIte,seval,aa]
 refine a_ [0,1,5] (ι:={j:Nat//j<=k.length/\dq k x n c=dq (k.drop j) x n c}) (fun p=>[(7,.int .i64 p.1)]) (fun _=>[]) (fun p=>k.length-p.1) ⟨0,by omega,rfl⟩ (aw _) ?_ ?_
 · simp-implicitDefEqProofs (disch:=(first|omega|decide)) only[go_sem,↓reduceIte,seval]
 · rintro⟨j,hj,hd⟩
   simp only at hj hd⊢;by_cases bo:j<k.length
   · have aH:(j:Int)<(k.length:Int):=by omega
     have e1:=kJ bo;have mq:=k3 _ (ao bo)
     have Fe:=jx hk (ao bo)
     rw[ax bo,N2]at hd;generalize hp:k[j]=p at*;obtain⟨⟨lo,hi,op⟩,s⟩:=p;simp only at hd mq Fe;have hh:=TK (n:=n) (c:=c) Fe;have next:dq k x n c=dq (k.drop (j+1)) x n c-> ∃i:{j:Nat//j<=k.length/\dq k x n c=dq (k.drop j) x n c},(j:Int)+1=(i.1:Int)/\k.length-i.1<k.length-j:=fun h=>⟨⟨j+1,bo,h⟩,by simp,by show k.length-(j+1)<k.length-j;omega⟩
     cases h1:eT ⟨lo,hi,op⟩ x with
     |false=>
      rw[h1,aI,bu]at hd;simp-implicitDefEqProofs (disch:=(first|omega|decide)) only[go_sem,↓reduceIte,seval,aH,e1,h1,wrap_i64,aa]
      exact next hd
     |true=>
      cases h2:uK s n c with
      |false=>
       rw[h1,h2,bN,bu]at hd;rw[h2]at hh;simp-implicitDefEqProofs (disch:=(first|omega|decide)) only[go_sem,↓reduceIte,seval,aH,e1,h1,hh,wrap_i64,aa]
       exact next hd
      |true=>
       rw[h1,h2]at hd;have hh2:dq k x n c=true:=by rw[hd];rfl
       rw[h2]at hh;simp-implicitDefEqProofs (disch:=(first|omega|decide)) only[go_sem,↓reduceIte,seval,aH,e1,h1,hh,hh2,wrap_i64,aa]
   · have aH: ¬(j:Int)<(k.length:Int):=by omega
     have hh:dq k x n c=false:=by rw[hd,aC (by omega)];rfl
     simp-implicitDefEqProofs (disch:=(first|omega|decide)) only[go_sem,↓reduceIte,seval,aH,hh,aa]
def Jg(p:Pc):Bool:=decide ((40:Int)<(p.r.lo.length:Int))||(decide ((40:Int)<(p.r.hi.length:Int))||sM p.s 16)
def qz(k:List Pc)(m:Int):Bool:=decide (m<(k.length:Int))||k.any Jg
theorem LS:aQ Tryz.prog Bg Tryz.f64.ntmps (Tryz.f64.body.getD .skip)=true:=by kernel_rfl
theorem Qw(k:List Pc)(m:Int)(hk:k.length<=9223372036854775807)(hs: ∀p∈k,p.s.length<=9223372036854775807):bp Tryz.prog 64 [.ay (k.map Pc.enc),.int .i64 m] (· = .bool (qz k m)):=by
 refine ah uV mixed Tryz.func64 rfl (ab rfl) LS ?_;unfold Tryz.f64;by_cases h0:m<(k.length:Int)
 · have hh:qz k m=true:=by unfold qz;rw[decide_eq_true h0];rfl
   simp-implicitDefEqProofs (disch:=(first|omega|decide)) only[go_sem,↓reduceIte,seval,h0,hh,aa]
 · simp-implicitDefEqProofs (disch:=(first|omega|decide)) only[go_sem,↓reduceIte,seval,h0,aa]
   refine a_ [0,1] (ι:={j:Nat//j<=k.length/\qz k m=(k.drop j).any Jg}) (fun p=>[(5,.int .i64 p.1)]) (fun _=>[]) (fun p=>k.length-p.1) ⟨0,by omega,by unfold qz;rw[decide_eq_false h0,bu];rfl⟩ (aw _) ?_ ?_
   · simp-implicitDefEqProofs (disch:=(first|omega|decide)) only[go_sem,↓reduceIte,seval]
   · rintro⟨j,hj,hd⟩
     simp only at hj hd⊢;by_cases bo:j<k.length
     · have aH:(j:Int)<(k.length:Int):=by omega
       have e1:=kJ bo;have vz:=hs _ (ao bo)
       rw[ax bo,cI]at hd;generalize hp:k[j]=p at*;obtain⟨⟨lo,hi,op⟩,s⟩:=p;simp only[Jg]at hd vz;have hL:=PM (m:=16) vz;by_cases h1:(40:Int)<(lo.length:Int)
       · have hh:qz k m=true:=by rw[hd,decide_eq_true h1];rfl
         simp-implicitDefEqProofs (disch:=(first|omega|decide)) only[go_sem,↓reduceIte,seval,aH,e1,h1,hh,aa]
       · by_cases h2:(40:Int)<(hi.length:Int)
         · have hh:qz k m=true:=by rw[hd,decide_eq_true h2];simp
           simp-implicitDefEqProofs (disch:=(first|omega|decide)) only[go_sem,↓reduceIte,seval,aH,e1,h1,h2,hh,aa]
         · cases h3:sM s 16 with
           |true=>
            have hh:qz k m=true:=by rw[hd,h3];simp
            rw[h3]at hL;simp-implicitDefEqProofs (disch:=(first|omega|decide)) only[go_sem,↓reduceIte,seval,aH,e1,h1,h2,hL,hh,aa]
           |false=>
            rw[decide_eq_false h1,decide_eq_false h2,h3]at hd;simp only[Bool.or_self,bu]at hd;rw[h3]at hL;simp-implicitDefEqProofs (disch:=(first|omega|decide)) only[go_sem,↓reduceIte,seval,aH,e1,h1,h2,hL,wrap_i64,aa]
            exact⟨⟨j+1,bo,hd⟩,by simp,by show k.length-(j+1)<k.length-j;omega⟩
     · have aH: ¬(j:Int)<(k.length:Int):=by omega
       have hh:qz k m=false:=by rw[hd,aC (by omega)];rfl
       simp-implicitDefEqProofs (disch:=(first|omega|decide)) only[go_sem,↓reduceIte,seval,aH,hh,aa]
theorem LU:aQ Tryz.prog Bg Tryz.f86.ntmps (Tryz.f86.body.getD .skip)=true:=by kernel_rfl
theorem Qx(a b:List Pc)(ha:eK a)(hb:eK b):bp Tryz.prog 86 [.ay (a.map Pc.enc),.ay (b.map Pc.enc)] (· = .bool (fb a b)):=by
 refine ah uV mixed Tryz.func86 rfl (ab rfl) LU ?_;unfold Tryz.f86;obtain⟨⟨a1,a2⟩,a3⟩:=id ha;obtain⟨⟨b1,b2⟩,b3⟩:=id hb;cases h0:((a.length:Int)==(b.length:Int))with
 |false=>
  have eH:a.length≠b.length:=by
   have:(a.length:Int)≠(b.length:Int):=by simpa using h0
   omega
  have hh:fb a b=false:=by unfold fb;simp;intro e;exact eH (by rw[e])
  simp-implicitDefEqProofs (disch:=(first|omega|decide)) only[go_sem,↓reduceIte,seval,h0,hh,aa]
 |true=>
  have he:a.length=b.length:=by
   have:(a.length:Int)=(b.length:Int):=by simpa using h0
   omega
  simp-implicitDefEqProofs (disch:=(first|omega|decide)) only[go_sem,↓reduceIte,seval,h0,aa]
  refine a_ [0,1] (ι:={k:Nat//k<=a.length/\a.take k=b.take k}) (fun p=>[(5,.int .i64 p.1)]) (fun _=>[]) (fun p=>a.length-p.1) ⟨0,by omega,rfl⟩ (aw _) ?_ ?_
  · simp-implicitDefEqProofs (disch:=(first|omega|decide)) only[go_sem,↓reduceIte,seval]
  · rintro⟨k,hk,hd⟩
    simp only;by_cases bo:k<a.length
    · have aH:(k:Int)<(a.length:Int):=by omega
      have og:(k:Int)<(b.length:Int):=by omega
      have jD:k<b.length:=by omega
      have e1:=kJ bo;have e2:=kJ jD;have s1:=jx ha (ao bo)
      have s2:=jx hb (ao jD)
      have t1:=(ar bo).symm;have t2:=(ar jD).symm;have th:a[k]≠b[k]->fb a b=false:=fun h=>by unfold fb;simp;intro e;subst e;exact h rfl
      generalize hx:a[k]=x at*;generalize hy:b[k]=y at*;obtain⟨⟨lo,hi,op⟩,s⟩:=x;obtain⟨⟨lh,jU,pY⟩,s'⟩:=y;simp only at s1 s2;have hs:=qP s1 s2;cases h1:lo==lh with
      |false=>
       have hh:=th (fun e=>by injection e with e _;injection e with e _ _;simp[e]at h1)
       simp-implicitDefEqProofs (disch:=(first|omega|decide)) only[go_sem,↓reduceIte,seval,aH,og,e1,e2,h1,hh,aI,bm,aa]
      |true=>
       cases h2:hi==jU with
       |false=>
        have hh:=th (fun e=>by injection e with e _;injection e with _ e _;simp[e]at h2)
        simp-implicitDefEqProofs (disch:=(first|omega|decide)) only[go_sem,↓reduceIte,seval,aH,og,e1,e2,h1,h2,hh,aI,aB,bm,aa]
       |true=>
        cases h3:op==pY with
        |false=>
           have hh:=th (fun e=>by injection e with e _;injection e with _ _ e;simp[e]at h3)
           simp-implicitDefEqProofs (disch:=(first|omega|decide)) only[go_sem,↓reduceIte,seval,aH,og,e1,e2,h1,h2,h3,hh,aI,aB,bm,aa]
        |true=>
           cases h4:dA s s' with
           |false=>
            have hh:=th (fun e=>by injection e with _ e;simp[dA,e]at h4)
            rw[h4]at hs;simp-implicitDefEqProofs (disch:=(first|omega|decide)) only[go_sem,↓reduceIte,seval,aH,og,e1,e2,h1,h2,h3,hs,hh,aB,bG,aa]
           |true=>
            obtain rfl:lo=lh:=by simpa using h1
            obtain rfl:hi=jU:=by simpa using h2
            obtain rfl:op=pY:=by simpa using h3
            obtain rfl:s=s':=by simpa[dA]using h4
            rw[h4]at hs;simp-implicitDefEqProofs (disch:=(first|omega|decide)) only[go_sem,↓reduceIte,seval,aH,og,e1,e2,h1,h2,h3,hs,aB,bG,wrap_i64,aa]
            exact⟨⟨k+1,bo,by rw[t1,t2,hd]⟩,by simp,by show a.length-(k+1)<a.length-k;omega⟩
    · have aH: ¬(k:Int)<(a.length:Int):=by omega
      have hh:fb a b=true:=by rw[ad (by omega),ad (by omega)]at hd;simp[fb,hd]
      simp-implicitDefEqProofs (disch:=(first|omega|decide)) only[go_sem,↓reduceIte,seval,aH,hh,aa]
def fm(k:List Pc):List bk:=k.map (·.r)
theorem Jh:aQ Tryz.prog Bg Tryz.f156.ntmps (Tryz.f156.body.getD .skip)=true:=by kernel_rfl
theorem LV(k:List Pc)(hk:eK k):bp Tryz.prog 156 [.ay (k.map Pc.enc)] (· = .ay ((fm k).map bk.enc)):=by
 refine ah uV mixed Tryz.func156 rfl (ab rfl) Jh ?_;unfold Tryz.f156;obtain⟨⟨k1,k2⟩,k3⟩:=id hk;simp-implicitDefEqProofs (disch:=(first|omega|decide)) only[go_sem,↓reduceIte,seval,aa]
 refine ch 3 3 rfl ?_;refine a_ [0] (ι:={j:Nat//j<=k.length}) (fun p=>[(4,.int .i64 p.1),(3,.row 0 0 3 p.1 false)]) (fun p=>[(0,.row 3 ((fm (k.take p.1)).map bk.enc))]) (fun p=>k.length-p.1) ⟨0,by omega⟩ (aw _) ?_ ?_
 · simp-implicitDefEqProofs (disch:=(first|omega|decide)) only[go_sem,↓reduceIte,seval]
   simp[fm]
 · rintro⟨j,hj⟩
   simp only;have o6:((fm (k.take j)).map bk.enc).length=j:=by simp[fm];omega
   have tl:((fm (k.take j)).map bk.enc).take j=(fm (k.take j)).map bk.enc:=ad (di o6)
   by_cases bo:j<k.length
   · have aH:(j:Int)<(k.length:Int):=by omega
     have e1:=kJ bo;have eO:fm (k.take (j+1))=fm (k.take j)++[k[j].r]:=by rw[<-ar bo];unfold fm;rw[bz];rfl
     generalize hp:k[j]=p at*;obtain⟨⟨lo,hi,op⟩,s⟩:=p;simp only at eO;simp-implicitDefEqProofs (disch:=(first|omega|decide)) only[go_sem,↓reduceIte,seval,aH,e1,tl,o6,wrap_i64,aa]
     exact⟨by omega,⟨j+1,bo⟩,⟨⟨by simp,rfl⟩,by rw[eO,bz];rfl⟩,by show k.length-(j+1)<k.length-j;omega⟩
   · have aH: ¬(j:Int)<(k.length:Int):=by omega
     obtain rfl:j=k.length:=by omega
     rw[ca]at*;simp-implicitDefEqProofs (disch:=(first|omega|decide)) only[go_sem,↓reduceIte,seval,aH,tl,o6,aa]
     try exact ai _
def kK(op:Int)(a b:List Pc)(l:List bk)(x:List UInt8):List aF:=if op=1 then W8 1 (fF a x) (fF b x)else if op=2 then W8 3 (fF a x) (fF b x)else c7 a l x
theorem LW:aQ Tryz.prog Bg Tryz.f157.ntmps (Tryz.f157.body.getD .skip)=true:=by kernel_rfl
theorem Qy(op:Int)(a b:List Pc)(l:List bk)(x:List UInt8)(ha:mH a)(hb:mH b)(hl:l.length<=100000)(vv:iG l)(hx:x.length<=9223372036854775807):bp Tryz.prog 157 [.int .i64 op,.ay (a.map Pc.enc),.ay (b.map Pc.enc),.ay (l.map bk.enc),.str x] (· = .ay ((kK op a b l x).map aF.enc)):=by
 refine ah uV mixed Tryz.func157 rfl (ab rfl) LW ?_;unfold Tryz.f157;have h1:=p_rAt ha hx;have h2:=p_rAt hb hx;have h3:=qR (a:=fF a x) (b:=fF b x) opOK1 (tT ha x).2 (tT hb x).2;have h4:=qR (a:=fF a x) (b:=fF b x) opOK3 (tT ha x).2 (tT hb x).2;have h5:=n9 hl vv hx;unfold kK;cases e1:op==1 with
 |true=>
  have e1':op=1:=by simpa using e1
  rw[if_pos e1']
  simp-implicitDefEqProofs (disch:=(first|omega|decide)) only[go_sem,↓reduceIte,seval,h1,h2,h3,e1]
 |false=>
  have e1':op≠1:=by simpa using e1
  rw[if_neg e1']
  cases e2:op==2 with
  |true=>
   have e2':op=2:=by simpa using e2
   rw[if_pos e2']
   simp-implicitDefEqProofs (disch:=(first|omega|decide)) only[go_sem,↓reduceIte,seval,h1,h2,h4,e1,e2]
  |false=>
   have e2':op≠2:=by simpa using e2
   rw[if_neg e2']
   unfold c7;cases e3:bh l x with
   |true=>
    rw[e3]at h5;simp-implicitDefEqProofs (disch:=(first|omega|decide)) only[go_sem,↓reduceIte,seval,h1,h5,e1,e2]
   |false=>
    rw[e3]at h5;simp-implicitDefEqProofs (disch:=(first|omega|decide)) only[go_sem,↓reduceIte,seval,h5,e1,e2,bD,az]
def C1:aW:=Bg.add 99 (entry (fun(v:List Pc×List UInt8×Int×Int)=>[.ay (v.1.map Pc.enc),.str v.2.1,.agg [.int .i64 v.2.2.1,.int .i64 v.2.2.2]]) (fun v=>eK v.1/\v.2.1.length<=9223372036854775807) (fun v=> .bool (dq v.1 v.2.1 v.2.2.1 v.2.2.2)))
theorem P17c_ok:aN Tryz.prog C1:=uV.dH Tryz.func99 (by kernel_rfl) (by kernel_rfl) fun v h=>XO v.1 v.2.1 v.2.2.1 v.2.2.2 h.1 h.2
@[go_sem] theorem P17c_old{g:FuncId}{xs:List A}(h:g≠99):C1.f g xs=Bg.f g xs:=aW.aU h
theorem LX(v:List Pc×List UInt8×Int×Int)(h:eK v.1/\v.2.1.length<=9223372036854775807):C1.f 99 [.ay (v.1.map Pc.enc),.str v.2.1,.agg [.int .i64 v.2.2.1,.int .i64 v.2.2.2]]=some (.bool (dq v.1 v.2.1 v.2.2.1 v.2.2.2)):=aW.aZ (Γ:=Bg) (fun i j h=>by simpa[ag,and_assoc]using h) v h
def Bh:aW:=C1.add 74 (entry (fun(v:List Pc×List UInt8×Int×Int)=>[.ay (v.1.map Pc.enc),.str v.2.1,.agg [.int .i64 v.2.2.1,.int .i64 v.2.2.2]]) (fun v=>eK v.1/\v.2.1.length<=9223372036854775807) (fun v=> .bool (dq v.1 v.2.1 v.2.2.1 v.2.2.2)))
theorem P17d_ok:aN Tryz.prog Bh:=P17c_ok.dH Tryz.func74 (by kernel_rfl) (by kernel_rfl) fun v h=>UF v.1 v.2.1 v.2.2.1 v.2.2.2 h.1 h.2
@[go_sem] theorem P17d_old{g:FuncId}{xs:List A}(h:g≠74):Bh.f g xs=C1.f g xs:=aW.aU h
theorem Ji(v:List Pc×List UInt8×Int×Int)(h:eK v.1/\v.2.1.length<=9223372036854775807):Bh.f 74 [.ay (v.1.map Pc.enc),.str v.2.1,.agg [.int .i64 v.2.2.1,.int .i64 v.2.2.2]]=some (.bool (dq v.1 v.2.1 v.2.2.1 v.2.2.2)):=aW.aZ (Γ:=C1) (fun i j h=>by simpa[ag,and_assoc]using h) v h
def XP:aW:=Bh.add 64 (entry (fun(v:List Pc×Int)=>[.ay (v.1.map Pc.enc),.int .i64 v.2]) (fun v=>v.1.length<=9223372036854775807/\ ∀p∈v.1,p.s.length<=9223372036854775807) (fun v=> .bool (qz v.1 v.2)))
theorem P17e_ok:aN Tryz.prog XP:=P17d_ok.dH Tryz.func64 (by kernel_rfl) (by kernel_rfl) fun v h=>Qw v.1 v.2 h.1 h.2
@[go_sem] theorem P17e_old{g:FuncId}{xs:List A}(h:g≠64):XP.f g xs=Bh.f g xs:=aW.aU h
theorem Fm(v:List Pc×Int)(h:v.1.length<=9223372036854775807/\ ∀p∈v.1,p.s.length<=9223372036854775807):XP.f 64 [.ay (v.1.map Pc.enc),.int .i64 v.2]=some (.bool (qz v.1 v.2)):=aW.aZ (Γ:=Bh) (fun i j h=>by simpa[ag,and_assoc]using h) v h
def XQ:aW:=XP.add 86 (entry (fun(v:List Pc×List Pc)=>[.ay (v.1.map Pc.enc),.ay (v.2.map Pc.enc)]) (fun v=>eK v.1/\eK v.2) (fun v=> .bool (fb v.1 v.2)))
theorem P17f_ok:aN Tryz.prog XQ:=P17e_ok.dH Tryz.func86 (by kernel_rfl) (by kernel_rfl) fun v h=>Qx v.1 v.2 h.1 h.2
@[go_sem] theorem P17f_old{g:FuncId}{xs:List A}(h:g≠86):XQ.f g xs=XP.f g xs:=aW.aU h
theorem Fo(v:List Pc×List Pc)(h:eK v.1/\eK v.2):XQ.f 86 [.ay (v.1.map Pc.enc),.ay (v.2.map Pc.enc)]=some (.bool (fb v.1 v.2)):=aW.aZ (Γ:=XP) (fun i j h=>by simpa[ag,and_assoc]using h) v h
def XR:aW:=XQ.add 156 (entry (fun(k:List Pc)=>[.ay (k.map Pc.enc)]) (fun k=>eK k) (fun k=> .ay ((fm k).map bk.enc)))
theorem P17g_ok:aN Tryz.prog XR:=P17f_ok.dH Tryz.func156 (by kernel_rfl) (by kernel_rfl) fun k h=>LV k h
@[go_sem] theorem P17g_old{g:FuncId}{xs:List A}(h:g≠156):XR.f g xs=XQ.f g xs:=aW.aU h
theorem C2(k:List Pc)(h:eK k):XR.f 156 [.ay (k.map Pc.enc)]=some (.ay ((fm k).map bk.enc)):=aW.aZ (Γ:=XQ) (fun i j h=>by simpa[ag,and_assoc]using h) k h
def LY:aW:=XR.add 157 (entry (fun(v:(Int×List Pc×List Pc)×List bk×List UInt8)=>[.int .i64 v.1.1,.ay (v.1.2.1.map Pc.enc),.ay (v.1.2.2.map Pc.enc),.ay (v.2.1.map bk.enc),.str v.2.2]) (fun v=>(mH v.1.2.1/\mH v.1.2.2)/\(v.2.1.length<=100000/\iG v.2.1)/\v.2.2.length<=9223372036854775807) (fun v=> .ay ((kK v.1.1 v.1.2.1 v.1.2.2 v.2.1 v.2.2).map aF.enc)))
theorem Qz:aN Tryz.prog LY:=P17g_ok.dH Tryz.func157 (by kernel_rfl) (by kernel_rfl) fun v h=>Qy v.1.1 v.1.2.1 v.1.2.2 v.2.1 v.2.2 h.1.1 h.1.2 h.2.1.1 h.2.1.2 h.2.2
@[go_sem] theorem P17h_old{g:FuncId}{xs:List A}(h:g≠157):LY.f g xs=XR.f g xs:=aW.aU h
theorem Fp(v:(Int×List Pc×List Pc)×List bk×List UInt8)(h:(mH v.1.2.1/\mH v.1.2.2)/\(v.2.1.length<=100000/\iG v.2.1)/\v.2.2.length<=9223372036854775807):LY.f 157 [.int .i64 v.1.1,.ay (v.1.2.1.map Pc.enc),.ay (v.1.2.2.map Pc.enc),.ay (v.2.1.map bk.enc),.str v.2.2]=some (.ay ((kK v.1.1 v.1.2.1 v.1.2.2 v.2.1 v.2.2).map aF.enc)):=aW.aZ (Γ:=XR) (fun i j h=>by simpa[ag,and_assoc]using h) v h
theorem N3{k:List Pc}{x:List UInt8}{n c:Int}(h:eK k)(hx:x.length<=9223372036854775807):C1.f 99 [.ay (k.map Pc.enc),.str x,.agg [.int .i64 n,.int .i64 c]]=some (.bool (dq k x n c)):=LX (k,x,n,c) ⟨h,hx⟩
theorem zC{k:List Pc}{x:List UInt8}{n c:Int}(h:eK k)(hx:x.length<=9223372036854775807):Bh.f 74 [.ay (k.map Pc.enc),.str x,.agg [.int .i64 n,.int .i64 c]]=some (.bool (dq k x n c)):=Ji (k,x,n,c) ⟨h,hx⟩
theorem p_rLong{k:List Pc}{m:Int}(h:k.length<=9223372036854775807)(h': ∀p∈k,p.s.length<=9223372036854775807):XP.f 64 [.ay (k.map Pc.enc),.int .i64 m]=some (.bool (qz k m)):=Fm (k,m) ⟨h,h'⟩
theorem Z5{a b:List Pc}(ha:eK a)(hb:eK b):XQ.f 86 [.ay (a.map Pc.enc),.ay (b.map Pc.enc)]=some (.bool (fb a b)):=Fo (a,b) ⟨ha,hb⟩
theorem Z6{k:List Pc}(h:eK k):XR.f 156 [.ay (k.map Pc.enc)]=some (.ay ((fm k).map bk.enc)):=C2 k h
theorem p_What{op:Int}{a b:List Pc}{l:List bk}{x:List UInt8}(ha:mH a)(hb:mH b)(hl:l.length<=100000)(vv:iG l)(hx:x.length<=9223372036854775807):LY.f 157 [.int .i64 op,.ay (a.map Pc.enc),.ay (b.map Pc.enc),.ay (l.map bk.enc),.str x]=some (.ay ((kK op a b l x).map aF.enc)):=Fp ((op,a,b),l,x) ⟨⟨ha,hb⟩,⟨hl,vv⟩,hx⟩
theorem edg4(op:Int)(a b:List Pc)(l:List bk):Po (kK op a b l) (nH (fm a) (fm b++l)):=Gp (m:=fm a++(fm b++l)) (Ny _ _) (HN _ _) (AO _ _) (fun r hr h=>zd _ _ r hr h) (fun x=>by
 unfold kK;split
 · exact CY _ _ _
 · split
   · exact CY _ _ _
   · unfold c7;split
     · exact ic _ _
     · rfl) fun x e h=>by
 have h1:=wW (k:=a) (x:=x) (e:=e) fun r hr=>h r (by simp only[aJ];exact .inl hr)
 have h2:=wW (k:=b) (x:=x) (e:=e) fun r hr=>h r (by simp only[aJ];exact .inr (.inl hr))
 have h3:=wX (l:=l) (x:=x) (e:=e) fun r hr=>h r (by simp only[aJ];exact .inr (.inr hr))
 unfold kK c7;rw[h1,h2,h3]
theorem XS{op:Int}{a b:List Pc}{l:List bk}(ha:mH a)(hb:mH b)(x:List UInt8):bI (kK op a b l x):=by
 have h1:=I8 (setAt a x)
 have h2:=I8 (setAt b x)
 have h3:=ha.2.1 x;have h4:=hb.2.1 x;unfold kK;split
 · have:=opK_w 1 (fF a x) (fF b x);unfold fF at*;exact⟨by omega,by omega⟩
 · split
   · have:=opK_w 3 (fF a x) (fF b x);unfold fF at*;exact⟨by omega,by omega⟩
   · unfold c7;split
     · unfold fF;exact⟨by omega,by omega⟩
     · exact⟨by simp,by simp[dt]⟩
def M15:aW:={LY with sg:=fun f=>f==81,xk:=fun f=>f==81}
theorem M15_ok:aN Tryz.prog M15:=⟨Qz.f,Qz.hp⟩
@[go_sem] theorem M15_f:M15.f=LY.f:=rfl
@[go_sem] theorem M15_eff{g:FuncId}:M15.sg g=(g==81):=rfl
@[go_sem] theorem M15_frz{g:FuncId}:M15.xk g=(g==81):=rfl
@[go_sem] theorem M15_fix{n:Nat}:M15.fix n=false:=rfl
@[go_sem] theorem M15_ords{n:Nat}:M15.fS n=[]:=rfl
theorem UG{k:List Pc}(h:eK k):iG (fm k)/\(fm k).length=k.length:=⟨fun r hr=>by obtain⟨p,hp,rfl⟩:=bZ.1 hr;exact h.2 p hp,by simp[fm]⟩
theorem stG(l:List bk):((l.map bk.enc).isEmpty||eV (l.map bk.enc)==3)=true:=by cases l<;>rfl
theorem LZ:aQ Tryz.prog M15 Tryz.f100.ntmps (Tryz.f100.body.getD .skip)=true:=by kernel_rfl
theorem QA(op:Int)(a b:List Pc)(l:List bk)(ha:mH a)(hb:mH b)(hal:a.length<=500)(hbl:b.length<=500)(hl:l.length<=500)(vv:iG l):
 bp Tryz.prog 100 [.int .i64 op,.ay (a.map Pc.enc),.ay (b.map Pc.enc),.ay (l.map bk.enc)] (· = .ay ((cF (kK op a b l)).map Pc.enc)):=by
 refine ah M15_ok mixed Tryz.func100 rfl (ab rfl) LZ ?_;unfold Tryz.f100;have hE:=edg4 op a b l;have Fe:=fun x=>XS (op:=op) (l:=l) ha hb x;have s1:=Z6 ha.1;have s2:=Z6 hb.1;obtain⟨oa,la⟩:=UG ha.1;obtain⟨ob,lb⟩:=UG hb.1
 have ocut:iG (fm b++l):=fun r hr=>by
  rcases aJ.1 hr with hr|hr
  · exact ob r hr
  · exact vv r hr
 have he:=LH (a:=fm a) (b:=fm b++l) ⟨by omega,by rw[aj];omega⟩ oa ocut;have hel:=WL (fm a) (fm b++l)
 rw[aj]at hel;have hWh:=fun x (hx:x∈nH (fm a) (fm b++l))=>p_What (op:=op) (x:=x) ha hb (l:=l) (by omega) vv (by have:=hE.len x hx;omega)
 generalize nH (fm a) (fm b++l)=es at*;generalize kK op a b l=P at*;have st2:=stG (fm b)
 have st3:=stG l;have tl0:List.take (fm b).length ((fm b).map bk.enc)=(fm b).map bk.enc:=ad (by simp)
 have tl1:List.take ((fm b).length+l.length) ((fm b).map bk.enc++l.map bk.enc)=(fm b).map bk.enc++l.map bk.enc:=ad (by simp)
 rw[bz]at he;simp-implicitDefEqProofs (disch:=(first|omega|decide)) only[go_sem,↓reduceIte,seval,s1,s2,st2,st3,tl0,tl1,he,aa,cx,cr]
 refine⟨by omega,⟨ai _,by omega⟩,by simp, ?_⟩
 refine ch 11 4 rfl ?_;refine a_ [0,1,2,3,10] (ι:={k:Nat//k<=es.length}) (fun p=>[(12,.int .i64 p.1),(11,.row 2 0 4 (qN P es p.1).length false)]) (fun p=>[(2,.row 4 (iE (qN P es p.1)))]) (fun p=>es.length-p.1) ⟨0,by omega⟩ (aw _) ?_ ?_
 · simp-implicitDefEqProofs (disch:=(first|omega|decide)) only[go_sem,↓reduceIte,seval]
   simp[qN,iE]
 · rintro⟨k,hk⟩
   simp only;have xw:=AV P es k;by_cases bo:k<es.length
   · have aH:(k:Int)<(es.length:Int):=by omega
     have e1:=Bc bo;have hin:es[k]! ∈es:=by rw[getElem!_pos es k bo];exact ao _
     have Fh:=hWh _ hin;have H4:=(wD hE k (by omega)).1;have Bf:=wU P es k;have XI:=Fe (es[k]!)
     have NZ:=hE.right (es[k]!)
     have next: ∀m',qN P es (k+1)=m'-> ∃i:{k:Nat//k<=es.length},(((k:Int)+1=(i.1:Int)/\m'.length=(qN P es i.1).length)/\iE m'=iE (qN P es i.1))/\es.length-i.1<es.length-k:=fun m' h=>⟨⟨k+1,bo⟩,⟨⟨by simp,by rw[h]⟩,by rw[h]⟩,by show es.length-(k+1)<es.length-k;omega⟩
     have eO:qN P es (k+1)=if P (es[k]!)=[]then qN P es k else fi (qN P es k) ⟨p_ es k,P (es[k]!)⟩:=rfl
     generalize qN P es k=m at*;generalize hs:es[k]! =s at*;generalize hS:P s=S at*;by_cases hn:k+1<es.length
     · have pz:(k:Int)+1<(es.length:Int):=by omega
       have e2:=Bc hn;have c9:((k:Int)+1).toNat=k+1:=by omega
       have c8:(0:Int)<=(k:Int)+1:=by omega
       have hr:p_ es k=⟨s,es[k+1]!,false⟩:=by unfold p_;rw[if_pos hn,hs]
       rw[hr]at eO;cases uT:((S.length:Int)==0)with
       |true=>
        have hS00:(S.length:Int)=0:=by simpa using uT
        have XJ:S=[]:=aV.1 (by omega)
        rw[if_pos XJ]at eO;have fin:=next _ eO
        simp-implicitDefEqProofs (disch:=(first|omega|decide)) only[go_sem,↓reduceIte,seval,aH,e1,Fh,pz,e2,c9,c8,uT,wrap_i64,aa]
        exact fin
       |false=>
        have XJ:S≠ []:=fun e=>by rw[e]at uT;simp at uT
        rw[if_neg XJ]at eO;cases m with
        |nil=>
          have fin:=next _ eO
          simp only[fi,cV,p',bx,aG,bC]at fin;rw[p']
          simp-implicitDefEqProofs (maxSteps:=600000) (disch:=(first|omega|decide)) only[go_sem,↓reduceIte,seval,aH,e1,Fh,pz,e2,c9,c8,uT,wrap_i64,aa,bC]
          exact fin
        |cons q qs=>
          have Zt:c6 q.s=true:=by have:=H4 q (by simp);simp only[jc,ak]at this;exact this.2
          have hqs:bI q.s:=by obtain⟨e,he⟩:=Bf q (by simp);rw[he];exact Fe e
          obtain⟨⟨lh,jU,pY⟩,s'⟩:=q;simp only at Zt hqs;have jo:=qP hqs XI;have hml':qs.length+1<=k:=xw;have b0:(0:Int)<((qs.length+1:Nat):Int):=by omega
          have b1:(((qs.length+1:Nat):Int)-1).toNat=qs.length:=by omega
          have b2:(0:Int)<=((qs.length+1:Nat):Int)-1:=by omega
          have b3:((qs.length+1:Nat):Int)-1<((qs.length+1:Nat):Int):=by omega
          have g1: ∀x:A,(iE qs++[x])[qs.length]? =some x:=fun x=>by
           have:=Go.dF.mE (x:=x) (l:=iE qs)
           rwa [je]at this
          have g2: ∀x v:A,fE (iE qs++[x]) qs.length v=iE qs++[v]:=fun x v=>by
           have:=Go.dF.mF (x:=x) (v:=v) (l:=iE qs)
           rwa [je]at this
          have gl: ∀x:A,(iE qs++[x]).length=qs.length+1:=fun x=>by rw[aj,je];rfl
          have gt: ∀x:A,(iE qs++[x]).take (qs.length+1)=iE qs++[x]:=fun x=>ad (di (gl x))
          rw[cV]
          cases pY with
          |true=>
           have jE:fi (⟨⟨lh,jU,true⟩,s'⟩::qs) ⟨⟨s,es[k+1]!,false⟩,S⟩=⟨⟨s,es[k+1]!,false⟩,S⟩::⟨⟨lh,jU,true⟩,s'⟩::qs:=by simp[fi]
           have fin:=next _ eO
           rw[jE,cV,cV]at fin;simp-implicitDefEqProofs (maxSteps:=600000) (disch:=(first|omega|decide)) only[go_sem,↓reduceIte,seval,aH,e1,Fh,pz,e2,c9,c8,uT,b0,b1,b2,b3,g1,g2,gl,gt,wrap_i64,aa,aG,bG,aI]
           exact⟨⟨ai _,by omega⟩,fin⟩
          |false=>
           cases h1:jU==s with
           |false=>
            have jE:fi (⟨⟨lh,jU,false⟩,s'⟩::qs) ⟨⟨s,es[k+1]!,false⟩,S⟩=⟨⟨s,es[k+1]!,false⟩,S⟩::⟨⟨lh,jU,false⟩,s'⟩::qs:=by simp only[fi];rw[if_neg (by rw[h1];simp)]
            have fin:=next _ eO
            rw[jE,cV,cV]at fin;simp-implicitDefEqProofs (maxSteps:=600000) (disch:=(first|omega|decide)) only[go_sem,↓reduceIte,seval,aH,e1,Fh,pz,e2,c9,c8,uT,b0,b1,b2,b3,g1,g2,gl,gt,h1,wrap_i64,aa,aG,bm,aB]
            exact⟨⟨ai _,by omega⟩,fin⟩
           |true=>
            cases h2:dA s' S with
            |false=>
             have tE:s'≠S:=by simpa[dA]using h2
             rw[h2]at jo;have jE:fi (⟨⟨lh,jU,false⟩,s'⟩::qs) ⟨⟨s,es[k+1]!,false⟩,S⟩=⟨⟨s,es[k+1]!,false⟩,S⟩::⟨⟨lh,jU,false⟩,s'⟩::qs:=by simp only[fi];rw[if_neg (by simp[tE])]
             have fin:=next _ eO
             rw[jE,cV,cV]at fin;simp-implicitDefEqProofs (maxSteps:=600000) (disch:=(first|omega|decide)) only[go_sem,↓reduceIte,seval,aH,e1,Fh,pz,e2,c9,c8,uT,b0,b1,b2,b3,g1,g2,gl,gt,h1,jo,wrap_i64,aa,aG,bm,aB]
             exact⟨⟨ai _,by omega⟩,fin⟩
            |true=>
             have tE:s'=S:=by simpa[dA]using h2
             rw[h2]at jo;have jE:fi (⟨⟨lh,jU,false⟩,s'⟩::qs) ⟨⟨s,es[k+1]!,false⟩,S⟩=⟨⟨lh,es[k+1]!,false⟩,s'⟩::qs:=by simp only[fi];rw[if_pos (by simp[h1,tE])]
             have fin:=next _ eO
             rw[jE,cV]at fin;simp-implicitDefEqProofs (maxSteps:=600000) (disch:=(first|omega|decide)) only[go_sem,↓reduceIte,seval,aH,e1,Fh,pz,e2,c9,c8,uT,b0,b1,b2,b3,g1,g2,gl,gt,h1,jo,wrap_i64,aa,aG,bm,aB]
             exact fin
     · have pz: ¬(k:Int)+1<(es.length:Int):=by omega
       have hr:p_ es k=⟨s,[],true⟩:=by unfold p_;rw[if_neg hn,hs]
       rw[hr]at eO;cases uT:((S.length:Int)==0)with
       |true=>
        have hS00:(S.length:Int)=0:=by simpa using uT
        have XJ:S=[]:=aV.1 (by omega)
        rw[if_pos XJ]at eO;have fin:=next _ eO
        simp-implicitDefEqProofs (disch:=(first|omega|decide)) only[go_sem,↓reduceIte,seval,aH,e1,Fh,pz,uT,wrap_i64,aa]
        exact fin
       |false=>
        have XJ:S≠ []:=fun e=>by rw[e]at uT;simp at uT
        rw[if_neg XJ]at eO;cases m with
        |nil=>
          have fin:=next _ eO
          simp only[fi,cV,p',bx,aG,bC]at fin;rw[p']
          simp-implicitDefEqProofs (maxSteps:=600000) (disch:=(first|omega|decide)) only[go_sem,↓reduceIte,seval,aH,e1,Fh,pz,uT,wrap_i64,aa,bC]
          exact fin
        |cons q qs=>
          have Zt:c6 q.s=true:=by have:=H4 q (by simp);simp only[jc,ak]at this;exact this.2
          have hqs:bI q.s:=by obtain⟨e,he⟩:=Bf q (by simp);rw[he];exact Fe e
          obtain⟨⟨lh,jU,pY⟩,s'⟩:=q;simp only at Zt hqs;have jo:=qP hqs XI;have hml':qs.length+1<=k:=xw;have b0:(0:Int)<((qs.length+1:Nat):Int):=by omega
          have b1:(((qs.length+1:Nat):Int)-1).toNat=qs.length:=by omega
          have b2:(0:Int)<=((qs.length+1:Nat):Int)-1:=by omega
          have b3:((qs.length+1:Nat):Int)-1<((qs.length+1:Nat):Int):=by omega
          have g1: ∀x:A,(iE qs++[x])[qs.length]? =some x:=fun x=>by
           have:=Go.dF.mE (x:=x) (l:=iE qs)
           rwa [je]at this
          have g2: ∀x v:A,fE (iE qs++[x]) qs.length v=iE qs++[v]:=fun x v=>by
           have:=Go.dF.mF (x:=x) (v:=v) (l:=iE qs)
           rwa [je]at this
          have gl: ∀x:A,(iE qs++[x]).length=qs.length+1:=fun x=>by rw[aj,je];rfl
          have gt: ∀x:A,(iE qs++[x]).take (qs.length+1)=iE qs++[x]:=fun x=>ad (di (gl x))
          rw[cV]
          cases pY with
          |true=>
           have jE:fi (⟨⟨lh,jU,true⟩,s'⟩::qs) ⟨⟨s,[],true⟩,S⟩=⟨⟨s,[],true⟩,S⟩::⟨⟨lh,jU,true⟩,s'⟩::qs:=by simp[fi]
           have fin:=next _ eO
           rw[jE,cV,cV]at fin;simp-implicitDefEqProofs (maxSteps:=600000) (disch:=(first|omega|decide)) only[go_sem,↓reduceIte,seval,aH,e1,Fh,pz,uT,b0,b1,b2,b3,g1,g2,gl,gt,wrap_i64,aa,aG,bG,aI]
           exact⟨⟨ai _,by omega⟩,fin⟩
          |false=>
           cases h1:jU==s with
           |false=>
            have jE:fi (⟨⟨lh,jU,false⟩,s'⟩::qs) ⟨⟨s,[],true⟩,S⟩=⟨⟨s,[],true⟩,S⟩::⟨⟨lh,jU,false⟩,s'⟩::qs:=by simp only[fi];rw[if_neg (by rw[h1];simp)]
            have fin:=next _ eO
            rw[jE,cV,cV]at fin;simp-implicitDefEqProofs (maxSteps:=600000) (disch:=(first|omega|decide)) only[go_sem,↓reduceIte,seval,aH,e1,Fh,pz,uT,b0,b1,b2,b3,g1,g2,gl,gt,h1,wrap_i64,aa,aG,bm,aB]
            exact⟨⟨ai _,by omega⟩,fin⟩
           |true=>
            cases h2:dA s' S with
            |false=>
             have tE:s'≠S:=by simpa[dA]using h2
             rw[h2]at jo;have jE:fi (⟨⟨lh,jU,false⟩,s'⟩::qs) ⟨⟨s,[],true⟩,S⟩=⟨⟨s,[],true⟩,S⟩::⟨⟨lh,jU,false⟩,s'⟩::qs:=by simp only[fi];rw[if_neg (by simp[tE])]
             have fin:=next _ eO
             rw[jE,cV,cV]at fin;simp-implicitDefEqProofs (maxSteps:=600000) (disch:=(first|omega|decide)) only[go_sem,↓reduceIte,seval,aH,e1,Fh,pz,uT,b0,b1,b2,b3,g1,g2,gl,gt,h1,jo,wrap_i64,aa,aG,bm,aB]
             exact⟨⟨ai _,by omega⟩,fin⟩
            |true=>
             have tE:s'=S:=by simpa[dA]using h2
             rw[h2]at jo;have jE:fi (⟨⟨lh,jU,false⟩,s'⟩::qs) ⟨⟨s,[],true⟩,S⟩=⟨⟨lh,[],true⟩,s'⟩::qs:=by simp only[fi];rw[if_pos (by simp[h1,tE])]
             have fin:=next _ eO
             rw[jE,cV]at fin;simp-implicitDefEqProofs (maxSteps:=600000) (disch:=(first|omega|decide)) only[go_sem,↓reduceIte,seval,aH,e1,Fh,pz,uT,b0,b1,b2,b3,g1,g2,gl,gt,h1,jo,wrap_i64,aa,aG,bm,aB]
             exact fin
   · have aH: ¬(k:Int)<(es.length:Int):=by omega
     obtain rfl:k=es.length:=by omega
     have nn:=(sI hE).1;have nr:iE (qN P es es.length)=(cF P).map Pc.enc:=by unfold iE;rw[nn]
     have tk:List.take (qN P es es.length).length (iE (qN P es es.length))=iE (qN P es es.length):=ad (by rw[je];exact ai _)
     have RT:=je (qN P es es.length)
     simp-implicitDefEqProofs (disch:=(first|omega|decide)) only[go_sem,↓reduceIte,seval,aH,tk,RT,wrap_i64,aa]
     rw[<-nr]
     exact⟨ai _,rfl⟩
def C3:aW:=LY.add 100 (entry (fun(v:(Int×List Pc×List Pc)×List bk)=>[.int .i64 v.1.1,.ay (v.1.2.1.map Pc.enc),.ay (v.1.2.2.map Pc.enc),.ay (v.2.map bk.enc)]) (fun v=>(mH v.1.2.1/\mH v.1.2.2)/\(v.1.2.1.length<=500/\v.1.2.2.length<=500/\v.2.length<=500)/\iG v.2) (fun v=> .ay ((cF (kK v.1.1 v.1.2.1 v.1.2.2 v.2)).map Pc.enc)))
theorem uW:aN Tryz.prog C3:=Qz.dH Tryz.func100 (by kernel_rfl) (by kernel_rfl) fun v h=>QA v.1.1 v.1.2.1 v.1.2.2 v.2 h.1.1 h.1.2 h.2.1.1 h.2.1.2.1 h.2.1.2.2 h.2.2
@[go_sem] theorem P17i_old{g:FuncId}{xs:List A}(h:g≠100):C3.f g xs=LY.f g xs:=aW.aU h
@[go_sem] theorem P17i_s:C3.pl LY:=⟨fun _=>rfl,fun _=>rfl,rfl,fun _=>rfl,rfl,fun _=>rfl,rfl⟩
theorem Fq(v:(Int×List Pc×List Pc)×List bk)(h:(mH v.1.2.1/\mH v.1.2.2)/\(v.1.2.1.length<=500/\v.1.2.2.length<=500/\v.2.length<=500)/\iG v.2):C3.f 100 [.int .i64 v.1.1,.ay (v.1.2.1.map Pc.enc),.ay (v.1.2.2.map Pc.enc),.ay (v.2.map bk.enc)]=some (.ay ((cF (kK v.1.1 v.1.2.1 v.1.2.2 v.2)).map Pc.enc)):=aW.aZ (Γ:=LY) (fun i j h=>by simpa[ag,and_assoc]using h) v h
theorem XT{op:Int}{a b:List Pc}{l:List bk}(ha:mH a)(hb:mH b)(hl:a.length<=500/\b.length<=500/\l.length<=500)(vv:iG l):C3.f 100 [.int .i64 op,.ay (a.map Pc.enc),.ay (b.map Pc.enc),.ay (l.map bk.enc)]=some (.ay ((cF (kK op a b l)).map Pc.enc)):=Fq ((op,a,b),l) ⟨⟨ha,hb⟩,hl,vv⟩
theorem okR_nil:mH []:=ZU ⟨⟨by simp,by simp[wP]⟩,fun p hp=>by cases hp⟩ (by simp[wP])
theorem L3:aQ Tryz.prog C3 Tryz.f48.ntmps (Tryz.f48.body.getD .skip)=true:=by kernel_rfl
theorem QB(a b:List Pc)(ha:mH a)(hb:mH b)(hal:a.length<=500)(hbl:b.length<=500):bp Tryz.prog 48 [.ay (a.map Pc.enc),.ay (b.map Pc.enc)] (· = .ay ((cF (kK 1 a b [])).map Pc.enc)):=by refine ah uW mixed Tryz.func48 rfl (ab rfl) L3 ?_;unfold Tryz.f48;have h:=XT (op:=1) ha hb ⟨hal,hbl,by simp⟩ P7;simp only[bD]at h;simp-implicitDefEqProofs (disch:=(first|omega|decide)) only[go_sem,↓reduceIte,seval,h]
theorem L4:aQ Tryz.prog C3 Tryz.f67.ntmps (Tryz.f67.body.getD .skip)=true:=by kernel_rfl
theorem QC(a b:List Pc)(ha:mH a)(hb:mH b)(hal:a.length<=500)(hbl:b.length<=500):bp Tryz.prog 67 [.ay (a.map Pc.enc),.ay (b.map Pc.enc)] (· = .ay ((cF (kK 2 a b [])).map Pc.enc)):=by refine ah uW mixed Tryz.func67 rfl (ab rfl) L4 ?_;unfold Tryz.f67;have h:=XT (op:=2) ha hb ⟨hal,hbl,by simp⟩ P7;simp only[bD]at h;simp-implicitDefEqProofs (disch:=(first|omega|decide)) only[go_sem,↓reduceIte,seval,h]
theorem Bi:aQ Tryz.prog C3 Tryz.f90.ntmps (Tryz.f90.body.getD .skip)=true:=by kernel_rfl
theorem C4(a:List Pc)(l:List bk)(ha:mH a)(hal:a.length<=500)(hl:l.length<=500)(vv:iG l):bp Tryz.prog 90 [.ay (a.map Pc.enc),.ay (l.map bk.enc)] (· = .ay ((cF (kK 3 a [] l)).map Pc.enc)):=by refine ah uW mixed Tryz.func90 rfl (ab rfl) Bi ?_;unfold Tryz.f90;have h:=XT (op:=3) ha okR_nil ⟨hal,by simp,hl⟩ vv;simp only[bD]at h;simp-implicitDefEqProofs (disch:=(first|omega|decide)) only[go_sem,↓reduceIte,seval,h]
def eR(x:List UInt8)(l:List eU):List Pc:=if decide (1<=x.length/\x.length<=16)=true/\iO (f_ l)≠ []then [⟨sj x,iO (f_ l)⟩]else []
theorem QD:aQ Tryz.prog C3 Tryz.f102.ntmps (Tryz.f102.body.getD .skip)=true:=by kernel_rfl
theorem UH(x:List UInt8)(l:List eU)(hx:x.length<=9223372036854775807)(hl:l.length<=50000):bp Tryz.prog 102 [.str x,.ay (l.map eU.enc)] (· = .ay ((eR x l).map Pc.enc)):=by
 refine ah uW mixed Tryz.func102 rfl (ab rfl) QD ?_;unfold Tryz.f102;have h:=l_rAdd (s:=[]) (l:=l) PS (by have:dt []=0:=rfl;omega)
 simp only[bx,bD]at h;unfold eR;cases h1:decide (1<=x.length/\x.length<=16)with
 |false=>simp-implicitDefEqProofs (disch:=(first|omega|decide)) only[go_sem,↓reduceIte,seval,h,h1,az,false_and,bD]
 |true=>
  cases h2:(((iO (f_ l)).length:Int)==0)with
  |true=>
   have h20:((iO (f_ l)).length:Int)=0:=by simpa using h2
   have tE:iO (f_ l)=[]:=aV.1 (by omega)
   simp-implicitDefEqProofs (disch:=(first|omega|decide)) only[go_sem,↓reduceIte,seval,h,h1,h2,tE,aa,ne_eq,not_true_eq_false,and_false,bD]
  |false=>
   have tE:iO (f_ l)≠ []:=fun e=>by rw[e]at h2;simp at h2
   have hre:(sj x).enc= .agg [.str (sj x).lo,.str (sj x).hi,.bool (sj x).op]:=rfl;have VH:([⟨sj x,iO (f_ l)⟩]:List Pc).map Pc.enc=[.agg [.str (sj x).lo,.str (sj x).hi,.bool (sj x).op,.ay ((iO (f_ l)).map aF.enc)]]:=rfl;rw[if_pos ⟨rfl,tE⟩,VH]
   simp-implicitDefEqProofs (disch:=(first|omega|decide)) only[go_sem,↓reduceIte,seval,h,h1,h2,hre,aa]
theorem QE{l:List eU}{n c:Int}:aX (bJ (f_ l) n) c=true ↔ ⟨n,c⟩∈l/\cm ⟨n,c⟩=true:=by
 induction l with
 |nil=>simp[f_,bJ,aX]
 |cons v l ih=>
  have e:f_ (v::l)=f_ [v]++f_ l:=by rw[<-wI];rfl
  rw[e,iD,lj,bE,ih]
  obtain⟨r,d⟩:=v
  have h1:aX (bJ (f_ [⟨r,d⟩]) n) c=true ↔ (⟨n,c⟩:eU)=⟨r,d⟩/\cm ⟨n,c⟩=true:=by
   cases hv:cm ⟨r,d⟩with
   |false=>
    have:f_ [⟨r,d⟩]=[]:=by unfold f_;simp[hv]
    rw[this]
    simp only[bJ,xF,az,false_iff,not_and]
    intro e;rw[e,hv];simp
   |true=>
    have:f_ [⟨r,d⟩]=[⟨r,[⟨d,d⟩]⟩]:=by unfold f_;simp[hv]
    rw[this]
    simp only[bJ,bj]
    have hd:1<=d/\d<=1099511627776:=by simp only[cm,ak,decide_eq_true_iff]at hv;omega
    by_cases hr:r=n
    · subst hr
      rw[if_pos rfl,jj]
      constructor
      · rintro⟨q,hq,_,h2,h3⟩
        simp only[bc]at hq;subst hq;simp only at h2 h3;obtain rfl:c=d:=by omega
        exact⟨rfl,hv⟩
      · rintro⟨e,_⟩
        injection e with _ e
        subst e;exact⟨⟨c,c⟩,by simp,fH.2 ⟨hd.1,cT _,hd.2⟩,cT _,cT _⟩
    · rw[if_neg hr,xF]
      simp only[az,eU.mk.injEq,false_iff,not_and]
      intro⟨e,_⟩;exact absurd e.symm hr
  rw[h1,aD]
  constructor
  · rintro(⟨a,b⟩|⟨a,b⟩)
    · exact⟨.inl a,b⟩
    · exact⟨.inr a,b⟩
  · rintro⟨a|a,b⟩
    · exact .inl ⟨a,b⟩
    · exact .inr ⟨a,b⟩
theorem XU{l:List eU}{v:eU}:v∈jN l ↔ v∈l/\cm v=true:=by
 unfold jN;rw[rn]
 rw[(i_ swoV (l.filter cm)).1.mem_iff,aP]
theorem XV(l:List eU):iO (f_ (jN l))=iO (f_ l):=zn.2 fun n hn c=>by
 unfold hk;rw[bS,QE,QE,XU]
 exact⟨fun⟨⟨a,b⟩,_⟩=>⟨a,b⟩,fun⟨a,b⟩=>⟨⟨a,b⟩,b⟩⟩
theorem XW(l:List eU):(jN l).length<=l.length:=by
 unfold jN;have h1:=xO (gZ lL (l.filter cm))
 have h2:=(i_ swoV (l.filter cm)).1.length_eq;have h3:=aO cm l;omega
def D15:aW:={C3 with fS:=fun n=>if n=5 then [[999999,0]]else []}
theorem D15_ok:aN Tryz.prog D15:=⟨uW.f,uW.hp⟩
@[go_sem] theorem D15_f:D15.f=C3.f:=rfl
@[go_sem] theorem D15_eff{g:FuncId}:D15.sg g=false:=rfl
@[go_sem] theorem D15_ords5:D15.fS 5=[[999999,0]]:=rfl
@[go_sem] theorem D15_ords{n:Nat}(h:n≠5):D15.fS n=[]:=if_neg h
theorem UI:aQ Tryz.prog D15 Tryz.f85.ntmps (Tryz.f85.body.getD .skip)=true:=by kernel_rfl
theorem XX(k:List Pc)(x:List UInt8)(l:List eU)(hk:eK k)(hx:x.length<=9223372036854775807)(hl:l.length<=50000)(M9:eK (k++eR x l)):bp Tryz.prog 85 [.ay (k.map Pc.enc),.str x,.ay (l.map eU.enc)] (· = .ay ((cF (fF (k++eR x l))).map Pc.enc)):=by
 refine ah D15_ok mixed Tryz.func85 rfl (ab rfl) UI ?_;unfold Tryz.f85;have vz:=XW l;have h0:=Us (l:=l) (by omega)
 have h:=l_Add (s:=[]) (l:=jN l) PS.1 (by have:dt []=0:=rfl;omega)
 rw[bx,XV]at h;simp only[bD]at h;have hJ:=Z2 M9;unfold eR at hJ⊢;cases h1:decide (1<=x.length/\x.length<=16)with
 |false=>
  rw[h1]at hJ;simp only[az,false_and,if_false,bD]at hJ;simp-implicitDefEqProofs (disch:=(first|omega|decide)) only[go_sem,↓reduceIte,seval,h0,h,h1,hJ,az,false_and,aa]
 |true=>
  rw[h1]at hJ;by_cases h2:(0:Int)<((iO (f_ l)).length:Int)
  · have tE:iO (f_ l)≠ []:=fun e=>by rw[e]at h2;simp at h2
    rw[if_pos ⟨rfl,tE⟩]at hJ⊢;have hre:(sj x).enc= .agg [.str (sj x).lo,.str (sj x).hi,.bool (sj x).op]:=rfl;have VH:([⟨sj x,iO (f_ l)⟩]:List Pc).map Pc.enc=[.agg [.str (sj x).lo,.str (sj x).hi,.bool (sj x).op,.ay ((iO (f_ l)).map aF.enc)]]:=rfl;rw[VH]at hJ;simp-implicitDefEqProofs (disch:=(first|omega|decide)) only[go_sem,↓reduceIte,seval,h0,h,h1,h2,hre,hJ,aa]
  · have tE:iO (f_ l)=[]:=aV.1 (by omega)
    rw[if_neg (fun e=>e.2 tE)]at hJ⊢;simp only[bD]at hJ;simp-implicitDefEqProofs (disch:=(first|omega|decide)) only[go_sem,↓reduceIte,seval,h0,h,h1,h2,hJ,aa]
theorem rp{s t:List aF}(h:c6 s=true)(h':c6 t=true)(e: ∀n,dJ n=true-> ∀c,hk s n c=hk t n c):s=t:=by rw[<-fQ h,<-fQ h'];exact zn.2 e
theorem pK(s t:List aF)(n c:Int):hk (s++t) n c=(hk s n c||hk t n c):=by unfold hk;rw[iD,lj]
theorem oV{k:List Pc}{x:List UInt8}{n:Int}(h:dJ n=true)(c:Int):hk (fF k x) n c=hk (setAt k x) n c:=IF h c
theorem wY{k:List Pc}{l:List bk}{x:List UInt8}{n:Int}(h:dJ n=true)(c:Int):hk (c7 k l x) n c=(bh l x&&hk (setAt k x) n c):=by
 unfold c7;cases bh l x with
 |true=>rw[if_pos rfl,oV h];rfl
 |false=>rw[if_neg (by simp)];rfl
theorem g_{P:List UInt8->List aF}(h:IsP P)(x:List UInt8):setAt (cF P) x=P x:=by
 have hr:=km P;have gw:=(iZ.1 hr).1;have hs:=NH h x;by_cases hP:P x=[]
 · rw[hP]
   unfold setAt
   rw[cy.2 (fun p hp hx=>by
    have:=(hs p.s).1 ((AU gw).2 ⟨p,hp,hx,rfl⟩)
    exact this.2 (by rw[<-this.1];exact hP))];rfl
 · obtain⟨p,hp,hx,hps⟩:=(AU gw).1 ((hs (P x)).2 ⟨rfl,hP⟩)
   rw[wC hr hp hx];exact hps
theorem Jj{P:List UInt8->List aF}(h:IsP P)(hr: ∀x,c6 (P x)=true):fF (cF P)=P:=by
 funext x
 unfold fF;rw[g_ h];exact fQ (hr x)
theorem UJ{P Q:List UInt8->List aF}(h:IsP P)(h':IsP Q):cF P=cF Q ↔ P=Q:=by
 constructor
 · intro e
   funext x
   rw[<-g_ h,<-g_ h',e]
 · intro e;rw[e]
theorem setP_none{P:List UInt8->List aF}(h: ∀x,P x=[]):cF P=[]:=(Pn (k:=[]) rfl fun x l=>by
 constructor
 · intro hs;exact absurd hs Iv.sH
 · rintro⟨h1,h2⟩;rw[h]at h1;exact absurd h1.symm h2).symm
theorem zD(k:List Pc):IsP (fF k):=(sI (edg1 k)).2
theorem ny(k:List Pc)(l:List bk):IsP (c7 k l):=(sI (edg3 k l)).2
theorem zF(k:List Pc)(l:List bk)(x:List UInt8):c6 (c7 k l x)=true:=by
 unfold c7;split
 · exact ic _ _
 · rfl
theorem at_ext{a b:List Pc}(h: ∀x n,dJ n=true-> ∀c,hk (setAt a x) n c=hk (setAt b x) n c):fF a=fF b:=by
 funext x
 exact zn.2 (h x)
theorem what_join(a b:List Pc):kK 1 a b []=fF (a++b):=by
 funext x
 unfold kK;rw[if_pos rfl]
 refine rp (CY _ _ _) (ic _ _) fun n hn c=> ?_;rw[hk_op hn,oV hn,oV hn,oV hn,lk,pK];rfl
theorem what_rest(a:List Pc)(l:List bk):kK 3 a [] l=c7 a l:=by
 funext x;unfold kK;rw[if_neg (by decide),if_neg (by decide)]
theorem Jk(a:List Pc)(l:List bk):c7 a (iC (bh l))=c7 a l:=by
 funext x;unfold c7;rw[AP]
theorem Jl{P:List UInt8->List aF}{es:List (List UInt8)}(hE:Po P es){B:Nat}(hB: ∀x,(P x).length+dt (P x)<=B){N:Nat}(hN:es.length<=N)(hm:N*B<=900000)(WV:N<=10000):
 eK (cF P)/\(cF P).length<=N/\wP (cF P)<=N*B:=by
 have nn:=(sI hE).1;have hlen:=AV P es es.length;have gw:=(wD hE es.length (ai _)).1;have Bf:=wU P es es.length;rw[<-nn]
 generalize qN P es es.length=m at*
 have hw: ∀m:List Pc,(∀p∈m,∃e,p.s=P e)->wP m<=m.length*B:=fun m=>by
  induction m with
  |nil=>intro _;simp[wP]
  |cons p m ih=>
   intro h;have h1:=ih fun q hq=>h q (by simp[hq])
   obtain⟨e,he⟩:=h p (by simp)
   have h2:=hB e;rw[<-he]at h2;rw[uS,aG,lM];omega
 have h1:=hw m.reverse fun p hp=>Bf p (kD.1 hp)
 rw[er]at h1;have h2:m.length*B<=N*B:=cB B (by omega)
 refine⟨⟨⟨by rw[er];omega,by omega⟩,fun p hp=> ?_⟩,by rw[er];omega,by omega⟩
 have:=gw p (kD.1 hp)
 simp only[jc,ak]at this;obtain⟨k1,k2,_,_⟩:=fy this.1.1;omega
theorem at_w{k:List Pc}(x:List UInt8):(fF k x).length+dt (fF k x)<=16+wP k:=by
 have h1:=I8 (setAt k x)
 have h2:=qT k x;unfold fF;omega
theorem rest_w{k:List Pc}{l:List bk}(x:List UInt8):(c7 k l x).length+dt (c7 k l x)<=16+wP k:=by
 unfold c7;split
 · exact at_w x
 · simp[dt]
theorem okP_rest{a:List Pc}{l:List bk}{N M W:Nat}(h1:a.length<=N)(h2:l.length<=M)(h3:wP a<=W)(hm:(1+2*(N+M))*(16+W)<=900000)(hN:N+M<=1000):
 eK (cF (c7 a l))/\(cF (c7 a l)).length<=1+2*(N+M)/\wP (cF (c7 a l))<=(1+2*(N+M))*(16+W):=by
 have hl:=nL (LL:=[a,nN l []])
 simp only[sn,aS,bD,cS,ja]at hl;have e:(nN l []).length=l.length:=by simp[nN]
 exact Jl (edg3 a l) (B:=16+W) (fun x=>by have:=rest_w (k:=a) (l:=l) x;omega) (N:=1+2*(N+M)) (by omega) hm (by omega)
theorem rY{a b:List Pc}(ha:eK a)(hb:eK b)(h1:a.length+b.length<=10000)(h2:wP a+wP b<=900000):eK (a++b):=⟨⟨by rw[aj];exact h1,by rw[NY];exact h2⟩,fun p hp=>by
 rcases aJ.1 hp with h|h
 · exact ha.2 p h
 · exact hb.2 p h⟩
theorem UK{k:List Pc}{m:Nat}(h:qz k m=false):k.length<=m/\wP k<=m*272/\ ∀p∈k,p.r.lo.length<=40/\p.r.hi.length<=40:=by
 unfold qz at h;rw[dm,iL]at h;obtain⟨h1,h2⟩:=h;have sX:k.length<=m:=by have:=of_decide_eq_false h1;omega
 have h3: ∀p∈k,(p.r.lo.length<=40/\p.r.hi.length<=40)/\p.s.length+dt p.s<=272:=fun p hp=>by have:=h2 p hp;simp only[Jg,dI,dm,decide_eq_false_iff_not]at this;obtain⟨a,b,c⟩:=this;have:=IE (m:=16) c;omega
 have hw: ∀k:List Pc,(∀p∈k,p.s.length+dt p.s<=272)->wP k<=k.length*272:=fun k=>by
  induction k with
  |nil=>intro _;simp[wP]
  |cons p k ih=>
   intro h;have a:=ih fun q hq=>h q (by simp[hq])
   have b:=h p (by simp)
   rw[uS,aG,lM];omega
 have:=hw k fun p hp=>(h3 p hp).2;have h4:k.length*272<=m*272:=cB _ sX;exact⟨sX,by omega,fun p hp=>(h3 p hp).1⟩
theorem okR_of{k:List Pc}{m:Nat}(h:k.length<=m/\wP k<=m*272/\ ∀p∈k,p.r.lo.length<=40/\p.r.hi.length<=40)(hm:m<=100):mH k:=by obtain⟨h1,h2,h3⟩:=h;exact ZU ⟨⟨by omega,by omega⟩,fun p hp=>by have:=h3 p hp;omega⟩ (by omega)
def L15a:aW:=C3
theorem L15a_ok:aN Tryz.prog L15a:=uW
@[go_sem] theorem L15a_old{g:FuncId}{xs:List A}:L15a.f g xs=C3.f g xs:=rfl
def QF:aW:=L15a.add 48 (entry (fun(v:List Pc×List Pc)=>[.ay (v.1.map Pc.enc),.ay (v.2.map Pc.enc)]) (fun v=>(mH v.1/\mH v.2)/\v.1.length<=500/\v.2.length<=500) (fun v=> .ay ((cF (kK 1 v.1 v.2 [])).map Pc.enc)))
theorem L15b_ok:aN Tryz.prog QF:=L15a_ok.dH Tryz.func48 (by kernel_rfl) (by kernel_rfl) fun v h=>QB v.1 v.2 h.1.1 h.1.2 h.2.1 h.2.2
@[go_sem] theorem L15b_old{g:FuncId}{xs:List A}(h:g≠48):QF.f g xs=L15a.f g xs:=aW.aU h
theorem Fs(v:List Pc×List Pc)(h:(mH v.1/\mH v.2)/\v.1.length<=500/\v.2.length<=500):QF.f 48 [.ay (v.1.map Pc.enc),.ay (v.2.map Pc.enc)]=some (.ay ((cF (kK 1 v.1 v.2 [])).map Pc.enc)):=aW.aZ (Γ:=L15a) (fun i j h=>by simpa[ag,and_assoc]using h) v h
def L15c:aW:=QF.add 67 (entry (fun(v:List Pc×List Pc)=>[.ay (v.1.map Pc.enc),.ay (v.2.map Pc.enc)]) (fun v=>(mH v.1/\mH v.2)/\v.1.length<=500/\v.2.length<=500) (fun v=> .ay ((cF (kK 2 v.1 v.2 [])).map Pc.enc)))
theorem L15c_ok:aN Tryz.prog L15c:=L15b_ok.dH Tryz.func67 (by kernel_rfl) (by kernel_rfl) fun v h=>QC v.1 v.2 h.1.1 h.1.2 h.2.1 h.2.2
@[go_sem] theorem L15c_old{g:FuncId}{xs:List A}(h:g≠67):L15c.f g xs=QF.f g xs:=aW.aU h
def XY:aW:=L15c.add 90 (entry (fun(v:List Pc×List bk)=>[.ay (v.1.map Pc.enc),.ay (v.2.map bk.enc)]) (fun v=>(mH v.1/\iG v.2)/\v.1.length<=500/\v.2.length<=500) (fun v=> .ay ((cF (kK 3 v.1 [] v.2)).map Pc.enc)))
theorem L15d_ok:aN Tryz.prog XY:=L15c_ok.dH Tryz.func90 (by kernel_rfl) (by kernel_rfl) fun v h=>C4 v.1 v.2 h.1.1 h.2.1 h.2.2 h.1.2
@[go_sem] theorem L15d_old{g:FuncId}{xs:List A}(h:g≠90):XY.f g xs=L15c.f g xs:=aW.aU h
theorem yb(v:List Pc×List bk)(h:(mH v.1/\iG v.2)/\v.1.length<=500/\v.2.length<=500):XY.f 90 [.ay (v.1.map Pc.enc),.ay (v.2.map bk.enc)]=some (.ay ((cF (kK 3 v.1 [] v.2)).map Pc.enc)):=aW.aZ (Γ:=L15c) (fun i j h=>by simpa[ag,and_assoc]using h) v h
def XZ:aW:=XY.add 102 (entry (fun(v:List UInt8×List eU)=>[.str v.1,.ay (v.2.map eU.enc)]) (fun v=>v.1.length<=9223372036854775807/\v.2.length<=50000) (fun v=> .ay ((eR v.1 v.2).map Pc.enc)))
theorem L15e_ok:aN Tryz.prog XZ:=L15d_ok.dH Tryz.func102 (by kernel_rfl) (by kernel_rfl) fun v h=>UH v.1 v.2 h.1 h.2
@[go_sem] theorem L15e_old{g:FuncId}{xs:List A}(h:g≠102):XZ.f g xs=XY.f g xs:=aW.aU h
theorem Jm(v:List UInt8×List eU)(h:v.1.length<=9223372036854775807/\v.2.length<=50000):XZ.f 102 [.str v.1,.ay (v.2.map eU.enc)]=some (.ay ((eR v.1 v.2).map Pc.enc)):=aW.aZ (Γ:=XY) (fun i j h=>by simpa[ag,and_assoc]using h) v h
def UL:aW:=XZ.add 85 (entry (fun(v:List Pc×List UInt8×List eU)=>[.ay (v.1.map Pc.enc),.str v.2.1,.ay (v.2.2.map eU.enc)]) (fun v=>(eK v.1/\eK (v.1++eR v.2.1 v.2.2))/\v.2.1.length<=9223372036854775807/\v.2.2.length<=50000) (fun v=> .ay ((cF (fF (v.1++eR v.2.1 v.2.2))).map Pc.enc)))
theorem L15f_ok:aN Tryz.prog UL:=L15e_ok.dH Tryz.func85 (by kernel_rfl) (by kernel_rfl) fun v h=>XX v.1 v.2.1 v.2.2 h.1.1 h.2.1 h.2.2 h.1.2
@[go_sem] theorem L15f_old{g:FuncId}{xs:List A}(h:g≠85):UL.f g xs=XZ.f g xs:=aW.aU h
theorem L5(v:List Pc×List UInt8×List eU)(h:(eK v.1/\eK (v.1++eR v.2.1 v.2.2))/\v.2.1.length<=9223372036854775807/\v.2.2.length<=50000):UL.f 85 [.ay (v.1.map Pc.enc),.str v.2.1,.ay (v.2.2.map eU.enc)]=some (.ay ((cF (fF (v.1++eR v.2.1 v.2.2))).map Pc.enc)):=aW.aZ (Γ:=XZ) (fun i j h=>by simpa[ag,and_assoc]using h) v h
theorem X0{a b:List Pc}(ha:mH a)(hb:mH b)(hl:a.length<=500/\b.length<=500):QF.f 48 [.ay (a.map Pc.enc),.ay (b.map Pc.enc)]=some (.ay ((cF (fF (a++b))).map Pc.enc)):=by
 have:=Fs (a,b) ⟨⟨ha,hb⟩,hl⟩
 simp only[what_join]at this;exact this
theorem zG{a:List Pc}{l:List bk}(ha:mH a)(ho:iG l)(hl:a.length<=500/\l.length<=500):XY.f 90 [.ay (a.map Pc.enc),.ay (l.map bk.enc)]=some (.ay ((cF (c7 a l)).map Pc.enc)):=by
 have:=yb (a,l) ⟨⟨ha,ho⟩,hl⟩
 simp only[what_rest]at this;exact this
theorem q_One{x:List UInt8}{l:List eU}(hx:x.length<=9223372036854775807)(hl:l.length<=50000):XZ.f 102 [.str x,.ay (l.map eU.enc)]=some (.ay ((eR x l).map Pc.enc)):=Jm (x,l) ⟨hx,hl⟩
theorem q_Add{k:List Pc}{x:List UInt8}{l:List eU}(hk:eK k)(M9:eK (k++eR x l))(hx:x.length<=9223372036854775807)(hl:l.length<=50000):UL.f 85 [.ay (k.map Pc.enc),.str x,.ay (l.map eU.enc)]=some (.ay ((cF (fF (k++eR x l))).map Pc.enc)):=L5 (k,x,l) ⟨⟨hk,M9⟩,hx,hl⟩
def L15g:aW:=UL
theorem L15g_ok:aN Tryz.prog L15g:=L15f_ok
@[go_sem] theorem L15g_old{g:FuncId}{xs:List A}:L15g.f g xs=UL.f g xs:=rfl
set_option maxHeartbeats 8000000
theorem L6(l:List bk)(m:Int)(hl:l.length<=9223372036854775807):bp Tryz.prog 71 [.ay (l.map bk.enc),.int .i64 m] (· = .bool (l8 l m)):=by
 refine ah kH mixed Tryz.func71 rfl (ab rfl) yE ?_;unfold Tryz.f71;by_cases h0:m<(l.length:Int)
 · have hh:l8 l m=true:=by simp[l8,h0]
   simp-implicitDefEqProofs (disch:=(first|omega|decide)) only[go_sem,↓reduceIte,seval,h0,hh,aa]
 · have hh:l8 l m=l.any fun r=>decide (40<r.lo.length)||decide (40<r.hi.length):=by simp[l8,h0]
   simp-implicitDefEqProofs (disch:=(first|omega|decide)) only[go_sem,↓reduceIte,seval,h0,aa]
   rw[hh]
   refine a_ [0] (ι:={k:Nat//k<=l.length/\(l.any fun r=>decide (40<r.lo.length)||decide (40<r.hi.length))=((l.drop k).any fun r=>decide (40<r.lo.length)||decide (40<r.hi.length))}) (fun p=>[(5,.int .i64 p.1),(4,.bool false)]) (fun _=>[]) (fun p=>l.length-p.1) ⟨0,by omega,rfl⟩ (aw _) ?_ ?_
   · simp-implicitDefEqProofs (disch:=(first|omega|decide)) only[go_sem,↓reduceIte,seval]
   · rintro⟨k,hk,hd⟩
     simp only;by_cases bo:k<l.length
     · have aH:(k:Int)<(l.length:Int):=by omega
       have e1:=im bo;rw[ax bo,cI]at hd;generalize hx:l[k]=x at*;obtain⟨lo,hi,op⟩:=x;simp only at hd;by_cases h1:40<lo.length
       · have sX:(40:Int)<(lo.length:Int):=by omega
         rw[decide_eq_true h1,cM,cM]at hd;simp-implicitDefEqProofs (disch:=(first|omega|decide)) only[go_sem,↓reduceIte,seval,aH,e1,sX,hd,wrap_i64,aa]
       · have sX: ¬(40:Int)<(lo.length:Int):=by omega
         by_cases h2:40<hi.length
         · have tE:(40:Int)<(hi.length:Int):=by omega
           rw[decide_eq_true h2,lD,cM]at hd;simp-implicitDefEqProofs (disch:=(first|omega|decide)) only[go_sem,↓reduceIte,seval,aH,e1,sX,tE,hd,wrap_i64,aa]
         · have tE: ¬(40:Int)<(hi.length:Int):=by omega
           rw[decide_eq_false h1,decide_eq_false h2,gi,bu]at hd;simp-implicitDefEqProofs (disch:=(first|omega|decide)) only[go_sem,↓reduceIte,seval,aH,e1,sX,tE,wrap_i64,aa]
           exact⟨⟨k+1,bo,hd⟩,by simp,by show l.length-(k+1)<l.length-k;omega⟩
     · have aH: ¬(k:Int)<(l.length:Int):=by omega
       rw[aC (by omega)]at hd;simp-implicitDefEqProofs (disch:=(first|omega|decide)) only[go_sem,↓reduceIte,seval,aH,hd,aa]
theorem long_len{l:List bk}{m:Int}(h:l8 l m=false): ¬m<(l.length:Int):=by unfold l8 at h;simp only[dm,decide_eq_false_iff_not]at h;exact h.1
theorem fits_rng8{x:List A}(h:fD [.str,.str,.bool] x): ∃r:bk,x=[.str r.lo,.str r.hi,.bool r.op]/\r.ok:=by have ml:=rf;simp only[fD,fits]at h;obtain⟨y1,z1,rfl,⟨s1,rfl,h1⟩,y2,z2,rfl,⟨s2,rfl,h2⟩,y3,z3,rfl,⟨b,rfl⟩,rfl⟩:=h;exact⟨⟨s1,s2,b⟩,rfl,aL h1 ml,aL h2 ml⟩
theorem fits_rngs{x:A}(h:fits (.rows [.str,.str,.bool]) x): ∃l:List bk,x= .ay (l.map bk.enc)/\l.length<=maxLen/\iG l:=by
 simp only[fits]at h;obtain⟨es,rfl,hl,he⟩:=h
 obtain⟨l,rfl,hk⟩:=xC (f:=bk.enc) (P:=fun r=>r.ok) (es:=es) (fun e hx=>by
  obtain⟨ys,rfl,hy⟩:=he e hx;obtain⟨r,rfl,hr⟩:=fits_rng8 (by simpa only[fD,fits]using hy)
  exact⟨r,rfl,hr⟩)
 exact⟨l,rfl,by simpa using hl,hk⟩
set_option maxHeartbeats 16000000
def L7:aW:=L15g.add 71 (entry (fun(v:List bk×Int)=>[.ay (v.1.map bk.enc),.int .i64 v.2]) (fun v=>v.1.length<=9223372036854775807) (fun v=> .bool (l8 v.1 v.2)))
theorem QG:aN Tryz.prog L7:=L15g_ok.dH Tryz.func71 (by kernel_rfl) (by kernel_rfl) fun v h=>L6 v.1 v.2 h
@[go_sem] theorem L15h_old{g:FuncId}{xs:List A}(h:g≠71):L7.f g xs=L15g.f g xs:=aW.aU h
theorem Ft(v:List bk×Int)(h:v.1.length<=9223372036854775807):L7.f 71 [.ay (v.1.map bk.enc),.int .i64 v.2]=some (.bool (l8 v.1 v.2)):=aW.aZ (Γ:=L15g) (fun i j h=>by simpa[ag,and_assoc]using h) v h
theorem q_rLong{l:List bk}{m:Int}(h:l.length<=9223372036854775807):L7.f 71 [.ay (l.map bk.enc),.int .i64 m]=some (.bool (l8 l m)):=Ft (l,m) h
theorem iF{a b:List Pc}{x:List UInt8}{n:Int}(hn:dJ n=true)(c:Int):hk (setAt (cF (fF (a++b))) x) n c=(hk (setAt a x) n c||hk (setAt b x) n c):=by rw[g_ (zD _),oV hn,lk,pK]
theorem fits_pcs{x:A}(h:fits (.rows [.str,.str,.bool,.rows [.int .i64,.rows [.int .i64,.int .i64]]]) x): ∃l:List Pc,x= .ay (l.map Pc.enc)/\l.length<=maxLen/\ ∀p∈l,p.s.length<=maxLen:=by
 simp only[fits]at h;obtain⟨es,rfl,hl,he⟩:=h;obtain⟨l,rfl,hk⟩:=xC (f:=Pc.enc) (P:=fun p=>p.s.length<=maxLen) (es:=es) (fun e hx=>by obtain⟨ys,rfl,hy⟩:=he e hx;simp only[fD]at hy;obtain⟨y1,z1,rfl,h1,y2,z2,rfl,h2,y3,z3,rfl,h3,y4,z4,rfl,h4,rfl⟩:=hy;simp only[fits]at h1 h2 h3;obtain⟨s1,rfl,_⟩:=h1;obtain⟨s2,rfl,_⟩:=h2;obtain⟨b,rfl⟩:=h3;obtain⟨ks,rfl,hks,_⟩:=T_ h4;exact⟨⟨⟨s1,s2,b⟩,ks⟩,rfl,hks⟩)
 exact⟨l,rfl,by simpa using hl,hk⟩
def G15:aW:={L7 with fS:=fun n=>if n=7 then
 [[0,1,2,3,4,5,6,7,8,9,10,11,12,13,14],[0,1,2,3,4,5,6,7,8,9,10,12,11,13,14],[0,1,2,3,4,5,6,7,8,9,11,10,12,13,14],[0,1,2,3,4,5,6,7,8,9,11,12,10,13,14],
  [0,1,2,3,4,5,6,7,8,9,11,12,13,10,14],[0,1,2,3,4,5,6,7,8,9,12,10,11,13,14],[0,1,2,3,4,5,6,7,8,9,12,11,10,13,14],[0,1,2,3,4,5,6,7,8,9,12,11,13,10,14]]else []}
theorem G15_ok:aN Tryz.prog G15:=⟨QG.f,QG.hp⟩
@[go_sem] theorem G15_f:G15.f=L7.f:=rfl
@[go_sem] theorem G15_eff{g:FuncId}:G15.sg g=false:=rfl
@[go_sem] theorem G15_ords7:G15.fS 7=
 [[0,1,2,3,4,5,6,7,8,9,10,11,12,13,14],[0,1,2,3,4,5,6,7,8,9,10,12,11,13,14],[0,1,2,3,4,5,6,7,8,9,11,10,12,13,14],[0,1,2,3,4,5,6,7,8,9,11,12,10,13,14],
  [0,1,2,3,4,5,6,7,8,9,11,12,13,10,14],[0,1,2,3,4,5,6,7,8,9,12,10,11,13,14],[0,1,2,3,4,5,6,7,8,9,12,11,10,13,14],[0,1,2,3,4,5,6,7,8,9,12,11,13,10,14]]:=rfl
@[go_sem] theorem G15_ords{n:Nat}(h:n≠7):G15.fS n=[]:=if_neg h
theorem Jn:aQ Tryz.prog G15 Tryz.f89.ntmps (Tryz.f89.body.getD .skip)=true:=by kernel_rfl
theorem L8(k:List Pc)(hk:eK k):bp Tryz.prog 89 [.ay (k.map Pc.enc)] (· = .bool (cD k)):=by
 refine ah G15_ok mixed Tryz.func89 rfl (ab rfl) Jn ?_;unfold Tryz.f89;obtain⟨⟨k1,k2⟩,k3⟩:=id hk;simp-implicitDefEqProofs (disch:=(first|omega|decide)) only[go_sem,↓reduceIte,seval,aa]
 refine a_ [0] (ι:={j:Nat//j<=k.length/\cD k=Pm (qx k j) (k.drop j)}) (fun p=>[(3,.int .i64 p.1)]) (fun _=>[]) (fun p=>k.length-p.1) ⟨0,by omega,rfl⟩ (aw _) ?_ ?_
 · simp-implicitDefEqProofs (disch:=(first|omega|decide)) only[go_sem,↓reduceIte,seval]
 · rintro⟨j,hj,hd⟩
   simp only at hj hd⊢;by_cases bo:j<k.length
   · have aH:(j:Int)<(k.length:Int):=by omega
     have e1:=kJ bo;have mq:=k3 _ (ao bo)
     have Fe:=jx hk (ao bo)
     have yu:qx k (j+1)=some k[j]:=by unfold qx;rw[if_neg (by omega),jL,getElem!_pos k j bo]
     rw[ax bo]at hd;generalize hx:k[j]=x at*;obtain⟨⟨lo,hi,op⟩,s⟩:=x;simp only[Pm,jc]at hd mq Fe;have next:cD k=Pm (some ⟨⟨lo,hi,op⟩,s⟩) (k.drop (j+1))-> ∃i:{j:Nat//j<=k.length/\cD k=Pm (qx k j) (k.drop j)},(j:Int)+1=(i.1:Int)/\k.length-i.1<k.length-j:=fun h=>⟨⟨j+1,bo,by rw[yu];exact h⟩,by simp,by show k.length-(j+1)<k.length-j;omega⟩
     cases h1:bw ⟨lo,hi,op⟩with
     |false=>
      have hh:cD k=false:=by rw[hd,h1];simp
      simp-implicitDefEqProofs (disch:=(first|omega|decide)) only[go_sem,↓reduceIte,seval,aH,e1,h1,hh,aa]
     |true=>
      cases h2:((s.length:Int)==0)with
      |true=>
       have h20:(s.length:Int)=0:=by simpa using h2
       have:s=[]:=aV.1 (by omega)
       have hh:cD k=false:=by rw[hd,this];simp
       simp-implicitDefEqProofs (disch:=(first|omega|decide)) only[go_sem,↓reduceIte,seval,aH,e1,h1,h2,hh,aa]
      |false=>
       have eH:s.isEmpty=false:=by
          cases s with
          |nil=>simp at h2
          |cons _ _=>rfl
       have yw:=Lk Fe;cases h3:c6 s with
       |false=>
          have hh:cD k=false:=by rw[hd,h3];simp
          rw[h3]at yw;simp-implicitDefEqProofs (disch:=(first|omega|decide)) only[go_sem,↓reduceIte,seval,aH,e1,h1,h2,yw,hh,aa]
       |true=>
          rw[h3]at yw;rw[h1,eH,h3]at hd;simp only[bm,dO,aB]at hd;by_cases hj0:j=0
          · have hz:((j:Int)==0)=true:=by simp[hj0]
            have hh:cD k=Pm (some ⟨⟨lo,hi,op⟩,s⟩) (k.drop (j+1)):=by rw[hd];unfold qx;rw[if_pos hj0,aB]
            simp-implicitDefEqProofs (disch:=(first|omega|decide)) only[go_sem,↓reduceIte,seval,aH,e1,h1,h2,yw,hz,wrap_i64,aa]
            exact next hh
          · have hz:((j:Int)==0)=false:=by simp;omega
            have qH:j-1<k.length:=by omega
            have e2:=kJ qH;have KL:=k3 _ (ao qH)
            have hsm2:=jx hk (ao qH)
            have VM:qx k j=some k[j-1]:=by unfold qx;rw[if_neg hj0,getElem!_pos k (j-1) qH]
            rw[VM]at hd;generalize hy:k[j-1]=y at*;obtain⟨⟨lh,jU,pY⟩,s'⟩:=y;simp only at KL hsm2;have c1:((j:Int)-1).toNat=j-1:=by omega
            have c2:(0:Int)<=(j:Int)-1:=by omega
            have jo:=qP hsm2 Fe;simp only[Co]at hd;cases h4:pY with
            |true=>
             have hh:cD k=false:=by rw[hd,h4];simp
             subst h4;simp-implicitDefEqProofs (maxSteps:=6000000) (disch:=(first|omega|decide)) only[go_sem,↓reduceIte,seval,aH,e1,h1,h2,yw,hz,e2,c1,c2,hh,wrap_i64,aa]
            |false=>
             subst h4;cases h5:cL lo jU with
             |true=>
              have hh:cD k=false:=by rw[hd,h5];simp
              simp-implicitDefEqProofs (maxSteps:=6000000) (disch:=(first|omega|decide)) only[go_sem,↓reduceIte,seval,aH,e1,h1,h2,yw,hz,e2,c1,c2,h5,hh,wrap_i64,aa]
             |false=>
              cases h6:jU==lo with
              |false=>
               have hh:cD k=Pm (some ⟨⟨lo,hi,op⟩,s⟩) (k.drop (j+1)):=by rw[hd,h5,h6];simp
               simp-implicitDefEqProofs (maxSteps:=6000000) (disch:=(first|omega|decide)) only[go_sem,↓reduceIte,seval,aH,e1,h1,h2,yw,hz,e2,c1,c2,h5,h6,wrap_i64,aa]
               exact next hh
              |true=>
               cases h7:dA s' s with
               |true=>
                have h7':s'=s:=by simpa[dA]using h7
                rw[h7]at jo;have hh:cD k=false:=by rw[hd,h6,h7'];simp
                simp-implicitDefEqProofs (maxSteps:=6000000) (disch:=(first|omega|decide)) only[go_sem,↓reduceIte,seval,aH,e1,h1,h2,yw,hz,e2,c1,c2,h5,h6,jo,hh,wrap_i64,aa]
               |false=>
                have h7':s'≠s:=by simpa[dA]using h7
                rw[h7]at jo;have hh:cD k=Pm (some ⟨⟨lo,hi,op⟩,s⟩) (k.drop (j+1)):=by rw[hd,h5,h6,decide_eq_false h7'];simp
                simp-implicitDefEqProofs (maxSteps:=6000000) (disch:=(first|omega|decide)) only[go_sem,↓reduceIte,seval,aH,e1,h1,h2,yw,hz,e2,c1,c2,h5,h6,jo,wrap_i64,aa]
                exact next hh
   · have aH: ¬(j:Int)<(k.length:Int):=by omega
     have hh:cD k=true:=by rw[hd,aC (by omega)];rfl
     simp-implicitDefEqProofs (disch:=(first|omega|decide)) only[go_sem,↓reduceIte,seval,aH,hh,aa]
def C5:aW:=L7.add 89 (entry (fun(k:List Pc)=>[.ay (k.map Pc.enc)]) (fun k=>eK k) (fun k=> .bool (cD k)))
theorem Bj:aN Tryz.prog C5:=QG.dH Tryz.func89 (by kernel_rfl) (by kernel_rfl) fun k h=>L8 k h
@[go_sem] theorem L15i_old{g:FuncId}{xs:List A}(h:g≠89):C5.f g xs=L7.f g xs:=aW.aU h
@[go_sem] theorem L15i_s:C5.pl L7:=⟨fun _=>rfl,fun _=>rfl,rfl,fun _=>rfl,rfl,fun _=>rfl,rfl⟩
theorem C6(k:List Pc)(h:eK k):C5.f 89 [.ay (k.map Pc.enc)]=some (.bool (cD k)):=aW.aZ (Γ:=L7) (fun i j h=>by simpa[ag,and_assoc]using h) k h
theorem UM{k:List Pc}(h:eK k):C5.f 89 [.ay (k.map Pc.enc)]=some (.bool (cD k)):=C6 k h
structure It where
 key:List UInt8
 rep:Int
 da:Int
 du:Int
 prio:Int
 dead:Bool
 body:List UInt8
 deriving DecidableEq
def It.enc(x:It):A:= .agg [.str x.key,.int .i64 x.rep,.int .i64 x.da,.int .i64 x.du,.int .i64 x.prio,.bool x.dead,.str x.body]
theorem It.jM(r s:It)(h:r.enc=s.enc):r=s:=by obtain⟨a,b,c,d,e,f,g⟩:=r;obtain⟨a',b',c',d',e',f',g'⟩:=s;simpa[It.enc]using h
@[simp] theorem It.Z7{r s:It}:(r.enc=s.enc)=(r=s):=propext ⟨It.jM r s,fun h=>by rw[h]⟩
@[simp] theorem map_It_inj{l m:List It}:(l.map It.enc=m.map It.enc)=(l=m):=map_inj It.jM
def It.ok(x:It):Prop:=x.key.length<=9223372036854775807/\x.body.length<=9223372036854775807
def sS(l:List It):Prop:= ∀x∈l,x.ok
theorem eG{l:List It}{k:Nat}(h:k<l.length):(l.map It.enc)[k]? =some (.agg [.str l[k].key,.int .i64 l[k].rep,.int .i64 l[k].da,.int .i64 l[k].du,.int .i64 l[k].prio,.bool l[k].dead,.str l[k].body]):=by rw[aT,ae h];rfl
def bQ(x:It):Bool:=decide (1<=x.key.length/\x.key.length<=16)&&cm ⟨x.rep,x.da⟩&&decide (1<=x.du)&&decide (x.du<=1099511627776)&&decide (0<=x.prio)&&decide (x.prio<=255)&&decide (x.body.length<=64)&&(!x.dead||x.body==[])
def goI:Option (List UInt8)->List It->Bool
 |_,[]=>true
 |p,x::l=>bQ x&&(match p with|none=>true|some k=>cL k x.key)&&goI (some x.key) l
def eZ(l:List It):Bool:=goI none l
def uX(l:List It)(i:Nat):Bool:=(l.take i).any fun y=>match l[i]? with|some x=>decide (y.rep=x.rep/\y.da=x.da)|none=>false
structure bA where
 id:Int
 fl:List bk
 bq:List It
 kn:List Pc
 ct:Int
def bA.cells(s:bA):List A:=[.int .i64 s.id,.ay (s.fl.map bk.enc),.ay (s.bq.map It.enc),.ay (s.kn.map Pc.enc),.int .i64 s.ct]
def bA.enc(s:bA):A:= .agg s.cells
theorem bA.jM(r s:bA)(h:r.enc=s.enc):r=s:=by obtain⟨a,b,c,d,e⟩:=r;obtain⟨a',b',c',d',e'⟩:=s;simpa[bA.enc,bA.cells]using h
@[simp] theorem bA.Z7{r s:bA}:(r.enc=s.enc)=(r=s):=propext ⟨bA.jM r s,fun h=>by rw[h]⟩
def ve(l:List It)(m:Int):Bool:=decide (m<(l.length:Int))||l.any fun x=>decide (60<x.key.length)||decide (200<x.body.length)
theorem longI_len{l:List It}{m:Int}(h:ve l m=false): ¬m<(l.length:Int):=by unfold ve at h;simp only[dm,decide_eq_false_iff_not]at h;exact h.1
structure Fd where
 code:Int
 at_:Int
 deriving DecidableEq
def Fd.enc(x:Fd):A:= .agg [.int .i64 x.code,.int .i64 x.at_]
theorem Fd.jM(r s:Fd)(h:r.enc=s.enc):r=s:=by obtain⟨a,b⟩:=r;obtain⟨a',b'⟩:=s;simpa[Fd.enc]using h
@[simp] theorem Fd.Z7{r s:Fd}:(r.enc=s.enc)=(r=s):=propext ⟨Fd.jM r s,fun h=>by rw[h]⟩
def vf(p:Pc)(id:Int):Int:=if dJ id=true then j9 (fM (aX (bJ p.s id)))else 0
def Jo(s:bA)(c:Int):Bool:=
 if c==1 then decide (s.id<1)||decide (16<s.id)
 else if c==2 then decide (s.ct<0)||decide (1099511627776<s.ct)
 else if c==3 then !cA s.fl
 else if c==9 then !cD s.kn
 else if c==12 then decide (4096<s.bq.length)
 else false
theorem wZ{k:List Pc}{F:List bk}:c7 k F=fF k ↔∀x n,dJ n=true-> ∀c,hk (setAt k x) n c=true->bh F x=true:=by
 constructor
 · intro h x n hn c hc
   have h1:=wY (k:=k) (l:=F) (x:=x) hn c;rw[h,oV hn,hc,cv]at h1;exact h1.symm
 · intro h
   funext x
   unfold c7;split
   · rfl
   · rename_i hx
     have: ∀n,dJ n=true-> ∀c,hk (setAt k x) n c=false:=fun n hn c=>by
      cases h1:hk (setAt k x) n c with
      |false=>rfl
      |true=>exact absurd (h x n hn c h1) hx
     unfold fF iO;exact(ZO fun n hn=>NQ fun c=>this n hn c).symm
theorem setAt_mem{k:List Pc}{x:List UInt8}{n c:Int}:hk (setAt k x) n c=true ↔∃p∈k,hk (setAt [p] x) n c=true:=by
 induction k with
 |nil=>simp[setAt,hk,bJ,aX]
 |cons p k ih=>
  have e:setAt (p::k) x=setAt [p] x++setAt k x:=lk [p] k x;rw[e,pK,bE,ih]
  simp
def hI(k:List Pc)(id:Int):Int:=k.foldl (fun n p=>max n (vf p id)) 0
theorem w5{id b:Int}: ∀{k:List Pc} {n:Int},k.foldl (fun n p=>max n (vf p id)) n<=b ↔ n<=b/\ ∀p∈k,vf p id<=b
 | [],n=>by simp
 |p::k,n=>by simp only[cg,w5 (k:=k),aD,forall_eq_or_imp,Int.max_le,and_assoc]
def gq(l:List It):Bool:=(List.range l.length).all fun i=> !uX l i
def cq(s:bA):Bool:=
 !Jo s 1&& !Jo s 2&&decide (s.bq.length<=4096)&&cA s.fl&&eZ s.bq&&cD s.kn&&fb (cF (c7 s.kn s.fl)) s.kn&&decide (hI s.kn s.id<=s.ct)&&gq s.bq&&s.bq.all fun x=>bh s.fl x.key&&dq s.kn x.key x.rep x.da
set_option maxHeartbeats 8000000
theorem L9:aQ Tryz.prog C5 Tryz.f104.ntmps (Tryz.f104.body.getD .skip)=true:=by kernel_rfl
theorem QH(x:It)(h:x.ok):bp Tryz.prog 104 [x.enc] (· = .bool (bQ x)):=by
 refine ah Bj mixed Tryz.func104 rfl (ab rfl) L9 ?_;unfold Tryz.f104;obtain⟨key,rep,da,du,prio,dead,body⟩:=x;obtain⟨h1,h2⟩:=h;simp only[It.enc]at h1 h2⊢;have g1:=En h1;simp only[bQ]
 cases e1:decide (1<=key.length/\key.length<=16)with
 |false=>rw[e1]at g1;simp-implicitDefEqProofs (disch:=(first|omega|decide)) only[go_sem,↓reduceIte,seval,g1]
 |true=>
  rw[e1]at g1;cases e2:cm ⟨rep,da⟩with
  |false=>simp-implicitDefEqProofs (disch:=(first|omega|decide)) only[go_sem,↓reduceIte,seval,g1,e2]
  |true=>
   by_cases e3:1<=du
   · have X3: ¬du<1:=by omega
     by_cases e4:du<=1099511627776
     · have e4': ¬1099511627776<du:=by omega
       by_cases e5:0<=prio
       · have e5': ¬prio<0:=by omega
         by_cases e6:prio<=255
         · have e6': ¬255<prio:=by omega
           by_cases e7:body.length<=64
           · have e7':(body.length:Int)<=64:=by omega
             cases dead<;>cases e8:body==[]<;>simp-implicitDefEqProofs (disch:=(first|omega|decide)) only[go_sem,↓reduceIte,seval,g1,e2,e3,e4,e5,e6,e7,X3,e4',e5',e6',e7',e8]
           · have e7': ¬(body.length:Int)<=64:=by omega
             simp-implicitDefEqProofs (disch:=(first|omega|decide)) only[go_sem,↓reduceIte,seval,g1,e2,e3,e4,e5,e6,e7,X3,e4',e5',e6',e7']
         · have e6':255<prio:=by omega
           simp-implicitDefEqProofs (disch:=(first|omega|decide)) only[go_sem,↓reduceIte,seval,g1,e2,e3,e4,e5,e6,X3,e4',e5',e6']
       · have e5':prio<0:=by omega
         simp-implicitDefEqProofs (disch:=(first|omega|decide)) only[go_sem,↓reduceIte,seval,g1,e2,e3,e4,e5,X3,e4',e5']
     · have e4':1099511627776<du:=by omega
       simp-implicitDefEqProofs (disch:=(first|omega|decide)) only[go_sem,↓reduceIte,seval,g1,e2,e3,e4,X3,e4']
   · have X3:du<1:=by omega
     simp-implicitDefEqProofs (disch:=(first|omega|decide)) only[go_sem,↓reduceIte,seval,g1,e2,e3,X3]
theorem Jp:aQ Tryz.prog C5 Tryz.f72.ntmps (Tryz.f72.body.getD .skip)=true:=by kernel_rfl
theorem L_(x:It)(h:x.ok):bp Tryz.prog 72 [x.enc] (· = .bool (bQ x)):=by
 refine ah Bj mixed Tryz.func72 rfl (ab rfl) Jp ?_;unfold Tryz.f72;obtain⟨key,rep,da,du,prio,dead,body⟩:=x;obtain⟨h1,h2⟩:=h;simp only[It.enc]at h1 h2⊢;have g1:=yG h1;simp only[bQ]
 cases e1:decide (1<=key.length/\key.length<=16)with
 |false=>rw[e1]at g1;simp-implicitDefEqProofs (disch:=(first|omega|decide)) only[go_sem,↓reduceIte,seval,g1]
 |true=>
  rw[e1]at g1;cases e2:cm ⟨rep,da⟩with
  |false=>simp-implicitDefEqProofs (disch:=(first|omega|decide)) only[go_sem,↓reduceIte,seval,g1,e2]
  |true=>
   by_cases e3:1<=du
   · have X3: ¬du<1:=by omega
     by_cases e4:du<=1099511627776
     · have e4': ¬1099511627776<du:=by omega
       by_cases e5:0<=prio
       · have e5': ¬prio<0:=by omega
         by_cases e6:prio<=255
         · have e6': ¬255<prio:=by omega
           have e8':decide ((0:Int)<(body.length:Int))= !(body==[]):=by
            cases body with
            |nil=>rfl
            |cons a b=>simp
           by_cases e7:body.length<=64
           · have e7':(body.length:Int)<=64:=by omega
             cases dead<;>cases e8:body==[]<;>rw[e8]at e8'<;>simp-implicitDefEqProofs (disch:=(first|omega|decide)) only[go_sem,↓reduceIte,seval,g1,e2,e3,e4,e5,e6,e7,X3,e4',e5',e6',e7',e8,e8']
           · have e7': ¬(body.length:Int)<=64:=by omega
             simp-implicitDefEqProofs (disch:=(first|omega|decide)) only[go_sem,↓reduceIte,seval,g1,e2,e3,e4,e5,e6,e7,X3,e4',e5',e6',e7']
         · have e6':255<prio:=by omega
           simp-implicitDefEqProofs (disch:=(first|omega|decide)) only[go_sem,↓reduceIte,seval,g1,e2,e3,e4,e5,e6,X3,e4',e5',e6']
       · have e5':prio<0:=by omega
         simp-implicitDefEqProofs (disch:=(first|omega|decide)) only[go_sem,↓reduceIte,seval,g1,e2,e3,e4,e5,X3,e4',e5']
     · have e4':1099511627776<du:=by omega
       simp-implicitDefEqProofs (disch:=(first|omega|decide)) only[go_sem,↓reduceIte,seval,g1,e2,e3,e4,X3,e4']
   · have X3:du<1:=by omega
     simp-implicitDefEqProofs (disch:=(first|omega|decide)) only[go_sem,↓reduceIte,seval,g1,e2,e3,X3]
def QI:aW:=C5.add 104 (entry (fun(x:It)=>[x.enc]) (fun x=>x.ok) (fun x=> .bool (bQ x)))
theorem T18a_ok:aN Tryz.prog QI:=Bj.dH Tryz.func104 (by kernel_rfl) (by kernel_rfl) fun x h=>QH x h
@[go_sem] theorem T18a_old{g:FuncId}{xs:List A}(h:g≠104):QI.f g xs=C5.f g xs:=aW.aU h
theorem Fu(x:It)(h:x.ok):QI.f 104 [x.enc]=some (.bool (bQ x)):=aW.aZ (Γ:=C5) (fun i j h=>by simpa[ag,and_assoc]using h) x h
def Jq:aW:=QI.add 72 (entry (fun(x:It)=>[x.enc]) (fun x=>x.ok) (fun x=> .bool (bQ x)))
theorem QJ:aN Tryz.prog Jq:=T18a_ok.dH Tryz.func72 (by kernel_rfl) (by kernel_rfl) fun x h=>L_ x h
@[go_sem] theorem T18b_old{g:FuncId}{xs:List A}(h:g≠72):Jq.f g xs=QI.f g xs:=aW.aU h
@[go_sem] theorem T18b_s:Jq.pl QI:=⟨fun _=>rfl,fun _=>rfl,rfl,fun _=>rfl,rfl,fun _=>rfl,rfl⟩
theorem tU(x:It)(h:x.ok):Jq.f 72 [x.enc]=some (.bool (bQ x)):=aW.aZ (Γ:=QI) (fun i j h=>by simpa[ag,and_assoc]using h) x h
theorem Z8{key body:List UInt8}{rep da du prio:Int}{dead:Bool}(h:It.ok ⟨key,rep,da,du,prio,dead,body⟩):QI.f 104 [.agg [.str key,.int .i64 rep,.int .i64 da,.int .i64 du,.int .i64 prio,.bool dead,.str body]]=some (.bool (bQ ⟨key,rep,da,du,prio,dead,body⟩)):=Fu _ h
theorem i_rRight{key body:List UInt8}{rep da du prio:Int}{dead:Bool}(h:It.ok ⟨key,rep,da,du,prio,dead,body⟩):Jq.f 72 [.agg [.str key,.int .i64 rep,.int .i64 da,.int .i64 du,.int .i64 prio,.bool dead,.str body]]=some (.bool (bQ ⟨key,rep,da,du,prio,dead,body⟩)):=tU _ h
theorem Ma:aQ Tryz.prog Jq Tryz.f14.ntmps (Tryz.f14.body.getD .skip)=true:=by kernel_rfl
theorem QK(l:List It)(m:Int)(hl:l.length<=9223372036854775807):bp Tryz.prog 14 [.ay (l.map It.enc),.int .i64 m] (· = .bool (ve l m)):=by
 refine ah QJ mixed Tryz.func14 rfl (ab rfl) Ma ?_;unfold Tryz.f14;by_cases h0:m<(l.length:Int)
 · have hh:ve l m=true:=by simp[ve,h0]
   simp-implicitDefEqProofs (disch:=(first|omega|decide)) only[go_sem,↓reduceIte,seval,h0,hh,aa]
 · have hh:ve l m=l.any fun x=>decide (60<x.key.length)||decide (200<x.body.length):=by simp[ve,h0]
   simp-implicitDefEqProofs (disch:=(first|omega|decide)) only[go_sem,↓reduceIte,seval,h0,aa]
   rw[hh]
   refine a_ [0] (ι:={k:Nat//k<=l.length/\(l.any fun x=>decide (60<x.key.length)||decide (200<x.body.length))=((l.drop k).any fun x=>decide (60<x.key.length)||decide (200<x.body.length))}) (fun p=>[(5,.int .i64 p.1),(4,.bool false)]) (fun _=>[]) (fun p=>l.length-p.1) ⟨0,by omega,rfl⟩ (aw _) ?_ ?_
   · simp-implicitDefEqProofs (disch:=(first|omega|decide)) only[go_sem,↓reduceIte,seval]
   · rintro⟨k,hk,hd⟩
     simp only;by_cases bo:k<l.length
     · have aH:(k:Int)<(l.length:Int):=by omega
       have e1:=eG bo;rw[ax bo,cI]at hd;generalize hx:l[k]=x at*;obtain⟨key,rep,da,du,prio,dead,body⟩:=x;simp only at hd e1;by_cases h1:60<key.length
       · have sX:(60:Int)<(key.length:Int):=by omega
         rw[decide_eq_true h1,cM,cM]at hd;simp-implicitDefEqProofs (disch:=(first|omega|decide)) only[go_sem,↓reduceIte,seval,aH,e1,sX,hd,wrap_i64,aa]
       · have sX: ¬(60:Int)<(key.length:Int):=by omega
         by_cases h2:200<body.length
         · have tE:(200:Int)<(body.length:Int):=by omega
           rw[decide_eq_true h2,lD,cM]at hd;simp-implicitDefEqProofs (disch:=(first|omega|decide)) only[go_sem,↓reduceIte,seval,aH,e1,sX,tE,hd,wrap_i64,aa]
         · have tE: ¬(200:Int)<(body.length:Int):=by omega
           rw[decide_eq_false h1,decide_eq_false h2,gi,bu]at hd;simp-implicitDefEqProofs (disch:=(first|omega|decide)) only[go_sem,↓reduceIte,seval,aH,e1,sX,tE,wrap_i64,aa]
           exact⟨⟨k+1,bo,hd⟩,by simp,by show l.length-(k+1)<l.length-k;omega⟩
     · have aH: ¬(k:Int)<(l.length:Int):=by omega
       rw[aC (by omega)]at hd;simp-implicitDefEqProofs (disch:=(first|omega|decide)) only[go_sem,↓reduceIte,seval,aH,hd,aa]
def vg(l:List It)(k:Nat):Option (List UInt8):=match k with|0=>none|j+1=>(l[j]?).map (·.key)
theorem Mc:aQ Tryz.prog Jq Tryz.f88.ntmps (Tryz.f88.body.getD .skip)=true:=by kernel_rfl
theorem QL(l:List It)(hl:l.length<=4611686018427387904)(ho:sS l):bp Tryz.prog 88 [.ay (l.map It.enc)] (· = .bool (eZ l)):=by
 refine ah QJ mixed Tryz.func88 rfl (ab rfl) Mc ?_;unfold Tryz.f88;simp-implicitDefEqProofs (disch:=(first|omega|decide)) only[go_sem,↓reduceIte,seval,aa]
 refine a_ [0] (ι:={k:Nat//k<=l.length/\eZ l=goI (vg l k) (l.drop k)}) (fun p=>[(3,.int .i64 p.1)]) (fun _=>[]) (fun p=>l.length-p.1) ⟨0,by omega,rfl⟩ (aw _) ?_ ?_
 · simp-implicitDefEqProofs (disch:=(first|omega|decide)) only[go_sem,↓reduceIte,seval]
 · rintro⟨k,hk,hd⟩
   simp only;by_cases bo:k<l.length
   · have aH:(k:Int)<(l.length:Int):=by omega
     have e1:=eG bo;have zH:=ho _ (ao bo)
     have VM:vg l (k+1)=some l[k].key:=by simp[vg,bo]
     rw[ax bo]at hd;simp only[goI]at hd;rw[<-VM]at hd;generalize hx:l[k]=x at*;obtain⟨key,rep,da,du,prio,dead,body⟩:=x;have g1:=i_rRight zH;simp only at hd e1 zH;cases hr:bQ ⟨key,rep,da,du,prio,dead,body⟩with
     |false=>
      rw[hr]at g1 hd;rw[aI,aI]at hd;simp-implicitDefEqProofs (disch:=(first|omega|decide)) only[go_sem,↓reduceIte,seval,aH,e1,g1,hd,aa]
     |true=>
      rw[hr]at g1 hd;cases k with
      |zero=>
       rw[show vg l 0=none from rfl,aB,aB]at hd;have hlt0:(0:Int)<(l.length:Int):=by omega
       simp-implicitDefEqProofs (disch:=(first|omega|decide)) only[go_sem,↓reduceIte,seval,aH,hlt0,e1,g1,wrap_i64,aa]
       exact⟨⟨1,bo,hd⟩,by simp,by show l.length-1<l.length-0;omega⟩
      |succ j=>
       have hj:j<l.length:=by omega
       have e2:=eG hj;have hoy:=ho _ (ao hj)
       have Pu:vg l (j+1)=some l[j].key:=by simp[vg,hj]
       rw[Pu]at hd;generalize hy:l[j]=y at*;obtain⟨UN,Md,QM,rank',prio',dead',body'⟩:=y;simp only at hd e2 hoy;have c0:(0:Int)<((j+1:Nat):Int):=by omega
       have c1:(((j+1:Nat):Int)-1).toNat=j:=by omega
       have c2:(0:Int)<=((j+1:Nat):Int)-1:=by omega
       have c3:((j+1:Nat):Int)-1<(l.length:Int):=by omega
       have g2:=oS (a:=UN) (b:=key) ⟨hoy.1,zH.1⟩
       have e3:(fC UN key== -1)=cL UN key:=rfl;rw[e3]at g2;cases hb:cL UN key with
       |false=>
          rw[hb]at g2 hd;rw[bN,aI]at hd;simp-implicitDefEqProofs (disch:=(first|omega|decide)) only[go_sem,↓reduceIte,seval,aH,e1,e2,g1,g2,c0,c1,c2,c3,hd,wrap_i64,aa]
       |true=>
          rw[hb]at g2 hd;rw[cv,aB]at hd;simp-implicitDefEqProofs (disch:=(first|omega|decide)) only[go_sem,↓reduceIte,seval,aH,e1,e2,g1,g2,c0,c1,c2,c3,wrap_i64,aa]
          exact⟨⟨j+1+1,bo,hd⟩,by simp,by show l.length-(j+1+1)<l.length-(j+1);omega⟩
   · have aH: ¬(k:Int)<(l.length:Int):=by omega
     rw[aC (by omega)]at hd;have hd:eZ l=true:=hd;simp-implicitDefEqProofs (disch:=(first|omega|decide)) only[go_sem,↓reduceIte,seval,aH,hd,aa]
def UO:aW:=Jq.add 14 (entry (fun(v:List It×Int)=>[.ay (v.1.map It.enc),.int .i64 v.2]) (fun v=>v.1.length<=9223372036854775807) (fun v=> .bool (ve v.1 v.2)))
theorem T18c_ok:aN Tryz.prog UO:=QJ.dH Tryz.func14 (by kernel_rfl) (by kernel_rfl) fun v h=>QK v.1 v.2 h
@[go_sem] theorem T18c_old{g:FuncId}{xs:List A}(h:g≠14):UO.f g xs=Jq.f g xs:=aW.aU h
theorem Fv(v:List It×Int)(h:v.1.length<=9223372036854775807):UO.f 14 [.ay (v.1.map It.enc),.int .i64 v.2]=some (.bool (ve v.1 v.2)):=aW.aZ (Γ:=Jq) (fun i j h=>by simpa[ag,and_assoc]using h) v h
def zI:aW:=UO.add 88 (entry (fun(l:List It)=>[.ay (l.map It.enc)]) (fun l=>l.length<=4611686018427387904/\sS l) (fun l=> .bool (eZ l)))
theorem Bk:aN Tryz.prog zI:=T18c_ok.dH Tryz.func88 (by kernel_rfl) (by kernel_rfl) fun l h=>QL l h.1 h.2
@[go_sem] theorem T18d_old{g:FuncId}{xs:List A}(h:g≠88):zI.f g xs=UO.f g xs:=aW.aU h
@[go_sem] theorem T18d_s:zI.pl UO:=⟨fun _=>rfl,fun _=>rfl,rfl,fun _=>rfl,rfl,fun _=>rfl,rfl⟩
theorem vh(l:List It)(h:l.length<=4611686018427387904/\sS l):zI.f 88 [.ay (l.map It.enc)]=some (.bool (eZ l)):=aW.aZ (Γ:=UO) (fun i j h=>by simpa[ag,and_assoc]using h) l h
theorem i_rLong{l:List It}{m:Int}(h:l.length<=9223372036854775807):UO.f 14 [.ay (l.map It.enc),.int .i64 m]=some (.bool (ve l m)):=Fv (l,m) h
theorem i_rList{l:List It}(h:l.length<=4611686018427387904/\sS l):zI.f 88 [.ay (l.map It.enc)]=some (.bool (eZ l)):=vh l h
end Go.Proofs.YtfnohjheonlnmaaGreat
