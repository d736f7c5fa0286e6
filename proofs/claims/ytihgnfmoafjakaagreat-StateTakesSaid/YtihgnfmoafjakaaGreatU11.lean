/- What the laws of this claim rest on: the abstract executor, its soundness, and what the functions compute on pure data. No condition. -/
import Derived.Test.YtihgnfmoafjakaaGreatU10
noncomputable section
set_option linter.unusedVariables false
set_option linter.unusedSimpArgs false
namespace Go.Proofs.YtihgnfmoafjakaaGreat
open Go.bJ Go.wG
set_option linter.unusedSimpArgs false
set_option linter.unusedVariables false
set_option maxRecDepth 20000
set_option maxHeartbeats 8000000
def iC(s:bh)(k:List Pc):List Pc:=aV (br k s.fl)
def loneI(s:bh)(l:List It)(k:List Pc):Bool:=(ka s.fl l).any fun x=> !bZ s.kn x.key x.rep x.cu&& !bZ (iC s k) x.key x.rep x.cu
def jV(s:bh)(l:List It)(k:List Pc):Int:=
 if cp s=false then 41 else if(b_ l&&aS k)=false then 2 else if loneI s l k=true then 2 else if s.ct<dc (iC s k) s.id then 2
 else if cY (aN (s.aK++ka s.fl l))=false then 2 else if 4096<(aN (s.aK++ka s.fl l)).length then 32 else 0
def oE(s:bh)(l:List It)(k:List Pc):bh:=if jV s l k=0 then Db s (ka s.fl l) (iC s k)else cd
def jW(s:bh)(l:List It)(k:List Pc):A:= .cx [(oE s l k).enc,.int .i64 (jV s l k)]
structure OkT(s:bh)(l:List It)(k:List Pc):Prop where
 hs:s_ s
 hl:l.length<=100000/\sP l
 hi:s.aK.length<=100000
 hk:gn k/\k.length<=500
 ho:gn (iC s k)/\(iC s k).length<=500
 ha:cC (s.kn++iC s k)
def Ke:aj:=sY.add 82 (entry (fun(v:List It×List ax)=>[.ad (v.1.map It.enc),.ad (v.2.map ax.enc)]) (fun v=>(v.1.length<=1000000/\sP v.1)/\v.2.length<=100000/\dp v.2) (fun v=> .ad ((ka v.2 v.1).map It.enc)))
theorem SS:ag Tryz.prog Ke:=zT.bG Tryz.func82 (by kernel_rfl) (by kernel_rfl) fun v h=>UQ v.1 v.2 h.1.1 h.2 h.1.2
@[go_sem] theorem Y23w_old{g:FuncId}{xs:List A}(h:g≠82):Ke.f g xs=sY.f g xs:=aj.ak h
@[go_sem] theorem Y23w_s:Ke.pl sY:=⟨fun _=>rfl,fun _=>rfl,rfl,fun _=>rfl,rfl,fun _=>rfl,rfl⟩
theorem Kf(v:List It×List ax)(h:(v.1.length<=1000000/\sP v.1)/\v.2.length<=100000/\dp v.2):Ke.f 82 [.ad (v.1.map It.enc),.ad (v.2.map ax.enc)]=some (.ad ((ka v.2 v.1).map It.enc)):=aj.an (Γ:=sY) (fun i j h=>by simpa[Prod.ext_iff,and_assoc]using h) v h
def QU:aj:=Ke.add 30 (entry (fun(v:List It×List ax)=>[.ad (v.1.map It.enc),.ad (v.2.map ax.enc)]) (fun v=>(v.1.length<=1000000/\sP v.1)/\v.2.length<=100000/\dp v.2) (fun v=> .ad ((ka v.2 v.1).map It.enc)))
theorem Y23x_ok:ag Tryz.prog QU:=SS.bG Tryz.func30 (by kernel_rfl) (by kernel_rfl) fun v h=>QA v.1 v.2 h.1.1 h.2 h.1.2
@[go_sem] theorem Y23x_old{g:FuncId}{xs:List A}(h:g≠30):QU.f g xs=Ke.f g xs:=aj.ak h
theorem FU(v:List It×List ax)(h:(v.1.length<=1000000/\sP v.1)/\v.2.length<=100000/\dp v.2):QU.f 30 [.ad (v.1.map It.enc),.ad (v.2.map ax.enc)]=some (.ad ((ka v.2 v.1).map It.enc)):=aj.an (Γ:=Ke) (fun i j h=>by simpa[Prod.ext_iff,and_assoc]using h) v h
def QV:aj:=QU.add 29 (entry (fun(l:List It)=>[.ad (l.map It.enc)]) (fun l=>l.length<=1000000/\sP l) (fun l=> .ad ((aN l).map It.enc)))
theorem Y23y_ok:ag Tryz.prog QV:=Y23x_ok.bG Tryz.func29 (by kernel_rfl) (by kernel_rfl) fun l h=>FF l h.1 h.2
@[go_sem] theorem Y23y_old{g:FuncId}{xs:List A}(h:g≠29):QV.f g xs=QU.f g xs:=aj.ak h
theorem w5(l:List It)(h:l.length<=1000000/\sP l):QV.f 29 [.ad (l.map It.enc)]=some (.ad ((aN l).map It.enc)):=aj.an (Γ:=QU) (fun i j h=>by simpa[Prod.ext_iff,and_assoc]using h) l h
theorem y_In{l:List It}{F:List ax}(h:(l.length<=1000000/\sP l)/\F.length<=100000/\dp F):Ke.f 82 [.ad (l.map It.enc),.ad (F.map ax.enc)]=some (.ad ((ka F l).map It.enc)):=Kf (l,F) h
theorem y_rIn{l:List It}{F:List ax}(h:(l.length<=1000000/\sP l)/\F.length<=100000/\dp F):QU.f 30 [.ad (l.map It.enc),.ad (F.map ax.enc)]=some (.ad ((ka F l).map It.enc)):=FU (l,F) h
theorem Za{l:List It}(h:l.length<=1000000/\sP l):QV.f 29 [.ad (l.map It.enc)]=some (.ad ((aN l).map It.enc)):=w5 l h
theorem Hd{s:bh}{l:List It}{k:List Pc}{e:Int}(he:e≠0)(hc:jV s l k=e):A.cx [.agg [.int .i64 0,.ad [],.ad [],.ad [],.int .i64 0],.int .i64 e]=jW s l k:=by unfold jW oE;rw[hc,if_neg he];rfl
theorem He{s:bh}{l:List It}{k:List Pc}(hc:jV s l k=0):A.cx [.agg [.int .i64 s.id,.ad (s.fl.map ax.enc),.ad ((aN (s.aK++ka s.fl l)).map It.enc),.ad ((aV (df (s.kn++iC s k))).map Pc.enc),.int .i64 s.ct],.int .i64 0]=jW s l k:=by unfold jW oE;rw[hc,if_pos rfl];rfl
theorem FV:ai Tryz.prog Ke Tryz.f32.ntmps (Tryz.f32.body.getD .skip)=true:=by kernel_rfl
theorem Kg(s:bh)(l:List It)(k:List Pc)(h:OkT s l k):az Tryz.prog 32 [s.enc,.ad (l.map It.enc),.ad (k.map Pc.enc)] (· =jW s l k):=by
 refine aa SS mixed Tryz.func32 rfl (Nat.le_of_ble_eq_true rfl) FV ?_;unfold Tryz.f32;obtain⟨hs,⟨ZA,hl2⟩,hi,⟨ke,OF⟩,⟨Zq,Q0⟩,gZ⟩:=h;have hfl:=hs.fl;have hln:=uR s.fl l;have ya:sP (ka s.fl l):=fun x hx=>hl2 x (List.mem_filter.1 hx).1;have qx:=jF (s.aK++ka s.fl l)
 rw[List.length_append]at qx;have g0:=gI s hs;have g1:=YJ (l:=l) ⟨by omega,hl2⟩
 have g2:=I9 ke.1;have g3:=y_In (l:=l) (F:=s.fl) ⟨⟨by omega,hl2⟩,by omega,hfl.2⟩
 have g4:=CH (k:=k) (l:=s.fl) ke.1 (by omega) hfl.2;rw[Ni,show aV (br k s.fl)=iC s k from rfl]at g4;have g5: ∀(x:List UInt8) (n c:Int),x.length<=9223372036854775807->EZ.f 71 [.ad (s.kn.map Pc.enc),.str x,.agg [.int .i64 n,.int .i64 c]]=some (.bool (bZ s.kn x n c)):=fun x n c hx=>Yf hs.kn.1.1 hx;have g6: ∀(x:List UInt8) (n c:Int),x.length<=9223372036854775807->EZ.f 71 [.ad ((iC s k).map Pc.enc),.str x,.agg [.int .i64 n,.int .i64 c]]=some (.bool (bZ (iC s k) x n c)):=fun x n c hx=>Yf Zq.1 hx;have g7:=YK (id:=s.id) Zq;have g8:=NH (a:=s.aK) (b:=ka s.fl l) (by omega) hs.aK.2 ya;have g9:=Sp (l:=aN (s.aK++ka s.fl l)) ⟨by omega,fun x hx=>(dD hx).2⟩
 have g10:=R9 gZ;have g11:=Ss (l:=s.fl) (by omega)
 have hC:jV s l k=if cp s=false then 41 else if(b_ l&&aS k)=false then 2 else if((ka s.fl l).any fun x=> !bZ s.kn x.key x.rep x.cu&& !bZ (iC s k) x.key x.rep x.cu)=true then 2 else if s.ct<dc (iC s k) s.id then 2
  else if cY (aN (s.aK++ka s.fl l))=false then 2 else if 4096<(aN (s.aK++ka s.fl l)).length then 32 else 0:=rfl
 have fail: ∀e:Int,e≠0->jV s l k=e->A.cx [.agg [.int .i64 0,.ad [],.ad [],.ad [],.int .i64 0],.int .i64 e]=jW s l k:=fun e he hc=>Hd he hc;have ri:=He (s:=s) (l:=l) (k:=k)
 generalize jW s l k=Z at*;generalize jV s l k=C at*;generalize hLL:ka s.fl l=L at*;generalize iC s k=O at*;generalize aV (df (s.kn++O))=J at*;generalize dc O s.id=m at*;generalize cY (aN (s.aK++L))=ap at*;generalize aN (s.aK++L)=M at*;generalize cp s=b0 at*;generalize b_ l=b1 at*;generalize aS k=b2 at*;have stM:(M.map It.enc).take M.length=M.map It.enc:=List.take_of_length_le (by simp)
 obtain⟨id,F,I,K,ct⟩:=s;simp only[bh.enc,bh.cells]at*;cases b0 with
 |false=>
  have fl:=fail 41 (by decide) (by rw[hC];rfl)
  simp-implicitDefEqProofs (disch:=(first|omega|decide)) only[go_sem,↓reduceIte,seval,g0,fl]
 |true=>
  cases b1 with
  |false=>
   have fl:=fail 2 (by decide) (by rw[hC];rfl)
   simp-implicitDefEqProofs (disch:=(first|omega|decide)) only[go_sem,↓reduceIte,seval,g0,g1,fl]
  |true=>
   cases b2 with
   |false=>
    have fl:=fail 2 (by decide) (by rw[hC];rfl)
    simp-implicitDefEqProofs (disch:=(first|omega|decide)) only[go_sem,↓reduceIte,seval,g0,g1,g2,fl]
   |true=>
    simp only[Bool.true_eq_false,if_false,Bool.and_self]at hC;simp-implicitDefEqProofs (maxSteps:=600000) (disch:=(first|omega|decide)) only[go_sem,↓reduceIte,seval,g0,g1,g2,g3,g4,List.length_map]
    refine ao [1,2,3,6,7,34,35] (ι:={i:Nat//i<=L.length/\(L.any fun x=> !bZ K x.key x.rep x.cu&& !bZ O x.key x.rep x.cu)=((L.drop i).any fun x=> !bZ K x.key x.rep x.cu&& !bZ O x.key x.rep x.cu)}) (fun p=>[(36,.int .i64 p.1)]) (fun _=>[]) (fun p=>L.length-p.1) ⟨0,by omega,rfl⟩ (Nat.zero_le _) ?_ ?_
    · simp-implicitDefEqProofs (disch:=(first|omega|decide)) only[go_sem,↓reduceIte,seval]
      try rfl
    · rintro⟨i,hi,hd⟩
      simp only;by_cases aw:i<L.length
      · have ae:(i:Int)<(L.length:Int):=by omega
        have ei:=dK aw;have G0:=ya _ (List.getElem_mem aw)
        rw[List.drop_eq_getElem_cons aw,List.any_cons]at hd;generalize L[i]=x at*;have g5:=g5 x.key x.rep x.cu G0.1;have g6:=g6 x.key x.rep x.cu G0.1;cases k1:bZ K x.key x.rep x.cu with
        |true=>
         rw[k1]at g5 hd;rw[Bool.not_true,Bool.false_and,Bool.false_or]at hd;simp-implicitDefEqProofs (disch:=(first|omega|decide)) only[go_sem,↓reduceIte,seval,ae,ei,g5,wrap_i64,List.length_map]
         exact⟨⟨i+1,aw,hd⟩,by simp,by show L.length-(i+1)<L.length-i;omega⟩
        |false=>
         rw[k1]at g5 hd;cases k2:bZ O x.key x.rep x.cu with
         |true=>
          rw[k2]at g6 hd;rw[Bool.not_true,Bool.and_false,Bool.false_or]at hd;simp-implicitDefEqProofs (disch:=(first|omega|decide)) only[go_sem,↓reduceIte,seval,ae,ei,g5,g6,wrap_i64,List.length_map]
          exact⟨⟨i+1,aw,hd⟩,by simp,by show L.length-(i+1)<L.length-i;omega⟩
         |false=>
          rw[k2]at g6 hd;have fl:=fail 2 (by decide) (by rw[hC,hd];rfl)
          simp-implicitDefEqProofs (disch:=(first|omega|decide)) only[go_sem,↓reduceIte,seval,ae,ei,g5,g6,fl,List.length_map]
      · have ae: ¬(i:Int)<(L.length:Int):=by omega
        rw[List.drop_of_length_le (by omega),List.any_nil]at hd;rw[hd]at hC;simp only[Bool.false_eq_true,if_false]at hC;by_cases d1:ct<m
        · have fl:=fail 2 (by decide) (by rw[hC,if_pos d1])
          simp-implicitDefEqProofs (disch:=(first|omega|decide)) only[go_sem,↓reduceIte,seval,ae,g7,d1,fl,List.length_map]
        · rw[if_neg d1]at hC
          cases ap with
          |false=>
           have fl:=fail 2 (by decide) (by rw[hC];rfl)
           simp-implicitDefEqProofs (disch:=(first|omega|decide)) only[go_sem,↓reduceIte,seval,ae,g7,g8,g9,d1,fl,List.length_map]
          |true=>
           simp only[Bool.true_eq_false,if_false]at hC;by_cases d2:4096<M.length
           · have d2':(4096:Int)<(M.length:Int):=by omega
             have fl:=fail 32 (by decide) (by rw[hC,if_pos d2])
             simp-implicitDefEqProofs (disch:=(first|omega|decide)) only[go_sem,↓reduceIte,seval,ae,g7,g8,g9,d1,d2',fl,List.length_map]
           · have d2': ¬(4096:Int)<(M.length:Int):=by omega
             have ri:=ri (by rw[hC,if_neg d2])
             simp-implicitDefEqProofs (maxSteps:=600000) (disch:=(first|omega|decide)) only[go_sem,↓reduceIte,seval,ae,g7,g8,g9,g10,g11,d1,d2',ri,List.length_map]
def TKa:aj:=QV.add 80 (entry (fun(v:List Pc×Int)=>[.ad (v.1.map Pc.enc),.int .i64 v.2]) (fun v=>gn v.1) (fun v=> .int .i64 (dc v.1 v.2)))
theorem TKa_ok:ag Tryz.prog TKa:=Y23y_ok.bG Tryz.func80 (by kernel_rfl) (by kernel_rfl) fun v h=>uO v.1 v.2 h
@[go_sem] theorem TKa_old{g:FuncId}{xs:List A}(h:g≠80):TKa.f g xs=QV.f g xs:=aj.ak h
theorem DB(v:List Pc×Int)(h:gn v.1):TKa.f 80 [.ad (v.1.map Pc.enc),.int .i64 v.2]=some (.int .i64 (dc v.1 v.2)):=aj.an (Γ:=QV) (fun i j h=>by simpa[Prod.ext_iff,and_assoc]using h) v h
def TKb:aj:=TKa.add 81 (entry (fun(l:List It)=>[.ad (l.map It.enc)]) (fun l=>l.length<=1000000) (fun l=> .bool (cY l)))
theorem Zb:ag Tryz.prog TKb:=TKa_ok.bG Tryz.func81 (by kernel_rfl) (by kernel_rfl) fun l h=>rO l h
@[go_sem] theorem TKb_old{g:FuncId}{xs:List A}(h:g≠81):TKb.f g xs=TKa.f g xs:=aj.ak h
theorem zr(l:List It)(h:l.length<=1000000):TKb.f 81 [.ad (l.map It.enc)]=some (.bool (cY l)):=aj.an (Γ:=TKa) (fun i j h=>by simpa[Prod.ext_iff,and_assoc]using h) l h
theorem k_rMost{k:List Pc}{id:Int}(h:gn k):TKa.f 80 [.ad (k.map Pc.enc),.int .i64 id]=some (.int .i64 (dc k id)):=DB (k,id) h
theorem Zc{l:List It}(h:l.length<=1000000):TKb.f 81 [.ad (l.map It.enc)]=some (.bool (cY l)):=zr l h
def TKm:aj:={TKb with l_:=fun f=>f==29,qU:=fun f=>f==29}
theorem TKm_ok:ag Tryz.prog TKm:=⟨Zb.f,Zb.hp⟩
@[go_sem] theorem TKm_f:TKm.f=TKb.f:=rfl
@[go_sem] theorem TKm_eff{g:FuncId}:TKm.l_ g=(g==29):=rfl
@[go_sem] theorem TKm_frz{g:FuncId}:TKm.qU g=(g==29):=rfl
@[go_sem] theorem TKm_fix{n:Nat}:TKm.fix n=false:=rfl
@[go_sem] theorem TKm_ords{n:Nat}:TKm.c6 n=[]:=rfl
theorem stIt(l:List It):((l.map It.enc).isEmpty||bT (l.map It.enc)==7)=true:=by cases l<;>rfl
theorem FW:ai Tryz.prog TKm Tryz.f50.ntmps (Tryz.f50.body.getD .skip)=true:=by kernel_rfl
theorem Kh(s:bh)(l:List It)(k:List Pc)(h:OkT s l k):az Tryz.prog 50 [s.enc,.ad (l.map It.enc),.ad (k.map Pc.enc)] (· =jW s l k):=by
 refine aa TKm_ok mixed Tryz.func50 rfl (Nat.le_of_ble_eq_true rfl) FW ?_;unfold Tryz.f50;obtain⟨hs,⟨ZA,hl2⟩,hi,⟨ke,OF⟩,⟨Zq,Q0⟩,gZ⟩:=h;have hfl:=hs.fl;have hln:=uR s.fl l;have ya:sP (ka s.fl l):=fun x hx=>hl2 x (List.mem_filter.1 hx).1;have qx:=jF (s.aK++ka s.fl l)
 rw[List.length_append]at qx;have g0:=jH s hs;have g1:=oC l ⟨by omega,hl2⟩
 have g2:=Nk ke.1;have g3:=y_rIn (l:=l) (F:=s.fl) ⟨⟨by omega,hl2⟩,by omega,hfl.2⟩
 have g4:=CO (a:=k) (l:=s.fl) ke hfl.2 ⟨OF,by omega⟩
 rw[show aV (br k s.fl)=iC s k from rfl]at g4;have g5: ∀(x:List UInt8) (n c:Int),x.length<=9223372036854775807->E5.f 74 [.ad (s.kn.map Pc.enc),.str x,.agg [.int .i64 n,.int .i64 c]]=some (.bool (bZ s.kn x n c)):=fun x n c hx=>Qc hs.kn.1.1 hx;have g6: ∀(x:List UInt8) (n c:Int),x.length<=9223372036854775807->E5.f 74 [.ad ((iC s k).map Pc.enc),.str x,.agg [.int .i64 n,.int .i64 c]]=some (.bool (bZ (iC s k) x n c)):=fun x n c hx=>Qc Zq.1 hx;have g7:=k_rMost (id:=s.id) Zq
 have g8:=Za (l:=s.aK++ka s.fl l) ⟨by rw[List.length_append];omega,fun x hx=>by
  rcases List.mem_append.1 hx with hx|hx
  · exact hs.aK.2 x hx
  · exact ya x hx⟩
 rw[List.map_append]at g8;have g9:=Zc (l:=aN (s.aK++ka s.fl l)) (by omega)
 have g10:=Yk (a:=s.kn) (b:=iC s k) hs.kn.1 Zq ⟨hs.kn.2,Q0⟩
 have hC:jV s l k=if cp s=false then 41 else if(b_ l&&aS k)=false then 2 else if((ka s.fl l).any fun x=> !bZ s.kn x.key x.rep x.cu&& !bZ (iC s k) x.key x.rep x.cu)=true then 2 else if s.ct<dc (iC s k) s.id then 2
  else if cY (aN (s.aK++ka s.fl l))=false then 2 else if 4096<(aN (s.aK++ka s.fl l)).length then 32 else 0:=rfl
 have fail: ∀e:Int,e≠0->jV s l k=e->A.cx [.agg [.int .i64 0,.ad [],.ad [],.ad [],.int .i64 0],.int .i64 e]=jW s l k:=fun e he hc=>Hd he hc;have ri:=He (s:=s) (l:=l) (k:=k)
 have tg:=hs.aK.1;generalize jW s l k=Z at*;generalize jV s l k=C at*;generalize hLL:ka s.fl l=L at*;generalize iC s k=O at*;generalize aV (df (s.kn++O))=J at*;generalize dc O s.id=m at*;generalize cY (aN (s.aK++L))=ap at*;generalize aN (s.aK++L)=M at*;generalize cp s=b0 at*;generalize b_ l=b1 at*;generalize aS k=b2 at*;obtain⟨id,F,I,K,ct⟩:=s;simp only[bh.enc,bh.cells]at*;have stI:=stIt I;have stL:=stIt L;have tk1:(I.map It.enc).take I.length=I.map It.enc:=List.take_of_length_le (by simp)
 have tk2:(I.map It.enc++L.map It.enc).take (I.length+L.length)=I.map It.enc++L.map It.enc:=List.take_of_length_le (by simp)
 cases b0 with
 |false=>
  have fl:=fail 41 (by decide) (by rw[hC];rfl)
  simp-implicitDefEqProofs (disch:=(first|omega|decide)) only[go_sem,↓reduceIte,seval,g0,fl]
 |true=>
  cases b1 with
  |false=>
   have fl:=fail 2 (by decide) (by rw[hC];rfl)
   simp-implicitDefEqProofs (disch:=(first|omega|decide)) only[go_sem,↓reduceIte,seval,g0,g1,fl]
  |true=>
   cases b2 with
   |false=>
    have fl:=fail 2 (by decide) (by rw[hC];rfl)
    simp-implicitDefEqProofs (disch:=(first|omega|decide)) only[go_sem,↓reduceIte,seval,g0,g1,g2,fl]
   |true=>
    simp only[Bool.true_eq_false,if_false,Bool.and_self]at hC;simp-implicitDefEqProofs (maxSteps:=600000) (disch:=(first|omega|decide)) only[go_sem,↓reduceIte,seval,g0,g1,g2,g3,g4,List.length_map]
    refine ao [3,6,7,8,9] (ι:={i:Nat//i<=L.length/\(L.any fun x=> !bZ K x.key x.rep x.cu&& !bZ O x.key x.rep x.cu)=((L.drop i).any fun x=> !bZ K x.key x.rep x.cu&& !bZ O x.key x.rep x.cu)}) (fun p=>[(10,.int .i64 p.1)]) (fun _=>[]) (fun p=>L.length-p.1) ⟨0,by omega,rfl⟩ (Nat.zero_le _) ?_ ?_
    · simp-implicitDefEqProofs (disch:=(first|omega|decide)) only[go_sem,↓reduceIte,seval]
      try rfl
    · rintro⟨i,hi,hd⟩
      simp only;by_cases aw:i<L.length
      · have ae:(i:Int)<(L.length:Int):=by omega
        have p1:(0:Int)<=(i:Int):=by omega
        have t1:((i:Nat):Int).toNat=i:=Int.toNat_natCast _;have ei:=dK aw;have G0:=ya _ (List.getElem_mem aw)
        rw[List.drop_eq_getElem_cons aw,List.any_cons]at hd;generalize L[i]=x at*;have g5:=g5 x.key x.rep x.cu G0.1;have g6:=g6 x.key x.rep x.cu G0.1;cases k1:bZ K x.key x.rep x.cu with
        |true=>
         rw[k1]at g5 hd;rw[Bool.not_true,Bool.false_and,Bool.false_or]at hd;simp-implicitDefEqProofs (maxSteps:=600000) (disch:=(first|omega|decide)) only[go_sem,↓reduceIte,seval,ae,p1,t1,ei,g5,wrap_i64,List.length_map]
         exact⟨⟨i+1,aw,hd⟩,by simp,by show L.length-(i+1)<L.length-i;omega⟩
        |false=>
         rw[k1]at g5 hd;cases k2:bZ O x.key x.rep x.cu with
         |true=>
          rw[k2]at g6 hd;rw[Bool.not_true,Bool.and_false,Bool.false_or]at hd;simp-implicitDefEqProofs (maxSteps:=600000) (disch:=(first|omega|decide)) only[go_sem,↓reduceIte,seval,ae,p1,t1,ei,g5,g6,wrap_i64,List.length_map]
          exact⟨⟨i+1,aw,hd⟩,by simp,by show L.length-(i+1)<L.length-i;omega⟩
         |false=>
          rw[k2]at g6 hd;have fl:=fail 2 (by decide) (by rw[hC,hd];rfl)
          simp-implicitDefEqProofs (maxSteps:=600000) (disch:=(first|omega|decide)) only[go_sem,↓reduceIte,seval,ae,p1,t1,ei,g5,g6,fl,List.length_map]
      · have ae: ¬(i:Int)<(L.length:Int):=by omega
        rw[List.drop_of_length_le (by omega),List.any_nil]at hd;rw[hd]at hC;simp only[Bool.false_eq_true,if_false]at hC;by_cases d1:ct<m
        · have fl:=fail 2 (by decide) (by rw[hC,if_pos d1])
          simp-implicitDefEqProofs (disch:=(first|omega|decide)) only[go_sem,↓reduceIte,seval,ae,g7,d1,fl,List.length_map]
        · rw[if_neg d1]at hC
          cases ap with
          |false=>
           have fl:=fail 2 (by decide) (by rw[hC];rfl)
           simp-implicitDefEqProofs (maxSteps:=600000) (disch:=(first|omega|decide)) only[go_sem,↓reduceIte,seval,ae,g7,g8,g9,d1,fl,stI,stL,tk1,tk2,List.length_map]
           all_goals exact⟨by omega,by simp;omega⟩
          |true=>
           simp only[Bool.true_eq_false,if_false]at hC;by_cases d2:4096<M.length
           · have d2':(4096:Int)<(M.length:Int):=by omega
             have fl:=fail 32 (by decide) (by rw[hC,if_pos d2])
             simp-implicitDefEqProofs (maxSteps:=600000) (disch:=(first|omega|decide)) only[go_sem,↓reduceIte,seval,ae,g7,g8,g9,d1,d2',fl,stI,stL,tk1,tk2,List.length_map]
             all_goals exact⟨by omega,by simp;omega⟩
           · have d2': ¬(4096:Int)<(M.length:Int):=by omega
             have ri:=ri (by rw[hC,if_neg d2])
             simp-implicitDefEqProofs (maxSteps:=600000) (disch:=(first|omega|decide)) only[go_sem,↓reduceIte,seval,ae,g7,g8,g9,g10,d1,d2',ri,stI,stL,tk1,tk2,List.length_map]
             all_goals exact⟨by omega,by simp;omega⟩
theorem Zd{P:List UInt8->List ab}{es:List (List UInt8)}(hE:Kq P es){B N:Nat}(hB: ∀x,(P x).length+bj (P x)<=B)(hN:es.length<=N)(hm:N*B<=900000)(Pd:N<=10000)(hB2:B<=40000):
 gn (aV P)/\(aV P).length<=N/\Y3 (aV P) B/\wP (aV P)<=N*B:=by
 obtain⟨a,b,c⟩:=CL hE hB hN hm Pd;have hw:=SD hE hB;exact⟨⟨a,fun x=>by rw[iz (nN hE).2];exact Nat.le_trans (hB x) hB2,fun p hp=>Nat.le_trans (hw p hp) hB2⟩,b,hw,c⟩
theorem okT_of{s:bh}{l:List It}{k:List Pc}{N W:Nat}(hs:s_ s)(hf:s.fl.length<=8)(hl:l.length<=100000/\sP l)(hi:s.aK.length<=100000)(hk:gn k/\k.length<=N)(hW: ∀x,(setAt k x).length+bj (setAt k x)<=W)(hN:N<=240)
 (hw2:W<=30000) (hm:(1+2*(N+8))*(16+W)<=450000) (hs2:wP s.kn<=450000):OkT s l k/\(iC s k).length<=1+2*(N+8)/\Y3 (iC s k) (16+W):=by
 have he:=lE (LL:=[k,lO s.fl []])
 simp only[mR,List.map_cons,List.map_nil,List.sum_cons,List.sum_nil]at he;have e:(lO s.fl []).length=s.fl.length:=by simp[lO]
 obtain⟨a,b,c,d⟩:=Zd (edg3 k s.fl) (B:=16+W) (N:=1+2*(N+8)) (fun x=>SF (hW x)) (by omega) (by omega) (by omega) (by omega)
 have hko:=hs.kn.1.1;have h5:wP (iC s k)<=450000:=Nat.le_trans d hm;have h6:(iC s k).length<=1+2*(N+8):=b;exact⟨⟨hs,hl,hi,⟨hk.1,by omega⟩,⟨a,by omega⟩,CM hko a.1 (by have:=hs.kn.2;omega) (by omega)⟩,b,c⟩
theorem s6{s:bh}{l:List It}{k:List Pc}(h:jV s l k=0):fi s/\(b_ l=true/\aS k=true)/\(∀x∈ka s.fl l,bZ s.kn x.key x.rep x.cu=true\/bZ (iC s k) x.key x.rep x.cu=true)/\dc (iC s k) s.id<=s.ct/\cY (aN (s.aK++ka s.fl l))=true/\(aN (s.aK++ka s.fl l)).length<=4096:=by
 unfold jV at h;split at h
 · cases h
 rename_i h0;split at h
 · cases h
 rename_i h1;split at h
 · cases h
 rename_i h2;split at h
 · cases h
 rename_i h3;split at h
 · cases h
 rename_i h4;split at h
 · cases h
 rename_i h5;have h0:cp s=true:=by simpa using h0
 refine⟨(dE s).1 h0,by simpa using h1,fun x hx=> ?_,by omega,by simpa using h4,by omega⟩
 unfold loneI at h2;simp only[List.any_eq_true,Bool.and_eq_true,Bool.not_eq_true',not_exists,not_and]at h2;have:=h2 x hx;cases g:bZ s.kn x.key x.rep x.cu with
 |true=>exact .inl rfl
 |false=>right;simpa using this g
theorem NX{s:bh}{l:List It}{k:List Pc}(h:jV s l k=0):fi (Db s (ka s.fl l) (iC s k)):=by
 obtain⟨hS,_,h2,h3,h4,h5⟩:=s6 h;have hid:bI s.id=true:=bL.2 hS.id;refine QC hS (fun x hx=>(List.mem_filter.1 hx).2) (fun x n hn c hc=> ?_) (fun x c hc=> ?_) h2 (qS.1 h4) h5
 · unfold iC at hc
   rw[iz (qf _ _),Ng hn,Bool.and_eq_true]at hc;exact hc.1
 · unfold dc at h3
   rw[uK]at h3;obtain⟨p,hp,_,h⟩:=C9.1 hc;exact(C_ hid hS.ct.1).1 (h3.2 p hp) c h
theorem U_{a b:List Pc}{w v:Nat}{x:List UInt8}(ha:(setAt a x).length+bj (setAt a x)<=w)(hb:(setAt b x).length+bj (setAt b x)<=v):(setAt (a++b) x).length+bj (setAt (a++b) x)<=w+v:=by rw[gz,List.length_append,e_];omega
theorem Ze{s:bh}{L:List It}{O:List Pc}{N w n No wo nl:Nat}(h:iB s N w n)(hR:fi (Db s L O))(hO:O.length<=No)(hw: ∀x,(setAt O x).length+bj (setAt O x)<=wo)(hL:L.length<=nl/\sP L)(hm:(1+2*(N+No))*(16+(w+wo))<=900000)(hN:N+No<=1000):
 iB (Db s L O) (1+2*(N+No)) (16+(w+wo)) (n+nl):=by
 have hl:(s.kn++O).length<=N+No:=by rw[List.length_append];have:=h.kn.1;omega
 have hk:=SE (N:=N+No) (W:=w+wo) hl (fun y=>U_ (uY h.right.kn h.kn.2 y) (hw y)) hm hN;refine⟨hR,h.fl,⟨?_,fun y hy=> ?_⟩,⟨hk.2.1,hk.2.2.2⟩⟩
 · have:=jF (s.aK++L)
   rw[List.length_append]at this;show(aN (s.aK++L)).length<=n+nl;have:=h.aK.1;omega
 · rcases List.mem_append.1 (dD hy).1 with hy|hy
   · exact h.aK.2 y hy
   · exact hL.2 y hy
theorem Va{s:bh}{L:List It}{O:List Pc}:aV (xW s.kn (Db s L O).kn)=[]:=Uy fun x=>Uz.2 fun n hn c hc=>by show hk (setAt (aV (df (s.kn++O))) x) n c=true;rw[mi hn,hc,Bool.true_or]
theorem get_key{l:List It}(h2:l.Pairwise fun x y=>aQ x.key y.key=true){x:It}(hx:x∈l):er l x.key=some x:=by
 have:(er l x.key).isSome=true:=by
  unfold er;rw[List.find?_isSome]
  exact⟨x,hx,by simp⟩
 obtain⟨y,hy⟩:=Option.isSome_iff_exists.1 this;have h1:y∈l:=List.mem_of_find?_eq_some hy;have h3:(y.key==x.key)=true:=List.find?_some (p:=fun z:It=>z.key==x.key) hy;have h3:y.key=x.key:=by simpa using h3
 obtain⟨i,hi,rfl⟩:=List.getElem_of_mem hx;obtain⟨j,hj,rfl⟩:=List.getElem_of_mem h1;have hp:=List.pairwise_iff_getElem.1 h2;rcases Nat.lt_trichotomy i j with r|r|r
 · have:=hp i j hi hj r
   rw[h3,lt_irrefl]at this;cases this
 · subst r;exact hy
 · have:=hp j i hj hi r
   rw[h3,lt_irrefl]at this;cases this
theorem QW{s:bh}{L:List It}{O:List Pc}(h:fi s){x:It}(hx:x∈s.aK): ∃y,er (Db s L O).aK x.key=some y/\bt x y=false:=by
 obtain⟨y,hy,hk,hb⟩:=UR (l:=s.aK++L) (List.mem_append.2 (.inl hx)) (h.right x hx)
 refine⟨y, ?_,hb⟩
 rw[<-hk]
 exact get_key (fa (s.aK++L)).1 hy
def NY:aj:=Kd.add 32 (entry (fun(v:bh×List It×List Pc)=>[v.1.enc,.ad (v.2.1.map It.enc),.ad (v.2.2.map Pc.enc)]) (fun v=>OkT v.1 v.2.1 v.2.2) (fun v=>jW v.1 v.2.1 v.2.2))
theorem V23k_ok:ag Tryz.prog NY:=SP.bG Tryz.func32 (by kernel_rfl) (by kernel_rfl) fun v h=>Kg v.1 v.2.1 v.2.2 h
@[go_sem] theorem V23k_old{g:FuncId}{xs:List A}(h:g≠32):NY.f g xs=Kd.f g xs:=aj.ak h
theorem zt(v:bh×List It×List Pc)(h:OkT v.1 v.2.1 v.2.2):NY.f 32 [v.1.enc,.ad (v.2.1.map It.enc),.ad (v.2.2.map Pc.enc)]=some (jW v.1 v.2.1 v.2.2):=aj.an (Γ:=Kd) (fun i j h=>by simpa[Prod.ext_iff,and_assoc]using h) v h
def Vb:aj:=NY.add 50 (entry (fun(v:bh×List It×List Pc)=>[v.1.enc,.ad (v.2.1.map It.enc),.ad (v.2.2.map Pc.enc)]) (fun v=>OkT v.1 v.2.1 v.2.2) (fun v=>jW v.1 v.2.1 v.2.2))
theorem V23l_ok:ag Tryz.prog Vb:=V23k_ok.bG Tryz.func50 (by kernel_rfl) (by kernel_rfl) fun v h=>Kh v.1 v.2.1 v.2.2 h
@[go_sem] theorem V23l_old{g:FuncId}{xs:List A}(h:g≠50):Vb.f g xs=NY.f g xs:=aj.ak h
@[go_sem] theorem V23l_s:Vb.pl NY:=⟨fun _=>rfl,fun _=>rfl,rfl,fun _=>rfl,rfl,fun _=>rfl,rfl⟩
theorem zu(v:bh×List It×List Pc)(h:OkT v.1 v.2.1 v.2.2):Vb.f 50 [v.1.enc,.ad (v.2.1.map It.enc),.ad (v.2.2.map Pc.enc)]=some (jW v.1 v.2.1 v.2.2):=aj.an (Γ:=NY) (fun i j h=>by simpa[Prod.ext_iff,and_assoc]using h) v h
theorem v_Take{s:bh}{l:List It}{k:List Pc}(h:OkT s l k):NY.f 32 [.agg [.int .i64 s.id,.ad (s.fl.map ax.enc),.ad (s.aK.map It.enc),.ad (s.kn.map Pc.enc),.int .i64 s.ct],.ad (l.map It.enc),.ad (k.map Pc.enc)]=some (jW s l k):=zt (s,l,k) h
theorem v_rTake{s:bh}{l:List It}{k:List Pc}(h:OkT s l k):Vb.f 50 [.agg [.int .i64 s.id,.ad (s.fl.map ax.enc),.ad (s.aK.map It.enc),.ad (s.kn.map Pc.enc),.int .i64 s.ct],.ad (l.map It.enc),.ad (k.map Pc.enc)]=some (jW s l k):=zu (s,l,k) h
theorem Vc{s:bh}{N w n:Nat}(h:s=cd\/iB s N w n)(hN:N<=400)(hw:w<=2200)(hn:n<=1000):Dy.f 18 [.agg [.int .i64 s.id,.ad (s.fl.map ax.enc),.ad (s.aK.map It.enc),.ad (s.kn.map Pc.enc),.int .i64 s.ct],.agg [.int .i64 s.id,.ad (s.fl.map ax.enc),.ad (s.aK.map It.enc),.ad (s.kn.map Pc.enc),.int .i64 s.ct]]=some (.bool true):=by
 have e:uZ s s=true:=G9.2 rfl;rw[<-e]
 rcases h with rfl|h
 · exact Kc ⟨by decide,by decide,⟨⟨by decide,by decide⟩,fun p hp=>absurd hp List.not_mem_nil⟩,⟨⟨by decide,by decide⟩,fun p hp=>absurd hp List.not_mem_nil⟩⟩
 · have h1:=h.fl.1
   have h2:=h.aK.1;have h3:=(h.cC hN hw).1;exact Kc ⟨⟨by omega,by omega⟩,⟨by omega,by omega⟩,h3,h3⟩
theorem Vd{s:bh}{N w n:Nat}(h:iB s N w n)(hN:N<=400)(hw:w<=2200)(hn:n<=1000):FT.f 21 [.agg [.int .i64 s.id,.ad (s.fl.map ax.enc),.ad (s.aK.map It.enc),.ad (s.kn.map Pc.enc),.int .i64 s.ct]]=some (.bool true):=by
 have:=NU (h.Y5 hN hw hn)
 rwa [(dE s).2 h.right]at this
theorem rn:ai Tryz.prog Vb Tryz.f12.ntmps (Tryz.f12.body.getD .skip)=true:=by kernel_rfl
theorem s7(s:bh)(l:List It)(k:List Pc)(h:InS3 s)(hl:l.length<=9223372036854775807/\sP l)(hk:k.length<=9223372036854775807/\ ∀p∈k,p.s.length<=9223372036854775807):
 az Tryz.prog 12 [s.enc,.ad (l.map It.enc),.ad (k.map Pc.enc)] (· = .bool true):=by
 refine aa V23l_ok mixed Tryz.func12 rfl (Nat.le_of_ble_eq_true rfl) rn ?_;unfold Tryz.f12;have g0:=SQ;have g1:=SR (s:=s) ⟨⟨h.fl.1,h.aK.1⟩,h.kn⟩
 have g2:=oB (l,24) hl.1;have g3:=Sb (k:=k) (m:=12) hk.1 hk.2;simp only[bh.enc,bh.cells]at g2⊢;cases c1:qh s with
 |true=>
  rw[c1]at g1;simp-implicitDefEqProofs (disch:=(first|omega|decide)) only[go_sem,↓reduceIte,seval,g0,g1]
 |false=>
  rw[c1]at g1;cases c2:mT l 24 with
  |true=>
   rw[c2]at g2;simp-implicitDefEqProofs (disch:=(first|omega|decide)) only[go_sem,↓reduceIte,seval,g0,g1,g2]
  |false=>
   rw[c2]at g2;cases c3:jt k 12 with
   |true=>
    rw[c3]at g3;simp-implicitDefEqProofs (disch:=(first|omega|decide)) only[go_sem,↓reduceIte,seval,g0,g1,g2,g3]
   |false=>
    rw[c3]at g3;obtain⟨ok,hw⟩:=G' h c1;have sk:=xY (m:=12) c3;have hlen:=GZ c2;have LX:l.length<=24:=by omega
    have hW: ∀x,(setAt k x).length+bj (setAt k x)<=3264:=fun x=>Nat.le_trans (nU k x) sk.2.1;obtain⟨hT,Zq,Q0⟩:=okT_of (N:=12) (W:=3264) (l:=l) (k:=k) ok.toR ok.fl.1 ⟨by omega,hl.2⟩ (by have:=ok.aK.1;omega) ⟨Yi sk (by omega),sk.1⟩ hW (by omega) (by omega) (by decide) (by have:=ok.kn.2.1;omega)
    have g4:=v_Take hT;have g5:=v_rTake hT
    have dQ:jV s l k=0->iB (oE s l k) 131 576 48:=fun h0=>by
     obtain⟨hS,⟨_,hkr⟩,_⟩:=s6 h0;unfold oE;rw[if_pos h0]
     have hkw:Y3 k 272:=fun p hp=>by have h3:=c3;unfold jt at h3;rw[Bool.or_eq_false_iff,List.any_eq_false]at h3;have:=h3.2 p hp;simp only[wx,Bool.not_eq_true,Bool.or_eq_false_iff,decide_eq_false_iff_not]at this;obtain⟨a,b,c⟩:=this;have:=sD (m:=16) c;omega
     have DN: ∀x,(setAt (iC s k) x).length+bj (setAt (iC s k) x)<=288:=fun x=>by
      unfold iC;rw[iz (qf _ _)]
      exact SF (uY hkr hkw x)
     exact Ze (N:=24) (w:=272) (n:=24) (No:=41) (wo:=288) (nl:=24) (s0 ok hw hS) (NX h0) Zq DN ⟨Nat.le_trans (uR _ _) LX,fun x hx=>hl.2 x (List.mem_filter.1 hx).1⟩ (by decide) (by decide)
    have NW:oE s l k=cd\/iB (oE s l k) 131 576 48:=by
     by_cases h0:jV s l k=0
     · exact .inr (dQ h0)
     · left;unfold oE;rw[if_neg h0]
    have g6:=Vc NW (by decide) (by decide) (by decide)
    have hkeep:jV s l k=0->(∀x∈s.aK,∃y,er (oE s l k).aK x.key=some y/\bt x y=false)/\aV (xW s.kn (oE s l k).kn)=[]:=fun h0=>by
     obtain⟨hS,_⟩:=s6 h0;unfold oE;rw[if_pos h0]
     exact⟨fun x hx=>QW hS hx,Va⟩
    clear NW;unfold jW at g4 g5;simp only[bh.enc,bh.cells]at g4 g5;generalize oE s l k=t at*;generalize jV s l k=c at*;cases hc:c==0 with
    |false=>simp-implicitDefEqProofs (maxSteps:=600000) (disch:=(first|omega|decide)) only[go_sem,↓reduceIte,seval,g0,g1,g2,g3,g4,g5,g6,hc,beq_self_eq_true]
    |true=>
     have h0:c=0:=by simpa using hc
     have dQ:=dQ h0;obtain⟨ke,OF⟩:=hkeep h0;have g7:=Vd dQ (by decide) (by decide) (by decide)
     have g8:=q_Less (a:=s.kn) (b:=t.kn) ok.gn (dQ.cC (by decide) (by decide)) ⟨by have:=ok.kn.1;omega,by have:=dQ.kn.1;omega⟩
     rw[OF]at g8;have g9: ∀x:List UInt8,Fz.f 37 [.agg [.int .i64 t.id,.ad (t.fl.map ax.enc),.ad (t.aK.map It.enc),.ad (t.kn.map Pc.enc),.int .i64 t.ct],.str x]=some (JI (er t.aK x)):=fun x=>Sq (by have:=dQ.aK.1;omega)
     have hle:s.aK.length<=24:=ok.aK.1;simp-implicitDefEqProofs (maxSteps:=600000) (disch:=(first|omega|decide)) only[go_sem,↓reduceIte,seval,g0,g1,g2,g3,g4,g5,g6,hc,beq_self_eq_true,List.length_map]
     refine ao [3,7,53,54] (ι:={i:Nat//i<=s.aK.length}) (fun i=>[(55,.int .i64 i.1)]) (fun _=>[]) (fun i=>s.aK.length-i.1) ⟨0,by omega⟩ (Nat.zero_le _) ?_ ?_
     · simp-implicitDefEqProofs (disch:=(first|omega|decide)) only[go_sem,↓reduceIte,seval]
       try rfl
     · rintro⟨i,hi⟩
       simp only;by_cases aw:i<s.aK.length
       · have ae:(i:Int)<(s.aK.length:Int):=by omega
         have ei:=dK aw;obtain⟨y,hy,hb⟩:=ke _ (List.getElem_mem aw)
         generalize s.aK[i]=x at*;have g9:=g9 x.key;rw[hy]at g9;have gB:=Sm (x:=x) (y:=y)
         rw[hb]at gB;simp only[JI,It.enc]at g9;simp-implicitDefEqProofs (maxSteps:=600000) (disch:=(first|omega|decide)) only[go_sem,↓reduceIte,seval,ae,ei,g9,gB,wrap_i64,List.length_map]
         exact⟨⟨i+1,aw⟩,by simp,by show s.aK.length-(i+1)<s.aK.length-i;omega⟩
       · have ae: ¬(i:Int)<(s.aK.length:Int):=by omega
         simp-implicitDefEqProofs (maxSteps:=600000) (disch:=(first|omega|decide)) only[go_sem,↓reduceIte,seval,ae,g7,g8,List.length_map]
end Go.Proofs.YtihgnfmoafjakaaGreat
