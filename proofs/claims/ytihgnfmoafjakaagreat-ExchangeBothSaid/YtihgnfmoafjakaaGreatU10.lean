/- What the laws of this claim rest on: the abstract executor, its soundness, and what the functions compute on pure data. No condition. -/
import Derived.Test.YtihgnfmoafjakaaGreatU9
noncomputable section
set_option linter.unusedVariables false
set_option linter.unusedSimpArgs false
namespace Go.Proofs.YtihgnfmoafjakaaGreat
open Go.bo Go.yv
set_option linter.unusedSimpArgs false
set_option linter.unusedVariables false
set_option maxRecDepth 20000
set_option maxHeartbeats 8000000
abbrev Xd:=List It×List It×List It
def yE(v:Xd):List It:=v.1++(v.2.1++v.2.2)
def HC(v:Xd):List A:=[.row 0 0 7 (yE v).length false,.int .i64 v.1.length,.int .i64 (v.1.length+v.2.1.length:Nat),.fn 148 []]
def insK(v:Xd):Prop:=(yE v).length<=1000000/\ ∀x∈v.2.1,x.ok
def insR(v:Xd):A×List Go.bo.Obj×List Nat:=(.cD [],iu (v.1++(bn cx v.2.1++v.2.2)),[])
def syK(v:Xb):Prop:=rtK v/\kP cx v.2.1/\kP cx v.2.2.1/\(∀x∈v.2.1,x.ok)/\(∀x∈v.2.2.1,x.ok)
theorem ins_inj(i j:Xd)(h:HC i=HC j)(h':iu (yE i)=iu (yE j)):i=j:=by
 obtain⟨P,S,T⟩:=i;obtain⟨P',S',T'⟩:=j;have e:=wy h';simp only[HC,List.cons.injEq,A.int.injEq,true_and,and_true,Int.ofNat_inj]at h;obtain⟨_,h1,h2⟩:=h;simp only[yE]at e;obtain⟨p1,e1⟩:=List.append_inj e h1;obtain⟨p2,p3⟩:=List.append_inj e1 (by rw[p1]at h2;omega)
 rw[p1,p2,p3]
def TIv0:an:=XN.fj 207 (bC HC (fun v=>iu (yE v)) insK insR)
def TIv1:an:=TIv0.fj 208 (bC yD (fun v=>iu (sV v)) syK XO)
def TIv:an:={TIv1 with mH:=fun f=>f==207||f==208}
@[go_sem] theorem TIv_eff{g:FuncId}:TIv.mH g=(g==207||g==208):=rfl
@[go_sem] theorem TIv_frz{g:FuncId}:TIv.pZ g=false:=rfl
@[go_sem] theorem TIv_ords{n:Nat}:TIv.c6 n=[]:=rfl
theorem TIv_ok:ag Tryz.prog TIv:=by
 have h1:ag Tryz.prog TIv0:=yz.fj (bB Tryz.func207 (by kernel_rfl) (by kernel_rfl)) (cX fun v h=>W6 v.1 v.2.1 v.2.2 h.1 h.2)
 have h2:ag Tryz.prog TIv1:=h1.fj (bB Tryz.func208 (by kernel_rfl) (by kernel_rfl)) (cX fun v h=>Fg (v.2.1.length+v.2.2.1.length+1) v ⟨h.1,h.2.1,h.2.2.1,h.2.2.2.1,h.2.2.2.2,by omega⟩)
 exact⟨h2.f,h2.hp⟩
theorem hv_ins{N a b:Nat}{P S T R0 R1:List It}(e0:P++(S++T)=R0)(e1:P++(bn cx S++T)=R1)(hN:R0.length=N)(hl:N<=1000000)(ha:P.length=a)(hb:a+S.length=b)(kS: ∀x∈S,x.ok):TIv.hp 207 [.row 0 0 7 N false,.int .i64 (a:Int),.int .i64 (b:Int),.fn 148 []] [.row 7 (R0.map It.enc)]=some (.cD [],[.row 7 (R1.map It.enc)],[]):=by subst e0 e1 hN ha hb;have W5:TIv1.hp 207 (HC (P,S,T)) (iu (yE (P,S,T)))=bC HC (fun v=>iu (yE v)) insK insR (HC (P,S,T)) (iu (yE (P,S,T))):=(an.sg (by decide)).trans an.eC;have h0:TIv.hp 207 (HC (P,S,T)) (iu (yE (P,S,T)))=bC HC (fun v=>iu (yE v)) insK insR (HC (P,S,T)) (iu (yE (P,S,T))):=W5;exact h0.trans (cY (FO:=fun v:Xd=>iu (yE v)) ins_inj (P,S,T) ⟨hl,kS⟩)
theorem hv_sym{N a b c:Nat}{P U W Q R0 R1:List It}(e0:P++(U++(W++Q))=R0)(e1:P++(bn cx (U++W)++Q)=R1)(hN:R0.length=N)(hl:N<=1000000)(ha:P.length=a)(hb:a+U.length=b)(hc:b+W.length=c)(hU:0<U.length)(hW:0<W.length)(sU:kP cx U)(sW:kP cx W)(kU: ∀x∈U,x.ok)(kW: ∀x∈W,x.ok):TIv.hp 208 [.row 0 0 7 N false,.int .i64 (a:Int),.int .i64 (b:Int),.int .i64 (c:Int),.fn 148 []] [.row 7 (R0.map It.enc)]=some (.cD [],[.row 7 (R1.map It.enc)],[]):=by subst e0 e1 hN ha hb hc;have W5:TIv1.hp 208 (yD (P,U,W,Q)) (iu (sV (P,U,W,Q)))=bC yD (fun v=>iu (sV v)) syK XO (yD (P,U,W,Q)) (iu (sV (P,U,W,Q))):=an.eC;have h0:TIv.hp 208 (yD (P,U,W,Q)) (iu (sV (P,U,W,Q)))=bC yD (fun v=>iu (sV v)) syK XO (yD (P,U,W,Q)) (iu (sV (P,U,W,Q))):=W5;exact h0.trans (cY (FO:=fun v:Xb=>iu (sV v)) SS (P,U,W,Q) ⟨⟨hl,hU,hW⟩,sU,sW,kU,kW⟩)
theorem wB{B:List It}(h: ∀x∈B,x.ok): ∀x∈bn cx B,x.ok:=fun x hx=>h x ((St.mem iF (im iF B) x).1 hx)
theorem f_:ah Tryz.prog TIv Tryz.f183.ntmps (Tryz.f183.body.getD .skip)=true:=by kernel_rfl
theorem c_stable(l:List It)(h:l.length<=1000000)(hk: ∀x∈l,x.ok):dR Tryz.prog 183 [.row 0 0 7 l.length false,.int .i64 l.length,.fn 148 []] [.row 7 (l.map It.enc)]
 (.cD []) [.row 7 ((bn cx l).map It.enc)] []:=by
 refine cj TIv_ok mixed Tryz.func183 rfl (Nat.le_of_ble_eq_true rfl) (fun n h _=>by simp at h;subst h;rfl) (by show _<=1;simp) (by show 1<=_;simp) f_ ?_;unfold Tryz.f183;obtain⟨N,hN⟩: ∃N,l.length=N:=⟨_,rfl⟩
 rw[hN]at h⊢;simp-implicitDefEqProofs (disch:=(first|omega|decide)) only[go_sem,↓reduceIte,seval,wrap_i64,List.length_map]
 refine ar [0,1,2,6] (ι:={p:List It×List It//p.1.length+p.2.length=N/\(∀r,BN cx 20 p.2 r->BN cx 20 l (p.1++r))/\ ∀x∈p.2,x.ok}) (fun p=>[(7,.int .i64 (p.1.1.length:Int)),(8,.int .i64 ((p.1.1.length+20:Nat):Int))]) (fun p=>[(0,.row 7 ((p.1.1++p.1.2).map It.enc))]) (fun p=>p.1.2.length) ⟨([],l),by simpa using hN,fun r hr=>hr,hk⟩ (by show 1<=_;simp) ?_ ?_
 · simp-implicitDefEqProofs (disch:=(first|omega|decide)) only[go_sem,↓reduceIte,seval,List.nil_append,List.length_nil]
   try first|done|rfl|exact⟨rfl,rfl⟩
 · rintro⟨⟨D,B⟩,h1,h2,h3⟩
   simp only at h1 h2 h3⊢;by_cases aw:20<=B.length
   · have c0:((D.length+20:Nat):Int)<=(N:Int):=by omega
     have tl:(B.take 20).length=20:=by rw[List.length_take];omega
     have f:=hv_ins (N:=N) (a:=D.length) (b:=D.length+20) (P:=D) (S:=B.take 20) (T:=B.drop 20) (R0:=D++B) (by rw[List.take_append_drop]) rfl (by rw[List.length_append];omega) h rfl (by omega) (fun x hx=>h3 x (List.mem_of_mem_take hx))
     simp-implicitDefEqProofs (disch:=(first|omega|decide)) only[go_sem,↓reduceIte,seval,c0,f,wrap_i64,List.length_map]
     refine⟨⟨(D++bn cx (B.take 20),B.drop 20),by rw[List.length_append,bY,List.length_drop];omega,fun r hr=> ?_,fun x hx=>h3 x (List.mem_of_mem_drop hx)⟩,⟨⟨by simp[bY];omega,by simp[bY];omega⟩,by simp⟩,by show(B.drop 20).length<B.length;rw[List.length_drop];omega⟩
     have hc:=BN.cons (lt:=cx) (B.take 20) (B.drop 20) r tl hr;rw[List.take_append_drop]at hc;have:=h2 _ hc
     rwa [List.append_assoc]
   · have c0: ¬((D.length+20:Nat):Int)<=(N:Int):=by omega
     have f:=hv_ins (N:=N) (a:=D.length) (b:=N) (P:=D) (S:=B) (T:=[]) (R0:=D++B) (by rw[List.append_nil]) rfl (by rw[List.length_append];omega) h rfl (by omega) h3;have hb:=h2 _ (BN.last B (by omega))
     rw[List.append_nil]at f;generalize D++bn cx B=R at*;simp-implicitDefEqProofs (disch:=(first|omega|decide)) only[go_sem,↓reduceIte,seval,c0,f,wrap_i64,List.length_map]
     clear f h1 h2 h3 c0 aw;refine ar [0,1,2] (ι:={p:Nat×List It//20<=p.1/\p.1<=2000020/\BN cx p.1 l p.2}) (fun p=>[(6,.int .i64 (p.1.1:Int))]) (fun p=>[(0,.row 7 (p.1.2.map It.enc))]) (fun p=>N-p.1.1) ⟨(20,R),by simp,by simp,hb⟩ (by show 1<=_;simp) ?_ ?_
     · simp-implicitDefEqProofs (disch:=(first|omega|decide)) only[go_sem,↓reduceIte,seval]
       try first|done|rfl|exact⟨rfl,rfl⟩
     · rintro⟨⟨bs,R'⟩,k1,k2,k3⟩
       simp only at k1 k2 k3⊢;clear hb;by_cases hbs:bs<N
       · have c1:(bs:Int)<(N:Int):=by omega
         have d1:2*(bs:Int)=((2*bs:Nat):Int):=by omega
         have d1':(bs:Int)*2=((2*bs:Nat):Int):=by omega
         simp-implicitDefEqProofs (disch:=(first|omega|decide)) only[go_sem,↓reduceIte,seval,c1,d1,d1',wrap_i64,List.length_map]
         refine ar [0,1,2,6] (ι:={p:List It×List It×List It//p.1.length+p.2.1.length=N/\BN cx bs p.2.1 p.2.2/\(∀r,BN cx (2*bs) p.2.1 r->BN cx (2*bs) l (p.1++r))/\ ∀x∈p.2.1,x.ok}) (fun p=>[(7,.int .i64 (p.1.1.length:Int)),(8,.int .i64 ((p.1.1.length+2*bs:Nat):Int))]) (fun p=>[(0,.row 7 ((p.1.1++p.1.2.2).map It.enc))]) (fun p=>p.1.2.1.length) ⟨([],l,R'),by simpa using hN,k3,fun r hr=>hr,hk⟩ (by show 1<=_;simp) ?_ ?_
         · simp-implicitDefEqProofs (disch:=(first|omega|decide)) only[go_sem,↓reduceIte,seval,List.nil_append,List.length_nil,Nat.zero_add]
           try first|done|rfl|exact⟨rfl,rfl⟩
         · rintro⟨⟨D,B,r⟩,h1,h2,h3,h4⟩
           simp only at h1 h2 h3 h4⊢;have d2:(D.length:Int)+(bs:Int)=((D.length+bs:Nat):Int):=by omega
           by_cases aw:2*bs<=B.length
           · have c0:((D.length+2*bs:Nat):Int)<=(N:Int):=by omega
             obtain⟨B1,B',r',rfl,b1,rfl,g2⟩:=h2.part (by omega)
             have lb':(B1++B').length=B1.length+B'.length:=List.length_append;obtain⟨B2,B3,r3,rfl,b2,rfl,g3⟩:=g2.part (by omega)
             have lb2:(B2++B3).length=B2.length+B3.length:=List.length_append;have lr:=g3.len;have o1: ∀x∈B1,x.ok:=fun x hx=>h4 x (by simp[hx])
             have o2: ∀x∈B2,x.ok:=fun x hx=>h4 x (by simp[hx])
             have f:=hv_sym (N:=N) (a:=D.length) (b:=D.length+bs) (c:=D.length+2*bs) (P:=D) (U:=bn cx B1) (W:=bn cx B2) (Q:=r3) (R0:=D++(bn cx B1++(bn cx B2++r3))) rfl rfl (by simp only[List.length_append,bY];omega) h rfl (by rw[bY];omega) (by rw[bY];omega) (by rw[bY];omega) (by rw[bY];omega) (nZ iF _) (nZ iF _) (wB o1) (wB o2)
             rw[I_ iF]at f;have d3:((D.length+2*bs:Nat):Int)+((2*bs:Nat):Int)=((D.length+2*bs+2*bs:Nat):Int):=by omega
             simp-implicitDefEqProofs (disch:=(first|omega|decide)) only[go_sem,↓reduceIte,seval,c0,d1,d1',d2,d3,f,wrap_i64,List.length_map]
             refine⟨⟨(D++bn cx (B1++B2),B3,r3),by show(D++bn cx (B1++B2)).length+B3.length=N;rw[List.length_append,bY,List.length_append];omega,g3,fun r hr=> ?_,fun x hx=>h4 x (by simp[hx])⟩,⟨⟨by simp[bY];omega,by simp[bY];omega⟩,by simp⟩,by show B3.length<(B1++(B2++B3)).length;omega⟩
             have:=h3 (bn cx (B1++B2)++r) (by
              rw[<-List.append_assoc]
              exact BN.cons (B1++B2) B3 r (by rw[List.length_append];omega) hr)
             rwa [List.append_assoc]
           · have c0: ¬((D.length+2*bs:Nat):Int)<=(N:Int):=by omega
             by_cases hm:bs<B.length
             · have c2:((D.length+bs:Nat):Int)<(N:Int):=by omega
               obtain⟨B1,B2,r2,rfl,b1,rfl,g2⟩:=h2.part (by omega)
               have lb':(B1++B2).length=B1.length+B2.length:=List.length_append;obtain rfl:=g2.small (by omega)
               have o1: ∀x∈B1,x.ok:=fun x hx=>h4 x (by simp[hx])
               have o2: ∀x∈B2,x.ok:=fun x hx=>h4 x (by simp[hx])
               have f:=hv_sym (N:=N) (a:=D.length) (b:=D.length+bs) (c:=N) (P:=D) (U:=bn cx B1) (W:=bn cx B2) (Q:=[]) (R0:=D++(bn cx B1++bn cx B2)) (by rw[List.append_nil]) rfl (by simp only[List.length_append,bY];omega) h rfl (by rw[bY];omega) (by rw[bY];omega) (by rw[bY];omega) (by rw[bY];omega) (nZ iF _) (nZ iF _) (wB o1) (wB o2)
               rw[I_ iF,List.append_nil]at f;have hb:=h3 _ (BN.last (B1++B2) (by omega))
               generalize D++bn cx (B1++B2)=R2 at*;simp-implicitDefEqProofs (disch:=(first|omega|decide)) only[go_sem,↓reduceIte,seval,c0,c2,d1,d1',d2,f,wrap_i64,List.length_map]
               exact⟨⟨(2*bs,R2),by show 20<=2*bs;omega,by show 2*bs<=2000020;omega,hb⟩,⟨by simp,by simp⟩,by show N-2*bs<N-bs;omega⟩
             · have c2: ¬((D.length+bs:Nat):Int)<(N:Int):=by omega
               obtain rfl:=h2.small (by omega)
               have hb:=h3 _ (BN.last B (by omega))
               generalize D++bn cx B=R2 at*;simp-implicitDefEqProofs (disch:=(first|omega|decide)) only[go_sem,↓reduceIte,seval,c0,c2,d1,d1',d2,wrap_i64,List.length_map]
               exact⟨⟨(2*bs,R2),by show 20<=2*bs;omega,by show 2*bs<=2000020;omega,hb⟩,⟨by simp,by simp⟩,by show N-2*bs<N-bs;omega⟩
       · have c1: ¬(bs:Int)<(N:Int):=by omega
         have e:=k3.small (by omega)
         rw[e]
         simp-implicitDefEqProofs (disch:=(first|omega|decide)) only[go_sem,↓reduceIte,seval,c1,List.length_map]
def sbE(l:List It):List A:=[.row 0 0 7 l.length false,.int .i64 l.length,.fn 148 []]
def sbK(l:List It):Prop:=l.length<=1000000/\ ∀x∈l,x.ok
def sbR(l:List It):A×List Go.bo.Obj×List Nat:=(.cD [],iu (bn cx l),[])
def soE(l:List It):List A:=[.row 0 0 7 l.length false,.fn 148 []]
def TIw0:an:=XN.fj 183 (bC sbE iu sbK sbR)
def TIw:an:={TIw0 with mH:=fun f=>f==183}
theorem TIw_ok:ag Tryz.prog TIw:=by
 have h1:ag Tryz.prog TIw0:=yz.fj (bB Tryz.func183 (by kernel_rfl) (by kernel_rfl)) (cX fun l h=>c_stable l h.1 h.2)
 exact⟨h1.f,h1.hp⟩
@[go_sem] theorem TIw_eff{g:FuncId}:TIw.mH g=(g==183):=rfl
@[go_sem] theorem TIw_frz{g:FuncId}:TIw.pZ g=false:=rfl
@[go_sem] theorem TIw_ords{n:Nat}:TIw.c6 n=[]:=rfl
theorem Xe{l:List It}(h:sbK l):TIw.hp 183 [.row 0 0 7 l.length false,.int .i64 l.length,.fn 148 []] [.row 7 (l.map It.enc)]=some (.cD [],[.row 7 ((bn cx l).map It.enc)],[]):=by have W5:TIw0.hp 183 (sbE l) (iu l)=bC sbE iu sbK sbR (sbE l) (iu l):=an.eC;have h0:TIw.hp 183 (sbE l) (iu l)=bC sbE iu sbK sbR (sbE l) (iu l):=W5;exact h0.trans (cY (fun i j _ h=>wy h) l h)
theorem dr:ah Tryz.prog TIw Tryz.f147.ntmps (Tryz.f147.body.getD .skip)=true:=by kernel_rfl
theorem LS(l:List It)(h:sbK l):dR Tryz.prog 147 [.row 0 0 7 l.length false,.fn 148 []] [.row 7 (l.map It.enc)]
 (.cD []) [.row 7 ((bn cx l).map It.enc)] []:=by
 refine cj TIw_ok mixed Tryz.func147 rfl (Nat.le_of_ble_eq_true rfl) (fun n h _=>by simp at h;subst h;rfl) (by show _<=1;simp) (by show 1<=_;simp) dr ?_;unfold Tryz.f147;have f:=Xe h;simp-implicitDefEqProofs (disch:=(first|omega|decide)) only[go_sem,↓reduceIte,seval,f,List.length_map]
def X18m0:an:=Hu.fj 147 (bC soE iu sbK sbR)
def LU:an:={X18m0 with mH:=fun f=>f==147}
theorem X18m_ok:ag Tryz.prog LU:=by
 have h1:ag Tryz.prog X18m0:=UH.fj (bB Tryz.func147 (by kernel_rfl) (by kernel_rfl)) (cX fun l h=>LS l h)
 exact⟨h1.f,h1.hp⟩
@[go_sem] theorem X18m_f:LU.f=Hu.f:=rfl
@[go_sem] theorem X18m_eff{g:FuncId}:LU.mH g=(g==147):=rfl
@[go_sem] theorem X18m_frz{g:FuncId}:LU.pZ g=false:=rfl
@[go_sem] theorem X18m_fix{n:Nat}:LU.fix n=false:=rfl
@[go_sem] theorem X18m_ords{n:Nat}:LU.c6 n=[]:=rfl
theorem HD{l:List It}{n:Nat}(hn:n=l.length)(h:sbK l):LU.hp 147 [.row 0 0 7 n false,.fn 148 []] [.row 7 (l.map It.enc)]=some (.cD [],[.row 7 ((bn cx l).map It.enc)],[]):=by subst hn;have W5:X18m0.hp 147 (soE l) (iu l)=bC soE iu sbK sbR (soE l) (iu l):=an.eC;have h0:LU.hp 147 (soE l) (iu l)=bC soE iu sbK sbR (soE l) (iu l):=W5;exact h0.trans (cY (fun i j _ h=>wy h) l h)
theorem HE:ah Tryz.prog LU Tryz.f90.ntmps (Tryz.f90.body.getD .skip)=true:=by kernel_rfl
theorem LV(L:List (List It))(hL:L.length<=1000000)(hk: ∀m∈L,∀x∈m,x.ok)(hs:L.flatten.length<=1000000):ay Tryz.prog 90 [.ab (L.map fun m=> .ab (m.map It.enc))] (· = .ab ((aC L.flatten).map It.enc)):=by
 refine aa X18m_ok mixed Tryz.func90 rfl (Nat.le_of_ble_eq_true rfl) HE ?_;unfold Tryz.f90;have tk: ∀m:List It,(m.map It.enc).take m.length=m.map It.enc:=fun m=>List.take_of_length_le (by simp)
 simp-implicitDefEqProofs (disch:=(first|omega|decide)) only[go_sem,↓reduceIte,seval,List.length_map]
 refine aW 3 7 rfl ?_;refine ar [0,12,13] (ι:={i:Nat//i<=L.length}) (fun i=>[(14,.int .i64 i.1),(3,.row 0 0 7 ((L.take i.1).flatten.filter aH).length false)]) (fun i=>[(0,.row 7 (((L.take i.1).flatten.filter aH).map It.enc))]) (fun i=>L.length-i.1) ⟨0,by omega⟩ (Nat.zero_le _) ?_ ?_
 · simp-implicitDefEqProofs (disch:=(first|omega|decide)) only[go_sem,↓reduceIte,seval]
   first|done|simp
 · rintro⟨i,hi⟩
   simp only;by_cases aw:i<L.length
   · have ae:(i:Int)<(L.length:Int):=by omega
     have em:(L.map fun m=>A.ab (m.map It.enc))[i]? =some (.ab (L[i].map It.enc)):=by rw[List.getElem?_map,List.getElem?_eq_getElem aw];rfl
     have hm:=hk _ (List.getElem_mem aw)
     have hF:((L.take (i+1)).flatten).filter aH=((L.take i).flatten).filter aH++L[i].filter aH:=by rw[EX aw,List.filter_append]
     have hb:((L.take i).flatten.filter aH).length+L[i].length<=1000000:=by
      have h1:=SJ L (i+1)
      rw[EX aw,List.length_append]at h1;have h2:=List.length_filter_le aH (L.take i).flatten;omega
     generalize L[i]=m at*;generalize hFi:(L.take i).flatten.filter aH=F at*;simp-implicitDefEqProofs (disch:=(first|omega|decide)) only[go_sem,↓reduceIte,seval,ae,em,wrap_i64,List.length_map]
     refine ar [0,12,13,14,18,19] (ι:={j:Nat//j<=m.length}) (fun j=>[(20,.int .i64 j.1),(3,.row 0 0 7 (F++(m.take j.1).filter aH).length false)]) (fun j=>[(0,.row 7 ((F++(m.take j.1).filter aH).map It.enc))]) (fun j=>m.length-j.1) ⟨0,by omega⟩ (Nat.zero_le _) ?_ ?_
     · simp-implicitDefEqProofs (disch:=(first|omega|decide)) only[go_sem,↓reduceIte,seval,List.take_zero,List.filter_nil,List.append_nil]
       first|done|(simp;done)|exact⟨⟨rfl,rfl⟩,rfl⟩
     · rintro⟨j,hj⟩
       simp only;by_cases pK:j<m.length
       · have k_:(j:Int)<(m.length:Int):=by omega
         have ej:=cN pK;have gr:=UI (hm _ (List.getElem_mem pK))
         have eZ:=jv (f:=aH) pK
         have hgl:(F++(m.take j).filter aH).length<=1000000:=by
          have:=List.length_filter_le aH (m.take j)
          rw[List.length_take]at this;rw[List.length_append];omega
         have hgl2:(F++(m.take j).filter aH).length+1<=1000001:=by omega
         generalize m[j]=x at*;obtain⟨G,hG⟩: ∃G,F++(m.take j).filter aH=G:=⟨_,rfl⟩
         have tkG:=tk G;cases hr:aH x with
         |true=>
          rw[hr]at gr eZ;have hn:F++(m.take (j+1)).filter aH=G++[x]:=by rw[eZ,<-hG];simp
          rw[hG]at hgl hgl2⊢;simp-implicitDefEqProofs (disch:=(first|omega|decide)) only[go_sem,↓reduceIte,seval,k_,ej,gr,tkG,wrap_i64,List.length_map]
          refine⟨⟨Nat.le_refl _,by omega⟩,⟨j+1,pK⟩,⟨⟨by simp,by rw[hn];simp⟩,by rw[hn,<-iT]⟩,by show m.length-(j+1)<m.length-j;omega⟩
         |false=>
          rw[hr]at gr eZ;have hn:F++(m.take (j+1)).filter aH=G:=by rw[eZ,<-hG];simp
          rw[hG]
          simp-implicitDefEqProofs (disch:=(first|omega|decide)) only[go_sem,↓reduceIte,seval,k_,ej,gr,wrap_i64,List.length_map]
          exact⟨⟨j+1,pK⟩,⟨⟨by simp,by rw[hn]⟩,by rw[hn]⟩,by show m.length-(j+1)<m.length-j;omega⟩
       · have k_: ¬(j:Int)<(m.length:Int):=by omega
         rw[List.take_of_length_le (by omega),<-hF]
         simp-implicitDefEqProofs (disch:=(first|omega|decide)) only[go_sem,↓reduceIte,seval,k_,wrap_i64,List.length_map]
         exact⟨⟨i+1,aw⟩,⟨⟨by simp,rfl⟩,rfl⟩,by show L.length-(i+1)<L.length-i;omega⟩
   · have ae: ¬(i:Int)<(L.length:Int):=by omega
     rw[List.take_of_length_le (by omega)]
     have hsort:sbK (L.flatten.filter aH):=⟨Nat.le_trans (List.length_filter_le _ _) hs,fun x hx=>by obtain⟨m,hm,hx⟩:=List.mem_flatten.1 (List.mem_filter.1 hx).1;exact hk m hm x hx⟩
     have f:=HD rfl hsort;have hres:aC L.flatten=((bn cx (L.flatten.filter aH)).foldl (ec cx bt) []).reverse:=rfl;have pW:(bn cx (L.flatten.filter aH)).length=(L.flatten.filter aH).length:=bY _;have hb:=hsort.1;rw[hres]
     rw[<-pW]at f⊢;rw[<-pW]at hb;generalize hFl:L.flatten.filter aH=F at*;generalize hS:bn cx F=S at*;simp-implicitDefEqProofs (disch:=(first|omega|decide)) only[go_sem,↓reduceIte,seval,ae,f,wrap_i64,List.length_map]
     refine aW 8 7 rfl ?_;refine ar [3,34,35] (ι:={k:Nat//k<=S.length}) (fun k=>[(36,.int .i64 k.1),(8,.row 1 0 7 (((S.take k.1).foldl (ec cx bt) []).reverse).length false)]) (fun k=>[(0,.row 7 (S.map It.enc)),(1,.row 7 ((((S.take k.1).foldl (ec cx bt) []).reverse).map It.enc))]) (fun k=>S.length-k.1) ⟨0,by omega⟩ (Nat.zero_le _) ?_ ?_
     · simp-implicitDefEqProofs (disch:=(first|omega|decide)) only[go_sem,↓reduceIte,seval]
       first|done|(simp;done)|rfl
     · rintro⟨k,FY⟩
       simp only;by_cases XE:k<S.length
       · have Xf:(k:Int)<(S.length:Int):=by omega
         have ek:=cN XE;have b9:(S.take (k+1)).foldl (ec cx bt) []=ec cx bt ((S.take k).foldl (ec cx bt) []) S[k]:=by rw[<-List.take_append_getElem XE,List.foldl_append];rfl
         have hrl:((S.take k).foldl (ec cx bt) []).length<=1000000:=by
          have:=I' (S.take k) []
          rw[List.length_take]at this;simp only[List.length_nil]at this;omega
         generalize S[k]=x at*;generalize XB:(S.take (k+1)).foldl (ec cx bt) []=r2 at*
         have fin: ∀(o2:List It) (c:Nat) (es:List A),r2.reverse=o2->c=o2.length->es=o2.map It.enc-> ∃j:{k:Nat//k<=S.length},(((k:Int)+1=(j.1:Int)/\c=(((S.take j.1).foldl (ec cx bt) []).reverse).length)/\es=(((S.take j.1).foldl (ec cx bt) []).reverse).map It.enc)/\S.length-j.1<S.length-k:=fun o2 c es h1 h2 h3=>
          ⟨⟨k+1,XE⟩,⟨⟨by simp,by rw[XB,h1];exact h2⟩,by rw[XB,h1];exact h3⟩,by show S.length-(k+1)<S.length-k;omega⟩
         generalize(S.take k).foldl (ec cx bt) []=r at*;cases r with
         |nil=>
          have hn:r2=[x]:=b9;subst hn;have z0:((0:Int)==0)=true:=rfl;simp-implicitDefEqProofs (disch:=(first|omega|decide)) only[go_sem,↓reduceIte,seval,Xf,ek,z0,wrap_i64,List.length_map,List.reverse_nil,List.length_nil,List.map_nil]
          exact fin [x] 1 _ rfl rfl rfl
         |cons y r'=>
          rw[List.reverse_cons]
          simp only[List.length_cons]at hrl;obtain⟨o,ho⟩: ∃o,r'.reverse=o:=⟨_,rfl⟩
          have pO:o.length=r'.length:=by rw[<-ho,List.length_reverse]
          have u6:(o++[y]).length=o.length+1:=by simp
          have c0:((((o.length+1:Nat):Int))==0)=false:=by rw[beq_eq_false_iff_ne];omega
          have c1:((o.length+1:Nat):Int)-1=(o.length:Int):=by omega
          have c2:(o.length:Int)<((o.length+1:Nat):Int):=by omega
          have gy:((o++[y]).map It.enc)[o.length]? =some (.agg [.str y.key,.int .i64 y.rep,.int .i64 y.bu,.int .i64 y.bk,.int .i64 y.prio,.bool y.dead,.str y.body]):=dq (by simp)
          have gset:=pd (o++[y]) o.length x;have fS:(o++[y]).set o.length x=o++[x]:=by simp
          rw[fS]at gset;have Ja:=tk (o++[y])
          rw[u6]at Ja;have gcmp:=x_Cmp (x:=x) (y:=y)
          have hbt:=UF x y;have Ac:eqv cx x y=(x.key==y.key):=eqvI;simp only[ec,Ac]at b9;rw[ho]
          cases E9:y.key==x.key with
          |false=>
           have hkey':(x.key==y.key)=false:=by rw[beq_eq_false_iff_ne]at*;exact fun e=>E9 e.symm
           rw[hkey']at b9;have hn:r2.reverse=o++[y]++[x]:=by rw[b9];simp[ho]
           simp-implicitDefEqProofs (disch:=(first|omega|decide)) only[go_sem,↓reduceIte,seval,Xf,ek,u6,c0,c1,c2,gy,E9,Ja,wrap_i64,List.length_map]
           exact⟨⟨Nat.le_refl _,by omega⟩,fin (o++[y]++[x]) _ _ hn (by simp) (iT (o++[y]) x)⟩
          |true=>
           have hkey':(x.key==y.key)=true:=by rw[beq_iff_eq]at*;exact E9.symm
           rw[hkey']at b9;cases hw:bt x y with
           |true=>
              rw[hw]at hbt;have hn:r2.reverse=o++[x]:=by rw[b9];simp[ho,better,hw]
              simp-implicitDefEqProofs (disch:=(first|omega|decide)) only[go_sem,↓reduceIte,seval,Xf,ek,u6,c0,c1,c2,gy,E9,gcmp,hbt,gset,spl7,wrap_i64,List.length_map]
              exact fin (o++[x]) _ _ hn (by simp) rfl
           |false=>
              rw[hw]at hbt;have hn:r2.reverse=o++[y]:=by rw[b9];simp[ho,better,hw]
              simp-implicitDefEqProofs (disch:=(first|omega|decide)) only[go_sem,↓reduceIte,seval,Xf,ek,u6,c0,c1,c2,gy,E9,gcmp,hbt,wrap_i64,List.length_map]
              exact fin (o++[y]) _ _ hn (by simp) rfl
       · have Xf: ¬(k:Int)<(S.length:Int):=by omega
         rw[List.take_of_length_le (by omega)]
         have Ja:=tk (S.foldl (ec cx bt) []).reverse;simp-implicitDefEqProofs (disch:=(first|omega|decide)) only[go_sem,↓reduceIte,seval,Xf,Ja,wrap_i64,List.length_map]
         exact Nat.le_refl _
def Fh(last:Option (List UInt8))(x:It):Bool:=match last with|none=>true|some k=>aV k x.key
def lz(last:Option (List UInt8))(x:It):Bool:=aH x&&Fh last x
def HF(l:List It)(last:Option (List UInt8)):Nat->Int
 |0=> -1
 |n+1=>if lz last (l[n]!)&&(decide (HF l last n<0)||aV (l[n]!).key (l[(HF l last n).toNat]!).key)then(n:Int)else HF l last n
theorem rD(l:List It)(last:Option (List UInt8)): ∀n,(HF l last n= -1/\ ∀i,i<n->lz last (l[i]!)=false)\/(∃j,j<n/\HF l last n=(j:Int)/\lz last (l[j]!)=true/\ ∀i,i<n->lz last (l[i]!)=true->aV (l[i]!).key (l[j]!).key=false)
 |0=> .inl ⟨rfl,fun i h=>absurd h (by omega)⟩
 |n+1=>by
  have ih:=rD l last n;simp only[HF]
  cases hc:lz last (l[n]!)with
  |false=>
   simp only[Bool.false_and,Bool.false_eq_true,if_false]
   rcases ih with⟨h1,h2⟩|⟨j,h1,h2,h3,h4⟩
   · refine .inl ⟨h1,fun i hi=> ?_⟩
     by_cases e:i=n
     · subst e;exact hc
     · exact h2 i (by omega)
   · refine .inr ⟨j,by omega,h2,h3,fun i hi hci=> ?_⟩
     by_cases e:i=n
     · subst e;rw[hc]at hci;cases hci
     · exact h4 i (by omega) hci
  |true=>
   simp only[Bool.true_and]
   rcases ih with⟨h1,h2⟩|⟨j,h1,h2,h3,h4⟩
   · rw[h1]
     refine .inr ⟨n,by omega,by simp,hc,fun i hi hci=> ?_⟩
     by_cases e:i=n
     · subst e;exact lt_irrefl _
     · rw[h2 i (by omega)]at hci;cases hci
   · rw[h2]
     have h0: ¬((j:Int)<0):=by omega
     have ht:((j:Nat):Int).toNat=j:=Int.toNat_natCast _;simp only[decide_eq_false h0,Bool.false_or,ht]
     cases hb:aV (l[n]!).key (l[j]!).key with
     |true=>
      refine .inr ⟨n,by omega,by simp,hc,fun i hi hci=> ?_⟩
      by_cases e:i=n
      · subst e;exact lt_irrefl _
      · have:=h4 i (by omega) hci
        cases g:aV (l[i]!).key (l[n]!).key with
        |false=>rfl
        |true=>rw[ck g hb]at this;cases this
     |false=>
      refine .inr ⟨j,by omega,by simp,h3,fun i hi hci=> ?_⟩
      by_cases e:i=n
      · subst e;exact hb
      · exact h4 i (by omega) hci
def fF(o:List It):Option (List UInt8):=o.getLast?.map (·.key)
theorem uE{M:List It}{n:Nat}(h:n<=M.length)(h0:0<n):fF (M.take n)=some (M[n-1]'(by omega)).key:=by
 unfold fF;rw[List.getLast?_eq_getElem?,List.length_take,Nat.min_eq_left h,List.getElem?_take_of_lt (by omega),List.getElem?_eq_getElem (by omega)]
 rfl
theorem Fi{l:List It}{i:Nat}(h:i<(aC l).length): ∃k,k<l.length/\l[k]! =(aC l)[i]/\aH (aC l)[i]=true:=by
 obtain⟨h1,h2⟩:=cy (List.getElem_mem h)
 obtain⟨k,hk,he⟩:=List.getElem_of_mem h1;exact⟨k,hk,by rw[getElem!_pos l k hk,he],h2⟩
theorem Fj{l:List It}{i j:Nat}(xo:i<j)(h:j<(aC l).length):aV ((aC l)[i]'(by omega)).key ((aC l)[j]).key=true:=
 (List.pairwise_iff_getElem.1 (eW l).1) i j (by omega) h xo
theorem Fk{l:List It}{n i:Nat}(hn:n<=i)(h:i<(aC l).length):lz (fF ((aC l).take n)) (aC l)[i]=true:=by
 obtain⟨_,_,_,hr⟩:=Fi h;unfold lz;rw[hr,Bool.true_and]
 by_cases h0:n=0
 · subst h0;rfl
 · rw[uE (by omega) (by omega)]
   exact Fj (by omega) h
theorem SU{l:List It}{n:Nat}(hn:n<=(aC l).length)(h:HF l (fF ((aC l).take n)) l.length= -1):n=(aC l).length:=by
 rcases rD l (fF ((aC l).take n)) l.length with⟨_,h2⟩|⟨j,_,h2,_⟩
 · by_cases aw:n<(aC l).length
   · obtain⟨k,hk,he,_⟩:=Fi aw
     have:=h2 k hk;rw[he,Fk (Nat.le_refl _) aw]at this;cases this
   · omega
 · omega
theorem SV{l:List It}{n j:Nat}(hn:n<=(aC l).length)(h:HF l (fF ((aC l).take n)) l.length=(j:Int)):
 j<l.length/\n<(aC l).length/\ ∃k,k<l.length/\EZ l (l[j]!).key false l.length=(k:Int)/\(aC l)[n]? =some (l[k]!):=by
 rcases rD l (fF ((aC l).take n)) l.length with⟨h1,_⟩|⟨j',wS,h2,h3,h4⟩
 · omega
 · obtain rfl:j'=j:=by omega
   obtain⟨x,hx⟩: ∃x,l[j']! =x:=⟨_,rfl⟩
   rw[hx]at h3 h4⊢;have hxm:x∈l:=by rw[<-hx,getElem!_pos l j' wS];exact List.getElem_mem _
   have hxr:aH x=true:=by unfold lz at h3;simp only[Bool.and_eq_true]at h3;exact h3.1
   have Xz:Fh (fF ((aC l).take n)) x=true:=by unfold lz at h3;simp only[Bool.and_eq_true]at h3;exact h3.2
   have hf: ∀z:It,z.key=x.key->(l.filter aH).filter (fun y=>z.key==y.key)=l.filter (n5 x.key false):=fun z hz=>by
    rw[List.filter_filter]
    refine List.filter_congr fun y _=> ?_;unfold n5;rw[hz,Bool.false_or,Bool.and_comm,show(x.key==y.key)=(y.key==x.key)from Bool.beq_comm]
   rcases E4 l x.key false l.length (Nat.le_refl _)with⟨_,b2⟩|⟨k,k1,k2,k3⟩
   · rw[List.take_length]at b2
     have:=yx b2;have hm:x∈l.filter (n5 x.key false):=List.mem_filter.2 ⟨hxm,by simp[n5,hxr]⟩
     rw[this]at hm;cases hm
   · rw[List.take_length]at k3
     obtain⟨z,hz⟩: ∃z,l[k]! =z:=⟨_,rfl⟩
     rw[hz]at k3;have hzk:z.key=x.key:=by have:=(List.mem_filter.1 (kM k3)).2;simp only[n5,Bool.false_or,Bool.and_eq_true,beq_iff_eq]at this;exact this.2
     have hzM:z∈aC l:=((eW l).2 z).2 (by rw[hf z hzk];exact k3)
     obtain⟨i,hi,hiz⟩:=List.getElem_of_mem hzM
     have Rl:n<=i:=by
      by_cases aw:i<n
      · rw[uE hn (by omega)]at Xz
        have Xz:aV ((aC l)[n-1]'(by omega)).key x.key=true:=Xz;rw[<-hzk,<-hiz]at Xz;by_cases e:i=n-1
        · subst e;rw[lt_irrefl]at Xz;cases Xz
        · have:=Fj (l:=l) (i:=i) (j:=n-1) (by omega) (by omega)
          rw[fo this]at Xz;cases Xz
      · omega
     have hni:i=n:=by
      by_cases aw:n<i
      · obtain⟨k0,xg,he0,_⟩:=Fi (l:=l) (i:=n) (by omega)
        have hc:=h4 k0 xg (by rw[he0];exact Fk (Nat.le_refl _) (by omega))
        rw[he0,<-hzk,<-hiz,Fj aw hi]at hc;cases hc
      · omega
     subst hni;exact⟨wS,hi,k,k1,k2,by rw[hz,List.getElem?_eq_getElem hi,hiz]⟩
theorem Fl:ah Tryz.prog sT Tryz.f29.ntmps (Tryz.f29.body.getD .skip)=true:=by kernel_rfl
theorem HG(l:List It)(hl:l.length<=1000000)(hk: ∀x∈l,x.ok):ay Tryz.prog 29 [.ab (l.map It.enc)] (· = .ab ((aC l).map It.enc)):=by
 refine aa lR mixed Tryz.func29 rfl (Nat.le_of_ble_eq_true rfl) Fl ?_;unfold Tryz.f29;have tk: ∀m:List It,(m.map It.enc).take m.length=m.map It.enc:=fun m=>List.take_of_length_le (by simp)
 have hMl:=iq l;obtain⟨M,hM⟩: ∃M,aC l=M:=⟨_,rfl⟩
 have Il: ∀n,n<=M.length->HF l (fF (M.take n)) l.length= -1->n=M.length:=fun n=>by rw[<-hM];exact SU
 have hsome: ∀n j,n<=M.length->HF l (fF (M.take n)) l.length=((j:Nat):Int)->j<l.length/\n<M.length/\ ∃k,k<l.length/\EZ l (l[j]!).key false l.length=(k:Int)/\M[n]? =some (l[k]!):=fun n j=>by rw[<-hM];exact SV
 have hMk: ∀n (h:n<M.length),M[n].ok:=fun n h=>by
  have:=cy (l:=l) (x:=M[n]) (by rw[hM];exact List.getElem_mem h)
  exact hk _ this.1
 rw[hM]at hMl⊢;simp-implicitDefEqProofs (disch:=(first|omega|decide)) only[go_sem,↓reduceIte,seval]
 refine aW 3 7 rfl ?_;refine ar [0] (ι:={n:Nat//n<=M.length}) (fun n=>[(3,.row 0 0 7 (M.take n.1).length false)]) (fun n=>[(0,.row 7 ((M.take n.1).map It.enc))]) (fun n=>M.length-n.1) ⟨0,by omega⟩ (Nat.zero_le _) ?_ ?_
 · simp-implicitDefEqProofs (disch:=(first|omega|decide)) only[go_sem,↓reduceIte,seval]
   first|done|(simp;done)|exact⟨rfl,rfl⟩
 · rintro⟨n,hn⟩
   simp only;have Yk:(M.take n).length=n:=by rw[List.length_take];omega
   have c0:(n:Int)<=(l.length:Int):=by omega
   have tkn:=tk (M.take n)
   rw[Yk]at tkn⊢;simp-implicitDefEqProofs (disch:=(first|omega|decide)) only[go_sem,↓reduceIte,seval,c0,List.length_map]
   refine ar [0,3] (ι:={i:Nat//i<=l.length}) (fun i=>[(5,.int .i64 i.1),(4,.int .i64 (HF l (fF (M.take n)) i.1))]) (fun i=>[(0,.row 7 ((M.take n).map It.enc))]) (fun i=>l.length-i.1) ⟨0,by omega⟩ (Nat.zero_le _) ?_ ?_
   · simp-implicitDefEqProofs (disch:=(first|omega|decide)) only[go_sem,↓reduceIte,seval,HF]
     try rfl
   · rintro⟨i,hi⟩
     simp only;by_cases aw:i<l.length
     · have ae:(i:Int)<(l.length:Int):=by omega
       have p1:(0:Int)<=(i:Int):=by omega
       have t1:((i:Nat):Int).toNat=i:=Int.toNat_natCast _;have e1:=dq (l:=l) (k:=i) (x:=l[i]!) (by rw[getElem!_pos l i aw,List.getElem?_eq_getElem aw])
       have ox:(l[i]!).ok:=by rw[getElem!_pos l i aw];exact hk _ (List.getElem_mem aw)
       have g1:=wz ox;have hb:HF l (fF (M.take n)) (i+1)=if lz (fF (M.take n)) (l[i]!)&&(decide (HF l (fF (M.take n)) i<0)||aV (l[i]!).key (l[(HF l (fF (M.take n)) i).toNat]!).key)then(i:Int)else HF l (fF (M.take n)) i:=rfl
       have hr:HF l (fF (M.take n)) i= -1\/ ∃j,j<i/\HF l (fF (M.take n)) i=(j:Int):=by
        rcases rD l (fF (M.take n)) i with h|⟨j,h1,h2,_⟩
        · exact .inl h.1
        · exact .inr ⟨j,h1,h2⟩
       have dP: ∀v:Int,HF l (fF (M.take n)) (i+1)=v-> ∃j:{i:Nat//i<=l.length},((i:Int)+1=(j.1:Int)/\v=HF l (fF (M.take n)) j.1)/\l.length-j.1<l.length-i:=fun v hv=>⟨⟨i+1,aw⟩,⟨by simp,hv.symm⟩,by show l.length-(i+1)<l.length-i;omega⟩
       have e2: ∀j,j<i->(l.map It.enc)[j]? =some (.agg [.str (l[j]!).key,.int .i64 (l[j]!).rep,.int .i64 (l[j]!).bu,.int .i64 (l[j]!).bk,.int .i64 (l[j]!).prio,.bool (l[j]!).dead,.str (l[j]!).body]):=fun j hj=>dq (by rw[getElem!_pos l j (by omega),List.getElem?_eq_getElem (by omega)])
       have oy: ∀j,j<i->(l[j]!).ok:=fun j hj=>by rw[getElem!_pos l j (by omega)];exact hk _ (List.getElem_mem _)
       generalize l[i]! =x at*;generalize HF l (fF (M.take n)) i=a at*;cases hR:aH x with
       |false=>
        rw[hR]at g1;simp only[lz,hR,Bool.false_and,Bool.false_eq_true,if_false]at hb;simp-implicitDefEqProofs (disch:=(first|omega|decide)) only[go_sem,↓reduceIte,seval,ae,p1,t1,e1,g1,wrap_i64,List.length_map]
        exact dP _ hb
       |true=>
        rw[hR]at g1;by_cases hn0:n=0
        · have haa:Fh (fF (M.take n)) x=true:=by subst hn0;rfl
          have z0: ¬(0:Int)<(n:Int):=by omega
          rcases hr with rfl|⟨j,hj,rfl⟩
          · have hm:decide ((-1:Int)<0)=true:=rfl
            simp only[lz,hR,haa,Bool.true_and,hm,Bool.true_or,if_true]at hb;simp-implicitDefEqProofs (disch:=(first|omega|decide)) only[go_sem,↓reduceIte,seval,ae,p1,t1,e1,g1,z0,wrap_i64,List.length_map]
            exact dP _ hb
          · have q1: ¬((j:Int)<0):=by omega
            have q2:(0:Int)<=(j:Int):=by omega
            have q3:(j:Int)<(l.length:Int):=by omega
            have q4:((j:Nat):Int).toNat=j:=Int.toNat_natCast _;have ej:=e2 j hj;have gl:=jQ (a:=x.key) (b:=(l[j]!).key) ⟨ox.1,(oy j hj).1⟩
            rw[show(cA x.key (l[j]!).key== -1)=aV x.key (l[j]!).key from rfl]at gl;simp only[lz,hR,haa,Bool.true_and,decide_eq_false q1,Bool.false_or,q4]at hb;generalize l[j]! =y at*;cases hw:aV x.key y.key with
            |true=>
             rw[hw]at gl;simp only[hw,if_true]at hb;simp-implicitDefEqProofs (disch:=(first|omega|decide)) only[go_sem,↓reduceIte,seval,ae,p1,t1,e1,g1,z0,q1,q2,q3,q4,ej,gl,wrap_i64,List.length_map]
             exact dP _ hb
            |false=>
             rw[hw]at gl;simp only[hw,Bool.false_eq_true,if_false]at hb;simp-implicitDefEqProofs (disch:=(first|omega|decide)) only[go_sem,↓reduceIte,seval,ae,p1,t1,e1,g1,z0,q1,q2,q3,q4,ej,gl,wrap_i64,List.length_map]
             exact dP _ hb
        · have z0:(0:Int)<(n:Int):=by omega
          have z1:(n:Int)-1=((n-1:Nat):Int):=by omega
          have z2:(0:Int)<=((n-1:Nat):Int):=by omega
          have z3:((n-1:Nat):Int)<(n:Int):=by omega
          have z4:((n-1:Nat):Int).toNat=n-1:=Int.toNat_natCast _;have hn1:n-1<M.length:=by omega
          have eM:=dq (l:=M.take n) (k:=n-1) (x:=M[n-1]) (by rw[List.getElem?_take_of_lt (by omega),List.getElem?_eq_getElem hn1])
          have oM:=hMk (n-1) hn1;have hla:Fh (fF (M.take n)) x=aV M[n-1].key x.key:=by rw[uE hn (by omega)];rfl
          have gM:=jQ (a:=M[n-1].key) (b:=x.key) ⟨oM.1,ox.1⟩
          rw[show(cA M[n-1].key x.key== -1)=aV M[n-1].key x.key from rfl,<-hla]at gM;generalize M[n-1]=z at*;cases haa:Fh (fF (M.take n)) x with
          |false=>
            rw[haa]at gM;simp only[lz,hR,haa,Bool.and_false,Bool.false_and,Bool.false_eq_true,if_false]at hb;simp-implicitDefEqProofs (disch:=(first|omega|decide)) only[go_sem,↓reduceIte,seval,ae,p1,t1,e1,g1,z0,z1,z2,z3,z4,eM,gM,wrap_i64,List.length_map]
            exact dP _ hb
          |true=>
            rw[haa]at gM;rcases hr with rfl|⟨j,hj,rfl⟩
            · have hm:decide ((-1:Int)<0)=true:=rfl
              simp only[lz,hR,haa,Bool.true_and,hm,Bool.true_or,if_true]at hb;simp-implicitDefEqProofs (disch:=(first|omega|decide)) only[go_sem,↓reduceIte,seval,ae,p1,t1,e1,g1,z0,z1,z2,z3,z4,eM,gM,wrap_i64,List.length_map]
              exact dP _ hb
            · have q1: ¬((j:Int)<0):=by omega
              have q2:(0:Int)<=(j:Int):=by omega
              have q3:(j:Int)<(l.length:Int):=by omega
              have q4:((j:Nat):Int).toNat=j:=Int.toNat_natCast _;have ej:=e2 j hj;have gl:=jQ (a:=x.key) (b:=(l[j]!).key) ⟨ox.1,(oy j hj).1⟩
              rw[show(cA x.key (l[j]!).key== -1)=aV x.key (l[j]!).key from rfl]at gl;simp only[lz,hR,haa,Bool.true_and,decide_eq_false q1,Bool.false_or,q4]at hb;generalize l[j]! =y at*;cases hw:aV x.key y.key with
              |true=>
               rw[hw]at gl;simp only[hw,if_true]at hb;simp-implicitDefEqProofs (disch:=(first|omega|decide)) only[go_sem,↓reduceIte,seval,ae,p1,t1,e1,g1,z0,z1,z2,z3,z4,eM,gM,q1,q2,q3,q4,ej,gl,wrap_i64,List.length_map]
               exact dP _ hb
              |false=>
               rw[hw]at gl;simp only[hw,Bool.false_eq_true,if_false]at hb;simp-implicitDefEqProofs (disch:=(first|omega|decide)) only[go_sem,↓reduceIte,seval,ae,p1,t1,e1,g1,z0,z1,z2,z3,z4,eM,gM,q1,q2,q3,q4,ej,gl,wrap_i64,List.length_map]
               exact dP _ hb
     · have ae: ¬(i:Int)<(l.length:Int):=by omega
       obtain rfl:i=l.length:=by omega
       rcases rD l (fF (M.take n)) l.length with⟨h1,_⟩|⟨j,_,h2,_⟩
       · have hnM:=Il n hn h1
         rw[h1]
         have tM:M.take n=M:=List.take_of_length_le (by omega)
         rw[tM]at tkn⊢;simp-implicitDefEqProofs (disch:=(first|omega|decide)) only[go_sem,↓reduceIte,seval,ae,tkn,List.length_map]
         exact hn
       · obtain⟨hj,hnM,k,XE,hbk,hMn⟩:=hsome n j hn h2
         rw[h2]
         have q1: ¬((j:Int)<0):=by omega
         have q2:(0:Int)<=(j:Int):=by omega
         have q3:(j:Int)<(l.length:Int):=by omega
         have q4:((j:Nat):Int).toNat=j:=Int.toNat_natCast _;have q5:(0:Int)<=(k:Int):=by omega
         have q6:(k:Int)<(l.length:Int):=by omega
         have q7:((k:Nat):Int).toNat=k:=Int.toNat_natCast _;have ej:=dq (l:=l) (k:=j) (x:=l[j]!) (by rw[getElem!_pos l j hj,List.getElem?_eq_getElem hj])
         have ek:=dq (l:=l) (k:=k) (x:=l[k]!) (by rw[getElem!_pos l k XE,List.getElem?_eq_getElem XE])
         have gb:=x_Best (l:=l) (k:=(l[j]!).key) (all:=false) ⟨hl,hk⟩
         rw[hbk]at gb
         have eZ:M.take (n+1)=M.take n++[l[k]!]:=by
          rw[<-List.take_append_getElem hnM]
          rw[List.getElem?_eq_getElem hnM]at hMn;rw[Option.some.inj hMn]
         generalize l[j]! =x at*;generalize l[k]! =y at*;simp-implicitDefEqProofs (disch:=(first|omega|decide)) only[go_sem,↓reduceIte,seval,ae,tkn,q1,q2,q3,q4,q5,q6,q7,ej,ek,gb,List.length_map]
         exact⟨⟨Nat.le_of_eq Yk.symm,by omega⟩,⟨n+1,hnM⟩,⟨by show n+1=(M.take (n+1)).length;rw[List.length_take];omega,by show _=(M.take (n+1)).map It.enc;rw[eZ];exact iT _ y⟩,by show M.length-(n+1)<M.length-n;omega⟩
theorem bD:ah Tryz.prog SR Tryz.f93.ntmps (Tryz.f93.body.getD .skip)=true:=by kernel_rfl
theorem PO(l:List ax)(hl:l.length<=1000000):ay Tryz.prog 93 [.ab (l.map ax.enc)] (· = .ab (l.map ax.enc)):=by
 cases l with
 |nil=>
  refine Ir ?_ ?_
  · refine aa BM mixed Tryz.func93 rfl (Nat.le_of_ble_eq_true rfl) bD ?_
    unfold Tryz.f93;simp-implicitDefEqProofs (disch:=(first|omega|decide)) only[go_sem,↓reduceIte,seval]
  · refine aa BM mixed Tryz.func93 rfl (Nat.le_of_ble_eq_true rfl) bD ?_
    unfold Tryz.f93;simp-implicitDefEqProofs (disch:=(first|omega|decide)) only[go_sem,↓reduceIte,seval]
 |cons r l=>
  refine aa BM mixed Tryz.func93 rfl (Nat.le_of_ble_eq_true rfl) bD ?_;unfold Tryz.f93;obtain⟨lo,hi,op⟩:=r;simp only[List.length_cons]at hl;simp-implicitDefEqProofs (disch:=(first|omega|decide)) only[go_sem,↓reduceIte,seval,List.length_map]
  exact⟨by omega,Nat.le_refl _,by rw[List.take_of_length_le (by simp)]⟩
@[simp] theorem map_LIt_inj{l m:List (List It)}:(l.map (fun x=>A.ab (x.map It.enc))=m.map (fun x=>A.ab (x.map It.enc)))=(l=m):=map_inj (fun a b h=>by simpa using h)
def PQ:an:=SR.add 93 (entry (fun(l:List ax)=>[.ab (l.map ax.enc)]) (fun l=>l.length<=1000000) (fun l=> .ab (l.map ax.enc)))
theorem Y23g_ok:ag Tryz.prog PQ:=BM.bN Tryz.func93 (by kernel_rfl) (by kernel_rfl) fun l h=>PO l h
@[go_sem] theorem Y23g_old{g:FuncId}{xs:List A}(h:g≠93):PQ.f g xs=SR.f g xs:=an.ak h
theorem dH(l:List ax)(h:l.length<=1000000):PQ.f 93 [.ab (l.map ax.enc)]=some (.ab (l.map ax.enc)):=an.ao (Γ:=SR) (fun i j h=>by simpa[Prod.ext_iff,and_assoc]using h) l h
def HH:an:=PQ.add 90 (entry (fun(L:List (List It))=>[.ab (L.map fun m=> .ab (m.map It.enc))]) (fun L=>(L.length<=1000000/\L.flatten.length<=1000000)/\ ∀m∈L,∀x∈m,x.ok) (fun L=> .ab ((aC L.flatten).map It.enc)))
theorem UQ:ag Tryz.prog HH:=Y23g_ok.bN Tryz.func90 (by kernel_rfl) (by kernel_rfl) fun L h=>LV L h.1.1 h.2 h.1.2
@[go_sem] theorem Y23h_old{g:FuncId}{xs:List A}(h:g≠90):HH.f g xs=PQ.f g xs:=an.ak h
@[go_sem] theorem Y23h_s:HH.pl PQ:=⟨fun _=>rfl,fun _=>rfl,rfl,fun _=>rfl,rfl,fun _=>rfl,rfl⟩
theorem A7(L:List (List It))(h:(L.length<=1000000/\L.flatten.length<=1000000)/\ ∀m∈L,∀x∈m,x.ok):HH.f 90 [.ab (L.map fun m=> .ab (m.map It.enc))]=some (.ab ((aC L.flatten).map It.enc)):=an.ao (Γ:=PQ) (fun i j h=>by simpa[Prod.ext_iff,and_assoc]using h) L h
theorem UR{l:List ax}(h:l.length<=1000000):PQ.f 93 [.ab (l.map ax.enc)]=some (.ab (l.map ax.enc)):=dH l h
theorem PR{a b:List It}(h:a.length+b.length<=1000000)(ha: ∀x∈a,x.ok)(hb: ∀x∈b,x.ok):HH.f 90 [.ab [.ab (a.map It.enc),.ab (b.map It.enc)]]=some (.ab ((aC (a++b)).map It.enc)):=by
 have e: [a,b].flatten=a++b:=by simp
 have:=A7 [a,b] ⟨⟨by simp,by rw[e,List.length_append];exact h⟩,fun m hm=>by
  simp only[List.mem_cons,List.not_mem_nil,or_false]at hm;rcases hm with rfl|rfl
  · exact ha
  · exact hb⟩
 rw[e]at this;exact this
theorem Fm:ah Tryz.prog HH Tryz.f58.ntmps (Tryz.f58.body.getD .skip)=true:=by kernel_rfl
theorem HI(s:aI)(k:List UInt8)(hl:s.az.length<=1000000):ay Tryz.prog 58 [s.enc,.str k] (· = .int .i64 (mA s.az k)):=by
 refine aa UQ mixed Tryz.func58 rfl (Nat.le_of_ble_eq_true rfl) Fm ?_;unfold Tryz.f58;obtain⟨id,F,I,K,ct⟩:=s;simp only[aI.enc,aI.cells]at*;simp-implicitDefEqProofs (disch:=(first|omega|decide)) only[go_sem,↓reduceIte,seval,List.length_map]
 refine ar [1,2] (ι:={i:Nat//i<=I.length/\ ∀j,j<i-> ∀h:j<I.length,(I[j].key==k)=false}) (fun i=>[(5,.int .i64 i.1)]) (fun _=>[]) (fun i=>I.length-i.1) ⟨0,by omega,fun j hj=>absurd hj (by omega)⟩ (Nat.zero_le _) ?_ ?_
 · simp-implicitDefEqProofs (disch:=(first|omega|decide)) only[go_sem,↓reduceIte,seval]
   try rfl
 · rintro⟨i,hi,hd⟩
   simp only;by_cases aw:i<I.length
   · have ae:(i:Int)<(I.length:Int):=by omega
     have p1:(0:Int)<=(i:Int):=by omega
     have t1:((i:Nat):Int).toNat=i:=Int.toNat_natCast _;have e1:=cN aw;cases hk:I[i].key==k with
     |true=>
      have hp:mA I k=(i:Int):=by unfold mA;rw[List.findIdx?_eq_some_iff_getElem.2 ⟨aw,hk,fun j hj=>by rw[hd j hj (by omega)];simp⟩]
      rw[hp]
      generalize I[i]=x at*;simp-implicitDefEqProofs (disch:=(first|omega|decide)) only[go_sem,↓reduceIte,seval,ae,p1,t1,e1,hk,wrap_i64,List.length_map]
     |false=>
      have zS: ∀j,j<i+1-> ∀h:j<I.length,(I[j].key==k)=false:=fun j hj h=>by
       by_cases e:j=i
       · subst e;exact hk
       · exact hd j (by omega) h
      generalize I[i]=x at*;simp-implicitDefEqProofs (disch:=(first|omega|decide)) only[go_sem,↓reduceIte,seval,ae,p1,t1,e1,hk,wrap_i64,List.length_map]
      exact⟨⟨i+1,aw,zS⟩,by simp,by show I.length-(i+1)<I.length-i;omega⟩
   · have ae: ¬(i:Int)<(I.length:Int):=by omega
     have hp:mA I k= -1:=by unfold mA;rw[List.findIdx?_eq_none_iff.2 fun x hx=>by obtain⟨j,hj,rfl⟩:=List.getElem_of_mem hx;exact hd j (by omega) hj]
     rw[hp]
     simp-implicitDefEqProofs (disch:=(first|omega|decide)) only[go_sem,↓reduceIte,seval,ae,List.length_map]
def HJ:an:=HH.add 58 (entry (fun(v:aI×List UInt8)=>[v.1.enc,.str v.2]) (fun v=>v.1.az.length<=1000000) (fun v=> .int .i64 (mA v.1.az v.2)))
theorem LW:ag Tryz.prog HJ:=UQ.bN Tryz.func58 (by kernel_rfl) (by kernel_rfl) fun v h=>HI v.1 v.2 h
@[go_sem] theorem Y23i_old{g:FuncId}{xs:List A}(h:g≠58):HJ.f g xs=HH.f g xs:=an.ak h
@[go_sem] theorem Y23i_s:HJ.pl HH:=⟨fun _=>rfl,fun _=>rfl,rfl,fun _=>rfl,rfl,fun _=>rfl,rfl⟩
theorem yF(v:aI×List UInt8)(h:v.1.az.length<=1000000):HJ.f 58 [v.1.enc,.str v.2]=some (.int .i64 (mA v.1.az v.2)):=an.ao (Γ:=HH) (fun i j h=>by simpa[Prod.ext_iff,and_assoc]using h) v h
theorem BO{s:aI}{k:List UInt8}(h:s.az.length<=1000000):HJ.f 58 [.agg [.int .i64 s.id,.ab (s.fl.map ax.enc),.ab (s.az.map It.enc),.ab (s.kn.map Pc.enc),.int .i64 s.ct],.str k]=some (.int .i64 (mA s.az k)):=yF (s,k) h
theorem sD(l:List It)(k:List UInt8):(mA l k= -1/\dm l k=none)\/ ∃i,∃h:i<l.length,mA l k=(i:Int)/\dm l k=some l[i]:=by
 unfold mA dm;cases h:l.findIdx? (fun x=>x.key==k)with
 |none=>
  refine .inl ⟨rfl, ?_⟩
  rw[List.find?_eq_none]
  intro x hx;have:=List.findIdx?_eq_none_iff.1 h x hx;simpa using this
 |some i=>
  obtain⟨hi,h1,h2⟩:=List.findIdx?_eq_some_iff_getElem.1 h;refine .inr ⟨i,hi,rfl, ?_⟩
  rw[List.find?_eq_some_iff_getElem]
  exact⟨h1,i,hi,rfl,fun j hj=>by simpa using h2 j hj⟩
def di(l:List It)(k:List UInt8):Int:=match dm l k with|some x=>x.bk|none=>0
theorem HK:ah Tryz.prog HJ Tryz.f119.ntmps (Tryz.f119.body.getD .skip)=true:=by kernel_rfl
theorem LX(s:aI)(k:List UInt8)(hl:s.az.length<=1000000):ay Tryz.prog 119 [s.enc,.str k] (· = .int .i64 (di s.az k)):=by
 refine aa LW mixed Tryz.func119 rfl (Nat.le_of_ble_eq_true rfl) HK ?_;unfold Tryz.f119;have g:=BO (s:=s) (k:=k) hl;have hp:=sD s.az k;obtain⟨id,F,I,K,ct⟩:=s;simp only[aI.enc,aI.cells]at*;unfold di;rcases hp with⟨h1,h2⟩|⟨i,hi,h1,h2⟩
 · rw[h1]at g
   rw[h2]
   simp-implicitDefEqProofs (disch:=(first|omega|decide)) only[go_sem,↓reduceIte,seval,g]
 · rw[h1]at g
   rw[h2]
   have e1:=cN hi;have q1: ¬((i:Int)<0):=by omega
   have q2:(0:Int)<=(i:Int):=by omega
   have q3:(i:Int)<(I.length:Int):=by omega
   have q4:((i:Nat):Int).toNat=i:=Int.toNat_natCast _;generalize I[i]=x at*;simp-implicitDefEqProofs (disch:=(first|omega|decide)) only[go_sem,↓reduceIte,seval,g,e1,q1,q2,q3,q4,List.length_map]
def cb(s:aI)(x:It):It:=⟨x.key,s.id,s.ct+1,x.bk,x.prio,x.dead,x.body⟩
structure rE(s:aI)(x:It):Prop where
 fl:s.fl.length<=1000000
 az:s.az.length<=999999/\mM s.az
 kn:cV s.kn/\cV (s.kn++cB x.key [⟨s.id,s.ct+1⟩])
 ok:x.ok
 ct:0<=s.ct/\s.ct<=1099511627776
theorem LY:ah Tryz.prog HJ Tryz.f118.ntmps (Tryz.f118.body.getD .skip)=true:=by kernel_rfl
theorem PS(s:aI)(x:It)(h:rE s x):ay Tryz.prog 118 [s.enc,x.enc] (· =(dh s (cb s x)).enc):=by
 refine aa LW mixed Tryz.func118 rfl (Nat.le_of_ble_eq_true rfl) LY ?_;unfold Tryz.f118;obtain⟨h1,⟨h2,h3⟩,⟨h4,h5⟩,h6,h7,h8⟩:=h;have gA:=q_Add (k:=s.kn) (x:=x.key) (l:=[⟨s.id,s.ct+1⟩]) h4 h5 h6.1 (by simp)
 have gM:=PR (a:=[cb s x]) (b:=s.az) (by simp;omega) (fun y hy=>by obtain rfl:=List.mem_singleton.1 hy;exact h6) h3;have gC:=UR (l:=s.fl) h1;simp only[dh,aI.enc,aI.cells,It.enc]
 rw[show [cb s x]++s.az=cb s x::s.az from rfl]at gM;have hv:(cb s x).key=x.key:=rfl;have hr:(cb s x).rep=s.id:=rfl;have hc:(cb s x).bu=s.ct+1:=rfl;rw[hv,hr,hc]
 generalize aC (cb s x::s.az)=M at*;generalize aT (cL (s.kn++cB x.key [⟨s.id,s.ct+1⟩]))=Q at*;simp only[List.map_cons,List.map_nil,It.enc,ca.enc,ca.cells,cb]at gM gA;simp-implicitDefEqProofs (disch:=(first|omega|decide)) only[go_sem,↓reduceIte,seval,gA,gM,gC,wrap_i64,List.length_map]
def PT:an:=HJ.add 118 (entry (fun(v:aI×It)=>[v.1.enc,v.2.enc]) (fun v=>rE v.1 v.2) (fun v=>(dh v.1 (cb v.1 v.2)).enc))
theorem Y23j_ok:ag Tryz.prog PT:=LW.bN Tryz.func118 (by kernel_rfl) (by kernel_rfl) fun v h=>PS v.1 v.2 h
@[go_sem] theorem Y23j_old{g:FuncId}{xs:List A}(h:g≠118):PT.f g xs=HJ.f g xs:=an.ak h
theorem Fo(v:aI×It)(h:rE v.1 v.2):PT.f 118 [v.1.enc,v.2.enc]=some ((dh v.1 (cb v.1 v.2)).enc):=an.ao (Γ:=HJ) (fun i j h=>by simpa[Prod.ext_iff,and_assoc]using h) v h
theorem y_put{s:aI}{x:It}(h:rE s x):PT.f 118 [.agg [.int .i64 s.id,.ab (s.fl.map ax.enc),.ab (s.az.map It.enc),.ab (s.kn.map Pc.enc),.int .i64 s.ct],.agg [.str x.key,.int .i64 x.rep,.int .i64 x.bu,.int .i64 x.bk,.int .i64 x.prio,.bool x.dead,.str x.body]]=some (dh s (cb s x)).enc:=Fo (s,x) h
def LZ:an:=PT.add 56 (entry (fun(s:aI)=>[s.enc]) (fun s=>il s) (fun s=> .bool (aU s)))
theorem US:ag Tryz.prog LZ:=Y23j_ok.bN Tryz.func56 (by kernel_rfl) (by kernel_rfl) fun s h=>tw s h
@[go_sem] theorem Y23k_old{g:FuncId}{xs:List A}(h:g≠56):LZ.f g xs=PT.f g xs:=an.ak h
@[go_sem] theorem Y23k_s:LZ.pl PT:=⟨fun _=>rfl,fun _=>rfl,rfl,fun _=>rfl,rfl,fun _=>rfl,rfl⟩
theorem fz(s:aI)(h:il s):LZ.f 56 [s.enc]=some (.bool (aU s)):=an.ao (Γ:=PT) (fun i j h=>by simpa[Prod.ext_iff,and_assoc]using h) s h
def cm:aI:=⟨0,[],[],[],0⟩
def fM(k:List UInt8)(prio:Int)(body:List UInt8):Bool:= !decide (1<=k.length/\k.length<=16)||decide (prio<0)||decide (255<prio)||decide (64<body.length)
def bp(s:aI)(k:List UInt8)(prio:Int)(body:List UInt8):Int:=
 if aU s=false then 41 else if fM k prio body=true then 2 else if aj s.fl k=false then 30
 else if s.ct=1099511627776\/di s.az k=1099511627776 then 33 else if dm s.az k=none/\s.az.length=4096 then 32 else 0
def lS(s:aI)(k:List UInt8)(prio:Int)(body:List UInt8):It:=⟨k,0,0,di s.az k+1,prio,false,body⟩
def Fp(s:aI)(k:List UInt8)(prio:Int)(body:List UInt8):aI:=if bp s k prio body=0 then dh s (cb s (lS s k prio body))else cm
def lg(s:aI)(k:List UInt8)(prio:Int)(body:List UInt8):A:= .cD [(Fp s k prio body).enc,.int .i64 (bp s k prio body)]
theorem jh{s:aI}(h:aU s=true)(k:List UInt8):0<=di s.az k/\di s.az k<=1099511627776:=by
 unfold di;cases hg:dm s.az k with
 |none=>simp
 |some x=>
  have hx:=List.mem_of_find?_eq_some hg;have hr:=(bQ s).1 h;have:=hr.right x hx;simp only[aH,Bool.and_eq_true,decide_eq_true_eq]at this;show 0<=x.bk/\x.bk<=_;omega
theorem Jd(l:List It)(k:List UInt8): ∃(o:It) (ok:Bool),PH (dm l k)= .cD [o.enc,.bool ok]/\o.bk=di l k/\(ok=false ↔ dm l k=none)/\(∀x,dm l k=some x->o=x):=by
 unfold di;cases h:dm l k with
 |none=>exact⟨UN,false,rfl,rfl,by simp,fun x e=>by cases e⟩
 |some x=>exact⟨x,true,rfl,rfl,by simp,fun y e=>by cases e;rfl⟩
theorem Fq:ah Tryz.prog LZ Tryz.f61.ntmps (Tryz.f61.body.getD .skip)=true:=by kernel_rfl
theorem HL(s:aI)(k:List UInt8)(prio:Int)(body:List UInt8)(h:il s)(hk:k.length<=9223372036854775807)(hb:body.length<=9223372036854775807)(hp:bp s k prio body=0->rE s (lS s k prio body)):
 ay Tryz.prog 61 [s.enc,.str k,.int .i64 prio,.str body] (· =lg s k prio body):=by
 refine aa US mixed Tryz.func61 rfl (Nat.le_of_ble_eq_true rfl) Fq ?_;unfold Tryz.f61;have gG:=PN (s:=s) (k:=k) h.az.1;have gR:=fz s h;have gK:=zR (s:=k) hk;have gH:=jR (l:=s.fl) (s:=k) (by have:=h.fl.1;omega) h.fl.2 hk;have I3: ∀hh:aU s=true,_:=fun hh=>jh hh k;unfold lg Fp;obtain⟨o,ok,hgA,hor,g_,sS⟩:=Jd s.az k;rw[hgA]at gG;simp only[aI.enc,aI.cells,It.enc]at*;rw[hor]at gG;have fail: ∀e:Int,e≠0->bp s k prio body=e->A.cD [.agg [.int .i64 0,.ab [],.ab [],.ab [],.int .i64 0],.int .i64 e]= .cD [.agg [.int .i64 (if bp s k prio body=0 then dh s (cb s (lS s k prio body))else cm).id,.ab ((if bp s k prio body=0 then dh s (cb s (lS s k prio body))else cm).fl.map ax.enc),.ab ((if bp s k prio body=0 then dh s (cb s (lS s k prio body))else cm).az.map It.enc),.ab ((if bp s k prio body=0 then dh s (cb s (lS s k prio body))else cm).kn.map Pc.enc),.int .i64 (if bp s k prio body=0 then dh s (cb s (lS s k prio body))else cm).ct],.int .i64 (bp s k prio body)]:=fun e he hc=>by rw[hc,if_neg he];rfl
 generalize hZ:A.cD [.agg [.int .i64 (if bp s k prio body=0 then dh s (cb s (lS s k prio body))else cm).id,.ab ((if bp s k prio body=0 then dh s (cb s (lS s k prio body))else cm).fl.map ax.enc),.ab ((if bp s k prio body=0 then dh s (cb s (lS s k prio body))else cm).az.map It.enc),.ab ((if bp s k prio body=0 then dh s (cb s (lS s k prio body))else cm).kn.map Pc.enc),.int .i64 (if bp s k prio body=0 then dh s (cb s (lS s k prio body))else cm).ct],.int .i64 (bp s k prio body)]=Z at*;cases hR:aU s with
 |false=>
  have fl:=fail 41 (by decide) (by unfold bp;rw[if_pos hR])
  rw[hR]at gR;simp-implicitDefEqProofs (disch:=(first|omega|decide)) only[go_sem,↓reduceIte,seval,gG,gR,fl]
 |true=>
  have I3:=I3 hR;rw[hR]at gR;have hC:bp s k prio body=if fM k prio body=true then 2 else if aj s.fl k=false then 30 else if s.ct=1099511627776\/di s.az k=1099511627776 then 33 else if dm s.az k=none/\s.az.length=4096 then 32 else 0:=by unfold bp;rw[if_neg (by rw[hR];simp)]
  have bad:fM k prio body=true->A.cD [.agg [.int .i64 0,.ab [],.ab [],.ab [],.int .i64 0],.int .i64 2]=Z:=fun hb=>fail 2 (by decide) (by rw[hC,if_pos hb])
  cases b1:decide (1<=k.length/\k.length<=16)with
  |false=>
   have fl:=bad (by unfold fM;rw[b1];rfl)
   rw[b1]at gK;simp-implicitDefEqProofs (disch:=(first|omega|decide)) only[go_sem,↓reduceIte,seval,gG,gR,gK,fl]
  |true=>
   rw[b1]at gK;by_cases b2:prio<0
   · have fl:=bad (by unfold fM;rw[b1,decide_eq_true b2];rfl)
     simp-implicitDefEqProofs (disch:=(first|omega|decide)) only[go_sem,↓reduceIte,seval,gG,gR,gK,b2,fl]
   · by_cases b3:255<prio
     · have fl:=bad (by unfold fM;rw[b1,decide_eq_true b3];simp)
       simp-implicitDefEqProofs (disch:=(first|omega|decide)) only[go_sem,↓reduceIte,seval,gG,gR,gK,b2,b3,fl]
     · by_cases b4:64<body.length
       · have fl:=bad (by unfold fM;rw[decide_eq_true b4];simp)
         have PU:(64:Int)<(body.length:Int):=by omega
         simp-implicitDefEqProofs (disch:=(first|omega|decide)) only[go_sem,↓reduceIte,seval,gG,gR,gK,b2,b3,PU,fl]
       · have PU: ¬(64:Int)<(body.length:Int):=by omega
         have hbf: ¬fM k prio body=true:=by unfold fM;rw[b1,decide_eq_false b2,decide_eq_false b3,decide_eq_false b4];simp
         rw[if_neg hbf]at hC;cases b5:aj s.fl k with
         |false=>
          have fl:=fail 30 (by decide) (by rw[hC,if_pos b5])
          rw[b5]at gH;simp-implicitDefEqProofs (disch:=(first|omega|decide)) only[go_sem,↓reduceIte,seval,gG,gR,gK,gH,b2,b3,PU,fl]
         |true=>
          rw[b5]at gH;rw[if_neg (by rw[b5];simp)]at hC;cases b6:s.ct==1099511627776 with
          |true=>
           have fl:=fail 33 (by decide) (by rw[hC,if_pos (.inl (by simpa using b6))])
           simp-implicitDefEqProofs (maxSteps:=600000) (disch:=(first|omega|decide)) only[go_sem,↓reduceIte,seval,gG,gR,gK,gH,b2,b3,PU,b6,fl]
          |false=>
           cases b7:di s.az k==1099511627776 with
           |true=>
            have fl:=fail 33 (by decide) (by rw[hC,if_pos (.inr (by simpa using b7))])
            simp-implicitDefEqProofs (maxSteps:=600000) (disch:=(first|omega|decide)) only[go_sem,↓reduceIte,seval,gG,gR,gK,gH,b2,b3,PU,b6,b7,fl]
           |false=>
            rw[if_neg (by simp at b6 b7;omega)]at hC;cases b8:(s.az.length:Int)==4096 with
            |true=>
             cases ok with
             |false=>
              have fl:=fail 32 (by decide) (by rw[hC,if_pos ⟨g_.1 rfl,by simp at b8;omega⟩])
              simp-implicitDefEqProofs (maxSteps:=600000) (disch:=(first|omega|decide)) only[go_sem,↓reduceIte,seval,gG,gR,gK,gH,b2,b3,PU,b6,b7,b8,fl,List.length_map]
             |true=>
              have h0:bp s k prio body=0:=by rw[hC,if_neg (fun e=>by have:=g_.2 e.1;cases this)]
              have gP:=y_put (hp h0)
              rw[h0,if_pos rfl]at hZ;simp only[lS,aI.enc,aI.cells]at gP hZ;simp-implicitDefEqProofs (maxSteps:=600000) (disch:=(first|omega|decide)) only[go_sem,↓reduceIte,seval,gG,gR,gK,gH,gP,b2,b3,PU,b6,b7,b8,hZ,wrap_i64,List.length_map]
            |false=>
             have h0:bp s k prio body=0:=by rw[hC,if_neg (fun e=>by simp at b8;omega)]
             have gP:=y_put (hp h0)
             rw[h0,if_pos rfl]at hZ;simp only[lS,aI.enc,aI.cells]at gP hZ;cases ok<;>simp-implicitDefEqProofs (maxSteps:=600000) (disch:=(first|omega|decide)) only[go_sem,↓reduceIte,seval,gG,gR,gK,gH,gP,b2,b3,PU,b6,b7,b8,hZ,wrap_i64,List.length_map]
def L3:an:=LZ.add 61 (entry (fun(v:aI×List UInt8×Int×List UInt8)=>[v.1.enc,.str v.2.1,.int .i64 v.2.2.1,.str v.2.2.2]) (fun v=>(il v.1/\(bp v.1 v.2.1 v.2.2.1 v.2.2.2=0->rE v.1 (lS v.1 v.2.1 v.2.2.1 v.2.2.2)))/\v.2.1.length<=9223372036854775807/\v.2.2.2.length<=9223372036854775807) (fun v=>lg v.1 v.2.1 v.2.2.1 v.2.2.2))
theorem UT:ag Tryz.prog L3:=US.bN Tryz.func61 (by kernel_rfl) (by kernel_rfl) fun v h=>HL v.1 v.2.1 v.2.2.1 v.2.2.2 h.1.1 h.2.1 h.2.2 h.1.2
@[go_sem] theorem Y23l_old{g:FuncId}{xs:List A}(h:g≠61):L3.f g xs=LZ.f g xs:=an.ak h
@[go_sem] theorem Y23l_s:L3.pl LZ:=⟨fun _=>rfl,fun _=>rfl,rfl,fun _=>rfl,rfl,fun _=>rfl,rfl⟩
theorem yG(v:aI×List UInt8×Int×List UInt8)(h:(il v.1/\(bp v.1 v.2.1 v.2.2.1 v.2.2.2=0->rE v.1 (lS v.1 v.2.1 v.2.2.1 v.2.2.2)))/\v.2.1.length<=9223372036854775807/\v.2.2.2.length<=9223372036854775807):L3.f 61 [v.1.enc,.str v.2.1,.int .i64 v.2.2.1,.str v.2.2.2]=some (lg v.1 v.2.1 v.2.2.1 v.2.2.2):=an.ao (Γ:=LZ) (fun i j h=>by simpa[Prod.ext_iff,and_assoc]using h) v h
theorem UU{s:aI}{k:List UInt8}{prio:Int}{body:List UInt8}(h:(il s/\(bp s k prio body=0->rE s (lS s k prio body)))/\k.length<=9223372036854775807/\body.length<=9223372036854775807):L3.f 61 [.agg [.int .i64 s.id,.ab (s.fl.map ax.enc),.ab (s.az.map It.enc),.ab (s.kn.map Pc.enc),.int .i64 s.ct],.str k,.int .i64 prio,.str body]=some (lg s k prio body):=yG (s,k,prio,body) h
def tz(l:List It)(k:List UInt8):Bool:=match dm l k with|some x=>x.dead|none=>true
def wC(l:List It)(k:List UInt8):Int:=match dm l k with|some x=>x.prio|none=>0
def fg(s:aI)(k:List UInt8):Int:=
 if aU s=false then 41 else if tz s.az k=true then 31
 else if s.ct=1099511627776\/di s.az k=1099511627776 then 33 else 0
def zT(s:aI)(k:List UInt8):It:=⟨k,0,0,di s.az k+1,wC s.az k,true,[]⟩
def delS(s:aI)(k:List UInt8):aI:=if fg s k=0 then dh s (cb s (zT s k))else cm
def Xg(s:aI)(k:List UInt8):A:= .cD [(delS s k).enc,.int .i64 (fg s k)]
theorem SX(l:List It)(k:List UInt8): ∃(o:It) (ok:Bool),PH (dm l k)= .cD [o.enc,.bool ok]/\o.bk=di l k/\tz l k=(!ok||o.dead)/\(ok=true->o.prio=wC l k):=by
 unfold di tz wC;cases h:dm l k with
 |none=>exact⟨UN,false,rfl,rfl,rfl,fun e=>by cases e⟩
 |some x=>exact⟨x,true,rfl,rfl,by simp,fun _=>rfl⟩
theorem A8:ah Tryz.prog L3 Tryz.f59.ntmps (Tryz.f59.body.getD .skip)=true:=by kernel_rfl
theorem Fs(s:aI)(k:List UInt8)(h:il s)(hk:k.length<=9223372036854775807)(hp:fg s k=0->rE s (zT s k)):
 ay Tryz.prog 59 [s.enc,.str k] (· =Xg s k):=by
 refine aa UT mixed Tryz.func59 rfl (Nat.le_of_ble_eq_true rfl) A8 ?_;unfold Tryz.f59;have gG:=PN (s:=s) (k:=k) h.az.1;have gR:=fz s h;have I3: ∀hh:aU s=true,_:=fun hh=>jh hh k;unfold Xg delS;obtain⟨o,ok,hgA,hor,hod,hop⟩:=SX s.az k;rw[hgA]at gG;simp only[aI.enc,aI.cells,It.enc]at*;rw[hor]at gG;have fail: ∀e:Int,e≠0->fg s k=e->A.cD [.agg [.int .i64 0,.ab [],.ab [],.ab [],.int .i64 0],.int .i64 e]= .cD [.agg [.int .i64 (if fg s k=0 then dh s (cb s (zT s k))else cm).id,.ab ((if fg s k=0 then dh s (cb s (zT s k))else cm).fl.map ax.enc),.ab ((if fg s k=0 then dh s (cb s (zT s k))else cm).az.map It.enc),.ab ((if fg s k=0 then dh s (cb s (zT s k))else cm).kn.map Pc.enc),.int .i64 (if fg s k=0 then dh s (cb s (zT s k))else cm).ct],.int .i64 (fg s k)]:=fun e he hc=>by rw[hc,if_neg he];rfl
 generalize hZ:A.cD [.agg [.int .i64 (if fg s k=0 then dh s (cb s (zT s k))else cm).id,.ab ((if fg s k=0 then dh s (cb s (zT s k))else cm).fl.map ax.enc),.ab ((if fg s k=0 then dh s (cb s (zT s k))else cm).az.map It.enc),.ab ((if fg s k=0 then dh s (cb s (zT s k))else cm).kn.map Pc.enc),.int .i64 (if fg s k=0 then dh s (cb s (zT s k))else cm).ct],.int .i64 (fg s k)]=Z at*;cases hR:aU s with
 |false=>
  have fl:=fail 41 (by decide) (by unfold fg;rw[if_pos hR])
  rw[hR]at gR;simp-implicitDefEqProofs (disch:=(first|omega|decide)) only[go_sem,↓reduceIte,seval,gG,gR,fl]
 |true=>
  have I3:=I3 hR;rw[hR]at gR;have hC:fg s k=if tz s.az k=true then 31 else if s.ct=1099511627776\/di s.az k=1099511627776 then 33 else 0:=by unfold fg;rw[if_neg (by rw[hR];simp)]
  rw[hod]at hC;cases ok with
  |false=>
   have fl:=fail 31 (by decide) (by rw[hC];rfl)
   simp-implicitDefEqProofs (disch:=(first|omega|decide)) only[go_sem,↓reduceIte,seval,gG,gR,fl]
  |true=>
   have hop:=hop rfl;rw[hop]at gG;cases hdd:o.dead with
   |true=>
    rw[hdd]at gG hC;have fl:=fail 31 (by decide) (by rw[hC];rfl)
    simp-implicitDefEqProofs (disch:=(first|omega|decide)) only[go_sem,↓reduceIte,seval,gG,gR,fl]
   |false=>
    rw[hdd]at gG hC;rw[if_neg (by simp)]at hC;cases b6:s.ct==1099511627776 with
    |true=>
     have fl:=fail 33 (by decide) (by rw[hC,if_pos (.inl (by simpa using b6))])
     simp-implicitDefEqProofs (disch:=(first|omega|decide)) only[go_sem,↓reduceIte,seval,gG,gR,b6,fl]
    |false=>
     cases b7:di s.az k==1099511627776 with
     |true=>
      have fl:=fail 33 (by decide) (by rw[hC,if_pos (.inr (by simpa using b7))])
      simp-implicitDefEqProofs (disch:=(first|omega|decide)) only[go_sem,↓reduceIte,seval,gG,gR,b6,b7,fl]
     |false=>
      have h0:fg s k=0:=by rw[hC,if_neg (by simp at b6 b7;omega)]
      have gP:=y_put (hp h0)
      rw[h0,if_pos rfl]at hZ;simp only[zT,aI.enc,aI.cells]at gP hZ;simp-implicitDefEqProofs (disch:=(first|omega|decide)) only[go_sem,↓reduceIte,seval,gG,gR,gP,b6,b7,hZ,wrap_i64,List.length_map]
def Xh:an:=L3.add 59 (entry (fun(v:aI×List UInt8)=>[v.1.enc,.str v.2]) (fun v=>(il v.1/\(fg v.1 v.2=0->rE v.1 (zT v.1 v.2)))/\v.2.length<=9223372036854775807) (fun v=>Xg v.1 v.2))
theorem Y23m_ok:ag Tryz.prog Xh:=UT.bN Tryz.func59 (by kernel_rfl) (by kernel_rfl) fun v h=>Fs v.1 v.2 h.1.1 h.2 h.1.2
@[go_sem] theorem Y23m_old{g:FuncId}{xs:List A}(h:g≠59):Xh.f g xs=L3.f g xs:=an.ak h
def L4:an:=Xh.add 94 (entry (fun(v:Int×Int)=>[.agg [.int .i64 v.1,.int .i64 v.2]]) (fun v=>True) (fun v=> .bool (aN ⟨v.1,v.2⟩)))
theorem UW:ag Tryz.prog L4:=Y23m_ok.bN Tryz.func94 (by kernel_rfl) (by kernel_rfl) fun v h=>nu v.1 v.2
@[go_sem] theorem Y23n_old{g:FuncId}{xs:List A}(h:g≠94):L4.f g xs=Xh.f g xs:=an.ak h
@[go_sem] theorem Y23n_s:L4.pl Xh:=⟨fun _=>rfl,fun _=>rfl,rfl,fun _=>rfl,rfl,fun _=>rfl,rfl⟩
theorem yH(v:Int×Int)(h:True):L4.f 94 [.agg [.int .i64 v.1,.int .i64 v.2]]=some (.bool (aN ⟨v.1,v.2⟩)):=an.ao (Γ:=Xh) (fun i j h=>by simpa[Prod.ext_iff,and_assoc]using h) v h
theorem y_vRight{r c:Int}:L4.f 94 [.agg [.int .i64 r,.int .i64 c]]=some (.bool (aN ⟨r,c⟩)):=yH (r,c) trivial
theorem L5:ah Tryz.prog L4 Tryz.f33.ntmps (Tryz.f33.body.getD .skip)=true:=by kernel_rfl
theorem PV(k:List UInt8)(v:ca)(hk:k.length<=9223372036854775807)(hv:aN v=true):ay Tryz.prog 33 [.str k,.agg [.int .i64 v.r,.int .i64 v.c]] (· = .ab ((cB k [v]).map Pc.enc)):=by
 refine aa UW mixed Tryz.func33 rfl (Nat.le_of_ble_eq_true rfl) L5 ?_;unfold Tryz.f33;have g1:=y_vRight (r:=v.r) (c:=v.c)
 have g2:=q_One (x:=k) (l:=[v]) hk (by simp)
 rw[show(⟨v.r,v.c⟩:ca)=v from rfl,hv]at g1;simp only[List.map_cons,List.map_nil,ca.enc,ca.cells]at g2;generalize(cB k [v]).map Pc.enc=R at*;simp-implicitDefEqProofs (disch:=(first|omega|decide)) only[go_sem,↓reduceIte,seval,g1,g2]
def L6:an:=L4.add 33 (entry (fun(v:List UInt8×Int×Int)=>[.str v.1,.agg [.int .i64 v.2.1,.int .i64 v.2.2]]) (fun v=>v.1.length<=9223372036854775807/\aN ⟨v.2.1,v.2.2⟩=true) (fun v=> .ab ((cB v.1 [⟨v.2.1,v.2.2⟩]).map Pc.enc)))
theorem Y23o_ok:ag Tryz.prog L6:=UW.bN Tryz.func33 (by kernel_rfl) (by kernel_rfl) fun v h=>PV v.1 ⟨v.2.1,v.2.2⟩ h.1 h.2
@[go_sem] theorem Y23o_old{g:FuncId}{xs:List A}(h:g≠33):L6.f g xs=L4.f g xs:=an.ak h
theorem Ft(v:List UInt8×Int×Int)(h:v.1.length<=9223372036854775807/\aN ⟨v.2.1,v.2.2⟩=true):L6.f 33 [.str v.1,.agg [.int .i64 v.2.1,.int .i64 v.2.2]]=some (.ab ((cB v.1 [⟨v.2.1,v.2.2⟩]).map Pc.enc)):=an.ao (Γ:=L4) (fun i j h=>by simpa[Prod.ext_iff,and_assoc]using h) v h
def L7:an:=L6.add 119 (entry (fun(v:aI×List UInt8)=>[v.1.enc,.str v.2]) (fun v=>v.1.az.length<=1000000) (fun v=> .int .i64 (di v.1.az v.2)))
theorem UX:ag Tryz.prog L7:=Y23o_ok.bN Tryz.func119 (by kernel_rfl) (by kernel_rfl) fun v h=>LX v.1 v.2 h
@[go_sem] theorem Y23p_old{g:FuncId}{xs:List A}(h:g≠119):L7.f g xs=L6.f g xs:=an.ak h
@[go_sem] theorem Y23p_s:L7.pl L6:=⟨fun _=>rfl,fun _=>rfl,rfl,fun _=>rfl,rfl,fun _=>rfl,rfl⟩
theorem A9(v:aI×List UInt8)(h:v.1.az.length<=1000000):L7.f 119 [v.1.enc,.str v.2]=some (.int .i64 (di v.1.az v.2)):=an.ao (Γ:=L6) (fun i j h=>by simpa[Prod.ext_iff,and_assoc]using h) v h
theorem y_Ver{k:List UInt8}{r c:Int}(h:k.length<=9223372036854775807/\aN ⟨r,c⟩=true):L6.f 33 [.str k,.agg [.int .i64 r,.int .i64 c]]=some (.ab ((cB k [⟨r,c⟩]).map Pc.enc)):=Ft (k,r,c) h
theorem SY{s:aI}{k:List UInt8}(h:s.az.length<=1000000):L7.f 119 [.agg [.int .i64 s.id,.ab (s.fl.map ax.enc),.ab (s.az.map It.enc),.ab (s.kn.map Pc.enc),.int .i64 s.ct],.str k]=some (.int .i64 (di s.az k)):=A9 (s,k) h
def cQ(x:It)(p:List It×Bool)(y:It):List It×Bool:=
 (if y.key==x.key then(if !p.2&& !aV y.key x.key then p.1++[x]else p.1)else(if !p.2&& !aV y.key x.key then p.1++[x]else p.1)++[y],p.2|| !aV y.key x.key)
def L8(x:It)(l:List It):List It:=if(l.foldl (cQ x) ([],false)).2 then(l.foldl (cQ x) ([],false)).1 else(l.foldl (cQ x) ([],false)).1++[x]
theorem Xi(x:It)(p:List It×Bool)(y:It):(cQ x p y).1.length<=p.1.length+2:=by unfold cQ;simp only;split<;>split<;>simp
theorem yI(x:It): ∀(l:List It) (p:List It×Bool),(l.foldl (cQ x) p).1.length<=p.1.length+2*l.length
 | [],p=>by simp
 |y::l,p=>by
  rw[List.foldl_cons]
  have h1:=yI x l (cQ x p y)
  have h2:=Xi x p y;simp only[List.length_cons];omega
structure rF(s:aI)(x:It):Prop where
 az:s.az.length<=100000/\mM s.az
 kn:iI s.kn/\s.kn.length<=500
 one:iI (cB x.key [⟨s.id,s.ct+1⟩])/\(cB x.key [⟨s.id,s.ct+1⟩]).length<=500
 ok:x.ok
 ct:0<=s.ct/\s.ct<=1099511627776
 v:aN ⟨s.id,s.ct+1⟩=true
 rk:0<=di s.az x.key/\di s.az x.key<=1099511627776
def mB(s:aI)(x:It):It:=⟨x.key,s.id,s.ct+1,di s.az x.key+1,x.prio,x.dead,x.body⟩
def L9(s:aI)(x:It):aI:=⟨s.id,s.fl,L8 (mB s x) s.az,aT (cL (s.kn++cB x.key [⟨s.id,s.ct+1⟩])),s.ct+1⟩
theorem L_:ah Tryz.prog L7 Tryz.f120.ntmps (Tryz.f120.body.getD .skip)=true:=by kernel_rfl
theorem PW(s:aI)(x:It)(h:rF s x):ay Tryz.prog 120 [s.enc,x.enc] (· =(L9 s x).enc):=by
 refine aa UX mixed Tryz.func120 rfl (Nat.le_of_ble_eq_true rfl) L_ ?_;unfold Tryz.f120;obtain⟨⟨h1,h2⟩,⟨h3,h4⟩,⟨h5,h6⟩,h7,⟨h8,h9⟩,h10,h11,h12⟩:=h;have tk: ∀m:List It,(m.map It.enc).take m.length=m.map It.enc:=fun m=>List.take_of_length_le (by simp)
 have gR:=SY (s:=s) (k:=x.key) (by omega)
 have gV:=y_Ver (k:=x.key) (r:=s.id) (c:=s.ct+1) ⟨h7.1,h10⟩
 have gJ:=q_Join (a:=s.kn) (b:=cB x.key [⟨s.id,s.ct+1⟩]) h3 h5 ⟨h4,h6⟩
 simp only[L9,aI.enc,aI.cells,It.enc]
 generalize aT (cL (s.kn++cB x.key [⟨s.id,s.ct+1⟩]))=Q at*;generalize(cB x.key [⟨s.id,s.ct+1⟩]).map Pc.enc=O at*;obtain⟨X,hX⟩: ∃X,mB s x=X:=⟨_,rfl⟩
 have hXe:A.agg [.str x.key,.int .i64 s.id,.int .i64 (s.ct+1),.int .i64 (di s.az x.key+1),.int .i64 x.prio,.bool x.dead,.str x.body]=X.enc:=by rw[<-hX];rfl
 have hXk:X.key=x.key:=by rw[<-hX];rfl
 rw[hX]
 simp-implicitDefEqProofs (disch:=(first|omega|decide)) only[go_sem,↓reduceIte,seval,gR,wrap_i64,List.length_map]
 refine FT 3 2 7 _ rfl rfl ?_;refine ar [2,3,4,5] (ι:={i:Nat//i<=s.az.length}) (fun i=>[(7,.int .i64 i.1),(6,.bool ((s.az.take i.1).foldl (cQ X) ([],false)).2)]) (fun i=>[(3,.box [.int .i64 s.id,.ab (s.fl.map ax.enc),.row 4 0 7 ((s.az.take i.1).foldl (cQ X) ([],false)).1.length false,.bT,.int .i64 (s.ct+1)]),(4,.row 7 (((s.az.take i.1).foldl (cQ X) ([],false)).1.map It.enc))]) (fun i=>s.az.length-i.1) ⟨0,by omega⟩ (Nat.zero_le _) ?_ ?_
 · simp-implicitDefEqProofs (disch:=(first|omega|decide)) only[go_sem,↓reduceIte,seval]
   first|done|(simp;done)|exact⟨rfl,rfl⟩
 · rintro⟨i,hi⟩
   simp only;by_cases aw:i<s.az.length
   · have ae:(i:Int)<(s.az.length:Int):=by omega
     have p1:(0:Int)<=(i:Int):=by omega
     have t1:((i:Nat):Int).toNat=i:=Int.toNat_natCast _;have e1:=cN aw;have oy:=h2 _ (List.getElem_mem aw)
     have b9:(s.az.take (i+1)).foldl (cQ X) ([],false)=cQ X ((s.az.take i).foldl (cQ X) ([],false)) s.az[i]:=by rw[<-List.take_append_getElem aw,List.foldl_append];rfl
     have pO:((s.az.take i).foldl (cQ X) ([],false)).1.length<=200000:=by
      have:=yI X (s.az.take i) ([],false)
      rw[List.length_take]at this;simp only[List.length_nil]at this;omega
     have gL:=jQ (a:=s.az[i].key) (b:=x.key) ⟨oy.1,h7.1⟩
     rw[show(cA s.az[i].key x.key== -1)=aV s.az[i].key x.key from rfl]at gL
     have fin: ∀(o2:List It) (d2:Bool) (c:Nat) (es:List A),(s.az.take (i+1)).foldl (cQ X) ([],false)=(o2,d2)->c=o2.length->es=o2.map It.enc-> ∃j:{i:Nat//i<=s.az.length},(((i:Int)+1=(j.1:Int)/\d2=((s.az.take j.1).foldl (cQ X) ([],false)).2)/\c=((s.az.take j.1).foldl (cQ X) ([],false)).1.length/\es=((s.az.take j.1).foldl (cQ X) ([],false)).1.map It.enc)/\s.az.length-j.1<s.az.length-i:=fun o2 d2 c es q1 q2 q3=>
      ⟨⟨i+1,aw⟩,⟨⟨by simp,by rw[q1]⟩,by rw[q1];exact q2,by rw[q1];exact q3⟩,by show s.az.length-(i+1)<s.az.length-i;omega⟩
     generalize s.az[i]=y at*;generalize(s.az.take i).foldl (cQ X) ([],false)=p at*;obtain⟨o,d⟩:=p;simp only at pO⊢;have Ja:=tk o;simp only[cQ,hXk]at b9;cases d with
     |true=>
      cases hk:y.key==x.key with
      |true=>
       simp only[hk,Bool.not_true,Bool.false_and,Bool.false_eq_true,if_false,if_true,Bool.true_or]at b9;simp-implicitDefEqProofs (disch:=(first|omega|decide)) only[go_sem,↓reduceIte,seval,ae,p1,t1,e1,hk,wrap_i64,List.length_map]
       exact fin o true _ _ b9 rfl rfl
      |false=>
       simp only[hk,Bool.not_true,Bool.false_and,Bool.false_eq_true,if_false,if_true,Bool.true_or]at b9;simp-implicitDefEqProofs (disch:=(first|omega|decide)) only[go_sem,↓reduceIte,seval,ae,p1,t1,e1,hk,Ja,wrap_i64,List.length_map]
       exact⟨⟨Nat.le_refl _,by omega⟩,fin (o++[y]) true _ _ b9 (by simp) (iT o y)⟩
     |false=>
      cases hl:aV y.key x.key with
      |true=>
       rw[hl]at gL;cases hk:y.key==x.key with
       |true=>
          simp only[hk,hl,Bool.not_true,Bool.not_false,Bool.true_and,Bool.false_eq_true,if_false,if_true,Bool.false_or]at b9;simp-implicitDefEqProofs (disch:=(first|omega|decide)) only[go_sem,↓reduceIte,seval,ae,p1,t1,e1,gL,hk,wrap_i64,List.length_map]
          exact fin o false _ _ b9 rfl rfl
       |false=>
          simp only[hk,hl,Bool.not_true,Bool.not_false,Bool.true_and,Bool.false_eq_true,if_false,if_true,Bool.false_or]at b9;simp-implicitDefEqProofs (maxSteps:=600000) (disch:=(first|omega|decide)) only[go_sem,↓reduceIte,seval,ae,p1,t1,e1,gL,hk,Ja,wrap_i64,List.length_map]
          exact⟨⟨Nat.le_refl _,by omega⟩,fin (o++[y]) false _ _ b9 (by simp) (iT o y)⟩
      |false=>
       rw[hl]at gL;have tk2:(o.map It.enc++[A.agg [.str x.key,.int .i64 s.id,.int .i64 (s.ct+1),.int .i64 (di s.az x.key+1),.int .i64 x.prio,.bool x.dead,.str x.body]]).take (o.length+1)=o.map It.enc++[A.agg [.str x.key,.int .i64 s.id,.int .i64 (s.ct+1),.int .i64 (di s.az x.key+1),.int .i64 x.prio,.bool x.dead,.str x.body]]:=List.take_of_length_le (by simp)
       cases hk:y.key==x.key with
       |true=>
          simp only[hk,hl,Bool.not_true,Bool.not_false,Bool.true_and,Bool.false_eq_true,if_false,if_true,Bool.false_or]at b9;simp-implicitDefEqProofs (disch:=(first|omega|decide)) only[go_sem,↓reduceIte,seval,ae,p1,t1,e1,gL,hk,Ja,wrap_i64,List.length_map]
          exact⟨⟨Nat.le_refl _,by omega⟩,fin (o++[X]) true _ _ b9 (by simp) (by rw[hXe];simp)⟩
       |false=>
          simp only[hk,hl,Bool.not_true,Bool.not_false,Bool.true_and,Bool.false_eq_true,if_false,if_true,Bool.false_or]at b9;simp-implicitDefEqProofs (maxSteps:=600000) (disch:=(first|omega|decide)) only[go_sem,↓reduceIte,seval,ae,p1,t1,e1,gL,hk,Ja,tk2,wrap_i64,List.length_map]
          exact⟨⟨Nat.le_refl _,by omega⟩,⟨by simp,by omega⟩,fin (o++[X]++[y]) true _ _ b9 (by simp) (by rw[hXe,<-iT];simp)⟩
   · have ae: ¬(i:Int)<(s.az.length:Int):=by omega
     rw[List.take_of_length_le (by omega)]
     have pO:(s.az.foldl (cQ X) ([],false)).1.length<=200000:=by
      have:=yI X s.az ([],false)
      simp only[List.length_nil]at this;omega
     have Rl:L8 X s.az=if(s.az.foldl (cQ X) ([],false)).2 then(s.az.foldl (cQ X) ([],false)).1 else(s.az.foldl (cQ X) ([],false)).1++[X]:=rfl
     generalize s.az.foldl (cQ X) ([],false)=p at*;obtain⟨o,d⟩:=p;simp only at pO Rl⊢;have Ja:=tk o;cases d with
     |true=>
      rw[Rl,if_pos rfl]
      simp-implicitDefEqProofs (disch:=(first|omega|decide)) only[go_sem,↓reduceIte,seval,ae,gV,gJ,Ja,wrap_i64,List.length_map]
      exact Nat.le_refl _
     |false=>
      rw[Rl,if_neg (by simp)]
      simp-implicitDefEqProofs (disch:=(first|omega|decide)) only[go_sem,↓reduceIte,seval,ae,gV,gJ,Ja,wrap_i64,List.length_map]
      refine⟨⟨Nat.le_refl _,by omega⟩,by simp, ?_⟩
      rw[List.take_of_length_le (by simp),hXe,List.map_append];rfl
theorem Xj{x y:It}(h1:aV y.key x.key=false)(h2:aV x.key y.key=false):y.key=x.key:=by
 rcases pN.tri y.key x.key with r|r|r
 · rw[h1]at r;cases r
 · exact r
 · rw[h2]at r;cases r
theorem PX(x:It): ∀(l:List It) (p:List It×Bool),(l.foldl (cQ x) p).2=(p.2||l.any fun y=> !aV y.key x.key)
 | [],p=>by simp
 |y::l,p=>by
  rw[List.foldl_cons,PX x l,List.any_cons]
  simp[cQ,Bool.or_assoc]
theorem PY(x z:It): ∀(l:List It) (p:List It×Bool),z∈(l.foldl (cQ x) p).1 ↔ z∈p.1\/(z∈l/\z.key≠x.key)\/(z=x/\p.2=false/\(l.any fun y=> !aV y.key x.key)=true)
 | [],p=>by simp
 |y::l,p=>by
  rw[List.foldl_cons,PY x z l,List.any_cons]
  obtain⟨o,d⟩:=p;simp only[cQ]
  cases hk:y.key==x.key<;>cases hl:aV y.key x.key<;>cases d<;>simp only[Bool.not_false,Bool.not_true,Bool.and_true,Bool.and_false,Bool.true_and,Bool.false_and,Bool.or_true,Bool.or_false,Bool.true_or,Bool.false_or,if_true,Bool.false_eq_true,if_false,List.mem_append,List.mem_singleton,List.mem_cons]
  all_goals
   have FY:(y.key=x.key)\/ ¬(y.key=x.key):=Decidable.em _
   first
    |(have e:y.key=x.key:=by simpa using hk
      constructor
      · intro h;simp at h⊢;grind
      · intro h;simp at h⊢;grind)
    |(have e: ¬y.key=x.key:=by simpa using hk
      constructor
      · intro h;simp at h⊢;grind
      · intro h;simp at h⊢;grind)
theorem insF_mem{x z:It}{l:List It}:z∈L8 x l ↔ z=x\/(z∈l/\z.key≠x.key):=by
 unfold L8;have h1:=PX x l ([],false)
 have h2:=PY x z l ([],false)
 rw[Bool.false_or]at h1;cases hd:(l.any fun y=> !aV y.key x.key)with
 |true=>
  rw[hd]at h1;rw[if_pos h1,h2,hd]
  simp only[List.not_mem_nil,false_or,and_true]
  exact Or.comm
 |false=>
  rw[hd]at h1;rw[if_neg (by rw[h1];simp),List.mem_append,h2,hd]
  simp only[List.not_mem_nil,false_or,Bool.false_eq_true,and_false,or_false,List.mem_singleton]
  exact Or.comm
theorem sF(x:It): ∀(l:List It) (o:List It) (d:Bool),l.Pairwise (fun a b=>aV a.key b.key=true)->o.Pairwise (fun a b=>aV a.key b.key=true)->(∀a∈o,∀b∈l,aV a.key b.key=true)->
 (d=false-> ∀a∈o,aV a.key x.key=true)->(d=true-> ∀b∈l,aV b.key x.key=false)->
 (if(l.foldl (cQ x) (o,d)).2 then(l.foldl (cQ x) (o,d)).1 else(l.foldl (cQ x) (o,d)).1++[x]).Pairwise (fun a b=>aV a.key b.key=true)
 | [],o,d,_,ho,_,h1,_=>by
  cases d with
  |true=>exact ho
  |false=>
   simp only[List.foldl_nil,Bool.false_eq_true,if_false]
   rw[List.pairwise_append]
   exact⟨ho,by simp,fun a ha b hb=>by rw[List.mem_singleton.1 hb];exact h1 rfl a ha⟩
 |y::l,o,d,hl,ho,pO,h1,h2=>by
  rw[List.pairwise_cons]at hl;rw[List.foldl_cons]
  have snoc: ∀{o:List It} {z:It},o.Pairwise (fun a b=>aV a.key b.key=true)->(∀a∈o,aV a.key z.key=true)->(o++[z]).Pairwise (fun a b=>aV a.key b.key=true):=fun{o z} g1 g2=>by
   rw[List.pairwise_append]
   exact⟨g1,by simp,fun a ha b hb=>by rw[List.mem_singleton.1 hb];exact g2 a ha⟩
  cases hk:y.key==x.key with
  |true=>
   have e:y.key=x.key:=by simpa using hk
   have aw:aV y.key x.key=false:=by rw[e];exact lt_irrefl _
   have rest: ∀b∈l,aV b.key x.key=false:=fun b hb=>by rw[<-e];exact fo (hl.1 b hb)
   cases d with
   |true=>
    have:cQ x (o,true) y=(o,true):=by simp[cQ,hk]
    rw[this]
    exact sF x l o true hl.2 ho (fun a ha b hb=>pO a ha b (by simp[hb])) (fun e=>by cases e) (fun _=>rest)
   |false=>
    have:cQ x (o,false) y=(o++[x],true):=by simp[cQ,hk,aw]
    rw[this]
    refine sF x l _ true hl.2 (snoc ho (h1 rfl)) (fun a ha b hb=> ?_) (fun e=>by cases e) (fun _=>rest)
    rcases List.mem_append.1 ha with ha|ha
    · exact pO a ha b (by simp[hb])
    · rw[List.mem_singleton.1 ha,<-e];exact hl.1 b hb
  |false=>
   have e:y.key≠x.key:=by simpa using hk
   cases aw:aV y.key x.key with
   |true=>
    cases d with
    |true=>have:=h2 rfl y (by simp);rw[aw]at this;cases this
    |false=>
     have:cQ x (o,false) y=(o++[y],false):=by simp[cQ,hk,aw]
     rw[this]
     refine sF x l _ false hl.2 (snoc ho (fun a ha=>pO a ha y (by simp))) (fun a ha b hb=> ?_) (fun _ a ha=> ?_) (fun e=>by cases e)
     · rcases List.mem_append.1 ha with ha|ha
       · exact pO a ha b (by simp[hb])
       · rw[List.mem_singleton.1 ha];exact hl.1 b hb
     · rcases List.mem_append.1 ha with ha|ha
       · exact h1 rfl a ha
       · rw[List.mem_singleton.1 ha];exact aw
   |false=>
    have N6:aV x.key y.key=true:=by
     cases g:aV x.key y.key with
     |true=>rfl
     |false=>exact absurd (Xj aw g) e
    have rest: ∀b∈l,aV b.key x.key=false:=fun b hb=>fo (ck N6 (hl.1 b hb))
    cases d with
    |true=>
     have:cQ x (o,true) y=(o++[y],true):=by simp[cQ,hk]
     rw[this]
     refine sF x l _ true hl.2 (snoc ho (fun a ha=>pO a ha y (by simp))) (fun a ha b hb=> ?_) (fun e=>by cases e) (fun _=>rest)
     rcases List.mem_append.1 ha with ha|ha
     · exact pO a ha b (by simp[hb])
     · rw[List.mem_singleton.1 ha];exact hl.1 b hb
    |false=>
     have:cQ x (o,false) y=(o++[x]++[y],true):=by simp[cQ,hk,aw]
     rw[this]
     refine sF x l _ true hl.2 (snoc (snoc ho (h1 rfl)) (fun a ha=> ?_)) (fun a ha b hb=> ?_) (fun e=>by cases e) (fun _=>rest)
     · rcases List.mem_append.1 ha with ha|ha
       · exact pO a ha y (by simp)
       · rw[List.mem_singleton.1 ha];exact N6
     · rcases List.mem_append.1 ha with ha|ha
       · rcases List.mem_append.1 ha with ha|ha
         · exact pO a ha b (by simp[hb])
         · rw[List.mem_singleton.1 ha];exact ck N6 (hl.1 b hb)
       · rw[List.mem_singleton.1 ha];exact hl.1 b hb
theorem insF_up{x:It}{l:List It}(h:l.Pairwise fun a b=>aV a.key b.key=true):(L8 x l).Pairwise fun a b=>aV a.key b.key=true:=
 sF x l [] false h List.Pairwise.nil (fun a ha=>by cases ha) (fun _ a ha=>by cases ha) (fun e=>by cases e)
theorem filter_one{l:List It}{z:It}(h:l.Pairwise fun a b=>aV a.key b.key=true)(hz:z∈l):l.filter (fun y=>z.key==y.key)=[z]:=by
 induction l with
 |nil=>cases hz
 |cons y l ih=>
  rw[List.pairwise_cons]at h;rcases List.mem_cons.1 hz with rfl|hz
  · have:l.filter (fun y=>z.key==y.key)=[]:=by
     rw[List.filter_eq_nil_iff]
     intro a ha e;have:=h.1 a ha;rw[show a.key=z.key from(by simpa using e:z.key=a.key).symm,lt_irrefl]at this;cases this
    rw[List.filter_cons_of_pos (by simp),this]
  · have cg: ¬(z.key==y.key)=true:=fun e=>by
     have:=h.1 z hz;rw[show z.key=y.key by simpa using e,lt_irrefl]at this;cases this
    rw[List.filter_cons_of_neg (p:=fun y:It=>z.key==y.key) cg,ih h.2 hz]
theorem filter_none{l:List It}{k:List UInt8}(h: ∀y∈l,y.key≠k):l.filter (fun y=>k==y.key)=[]:=by
 rw[List.filter_eq_nil_iff]
 intro a ha e;exact h a ha (by simpa using e:k=a.key).symm
theorem bt_asy{x y:It}(h:bt x y=true):bt y x=false:=by
 cases g:bt y x with
 |false=>rfl
 |true=>
  have:=bt_tr h g;rw[uD]at this;cases this
theorem uF{x:It}{l:List It}(hl:l.Pairwise fun a b=>aV a.key b.key=true)(hr: ∀y∈l,aH y=true)(hx:aH x=true)(hb: ∀y∈l,y.key=x.key->bt x y=true):L8 x l=aC (x::l):=by
 have hf:(x::l).filter aH=x::l:=List.filter_eq_self.2 fun y hy=>by
  rcases List.mem_cons.1 hy with rfl|hy
  · exact hx
  · exact hr y hy
 unfold aC;rw[hf]
 refine EO iF (insF_up hl) fun z=> ?_;rw[insF_mem]
 have hfe:eqv cx z=fun y=>z.key==y.key:=funext fun y=>eqvI;rw[hfe]
 by_cases hk:z.key=x.key
 · have h1:(x::l).filter (fun y=>z.key==y.key)=x::l.filter (fun y=>z.key==y.key):=List.filter_cons_of_pos (by simp[hk])
   rw[h1]
   have hbest:eA bt (x::l.filter (fun y=>z.key==y.key))=some x:=by
    by_cases he: ∃y∈l,y.key=z.key
    · obtain⟨y,hy,hyk⟩:=he
      rw[<-hyk,filter_one hl hy]
      have:=bt_asy (hb y hy (by rw[hyk,hk]))
      simp[eA,better,this]
    · rw[filter_none fun y hy e=>he ⟨y,hy,e⟩];rfl
   rw[hbest]
   constructor
   · rintro(rfl|⟨_,h⟩)
     · rfl
     · exact absurd hk h
   · intro h
     exact .inl (Option.some.inj h).symm
 · have h1:(x::l).filter (fun y=>z.key==y.key)=l.filter (fun y=>z.key==y.key):=List.filter_cons_of_neg (by simpa using hk)
   rw[h1]
   constructor
   · rintro(rfl|⟨h,_⟩)
     · exact absurd rfl hk
     · rw[filter_one hl h];rfl
   · intro h
     exact .inr ⟨(List.mem_filter.1 (kM h)).1,hk⟩
theorem get_mem{l:List It}{k:List UInt8}{y:It}(h:l.Pairwise fun a b=>aV a.key b.key=true)(hy:y∈l)(hk:y.key=k):dm l k=some y:=by
 unfold dm;cases hg:l.find? (fun x=>x.key==k)with
 |none=>
  have:=List.find?_eq_none.1 hg y hy;exact absurd (by simpa using hk) this
 |some z=>
  have h1:=List.mem_of_find?_eq_some hg;have h2:=List.find?_some hg;have hzk:z.key=k:=by simpa using h2
  have e:=filter_one h hy;have hz:z∈l.filter (fun x=>y.key==x.key):=List.mem_filter.2 ⟨h1,by simp[hk,hzk]⟩
  rw[e]at hz;rw[List.mem_singleton.1 hz]
theorem UY{s:aI}{x:It}(h:bq s)(hx:aH (mB s x)=true):L9 s x=dh s (mB s x):=by
 have:L8 (mB s x) s.az=aC (mB s x::s.az):=uF h.up h.right hx fun y hy hk=>by
  have hg:=get_mem h.up hy (show y.key=x.key from hk)
  have hr:di s.az x.key=y.bk:=by unfold di;rw[hg]
  unfold bt;have:y.bk<(mB s x).bk:=by show y.bk<di s.az x.key+1;omega
  rw[decide_eq_true this];rfl
 unfold L9 dh;rw[this]
 rfl
def L':an:=L7.add 120 (entry (fun(v:aI×It)=>[v.1.enc,v.2.enc]) (fun v=>rF v.1 v.2) (fun v=>(L9 v.1 v.2).enc))
theorem Y23q_ok:ag Tryz.prog L':=UX.bN Tryz.func120 (by kernel_rfl) (by kernel_rfl) fun v h=>PW v.1 v.2 h
@[go_sem] theorem Y23q_old{g:FuncId}{xs:List A}(h:g≠120):L'.f g xs=L7.f g xs:=an.ak h
theorem Fu(v:aI×It)(h:rF v.1 v.2):L'.f 120 [v.1.enc,v.2.enc]=some ((L9 v.1 v.2).enc):=an.ao (Γ:=L7) (fun i j h=>by simpa[Prod.ext_iff,and_assoc]using h) v h
def PZ:an:=L'.add 21 (entry (fun(s:aI)=>[s.enc]) (fun s=>il s) (fun s=> .bool (aU s)))
theorem UZ:ag Tryz.prog PZ:=Y23q_ok.bN Tryz.func21 (by kernel_rfl) (by kernel_rfl) fun s h=>Ho s h
@[go_sem] theorem Y23r_old{g:FuncId}{xs:List A}(h:g≠21):PZ.f g xs=L'.f g xs:=an.ak h
@[go_sem] theorem Y23r_s:PZ.pl L':=⟨fun _=>rfl,fun _=>rfl,rfl,fun _=>rfl,rfl,fun _=>rfl,rfl⟩
theorem bx(s:aI)(h:il s):PZ.f 21 [s.enc]=some (.bool (aU s)):=an.ao (Γ:=L') (fun i j h=>by simpa[Prod.ext_iff,and_assoc]using h) s h
theorem y_rput{s:aI}{x:It}(h:rF s x):L'.f 120 [.agg [.int .i64 s.id,.ab (s.fl.map ax.enc),.ab (s.az.map It.enc),.ab (s.kn.map Pc.enc),.int .i64 s.ct],.agg [.str x.key,.int .i64 x.rep,.int .i64 x.bu,.int .i64 x.bk,.int .i64 x.prio,.bool x.dead,.str x.body]]=some (L9 s x).enc:=Fu (s,x) h
def Fv(k:List UInt8)(prio:Int)(body:List UInt8):It:=⟨k,0,0,0,prio,false,body⟩
def A_(s:aI)(k:List UInt8):It:=⟨k,0,0,0,wC s.az k,true,[]⟩
theorem yJ{s:aI}(h:bq s)(hc:s.ct≠1099511627776):aN ⟨s.id,s.ct+1⟩=true:=by have:=h.id;have:=h.ct;simp[aN];omega
theorem putW_eq{s:aI}{k:List UInt8}{prio:Int}{body:List UInt8}(h:bp s k prio body=0):L9 s (Fv k prio body)=dh s (cb s (lS s k prio body)):=by
 unfold bp at h;split at h
 · cases h
 rename_i hR;have hR:aU s=true:=by simpa using hR
 have hS:=(bQ s).1 hR;have I3:=jh hR k;split at h
 · cases h
 rename_i hb;split at h
 · cases h
 split at h
 · cases h
 rename_i hm;have hv:=yJ hS (fun e=>hm (.inl e))
 have e:mB s (Fv k prio body)=cb s (lS s k prio body):=rfl;rw[<-e]
 refine UY hS ?_;unfold fM at hb;simp only[Bool.or_eq_true,Bool.not_eq_true',decide_eq_false_iff_not,decide_eq_true_eq,not_or]at hb;obtain⟨⟨⟨b1,b2⟩,b3⟩,b4⟩:=hb;unfold aH;have hk:(mB s (Fv k prio body)).key=k:=rfl;have hver:aN ⟨(mB s (Fv k prio body)).rep,(mB s (Fv k prio body)).bu⟩=true:=hv;rw[hver]
 have r1:(mB s (Fv k prio body)).bk=di s.az k+1:=rfl;have r2:(mB s (Fv k prio body)).prio=prio:=rfl;have r3:(mB s (Fv k prio body)).body=body:=rfl;have r4:(mB s (Fv k prio body)).dead=false:=rfl;rw[hk,r1,r2,r3,r4]
 have b1:1<=k.length/\k.length<=16:=Decidable.not_not.1 b1;have hm2:di s.az k≠1099511627776:=fun e=>hm (.inr e)
 simp only[decide_eq_true b1,Bool.true_and,Bool.not_false,Bool.true_or,Bool.and_true,Bool.and_eq_true,decide_eq_true_eq]
 omega
theorem Fw:ah Tryz.prog PZ Tryz.f62.ntmps (Tryz.f62.body.getD .skip)=true:=by kernel_rfl
theorem HM(s:aI)(k:List UInt8)(prio:Int)(body:List UInt8)(h:il s)(hk:k.length<=9223372036854775807)(hb:body.length<=9223372036854775807)(hp:bp s k prio body=0->rF s (Fv k prio body)):
 ay Tryz.prog 62 [s.enc,.str k,.int .i64 prio,.str body] (· =lg s k prio body):=by
 refine aa UZ mixed Tryz.func62 rfl (Nat.le_of_ble_eq_true rfl) Fw ?_;unfold Tryz.f62;have gR:=bx s h;have gK:=tt (s:=k) hk;have gH:=fE (l:=s.fl) (s:=k) (by have:=h.fl.1;omega) h.fl.2 hk;have gP:=BO (s:=s) (k:=k) h.az.1;have gN:=SY (s:=s) (k:=k) h.az.1;have hpg:=sD s.az k;have I3: ∀hh:aU s=true,_:=fun hh=>jh hh k;unfold lg Fp;simp only[aI.enc,aI.cells,It.enc]at*;have fail: ∀e:Int,e≠0->bp s k prio body=e->A.cD [.agg [.int .i64 0,.ab [],.ab [],.ab [],.int .i64 0],.int .i64 e]= .cD [.agg [.int .i64 (if bp s k prio body=0 then dh s (cb s (lS s k prio body))else cm).id,.ab ((if bp s k prio body=0 then dh s (cb s (lS s k prio body))else cm).fl.map ax.enc),.ab ((if bp s k prio body=0 then dh s (cb s (lS s k prio body))else cm).az.map It.enc),.ab ((if bp s k prio body=0 then dh s (cb s (lS s k prio body))else cm).kn.map Pc.enc),.int .i64 (if bp s k prio body=0 then dh s (cb s (lS s k prio body))else cm).ct],.int .i64 (bp s k prio body)]:=fun e he hc=>by rw[hc,if_neg he];rfl
 generalize hZ:A.cD [.agg [.int .i64 (if bp s k prio body=0 then dh s (cb s (lS s k prio body))else cm).id,.ab ((if bp s k prio body=0 then dh s (cb s (lS s k prio body))else cm).fl.map ax.enc),.ab ((if bp s k prio body=0 then dh s (cb s (lS s k prio body))else cm).az.map It.enc),.ab ((if bp s k prio body=0 then dh s (cb s (lS s k prio body))else cm).kn.map Pc.enc),.int .i64 (if bp s k prio body=0 then dh s (cb s (lS s k prio body))else cm).ct],.int .i64 (bp s k prio body)]=Z at*;cases hR:aU s with
 |false=>
  have fl:=fail 41 (by decide) (by unfold bp;rw[if_pos hR])
  rw[hR]at gR;simp-implicitDefEqProofs (disch:=(first|omega|decide)) only[go_sem,↓reduceIte,seval,gR,fl]
 |true=>
  have I3:=I3 hR;rw[hR]at gR;have hC:bp s k prio body=if fM k prio body=true then 2 else if aj s.fl k=false then 30 else if s.ct=1099511627776\/di s.az k=1099511627776 then 33 else if dm s.az k=none/\s.az.length=4096 then 32 else 0:=by unfold bp;rw[if_neg (by rw[hR];simp)]
  have bad:fM k prio body=true->A.cD [.agg [.int .i64 0,.ab [],.ab [],.ab [],.int .i64 0],.int .i64 2]=Z:=fun hb=>fail 2 (by decide) (by rw[hC,if_pos hb])
  cases b1:decide (1<=k.length/\k.length<=16)with
  |false=>
   have fl:=bad (by unfold fM;rw[b1];rfl)
   rw[b1]at gK;simp-implicitDefEqProofs (disch:=(first|omega|decide)) only[go_sem,↓reduceIte,seval,gR,gK,fl]
  |true=>
   rw[b1]at gK;by_cases b2:prio<0
   · have fl:=bad (by unfold fM;rw[b1,decide_eq_true b2];rfl)
     simp-implicitDefEqProofs (disch:=(first|omega|decide)) only[go_sem,↓reduceIte,seval,gR,gK,b2,fl]
   · by_cases b3:255<prio
     · have fl:=bad (by unfold fM;rw[b1,decide_eq_true b3];simp)
       simp-implicitDefEqProofs (disch:=(first|omega|decide)) only[go_sem,↓reduceIte,seval,gR,gK,b2,b3,fl]
     · by_cases b4:64<body.length
       · have fl:=bad (by unfold fM;rw[decide_eq_true b4];simp)
         have PU:(64:Int)<(body.length:Int):=by omega
         simp-implicitDefEqProofs (disch:=(first|omega|decide)) only[go_sem,↓reduceIte,seval,gR,gK,b2,b3,PU,fl]
       · have PU: ¬(64:Int)<(body.length:Int):=by omega
         have hbf: ¬fM k prio body=true:=by unfold fM;rw[b1,decide_eq_false b2,decide_eq_false b3,decide_eq_false b4];simp
         rw[if_neg hbf]at hC;cases b5:aj s.fl k with
         |false=>
          have fl:=fail 30 (by decide) (by rw[hC,if_pos b5])
          rw[b5]at gH;simp-implicitDefEqProofs (disch:=(first|omega|decide)) only[go_sem,↓reduceIte,seval,gR,gK,gH,b2,b3,PU,fl]
         |true=>
          rw[b5]at gH;rw[if_neg (by rw[b5];simp)]at hC;cases b6:s.ct==1099511627776 with
          |true=>
           have fl:=fail 33 (by decide) (by rw[hC,if_pos (.inl (by simpa using b6))])
           simp-implicitDefEqProofs (disch:=(first|omega|decide)) only[go_sem,↓reduceIte,seval,gR,gK,gH,b2,b3,PU,b6,fl]
          |false=>
           cases b7:di s.az k==1099511627776 with
           |true=>
            have fl:=fail 33 (by decide) (by rw[hC,if_pos (.inr (by simpa using b7))])
            simp-implicitDefEqProofs (disch:=(first|omega|decide)) only[go_sem,↓reduceIte,seval,gR,gK,gH,gN,b2,b3,PU,b6,b7,fl]
           |false=>
            rw[if_neg (by simp at b6 b7;omega)]at hC
            have sX:bp s k prio body=0->L'.f 120 [.agg [.int .i64 s.id,.ab (s.fl.map ax.enc),.ab (s.az.map It.enc),.ab (s.kn.map Pc.enc),.int .i64 s.ct],.agg [.str k,.int .i64 0,.int .i64 0,.int .i64 0,.int .i64 prio,.bool false,.str body]]=some (dh s (cb s (lS s k prio body))).enc:=fun h0=>by
             have:=y_rput (hp h0)
             rw[putW_eq h0]at this;exact this
            rcases hpg with⟨q1,q2⟩|⟨i,hi,q1,q2⟩
            · rw[q1]at gP
              cases b8:(s.az.length:Int)==4096 with
              |true=>
               have fl:=fail 32 (by decide) (by rw[hC,if_pos ⟨q2,by simp at b8;omega⟩])
               simp-implicitDefEqProofs (disch:=(first|omega|decide)) only[go_sem,↓reduceIte,seval,gR,gK,gH,gN,gP,b2,b3,PU,b6,b7,b8,fl,List.length_map]
              |false=>
               have h0:bp s k prio body=0:=by rw[hC,if_neg (fun e=>by simp at b8;omega)]
               have sX:=sX h0;rw[h0,if_pos rfl]at hZ;simp only[aI.enc,aI.cells]at sX hZ;simp-implicitDefEqProofs (maxSteps:=600000) (disch:=(first|omega|decide)) only[go_sem,↓reduceIte,seval,gR,gK,gH,gN,gP,sX,b2,b3,PU,b6,b7,b8,hZ,wrap_i64,List.length_map]
            · rw[q1]at gP
              have q3: ¬((i:Int)<0):=by omega
              have h0:bp s k prio body=0:=by rw[hC,if_neg (fun e=>by rw[q2]at e;cases e.1)]
              have sX:=sX h0;rw[h0,if_pos rfl]at hZ;simp only[aI.enc,aI.cells]at sX hZ;simp-implicitDefEqProofs (maxSteps:=600000) (disch:=(first|omega|decide)) only[go_sem,↓reduceIte,seval,gR,gK,gH,gN,gP,sX,q3,b2,b3,PU,b6,b7,hZ,wrap_i64,List.length_map]
def SZ:an:=PZ.add 62 (entry (fun(v:aI×List UInt8×Int×List UInt8)=>[v.1.enc,.str v.2.1,.int .i64 v.2.2.1,.str v.2.2.2]) (fun v=>(il v.1/\(bp v.1 v.2.1 v.2.2.1 v.2.2.2=0->rF v.1 (Fv v.2.1 v.2.2.1 v.2.2.2)))/\v.2.1.length<=9223372036854775807/\v.2.2.2.length<=9223372036854775807) (fun v=>lg v.1 v.2.1 v.2.2.1 v.2.2.2))
theorem U0:ag Tryz.prog SZ:=UZ.bN Tryz.func62 (by kernel_rfl) (by kernel_rfl) fun v h=>HM v.1 v.2.1 v.2.2.1 v.2.2.2 h.1.1 h.2.1 h.2.2 h.1.2
@[go_sem] theorem Y23s_old{g:FuncId}{xs:List A}(h:g≠62):SZ.f g xs=PZ.f g xs:=an.ak h
@[go_sem] theorem Y23s_s:SZ.pl PZ:=⟨fun _=>rfl,fun _=>rfl,rfl,fun _=>rfl,rfl,fun _=>rfl,rfl⟩
theorem del_get{s:aI}{k:List UInt8}(h:fg s k=0):aU s=true/\s.ct≠1099511627776/\di s.az k≠1099511627776/\ ∃o,dm s.az k=some o/\o.dead=false/\o.prio=wC s.az k:=by
 unfold fg at h;split at h
 · cases h
 rename_i hR;split at h
 · cases h
 rename_i hd;split at h
 · cases h
 rename_i hm;refine⟨by simpa using hR,fun e=>hm (.inl e),fun e=>hm (.inr e), ?_⟩
 unfold tz at hd;unfold wC;cases hg:dm s.az k with
 |none=>rw[hg]at hd;simp at hd
 |some o=>rw[hg]at hd;exact⟨o,rfl,by simpa using hd,rfl⟩
theorem putD_eq{s:aI}{k:List UInt8}(h:fg s k=0):L9 s (A_ s k)=dh s (cb s (zT s k)):=by
 obtain⟨hR,h1,h2,o,ho,hd,hp⟩:=del_get h;have hS:=(bQ s).1 hR;have I3:=jh hR k;have hv:=yJ hS h1;have hor:=hS.right o (List.mem_of_find?_eq_some ho)
 have g_:o.key=k:=by have:(o.key==k)=true:=List.find?_some (p:=fun x:It=>x.key==k) ho;simpa using this
 have e:mB s (A_ s k)=cb s (zT s k):=rfl;rw[<-e]
 refine UY hS ?_;unfold aH at hor⊢;have hver:aN ⟨(mB s (A_ s k)).rep,(mB s (A_ s k)).bu⟩=true:=hv;rw[hver]
 have r0:(mB s (A_ s k)).key=k:=rfl;have r1:(mB s (A_ s k)).bk=di s.az k+1:=rfl;have r2:(mB s (A_ s k)).prio=wC s.az k:=rfl;have r3:(mB s (A_ s k)).body=[]:=rfl;have r4:(mB s (A_ s k)).dead=true:=rfl;rw[r0,r1,r2,r3,r4,<-hp]
 rw[g_]at hor;simp only[Bool.and_eq_true,decide_eq_true_eq]at hor⊢;obtain⟨⟨⟨⟨⟨⟨⟨a1,a2⟩,a3⟩,a4⟩,a5⟩,a6⟩,a7⟩,a8⟩:=hor;exact⟨⟨⟨⟨⟨⟨⟨a1,trivial⟩,by omega⟩,by omega⟩,a5⟩,a6⟩,by simp⟩,by simp⟩
theorem A':ah Tryz.prog SZ Tryz.f60.ntmps (Tryz.f60.body.getD .skip)=true:=by kernel_rfl
theorem Fx(s:aI)(k:List UInt8)(h:il s)(hk:k.length<=9223372036854775807)(hp:fg s k=0->rF s (A_ s k)):
 ay Tryz.prog 60 [s.enc,.str k] (· =Xg s k):=by
 refine aa U0 mixed Tryz.func60 rfl (Nat.le_of_ble_eq_true rfl) A' ?_;unfold Tryz.f60;have gR:=bx s h;have gP:=BO (s:=s) (k:=k) h.az.1;have gN:=SY (s:=s) (k:=k) h.az.1;have hpg:=sD s.az k;have I3: ∀hh:aU s=true,_:=fun hh=>jh hh k;unfold Xg delS;simp only[aI.enc,aI.cells,It.enc]at*;have fail: ∀e:Int,e≠0->fg s k=e->A.cD [.agg [.int .i64 0,.ab [],.ab [],.ab [],.int .i64 0],.int .i64 e]= .cD [.agg [.int .i64 (if fg s k=0 then dh s (cb s (zT s k))else cm).id,.ab ((if fg s k=0 then dh s (cb s (zT s k))else cm).fl.map ax.enc),.ab ((if fg s k=0 then dh s (cb s (zT s k))else cm).az.map It.enc),.ab ((if fg s k=0 then dh s (cb s (zT s k))else cm).kn.map Pc.enc),.int .i64 (if fg s k=0 then dh s (cb s (zT s k))else cm).ct],.int .i64 (fg s k)]:=fun e he hc=>by rw[hc,if_neg he];rfl
 generalize hZ:A.cD [.agg [.int .i64 (if fg s k=0 then dh s (cb s (zT s k))else cm).id,.ab ((if fg s k=0 then dh s (cb s (zT s k))else cm).fl.map ax.enc),.ab ((if fg s k=0 then dh s (cb s (zT s k))else cm).az.map It.enc),.ab ((if fg s k=0 then dh s (cb s (zT s k))else cm).kn.map Pc.enc),.int .i64 (if fg s k=0 then dh s (cb s (zT s k))else cm).ct],.int .i64 (fg s k)]=Z at*;cases hR:aU s with
 |false=>
  have fl:=fail 41 (by decide) (by unfold fg;rw[if_pos hR])
  rw[hR]at gR;simp-implicitDefEqProofs (disch:=(first|omega|decide)) only[go_sem,↓reduceIte,seval,gR,fl]
 |true=>
  have I3:=I3 hR;rw[hR]at gR;have hC:fg s k=if tz s.az k=true then 31 else if s.ct=1099511627776\/di s.az k=1099511627776 then 33 else 0:=by unfold fg;rw[if_neg (by rw[hR];simp)]
  rcases hpg with⟨q1,q2⟩|⟨i,hi,q1,q2⟩
  · rw[q1]at gP
    have fl:=fail 31 (by decide) (by rw[hC,if_pos (by unfold tz;rw[q2])])
    simp-implicitDefEqProofs (disch:=(first|omega|decide)) only[go_sem,↓reduceIte,seval,gR,gP,fl]
  · rw[q1]at gP
    have q3: ¬((i:Int)<0):=by omega
    have q4:(0:Int)<=(i:Int):=by omega
    have q5:(i:Int)<(s.az.length:Int):=by omega
    have q6:((i:Nat):Int).toNat=i:=Int.toNat_natCast _;have e1:=cN hi;have hdd:tz s.az k=s.az[i].dead:=by unfold tz;rw[q2]
    have Mz:wC s.az k=s.az[i].prio:=by unfold wC;rw[q2]
    rw[<-hdd,<-Mz]at e1;cases b5:tz s.az k with
    |true=>
     rw[b5]at e1;have fl:=fail 31 (by decide) (by rw[hC,if_pos b5])
     simp-implicitDefEqProofs (disch:=(first|omega|decide)) only[go_sem,↓reduceIte,seval,gR,gP,q3,q4,q5,q6,e1,fl,List.length_map]
    |false=>
     rw[b5]at e1;rw[if_neg (by rw[b5];simp)]at hC;cases b6:s.ct==1099511627776 with
     |true=>
      have fl:=fail 33 (by decide) (by rw[hC,if_pos (.inl (by simpa using b6))])
      simp-implicitDefEqProofs (disch:=(first|omega|decide)) only[go_sem,↓reduceIte,seval,gR,gP,q3,q4,q5,q6,e1,b6,fl,List.length_map]
     |false=>
      cases b7:di s.az k==1099511627776 with
      |true=>
       have fl:=fail 33 (by decide) (by rw[hC,if_pos (.inr (by simpa using b7))])
       simp-implicitDefEqProofs (disch:=(first|omega|decide)) only[go_sem,↓reduceIte,seval,gR,gP,gN,q3,q4,q5,q6,e1,b6,b7,fl,List.length_map]
      |false=>
       have h0:fg s k=0:=by rw[hC,if_neg (by simp at b6 b7;omega)]
       have gU:=y_rput (hp h0)
       rw[putD_eq h0]at gU;rw[h0,if_pos rfl]at hZ;simp only[A_,aI.enc,aI.cells]at gU hZ;simp-implicitDefEqProofs (disch:=(first|omega|decide)) only[go_sem,↓reduceIte,seval,gR,gP,gN,gU,q3,q4,q5,q6,e1,b6,b7,hZ,wrap_i64,List.length_map]
def S0:an:=SZ.add 60 (entry (fun(v:aI×List UInt8)=>[v.1.enc,.str v.2]) (fun v=>(il v.1/\(fg v.1 v.2=0->rF v.1 (A_ v.1 v.2)))/\v.2.length<=9223372036854775807) (fun v=>Xg v.1 v.2))
theorem U3:ag Tryz.prog S0:=U0.bN Tryz.func60 (by kernel_rfl) (by kernel_rfl) fun v h=>Fx v.1 v.2 h.1.1 h.2 h.1.2
@[go_sem] theorem Y23t_old{g:FuncId}{xs:List A}(h:g≠60):S0.f g xs=SZ.f g xs:=an.ak h
@[go_sem] theorem Y23t_s:S0.pl SZ:=⟨fun _=>rfl,fun _=>rfl,rfl,fun _=>rfl,rfl,fun _=>rfl,rfl⟩
def U4(k:List Pc)(w:Nat):Prop:= ∀p∈k,p.s.length+bA p.s<=w
theorem Fy{k:List Pc}{w:Nat}(h:aR k=true)(hw:U4 k w)(x:List UInt8):(setAt k x).length+bA (setAt k x)<=w:=by
 by_cases he: ∃p∈k,b_ p.r x=true
 · obtain⟨p,hp,hx⟩:=he
   rw[qP h hp hx];exact hw p hp
 · have:k.filter (fun p=>b_ p.r x)=[]:=List.filter_eq_nil_iff.2 fun p hp hx=>he ⟨p,hp,hx⟩
   have e:setAt k x=[]:=by unfold setAt;rw[this];rfl
   rw[e];exact Nat.zero_le _
theorem at_wt{k:List Pc}{x:List UInt8}{W:Nat}(h:(setAt k x).length+bA (setAt k x)<=W):(cL k x).length+bA (cL k x)<=16+W:=by
 have h1:=En (setAt k x)
 unfold cL;omega
theorem U5{P:List UInt8->List ad}{es:List (List UInt8)}(hE:Kc P es){B:Nat}(hB: ∀x,(P x).length+bA (P x)<=B):U4 (aT P) B:=by
 have iO:=(mW hE).1;have we:=rm P es es.length;rw[<-iO]
 intro p hp;obtain⟨e,he⟩:=we p (List.mem_reverse.1 hp)
 rw[he];exact hB e
theorem okP_atw{k:List Pc}{N W:Nat}(h1:k.length<=N)(hW: ∀x,(setAt k x).length+bA (setAt k x)<=W)(hm:(1+2*N)*(16+W)<=900000)(hN:N<=1000):
 cV (aT (cL k))/\(aT (cL k)).length<=1+2*N/\wP (aT (cL k))<=(1+2*N)*(16+W)/\U4 (aT (cL k)) (16+W):=by
 have hl:=je (LL:=[k])
 simp only[mL,List.map_cons,List.map_nil,List.sum_cons,List.sum_nil]at hl;obtain⟨a,b,c⟩:=EF (edg1 k) (B:=16+W) (fun x=>at_wt (hW x)) (N:=1+2*N) (by omega) hm (by omega)
 exact⟨a,b,c,U5 (edg1 k) fun x=>at_wt (hW x)⟩
theorem U6{k:List Pc}{l:List ax}{x:List UInt8}{W:Nat}(h:(setAt k x).length+bA (setAt k x)<=W):(bj k l x).length+bA (bj k l x)<=16+W:=by
 unfold bj;split
 · exact at_wt h
 · simp[bA]
theorem P0(key:List UInt8)(v:ca):(cB key [v]).length<=1/\wP (cB key [v])<=32:=by
 unfold cB;split
 · have h1:bA (cT [v])<=1:=by cases hv:aN v<;>simp[cT,bA,hv]
   have h2:=Ug h1;refine⟨by simp, ?_⟩
   simp only[wP,List.map_cons,List.map_nil,List.sum_cons,List.sum_nil]
   omega
 · exact⟨by simp,by simp[wP]⟩
theorem Xk{k:List Pc}{key:List UInt8}{v:ca}{w:Nat}(h:aR k=true)(hw:U4 k w)(x:List UInt8):(setAt (k++cB key [v]) x).length+bA (setAt (k++cB key [v]) x)<=w+32:=by
 rw[iA,List.length_append,dZ]
 have h1:=Fy h hw x;have h2:=na (cB key [v]) x;have h3:=(P0 key v).2;omega
theorem U7{k:List Pc}{w:Nat}(h:U4 k w):wP k<=k.length*w:=by
 induction k with
 |nil=>simp[wP]
 |cons p k ih=>
  have a:=ih fun q hq=>h q (by simp[hq])
  have b:=h p (by simp)
  rw[o5,List.length_cons,Nat.succ_mul];omega
theorem U8(key:List UInt8)(v:ca): ∀p∈cB key [v],p.r.lo.length<=9223372036854775807/\p.r.hi.length<=9223372036854775807:=by
 intro p hp;unfold cB at hp;split at hp
 · rename_i h
   obtain rfl:=List.mem_singleton.1 hp;have:=of_decide_eq_true h.1;show(nq key).lo.length<=_/\(nq key).hi.length<=_;have e:nq key=⟨key,key++[0],false⟩:=by unfold nq;rw[if_neg (by omega)]
   rw[e]
   simp only[List.length_append,List.length_cons,List.length_nil];omega
 · cases hp
structure ji(s:aI)(N w n:Nat):Prop where
 right:bq s
 fl:s.fl.length<=8/\dB s.fl
 az:s.az.length<=n/\mM s.az
 kn:s.kn.length<=N/\U4 s.kn w
theorem ji.cV{s:aI}{N w n:Nat}(h:ji s N w n)(hN:N<=400)(hw:w<=2200):iI s.kn:=by
 have h1:=U7 h.kn.2;have h2:s.kn.length*w<=400*2200:=Nat.mul_le_mul (Nat.le_trans h.kn.1 hN) hw;refine⟨⟨⟨by have:=h.kn.1;omega,by omega⟩,fun p hp=> ?_⟩,fun x=>by have:=Fy h.right.kn h.kn.2 x;omega,fun p hp=>by have:=h.kn.2 p hp;omega⟩
 have:=(dN.1 h.right.kn).1 p hp;simp only[dS,Bool.and_eq_true]at this;obtain⟨k1,k2,_,_⟩:=cw this.1.1;omega
theorem ji.Ma{s:aI}{N w n:Nat}(h:ji s N w n)(hN:N<=400)(hw:w<=2200)(hn:n<=1000):il s:=by
 have h1:=h.fl;have h2:=h.az;have h3:=h.kn.1;have hk:=h.cV hN hw;have hr:aT (bj s.kn s.fl)=s.kn:=by rw[rr.2 h.right.inF,gj h.right.kn]
 exact⟨⟨by omega,h1.2⟩,⟨by omega,h2.2⟩,⟨hk,by omega⟩,by rw[hr];exact hk.1⟩
theorem ji.okPut{s:aI}{x:It}{N w n:Nat}(h:ji s N w n)(hN:N<=400)(hw:w<=2200)(hn:n<=1000)(hx:x.ok):rE s x:=by
 have hk:=h.cV hN hw;have h1:=P0 x.key ⟨s.id,s.ct+1⟩
 have h2:=h.kn.1;have h3:=h.az;have h4:=h.fl;have h5:wP s.kn<=880000:=Nat.le_trans (U7 h.kn.2) (Nat.mul_le_mul (Nat.le_trans h2 hN) hw)
 refine⟨by omega,⟨by omega,h3.2⟩,⟨hk.1,o_ hk.1 ⟨⟨by omega,by omega⟩,U8 _ _⟩ (by omega) (by omega)⟩,hx,h.right.ct⟩
theorem ji.put{s:aI}{x:It}{N w n:Nat}(h:ji s N w n)(hN:N<=198)(hw:w<=2000)(hR:bq (dh s x))(hx:x.ok):ji (dh s x) (1+2*(N+1)) (48+w) (n+1):=by
 have h1:=P0 x.key ⟨x.rep,x.bu⟩
 have hl:(s.kn++cB x.key [⟨x.rep,x.bu⟩]).length<=N+1:=by rw[List.length_append];have:=h.kn.1;omega
 have hm:(1+2*(N+1))*(16+(w+32))<=900000:=Nat.le_trans (Nat.mul_le_mul (show 1+2*(N+1)<=399 by omega) (show 16+(w+32)<=2048 by omega)) (by decide)
 have hk:=okP_atw (N:=N+1) (W:=w+32) hl (fun y=>Xk h.right.kn h.kn.2 y) hm (by omega)
 refine⟨hR,h.fl,⟨?_,fun y hy=> ?_⟩,⟨hk.2.1,fun p hp=> ?_⟩⟩
 · have:=iq (x::s.az)
   simp only[List.length_cons]at this;show(aC (x::s.az)).length<=n+1;have:=h.az.1;omega
 · rcases List.mem_cons.1 (cy hy).1 with rfl|hy
   · exact hx
   · exact h.az.2 y hy
 · have:=hk.2.2.2 p hp
   omega
theorem S3(a:List It):ly a a=true:=by simp[ly]
theorem Xl{a b:List It}(h:a.length≠b.length):ly a b=false:=decide_eq_false fun e=>h (by rw[e])
theorem S4(x y:It)(a b:List It):ly (x::a) (y::b)=(decide (x=y)&&ly a b):=by unfold ly;rw[Bool.eq_iff_iff];simp
theorem it_eq{x y:It}:decide (x=y)=(x.key==y.key&&(x.rep==y.rep&&(x.bu==y.bu&&(x.bk==y.bk&&(x.prio==y.prio&&(x.dead==y.dead&&x.body==y.body)))))):=by
 obtain⟨a,b,c,d,e,f,g⟩:=x;obtain⟨a',b',c',d',e',f',g'⟩:=y;rw[Bool.eq_iff_iff,decide_eq_true_iff]
 simp[and_assoc]
theorem HN:ah Tryz.prog S0 Tryz.f24.ntmps (Tryz.f24.body.getD .skip)=true:=by kernel_rfl
theorem Mb(a b:List It)(ha:a.length<=4611686018427387904)(hb:b.length<=4611686018427387904):ay Tryz.prog 24 [.ab (a.map It.enc),.ab (b.map It.enc)] (· = .bool (ly a b)):=by
 refine aa U3 mixed Tryz.func24 rfl (Nat.le_of_ble_eq_true rfl) HN ?_;unfold Tryz.f24;cases h0:((a.length:Int)==(b.length:Int))with
 |false=>
  have cg:a.length≠b.length:=fun e=>by rw[e]at h0;simp at h0
  rw[Xl cg]
  simp-implicitDefEqProofs (disch:=(first|omega|decide)) only[go_sem,↓reduceIte,seval,h0,List.length_map]
 |true=>
  have hlen:a.length=b.length:=by simp at h0;omega
  simp-implicitDefEqProofs (disch:=(first|omega|decide)) only[go_sem,↓reduceIte,seval,h0,List.length_map]
  refine ar [0,1] (ι:={k:Nat//k<=a.length/\ly a b=ly (a.drop k) (b.drop k)}) (fun p=>[(5,.int .i64 p.1)]) (fun _=>[]) (fun p=>a.length-p.1) ⟨0,by omega,rfl⟩ (Nat.zero_le _) ?_ ?_
  · simp-implicitDefEqProofs (disch:=(first|omega|decide)) only[go_sem,↓reduceIte,seval]
  · rintro⟨k,hk,hd⟩
    simp only;by_cases aw:k<a.length
    · have ae:(k:Int)<(a.length:Int):=by omega
      have iH:k<b.length:=by omega
      have Dl:(k:Int)<(b.length:Int):=by omega
      have p1:(0:Int)<=(k:Int):=by omega
      have t1:((k:Nat):Int).toNat=k:=Int.toNat_natCast _;have e1:=cN aw;have e2:=cN iH;rw[List.drop_eq_getElem_cons aw,List.drop_eq_getElem_cons iH]at hd;rw[S4,it_eq]at hd;generalize a[k]=x at*;generalize b[k]=y at*;cases k1:(x.key==y.key&&(x.rep==y.rep&&(x.bu==y.bu&&(x.bk==y.bk&&(x.prio==y.prio&&(x.dead==y.dead&&x.body==y.body))))))with
      |false=>
       rw[k1,Bool.false_and]at hd;rw[hd]
       simp-implicitDefEqProofs (disch:=(first|omega|decide)) only[go_sem,↓reduceIte,seval,ae,Dl,p1,t1,e1,e2,k1,List.length_map]
      |true=>
       rw[k1,Bool.true_and]at hd;simp-implicitDefEqProofs (disch:=(first|omega|decide)) only[go_sem,↓reduceIte,seval,ae,Dl,p1,t1,e1,e2,k1,wrap_i64,List.length_map]
       exact⟨⟨k+1,aw,hd⟩,by simp,by show a.length-(k+1)<a.length-k;omega⟩
    · have ae: ¬(k:Int)<(a.length:Int):=by omega
      rw[List.drop_of_length_le (by omega),List.drop_of_length_le (by omega)]at hd;have hd:ly a b=true:=hd;rw[hd]
      simp-implicitDefEqProofs (disch:=(first|omega|decide)) only[go_sem,↓reduceIte,seval,ae,List.length_map]
def Mc:an:=S0.add 24 (entry (fun(v:List It×List It)=>[.ab (v.1.map It.enc),.ab (v.2.map It.enc)]) (fun v=>v.1.length<=1000000/\v.2.length<=1000000) (fun v=> .bool (ly v.1 v.2)))
theorem Y23u_ok:ag Tryz.prog Mc:=U3.bN Tryz.func24 (by kernel_rfl) (by kernel_rfl) fun v h=>Mb v.1 v.2 (Nat.le_trans h.1 (by decide)) (Nat.le_trans h.2 (by decide))
@[go_sem] theorem Y23u_old{g:FuncId}{xs:List A}(h:g≠24):Mc.f g xs=S0.f g xs:=an.ak h
theorem Ba(v:List It×List It)(h:v.1.length<=1000000/\v.2.length<=1000000):Mc.f 24 [.ab (v.1.map It.enc),.ab (v.2.map It.enc)]=some (.bool (ly v.1 v.2)):=an.ao (Γ:=S0) (fun i j h=>by simpa[Prod.ext_iff,and_assoc]using h) v h
def HO:an:=Mc.add 68 (entry (fun(v:List ax×List ax)=>[.ab (v.1.map ax.enc),.ab (v.2.map ax.enc)]) (fun v=>v.1.length<=1000000/\v.2.length<=1000000) (fun v=> .bool (km v.1 v.2)))
theorem U9:ag Tryz.prog HO:=Y23u_ok.bN Tryz.func68 (by kernel_rfl) (by kernel_rfl) fun v h=>KN v.1 v.2 (Nat.le_trans h.1 (by decide)) (Nat.le_trans h.2 (by decide))
@[go_sem] theorem Y23v_old{g:FuncId}{xs:List A}(h:g≠68):HO.f g xs=Mc.f g xs:=an.ak h
@[go_sem] theorem Y23v_s:HO.pl Mc:=⟨fun _=>rfl,fun _=>rfl,rfl,fun _=>rfl,rfl,fun _=>rfl,rfl⟩
theorem Bb(v:List ax×List ax)(h:v.1.length<=1000000/\v.2.length<=1000000):HO.f 68 [.ab (v.1.map ax.enc),.ab (v.2.map ax.enc)]=some (.bool (km v.1 v.2)):=an.ao (Γ:=Mc) (fun i j h=>by simpa[Prod.ext_iff,and_assoc]using h) v h
theorem P1{a b:List It}(h:a.length<=1000000/\b.length<=1000000):Mc.f 24 [.ab (a.map It.enc),.ab (b.map It.enc)]=some (.bool (ly a b)):=Ba (a,b) h
theorem y_rSameR{a b:List ax}(h:a.length<=1000000/\b.length<=1000000):HO.f 68 [.ab (a.map ax.enc),.ab (b.map ax.enc)]=some (.bool (km a b)):=Bb (a,b) h
def zU(s t:aI):Bool:=s.id==t.id&&(s.ct==t.ct&&(km s.fl t.fl&&(ly s.az t.az&&cZ s.kn t.kn)))
theorem Xm{s t:aI}:zU s t=true ↔ s=t:=by
 obtain⟨a,b,c,d,e⟩:=s;obtain⟨a',b',c',d',e'⟩:=t;simp[zU,km,ly,cZ]
 intro _;constructor
 · rintro⟨h2,h3,h4,h5⟩;exact⟨h3,h4,h5,h2⟩
 · rintro⟨h3,h4,h5,h2⟩;exact⟨h2,h3,h4,h5⟩
theorem HP:ah Tryz.prog HO Tryz.f18.ntmps (Tryz.f18.body.getD .skip)=true:=by kernel_rfl
theorem Md(s t:aI)(h:(s.fl.length<=1000000/\t.fl.length<=1000000)/\(s.az.length<=1000000/\t.az.length<=1000000)/\cV s.kn/\cV t.kn):ay Tryz.prog 18 [s.enc,t.enc] (· = .bool (zU s t)):=by
 refine aa U9 mixed Tryz.func18 rfl (Nat.le_of_ble_eq_true rfl) HP ?_;unfold Tryz.f18;obtain⟨h1,h2,h3,h4⟩:=h;have g1:=y_rSameR (a:=s.fl) (b:=t.fl) h1;have g2:=P1 (a:=s.az) (b:=t.az) h2;have g3:=Ls h3 h4;unfold zU;simp only[aI.enc,aI.cells]
 generalize km s.fl t.fl=b3 at*;generalize ly s.az t.az=b4 at*;generalize cZ s.kn t.kn=b5 at*;cases b1:s.id==t.id with
 |false=>simp-implicitDefEqProofs (disch:=(first|omega|decide)) only[go_sem,↓reduceIte,seval,b1]
 |true=>
  cases b2:s.ct==t.ct with
  |false=>simp-implicitDefEqProofs (disch:=(first|omega|decide)) only[go_sem,↓reduceIte,seval,b1,b2]
  |true=>
   cases b3 with
   |false=>simp-implicitDefEqProofs (disch:=(first|omega|decide)) only[go_sem,↓reduceIte,seval,b1,b2,g1]
   |true=>
    cases b4 with
    |false=>simp-implicitDefEqProofs (disch:=(first|omega|decide)) only[go_sem,↓reduceIte,seval,b1,b2,g1,g2]
    |true=>simp-implicitDefEqProofs (disch:=(first|omega|decide)) only[go_sem,↓reduceIte,seval,b1,b2,g1,g2,g3]
def iK(s:aI)(k:List Pc):List Pc:=aT (bj k s.fl)
def U_(s:aI)(l:List It)(k:List Pc):Bool:=(iJ s.fl l).any fun x=> !bG s.kn x.key x.rep x.bu&& !bG (iK s k) x.key x.rep x.bu
def eI(s:aI)(l:List It)(k:List Pc):Int:=
 if aU s=false then 41 else if(ch l&&aR k)=false then 2 else if U_ s l k=true then 2 else if s.ct<dg (iK s k) s.id then 2
 else if c_ (aC (s.az++iJ s.fl l))=false then 2 else if 4096<(aC (s.az++iJ s.fl l)).length then 32 else 0
def pD(s:aI)(l:List It)(k:List Pc):aI:=if eI s l k=0 then PF s (iJ s.fl l) (iK s k)else cm
def iV(s:aI)(l:List It)(k:List Pc):A:= .cD [(pD s l k).enc,.int .i64 (eI s l k)]
structure S5(s:aI)(l:List It)(k:List Pc):Prop where
 hs:il s
 hl:l.length<=100000/\mM l
 hi:s.az.length<=100000
 hk:iI k/\k.length<=500
 ho:iI (iK s k)/\(iK s k).length<=500
 ha:cV (s.kn++iK s k)
def Me:an:=HO.add 82 (entry (fun(v:List It×List ax)=>[.ab (v.1.map It.enc),.ab (v.2.map ax.enc)]) (fun v=>(v.1.length<=1000000/\mM v.1)/\v.2.length<=100000/\dB v.2) (fun v=> .ab ((iJ v.2 v.1).map It.enc)))
theorem Va:ag Tryz.prog Me:=U9.bN Tryz.func82 (by kernel_rfl) (by kernel_rfl) fun v h=>W9 v.1 v.2 h.1.1 h.2 h.1.2
@[go_sem] theorem Y23w_old{g:FuncId}{xs:List A}(h:g≠82):Me.f g xs=HO.f g xs:=an.ak h
@[go_sem] theorem Y23w_s:Me.pl HO:=⟨fun _=>rfl,fun _=>rfl,rfl,fun _=>rfl,rfl,fun _=>rfl,rfl⟩
theorem Mf(v:List It×List ax)(h:(v.1.length<=1000000/\mM v.1)/\v.2.length<=100000/\dB v.2):Me.f 82 [.ab (v.1.map It.enc),.ab (v.2.map ax.enc)]=some (.ab ((iJ v.2 v.1).map It.enc)):=an.ao (Γ:=HO) (fun i j h=>by simpa[Prod.ext_iff,and_assoc]using h) v h
def S6:an:=Me.add 30 (entry (fun(v:List It×List ax)=>[.ab (v.1.map It.enc),.ab (v.2.map ax.enc)]) (fun v=>(v.1.length<=1000000/\mM v.1)/\v.2.length<=100000/\dB v.2) (fun v=> .ab ((iJ v.2 v.1).map It.enc)))
theorem Y23x_ok:ag Tryz.prog S6:=Va.bN Tryz.func30 (by kernel_rfl) (by kernel_rfl) fun v h=>SL v.1 v.2 h.1.1 h.2 h.1.2
@[go_sem] theorem Y23x_old{g:FuncId}{xs:List A}(h:g≠30):S6.f g xs=Me.f g xs:=an.ak h
theorem HQ(v:List It×List ax)(h:(v.1.length<=1000000/\mM v.1)/\v.2.length<=100000/\dB v.2):S6.f 30 [.ab (v.1.map It.enc),.ab (v.2.map ax.enc)]=some (.ab ((iJ v.2 v.1).map It.enc)):=an.ao (Γ:=Me) (fun i j h=>by simpa[Prod.ext_iff,and_assoc]using h) v h
def S7:an:=S6.add 29 (entry (fun(l:List It)=>[.ab (l.map It.enc)]) (fun l=>l.length<=1000000/\mM l) (fun l=> .ab ((aC l).map It.enc)))
theorem Y23y_ok:ag Tryz.prog S7:=Y23x_ok.bN Tryz.func29 (by kernel_rfl) (by kernel_rfl) fun l h=>HG l h.1 h.2
@[go_sem] theorem Y23y_old{g:FuncId}{xs:List A}(h:g≠29):S7.f g xs=S6.f g xs:=an.ak h
theorem yK(l:List It)(h:l.length<=1000000/\mM l):S7.f 29 [.ab (l.map It.enc)]=some (.ab ((aC l).map It.enc)):=an.ao (Γ:=S6) (fun i j h=>by simpa[Prod.ext_iff,and_assoc]using h) l h
theorem y_In{l:List It}{F:List ax}(h:(l.length<=1000000/\mM l)/\F.length<=100000/\dB F):Me.f 82 [.ab (l.map It.enc),.ab (F.map ax.enc)]=some (.ab ((iJ F l).map It.enc)):=Mf (l,F) h
theorem y_rIn{l:List It}{F:List ax}(h:(l.length<=1000000/\mM l)/\F.length<=100000/\dB F):S6.f 30 [.ab (l.map It.enc),.ab (F.map ax.enc)]=some (.ab ((iJ F l).map It.enc)):=HQ (l,F) h
theorem P2{l:List It}(h:l.length<=1000000/\mM l):S7.f 29 [.ab (l.map It.enc)]=some (.ab ((aC l).map It.enc)):=yK l h
theorem Je{s:aI}{l:List It}{k:List Pc}{e:Int}(he:e≠0)(hc:eI s l k=e):A.cD [.agg [.int .i64 0,.ab [],.ab [],.ab [],.int .i64 0],.int .i64 e]=iV s l k:=by unfold iV pD;rw[hc,if_neg he];rfl
theorem Jf{s:aI}{l:List It}{k:List Pc}(hc:eI s l k=0):A.cD [.agg [.int .i64 s.id,.ab (s.fl.map ax.enc),.ab ((aC (s.az++iJ s.fl l)).map It.enc),.ab ((aT (cL (s.kn++iK s k))).map Pc.enc),.int .i64 s.ct],.int .i64 0]=iV s l k:=by unfold iV pD;rw[hc,if_pos rfl];rfl
theorem HR:ah Tryz.prog Me Tryz.f32.ntmps (Tryz.f32.body.getD .skip)=true:=by kernel_rfl
theorem Mg(s:aI)(l:List It)(k:List Pc)(h:S5 s l k):ay Tryz.prog 32 [s.enc,.ab (l.map It.enc),.ab (k.map Pc.enc)] (· =iV s l k):=by
 refine aa Va mixed Tryz.func32 rfl (Nat.le_of_ble_eq_true rfl) HR ?_;unfold Tryz.f32;obtain⟨hs,⟨Zi,hl2⟩,hi,⟨lC,VP⟩,⟨ho1,Vz⟩,iO⟩:=h;have XG:=hs.fl;have hln:=sC s.fl l;have u6:mM (iJ s.fl l):=fun x hx=>hl2 x (List.mem_filter.1 hx).1;have rX:=iq (s.az++iJ s.fl l)
 rw[List.length_append]at rX;have g0:=fz s hs;have g1:=y_List (l:=l) ⟨by omega,hl2⟩
 have g2:=Lc lC.1;have g3:=y_In (l:=l) (F:=s.fl) ⟨⟨by omega,hl2⟩,by omega,XG.2⟩
 have g4:=ux (k:=k) (l:=s.fl) lC.1 (by omega) XG.2;rw[EE,show aT (bj k s.fl)=iK s k from rfl]at g4;have g5: ∀(x:List UInt8) (n c:Int),x.length<=9223372036854775807->AS.f 71 [.ab (s.kn.map Pc.enc),.str x,.agg [.int .i64 n,.int .i64 c]]=some (.bool (bG s.kn x n c)):=fun x n c hx=>Pn hs.kn.1.1 hx;have g6: ∀(x:List UInt8) (n c:Int),x.length<=9223372036854775807->AS.f 71 [.ab ((iK s k).map Pc.enc),.str x,.agg [.int .i64 n,.int .i64 c]]=some (.bool (bG (iK s k) x n c)):=fun x n c hx=>Pn ho1.1 hx;have g7:=y_most (id:=s.id) ho1;have g8:=PR (a:=s.az) (b:=iJ s.fl l) (by omega) hs.az.2 u6;have g9:=UP (l:=aC (s.az++iJ s.fl l)) ⟨by omega,fun x hx=>(cy hx).2⟩
 have g10:=Uy iO;have g11:=UR (l:=s.fl) (by omega)
 have hC:eI s l k=if aU s=false then 41 else if(ch l&&aR k)=false then 2 else if((iJ s.fl l).any fun x=> !bG s.kn x.key x.rep x.bu&& !bG (iK s k) x.key x.rep x.bu)=true then 2 else if s.ct<dg (iK s k) s.id then 2
  else if c_ (aC (s.az++iJ s.fl l))=false then 2 else if 4096<(aC (s.az++iJ s.fl l)).length then 32 else 0:=rfl
 have fail: ∀e:Int,e≠0->eI s l k=e->A.cD [.agg [.int .i64 0,.ab [],.ab [],.ab [],.int .i64 0],.int .i64 e]=iV s l k:=fun e he hc=>Je he hc;have sX:=Jf (s:=s) (l:=l) (k:=k)
 generalize iV s l k=Z at*;generalize eI s l k=C at*;generalize hLL:iJ s.fl l=L at*;generalize iK s k=O at*;generalize aT (cL (s.kn++O))=J at*;generalize dg O s.id=m at*;generalize c_ (aC (s.az++L))=ap at*;generalize aC (s.az++L)=M at*;generalize aU s=b0 at*;generalize ch l=b1 at*;generalize aR k=b2 at*;have stM:(M.map It.enc).take M.length=M.map It.enc:=List.take_of_length_le (by simp)
 obtain⟨id,F,I,K,ct⟩:=s;simp only[aI.enc,aI.cells]at*;cases b0 with
 |false=>
  have fl:=fail 41 (by decide) (by rw[hC];rfl)
  simp-implicitDefEqProofs (disch:=(first|omega|decide)) only[go_sem,↓reduceIte,seval,g0,fl]
 |true=>
  cases b1 with
  |false=>
   have fl:=fail 2 (by decide) (by rw[hC];rfl)
   simp-implicitDefEqProofs (disch:=(first|omega|decide)) only[go_sem,↓reduceIte,seval,g0,g1,fl]
  |true=>
   cases b2 with
   |false=>
    have fl:=fail 2 (by decide) (by rw[hC];rfl)
    simp-implicitDefEqProofs (disch:=(first|omega|decide)) only[go_sem,↓reduceIte,seval,g0,g1,g2,fl]
   |true=>
    simp only[Bool.true_eq_false,if_false,Bool.and_self]at hC;simp-implicitDefEqProofs (maxSteps:=600000) (disch:=(first|omega|decide)) only[go_sem,↓reduceIte,seval,g0,g1,g2,g3,g4,List.length_map]
    refine ar [1,2,3,6,7,34,35] (ι:={i:Nat//i<=L.length/\(L.any fun x=> !bG K x.key x.rep x.bu&& !bG O x.key x.rep x.bu)=((L.drop i).any fun x=> !bG K x.key x.rep x.bu&& !bG O x.key x.rep x.bu)}) (fun p=>[(36,.int .i64 p.1)]) (fun _=>[]) (fun p=>L.length-p.1) ⟨0,by omega,rfl⟩ (Nat.zero_le _) ?_ ?_
    · simp-implicitDefEqProofs (disch:=(first|omega|decide)) only[go_sem,↓reduceIte,seval]
      try rfl
    · rintro⟨i,hi,hd⟩
      simp only;by_cases aw:i<L.length
      · have ae:(i:Int)<(L.length:Int):=by omega
        have ei:=cN aw;have sS:=u6 _ (List.getElem_mem aw)
        rw[List.drop_eq_getElem_cons aw,List.any_cons]at hd;generalize L[i]=x at*;have g5:=g5 x.key x.rep x.bu sS.1;have g6:=g6 x.key x.rep x.bu sS.1;cases k1:bG K x.key x.rep x.bu with
        |true=>
         rw[k1]at g5 hd;rw[Bool.not_true,Bool.false_and,Bool.false_or]at hd;simp-implicitDefEqProofs (disch:=(first|omega|decide)) only[go_sem,↓reduceIte,seval,ae,ei,g5,wrap_i64,List.length_map]
         exact⟨⟨i+1,aw,hd⟩,by simp,by show L.length-(i+1)<L.length-i;omega⟩
        |false=>
         rw[k1]at g5 hd;cases k2:bG O x.key x.rep x.bu with
         |true=>
          rw[k2]at g6 hd;rw[Bool.not_true,Bool.and_false,Bool.false_or]at hd;simp-implicitDefEqProofs (disch:=(first|omega|decide)) only[go_sem,↓reduceIte,seval,ae,ei,g5,g6,wrap_i64,List.length_map]
          exact⟨⟨i+1,aw,hd⟩,by simp,by show L.length-(i+1)<L.length-i;omega⟩
         |false=>
          rw[k2]at g6 hd;have fl:=fail 2 (by decide) (by rw[hC,hd];rfl)
          simp-implicitDefEqProofs (disch:=(first|omega|decide)) only[go_sem,↓reduceIte,seval,ae,ei,g5,g6,fl,List.length_map]
      · have ae: ¬(i:Int)<(L.length:Int):=by omega
        rw[List.drop_of_length_le (by omega),List.any_nil]at hd;rw[hd]at hC;simp only[Bool.false_eq_true,if_false]at hC;by_cases d1:ct<m
        · have fl:=fail 2 (by decide) (by rw[hC,if_pos d1])
          simp-implicitDefEqProofs (disch:=(first|omega|decide)) only[go_sem,↓reduceIte,seval,ae,g7,d1,fl,List.length_map]
        · rw[if_neg d1]at hC
          cases ap with
          |false=>
           have fl:=fail 2 (by decide) (by rw[hC];rfl)
           simp-implicitDefEqProofs (disch:=(first|omega|decide)) only[go_sem,↓reduceIte,seval,ae,g7,g8,g9,d1,fl,List.length_map]
          |true=>
           simp only[Bool.true_eq_false,if_false]at hC;by_cases d2:4096<M.length
           · have d2':(4096:Int)<(M.length:Int):=by omega
             have fl:=fail 32 (by decide) (by rw[hC,if_pos d2])
             simp-implicitDefEqProofs (disch:=(first|omega|decide)) only[go_sem,↓reduceIte,seval,ae,g7,g8,g9,d1,d2',fl,List.length_map]
           · have d2': ¬(4096:Int)<(M.length:Int):=by omega
             have sX:=sX (by rw[hC,if_neg d2])
             simp-implicitDefEqProofs (maxSteps:=600000) (disch:=(first|omega|decide)) only[go_sem,↓reduceIte,seval,ae,g7,g8,g9,g10,g11,d1,d2',sX,List.length_map]
def TKa:an:=S7.add 80 (entry (fun(v:List Pc×Int)=>[.ab (v.1.map Pc.enc),.int .i64 v.2]) (fun v=>iI v.1) (fun v=> .int .i64 (dg v.1 v.2)))
theorem TKa_ok:ag Tryz.prog TKa:=Y23y_ok.bN Tryz.func80 (by kernel_rfl) (by kernel_rfl) fun v h=>wu v.1 v.2 h
@[go_sem] theorem TKa_old{g:FuncId}{xs:List A}(h:g≠80):TKa.f g xs=S7.f g xs:=an.ak h
theorem Fz(v:List Pc×Int)(h:iI v.1):TKa.f 80 [.ab (v.1.map Pc.enc),.int .i64 v.2]=some (.int .i64 (dg v.1 v.2)):=an.ao (Γ:=S7) (fun i j h=>by simpa[Prod.ext_iff,and_assoc]using h) v h
def TKb:an:=TKa.add 81 (entry (fun(l:List It)=>[.ab (l.map It.enc)]) (fun l=>l.length<=1000000) (fun l=> .bool (c_ l)))
theorem S8:ag Tryz.prog TKb:=TKa_ok.bN Tryz.func81 (by kernel_rfl) (by kernel_rfl) fun l h=>tu l h
@[go_sem] theorem TKb_old{g:FuncId}{xs:List A}(h:g≠81):TKb.f g xs=TKa.f g xs:=an.ak h
theorem Bc(l:List It)(h:l.length<=1000000):TKb.f 81 [.ab (l.map It.enc)]=some (.bool (c_ l)):=an.ao (Γ:=TKa) (fun i j h=>by simpa[Prod.ext_iff,and_assoc]using h) l h
theorem k_rMost{k:List Pc}{id:Int}(h:iI k):TKa.f 80 [.ab (k.map Pc.enc),.int .i64 id]=some (.int .i64 (dg k id)):=Fz (k,id) h
theorem k_rApart{l:List It}(h:l.length<=1000000):TKb.f 81 [.ab (l.map It.enc)]=some (.bool (c_ l)):=Bc l h
def TKm:an:={TKb with mH:=fun f=>f==29,pZ:=fun f=>f==29}
theorem TKm_ok:ag Tryz.prog TKm:=⟨S8.f,S8.hp⟩
@[go_sem] theorem TKm_f:TKm.f=TKb.f:=rfl
@[go_sem] theorem TKm_eff{g:FuncId}:TKm.mH g=(g==29):=rfl
@[go_sem] theorem TKm_frz{g:FuncId}:TKm.pZ g=(g==29):=rfl
@[go_sem] theorem TKm_fix{n:Nat}:TKm.fix n=false:=rfl
@[go_sem] theorem TKm_ords{n:Nat}:TKm.c6 n=[]:=rfl
theorem stIt(l:List It):((l.map It.enc).isEmpty||cd (l.map It.enc)==7)=true:=by cases l<;>rfl
theorem HS:ah Tryz.prog TKm Tryz.f50.ntmps (Tryz.f50.body.getD .skip)=true:=by kernel_rfl
theorem Mh(s:aI)(l:List It)(k:List Pc)(h:S5 s l k):ay Tryz.prog 50 [s.enc,.ab (l.map It.enc),.ab (k.map Pc.enc)] (· =iV s l k):=by
 refine aa TKm_ok mixed Tryz.func50 rfl (Nat.le_of_ble_eq_true rfl) HS ?_;unfold Tryz.f50;obtain⟨hs,⟨Zi,hl2⟩,hi,⟨lC,VP⟩,⟨ho1,Vz⟩,iO⟩:=h;have XG:=hs.fl;have hln:=sC s.fl l;have u6:mM (iJ s.fl l):=fun x hx=>hl2 x (List.mem_filter.1 hx).1;have rX:=iq (s.az++iJ s.fl l)
 rw[List.length_append]at rX;have g0:=bx s hs;have g1:=pz l ⟨by omega,hl2⟩
 have g2:=Pt lC.1;have g3:=y_rIn (l:=l) (F:=s.fl) ⟨⟨by omega,hl2⟩,by omega,XG.2⟩
 have g4:=uz (a:=k) (l:=s.fl) lC XG.2 ⟨VP,by omega⟩
 rw[show aT (bj k s.fl)=iK s k from rfl]at g4;have g5: ∀(x:List UInt8) (n c:Int),x.length<=9223372036854775807->AT.f 74 [.ab (s.kn.map Pc.enc),.str x,.agg [.int .i64 n,.int .i64 c]]=some (.bool (bG s.kn x n c)):=fun x n c hx=>EC hs.kn.1.1 hx;have g6: ∀(x:List UInt8) (n c:Int),x.length<=9223372036854775807->AT.f 74 [.ab ((iK s k).map Pc.enc),.str x,.agg [.int .i64 n,.int .i64 c]]=some (.bool (bG (iK s k) x n c)):=fun x n c hx=>EC ho1.1 hx;have g7:=k_rMost (id:=s.id) ho1
 have g8:=P2 (l:=s.az++iJ s.fl l) ⟨by rw[List.length_append];omega,fun x hx=>by
  rcases List.mem_append.1 hx with hx|hx
  · exact hs.az.2 x hx
  · exact u6 x hx⟩
 rw[List.map_append]at g8;have g9:=k_rApart (l:=aC (s.az++iJ s.fl l)) (by omega)
 have g10:=q_Join (a:=s.kn) (b:=iK s k) hs.kn.1 ho1 ⟨hs.kn.2,Vz⟩
 have hC:eI s l k=if aU s=false then 41 else if(ch l&&aR k)=false then 2 else if((iJ s.fl l).any fun x=> !bG s.kn x.key x.rep x.bu&& !bG (iK s k) x.key x.rep x.bu)=true then 2 else if s.ct<dg (iK s k) s.id then 2
  else if c_ (aC (s.az++iJ s.fl l))=false then 2 else if 4096<(aC (s.az++iJ s.fl l)).length then 32 else 0:=rfl
 have fail: ∀e:Int,e≠0->eI s l k=e->A.cD [.agg [.int .i64 0,.ab [],.ab [],.ab [],.int .i64 0],.int .i64 e]=iV s l k:=fun e he hc=>Je he hc;have sX:=Jf (s:=s) (l:=l) (k:=k)
 have hi2:=hs.az.1;generalize iV s l k=Z at*;generalize eI s l k=C at*;generalize hLL:iJ s.fl l=L at*;generalize iK s k=O at*;generalize aT (cL (s.kn++O))=J at*;generalize dg O s.id=m at*;generalize c_ (aC (s.az++L))=ap at*;generalize aC (s.az++L)=M at*;generalize aU s=b0 at*;generalize ch l=b1 at*;generalize aR k=b2 at*;obtain⟨id,F,I,K,ct⟩:=s;simp only[aI.enc,aI.cells]at*;have stI:=stIt I;have stL:=stIt L;have tk1:(I.map It.enc).take I.length=I.map It.enc:=List.take_of_length_le (by simp)
 have tk2:(I.map It.enc++L.map It.enc).take (I.length+L.length)=I.map It.enc++L.map It.enc:=List.take_of_length_le (by simp)
 cases b0 with
 |false=>
  have fl:=fail 41 (by decide) (by rw[hC];rfl)
  simp-implicitDefEqProofs (disch:=(first|omega|decide)) only[go_sem,↓reduceIte,seval,g0,fl]
 |true=>
  cases b1 with
  |false=>
   have fl:=fail 2 (by decide) (by rw[hC];rfl)
   simp-implicitDefEqProofs (disch:=(first|omega|decide)) only[go_sem,↓reduceIte,seval,g0,g1,fl]
  |true=>
   cases b2 with
   |false=>
    have fl:=fail 2 (by decide) (by rw[hC];rfl)
    simp-implicitDefEqProofs (disch:=(first|omega|decide)) only[go_sem,↓reduceIte,seval,g0,g1,g2,fl]
   |true=>
    simp only[Bool.true_eq_false,if_false,Bool.and_self]at hC;simp-implicitDefEqProofs (maxSteps:=600000) (disch:=(first|omega|decide)) only[go_sem,↓reduceIte,seval,g0,g1,g2,g3,g4,List.length_map]
    refine ar [3,6,7,8,9] (ι:={i:Nat//i<=L.length/\(L.any fun x=> !bG K x.key x.rep x.bu&& !bG O x.key x.rep x.bu)=((L.drop i).any fun x=> !bG K x.key x.rep x.bu&& !bG O x.key x.rep x.bu)}) (fun p=>[(10,.int .i64 p.1)]) (fun _=>[]) (fun p=>L.length-p.1) ⟨0,by omega,rfl⟩ (Nat.zero_le _) ?_ ?_
    · simp-implicitDefEqProofs (disch:=(first|omega|decide)) only[go_sem,↓reduceIte,seval]
      try rfl
    · rintro⟨i,hi,hd⟩
      simp only;by_cases aw:i<L.length
      · have ae:(i:Int)<(L.length:Int):=by omega
        have p1:(0:Int)<=(i:Int):=by omega
        have t1:((i:Nat):Int).toNat=i:=Int.toNat_natCast _;have ei:=cN aw;have sS:=u6 _ (List.getElem_mem aw)
        rw[List.drop_eq_getElem_cons aw,List.any_cons]at hd;generalize L[i]=x at*;have g5:=g5 x.key x.rep x.bu sS.1;have g6:=g6 x.key x.rep x.bu sS.1;cases k1:bG K x.key x.rep x.bu with
        |true=>
         rw[k1]at g5 hd;rw[Bool.not_true,Bool.false_and,Bool.false_or]at hd;simp-implicitDefEqProofs (maxSteps:=600000) (disch:=(first|omega|decide)) only[go_sem,↓reduceIte,seval,ae,p1,t1,ei,g5,wrap_i64,List.length_map]
         exact⟨⟨i+1,aw,hd⟩,by simp,by show L.length-(i+1)<L.length-i;omega⟩
        |false=>
         rw[k1]at g5 hd;cases k2:bG O x.key x.rep x.bu with
         |true=>
          rw[k2]at g6 hd;rw[Bool.not_true,Bool.and_false,Bool.false_or]at hd;simp-implicitDefEqProofs (maxSteps:=600000) (disch:=(first|omega|decide)) only[go_sem,↓reduceIte,seval,ae,p1,t1,ei,g5,g6,wrap_i64,List.length_map]
          exact⟨⟨i+1,aw,hd⟩,by simp,by show L.length-(i+1)<L.length-i;omega⟩
         |false=>
          rw[k2]at g6 hd;have fl:=fail 2 (by decide) (by rw[hC,hd];rfl)
          simp-implicitDefEqProofs (maxSteps:=600000) (disch:=(first|omega|decide)) only[go_sem,↓reduceIte,seval,ae,p1,t1,ei,g5,g6,fl,List.length_map]
      · have ae: ¬(i:Int)<(L.length:Int):=by omega
        rw[List.drop_of_length_le (by omega),List.any_nil]at hd;rw[hd]at hC;simp only[Bool.false_eq_true,if_false]at hC;by_cases d1:ct<m
        · have fl:=fail 2 (by decide) (by rw[hC,if_pos d1])
          simp-implicitDefEqProofs (disch:=(first|omega|decide)) only[go_sem,↓reduceIte,seval,ae,g7,d1,fl,List.length_map]
        · rw[if_neg d1]at hC
          cases ap with
          |false=>
           have fl:=fail 2 (by decide) (by rw[hC];rfl)
           simp-implicitDefEqProofs (maxSteps:=600000) (disch:=(first|omega|decide)) only[go_sem,↓reduceIte,seval,ae,g7,g8,g9,d1,fl,stI,stL,tk1,tk2,List.length_map]
           all_goals exact⟨by omega,by simp;omega⟩
          |true=>
           simp only[Bool.true_eq_false,if_false]at hC;by_cases d2:4096<M.length
           · have d2':(4096:Int)<(M.length:Int):=by omega
             have fl:=fail 32 (by decide) (by rw[hC,if_pos d2])
             simp-implicitDefEqProofs (maxSteps:=600000) (disch:=(first|omega|decide)) only[go_sem,↓reduceIte,seval,ae,g7,g8,g9,d1,d2',fl,stI,stL,tk1,tk2,List.length_map]
             all_goals exact⟨by omega,by simp;omega⟩
           · have d2': ¬(4096:Int)<(M.length:Int):=by omega
             have sX:=sX (by rw[hC,if_neg d2])
             simp-implicitDefEqProofs (maxSteps:=600000) (disch:=(first|omega|decide)) only[go_sem,↓reduceIte,seval,ae,g7,g8,g9,g10,d1,d2',sX,stI,stL,tk1,tk2,List.length_map]
             all_goals exact⟨by omega,by simp;omega⟩
theorem bt_neg{x y z:It}(h:bt x y=false)(h':bt y z=false):bt x z=false:=by
 cases g:bt x z with
 |false=>rfl
 |true=>
  have e: ∀a b:It,bt a b=false ↔¬(b.bk<a.bk\/(a.bk=b.bk/\(b.rep<a.rep\/(b.rep=a.rep/\b.bu<a.bu)))):=fun a b=>by
   rw[<-Bool.not_eq_true]
   simp only[bt,Bool.or_eq_true,Bool.and_eq_true,decide_eq_true_eq,fm]
  have g': ¬bt x z=false:=by rw[g];simp
  rw[e]at h h' g';omega
theorem Xn{a b:List It}{p:It->Bool}(h: ∀x∈b,p x=false-> ∃y∈a,bt x y=false):eA bt (a++b.filter p)=eA bt (a++b):=by
 cases a with
 |nil=>
  have:b.filter p=b:=List.filter_eq_self.2 fun x hx=>by
   cases e:p x with
   |true=>rfl
   |false=>obtain⟨y,hy,_⟩:=h x hx e;cases hy
  rw[this]
 |cons y0 a=>
  have key: ∀(b:List It) (c:It),(∀x∈b,p x=false-> ∃y∈y0::a,bt x y=false)->(∀y∈y0::a,bt y c=false)->(b.filter p).foldl (better bt) c=b.foldl (better bt) c:=fun b=>by
   induction b with
   |nil=>intro c _ _;rfl
   |cons x b ih=>
    intro c hb hc;cases e:p x with
    |true=>
     rw[List.filter_cons_of_pos e,List.foldl_cons,List.foldl_cons]
     refine ih _ (fun x hx=>hb x (List.mem_cons_of_mem _ hx)) fun y hy=> ?_;unfold better;split
     · rename_i hx
       cases g:bt y x with
       |false=>rfl
       |true=>have:=bt_tr g hx;rw[hc y hy]at this;cases this
     · exact hc y hy
    |false=>
     rw[List.filter_cons_of_neg (by rw[e];simp),List.foldl_cons]
     obtain⟨y,hy,h1⟩:=hb x (by simp) e;have:better bt c x=c:=by unfold better;rw[bt_neg h1 (hc y hy)];rfl
     rw[this]
     exact ih c (fun x hx=>hb x (List.mem_cons_of_mem _ hx)) hc
  have hmax:=PG (l:=y0::a) rfl;show some (List.foldl (better bt) y0 (a++b.filter p))=some (List.foldl (better bt) y0 (a++b))
  congr 1
  rw[List.foldl_append,List.foldl_append]
  exact key b _ h hmax
theorem yL{l m:List It}(h: ∀k:List UInt8,eA bt ((l.filter aH).filter fun x=>k==x.key)=eA bt ((m.filter aH).filter fun x=>k==x.key)):aC l=aC m:=by obtain⟨h1,h2⟩:=eW l;refine EO iF h1 fun z=> ?_;have:eqv cx z=fun x=>z.key==x.key:=funext fun x=>eqvI;rw[h2 z,h z.key,this]
theorem S9{a b:List It}{p:It->Bool}(h: ∀x∈b,aH x=true->p x=false-> ∃y∈a,aH y=true/\y.key=x.key/\bt x y=false):aC (a++b.filter p)=aC (a++b):=by
 refine yL fun k=> ?_;simp only[List.filter_append]
 have e:((b.filter p).filter aH).filter (fun x=>k==x.key)=(((b.filter aH).filter fun x=>k==x.key)).filter p:=by
  simp only[List.filter_filter]
  congr 1
  funext x
  cases p x<;>cases aH x<;>cases(k==x.key)<;>rfl
 rw[e]
 refine Xn fun x hx hp=> ?_;obtain⟨hx1,hx2⟩:=List.mem_filter.1 hx;obtain⟨hx3,hx4⟩:=List.mem_filter.1 hx1;obtain⟨y,hy,h1,h2,h3⟩:=h x hx3 hx4 hp;refine⟨y,List.mem_filter.2 ⟨List.mem_filter.2 ⟨hy,h1⟩, ?_⟩,h3⟩
 rw[h2];exact hx2
theorem uG{l:List It}(h1: ∀x∈l,aH x=true)(h2:l.Pairwise fun x y=>aV x.key y.key=true):aC l=l:=by
 refine(EO iF h2 fun z=> ?_).symm;have e:eqv cx z=fun x=>z.key==x.key:=funext fun x=>eqvI;rw[e,List.filter_eq_self.2 h1]
 have one: ∀(l:List It) (z:It),l.Pairwise (fun x y=>aV x.key y.key=true)->z∈l->l.filter (fun x=>z.key==x.key)=[z]:=fun l=>by
  induction l with
  |nil=>intro z _ hz;cases hz
  |cons y l ih=>
   intro z hp hz;obtain⟨p1,p2⟩:=List.pairwise_cons.1 hp;rcases List.mem_cons.1 hz with rfl|hz
   · rw[List.filter_cons_of_pos (by simp)]
     congr 1
     rw[List.filter_eq_nil_iff]
     intro w hw e;have:=p1 w hw;rw[show z.key=w.key by simpa using e,lt_irrefl]at this;cases this
   · rw[List.filter_cons_of_neg,ih z p2 hz]
     intro e;have:=p1 z hz;rw[show z.key=y.key by simpa using e,lt_irrefl]at this;cases this
 constructor
 · intro hz;rw[one l z h2 hz];rfl
 · intro h
   have:=kM h;exact(List.mem_filter.1 this).1
def br(s t:aI):List It:=s.az.filter fun x=>aj t.fl x.key&& !bG t.kn x.key x.rep x.bu
def bm(s t:aI):List Pc:=aT (bj s.kn t.fl)
def aS(s t:aI):aI:=PF t (br s t) (bm s t)
structure lh(s t:aI):Prop where
 A5: ∀x c,hk (setAt (bm s t) x) t.id c=true->c<=t.ct
 apart:(aC (t.az++br s t)).Pairwise fun x y=> ¬(x.rep=y.rep/\x.bu=y.bu)
 len:(aC (t.az++br s t)).length<=4096
theorem kN{s t:aI}{x:List UInt8}{n:Int}(hn:bE n=true)(c:Int):hk (setAt (bm s t) x) n c=(aj t.fl x&&hk (setAt s.kn x) n c):=by unfold bm;rw[ez (kK _ _),wi hn]
theorem fN{s t:aI}{x:It}:x∈br s t ↔ x∈s.az/\aj t.fl x.key=true/\bG t.kn x.key x.rep x.bu=false:=by
 unfold br;rw[List.mem_filter]
 simp
theorem mC{s:aI}(hs:bq s){x:It}(hx:x∈s.az):bE x.rep=true/\hk (setAt s.kn x.key) x.rep x.bu=true:=by
 obtain⟨h1,_,_⟩:=lf (hs.right x hx)
 exact⟨h1,by rw[<-dX h1];exact(hs.az x hx).2⟩
theorem uH{s t:aI}(hs:bq s)(ht:bq t)(h:lh s t):bq (aS s t):=by
 refine E_ ht (fun x hx=>(fN.1 hx).2.1) (fun x n hn c hc=> ?_) h.A5 (fun x hx=> ?_) h.apart h.len
 · rw[kN hn,Bool.and_eq_true]at hc;exact hc.1
 · obtain⟨h1,h2,_⟩:=fN.1 hx
   obtain⟨k1,k2⟩:=mC hs h1;right;rw[dX k1,kN k1,h2,k2];rfl
def effS(t:aI)(x:It):Prop:= ∃y∈t.az,y.key=x.key/\bt x y=false
def jT(t:aI)(l:List It):Prop:= ∀x∈l,aH x=true->aj t.fl x.key=true->bG t.kn x.key x.rep x.bu=true->effS t x
theorem rG{s t:aI}(ht:bq t)(h:jT t s.az):(aS s t).az=aC (t.az++s.az.filter fun x=>aj t.fl x.key):=by
 show aC (t.az++br s t)=_
 have e:br s t=(s.az.filter fun x=>aj t.fl x.key).filter fun x=> !bG t.kn x.key x.rep x.bu:=by
  unfold br;rw[List.filter_filter]
  congr 1
  funext x
  exact Bool.and_comm _ _
 rw[e]
 refine S9 fun x hx hr hp=> ?_;obtain⟨h1,h2⟩:=List.mem_filter.1 hx;obtain⟨y,hy,g1,g2⟩:=h x h1 hr h2 (by simpa using hp)
 exact⟨y,hy,ht.right y hy,g1,g2⟩
theorem BP{s t:aI}{x:List UInt8}{n:Int}(hn:bE n=true)(c:Int):hk (setAt (aS s t).kn x) n c=(hk (setAt t.kn x) n c||(aj t.fl x&&hk (setAt s.kn x) n c)):=by show hk (setAt (aT (cL (t.kn++bm s t))) x) n c=_;rw[dA hn,kN hn]
theorem FA{s t:aI}(hs:bq s)(ht:bq t)(h:jT t s.az):jT (aS s t) s.az:=fun x hx hr hf _=>by have e:=rG ht h;obtain⟨z,h1,h2,h3⟩:=Jc (l:=t.az++s.az.filter fun x=>aj t.fl x.key) (x:=x) (List.mem_append.2 (.inr (List.mem_filter.2 ⟨hx,hf⟩))) hr;exact⟨z,by rw[e];exact h1,h2,h3⟩
theorem Xo{s t:aI}{l:List It}(hs:bq s)(ht:bq t)(h:jT t s.az)(h1:jT s l)(h2:jT t l):jT (aS s t) l:=fun x hx hr hf FY=>by
 obtain⟨k1,k2,_⟩:=lf hr;have e:=rG ht h;rw[dX k1,BP k1,Bool.or_eq_true,Bool.and_eq_true]at FY;have hf:aj t.fl x.key=true:=hf;have go: ∀y∈t.az++s.az.filter fun x=>aj t.fl x.key,aH y=true->y.key=x.key->bt x y=false->effS (aS s t) x:=fun y hy gr gk gb=>by obtain⟨z,m1,m2,m3⟩:=Jc hy gr;exact⟨z,by rw[e];exact m1,m2.trans gk,bt_neg gb m3⟩
 rcases FY with g|⟨_,g⟩
 · obtain⟨y,hy,g1,g2⟩:=h2 x hx hr hf (by rw[dX k1];exact g)
   exact go y (List.mem_append.2 (.inl hy)) (ht.right y hy) g1 g2
 · obtain⟨y,hy,g1,g2⟩:=h1 x hx hr (hs.inF _ _ k1 _ g) (by rw[dX k1];exact g)
   exact go y (List.mem_append.2 (.inr (List.mem_filter.2 ⟨hy,by rw[g1];exact hf⟩))) (hs.right y hy) g1 g2
theorem uI{s t:aI}(hs:bq s):br s (aS s t)=[]:=by
 unfold br;rw[List.filter_eq_nil_iff]
 intro x hx h;simp only[Bool.and_eq_true,Bool.not_eq_true']at h;obtain⟨k1,k2⟩:=mC hs hx;have hf:aj t.fl x.key=true:=h.1;have:=h.2;rw[dX k1,BP k1,hf,k2]at this;simp at this
theorem FB{a b:List Pc}(ha:aR a=true)(hb:aR b=true)(h: ∀x n,bE n=true-> ∀c,hk (setAt a x) n c=hk (setAt b x) n c):a=b:=by rw[<-gj ha,<-gj hb,at_ext h]
theorem S_{s t:aI}(hs:bq s)(ht:bq t)(h:lh s t):lh s (aS s t)/\aS s (aS s t)=aS s t:=by
 have hu:=uH hs ht h;have xg:=uI (s:=s) (t:=t) hs;have hm:aC ((aS s t).az++br s (aS s t))=(aS s t).az:=by rw[xg,List.append_nil];exact uG hu.right hu.up
 refine⟨⟨fun x c hc=> ?_,by rw[hm];exact hu.apart,by rw[hm];exact hu.len⟩, ?_⟩
 · have UM:bE t.id=true:=bL.2 ht.id
   refine h.A5 x c ?_;have hc:hk (setAt (bm s (aS s t)) x) t.id c=true:=hc;rw[kN UM]at hc⊢;exact hc
 · have e:(aT (cL ((aS s t).kn++bm s (aS s t))))=(aS s t).kn:=by
    refine FB (fe _) hu.kn fun x n hn c=> ?_;rw[dA hn,kN hn,BP hn]
    show(_||(aj t.fl x&&_))=_;cases hk (setAt t.kn x) n c<;>cases aj t.fl x<;>cases hk (setAt s.kn x) n c<;>rfl
   show(⟨_,_,_,_,_⟩:aI)=⟨_,_,_,_,_⟩
   congr 1
end Go.Proofs.YtihgnfmoafjakaaGreat
