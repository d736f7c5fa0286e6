/- What the laws of this claim rest on: the abstract executor, its soundness, and what the functions compute on pure data. No condition. -/
import Derived.Test.YtihgnfmoafjakaaGreatU9
noncomputable section
set_option linter.unusedVariables false
set_option linter.unusedSimpArgs false
namespace Go.Proofs.YtihgnfmoafjakaaGreat
open Go.bJ Go.wG
set_option linter.unusedSimpArgs false
set_option linter.unusedVariables false
set_option maxRecDepth 20000
set_option maxHeartbeats 8000000
abbrev UW:=List It×List It×List It
def wQ(v:UW):List It:=v.1++(v.2.1++v.2.2)
def FB(v:UW):List A:=[.row 0 0 7 (wQ v).length false,.int .i64 v.1.length,.int .i64 (v.1.length+v.2.1.length:Nat),.fn 148 []]
def insK(v:UW):Prop:=(wQ v).length<=1000000/\ ∀x∈v.2.1,x.ok
def insR(v:UW):A×List Go.bJ.Obj×List Nat:=(.cx [],gj (v.1++(bg cm v.2.1++v.2.2)),[])
def syK(v:UT):Prop:=rtK v/\jX cm v.2.1/\jX cm v.2.2.1/\(∀x∈v.2.1,x.ok)/\(∀x∈v.2.2.1,x.ok)
theorem ins_inj(i j:UW)(h:FB i=FB j)(h':gj (wQ i)=gj (wQ j)):i=j:=by
 obtain⟨P,S,T⟩:=i;obtain⟨P',S',T'⟩:=j;have e:=uQ h';simp only[FB,List.cons.injEq,A.int.injEq,true_and,and_true,Int.ofNat_inj]at h;obtain⟨_,h1,h2⟩:=h;simp only[wQ]at e;obtain⟨p1,e1⟩:=List.append_inj e h1;obtain⟨p2,p3⟩:=List.append_inj e1 (by rw[p1]at h2;omega)
 rw[p1,p2,p3]
def TIv0:aj:=Vv.eP 207 (bo FB (fun v=>gj (wQ v)) insK insR)
def TIv1:aj:=TIv0.eP 208 (bo wO (fun v=>gj (rh v)) syK Vw)
def TIv:aj:={TIv1 with l_:=fun f=>f==207||f==208}
@[go_sem] theorem TIv_eff{g:FuncId}:TIv.l_ g=(g==207||g==208):=rfl
@[go_sem] theorem TIv_frz{g:FuncId}:TIv.qU g=false:=rfl
@[go_sem] theorem TIv_ords{n:Nat}:TIv.c6 n=[]:=rfl
theorem TIv_ok:ag Tryz.prog TIv:=by
 have h1:ag Tryz.prog TIv0:=wK.eP (bn Tryz.func207 (by kernel_rfl) (by kernel_rfl)) (cL fun v h=>UN v.1 v.2.1 v.2.2 h.1 h.2)
 have h2:ag Tryz.prog TIv1:=h1.eP (bn Tryz.func208 (by kernel_rfl) (by kernel_rfl)) (cL fun v h=>Dh (v.2.1.length+v.2.2.1.length+1) v ⟨h.1,h.2.1,h.2.2.1,h.2.2.2.1,h.2.2.2.2,by omega⟩)
 exact⟨h2.f,h2.hp⟩
theorem YQ{N a b:Nat}{P S T R0 R1:List It}(e0:P++(S++T)=R0)(e1:P++(bg cm S++T)=R1)(hN:R0.length=N)(hl:N<=1000000)(ha:P.length=a)(hb:a+S.length=b)(kS: ∀x∈S,x.ok):TIv.hp 207 [.row 0 0 7 N false,.int .i64 (a:Int),.int .i64 (b:Int),.fn 148 []] [.row 7 (R0.map It.enc)]=some (.cx [],[.row 7 (R1.map It.enc)],[]):=by subst e0 e1 hN ha hb;have UM:TIv1.hp 207 (FB (P,S,T)) (gj (wQ (P,S,T)))=bo FB (fun v=>gj (wQ v)) insK insR (FB (P,S,T)) (gj (wQ (P,S,T))):=(aj.qC (by decide)).trans aj.dZ;have h0:TIv.hp 207 (FB (P,S,T)) (gj (wQ (P,S,T)))=bo FB (fun v=>gj (wQ v)) insK insR (FB (P,S,T)) (gj (wQ (P,S,T))):=UM;exact h0.trans (cM (DE:=fun v:UW=>gj (wQ v)) ins_inj (P,S,T) ⟨hl,kS⟩)
theorem YR{N a b c:Nat}{P U W Q R0 R1:List It}(e0:P++(U++(W++Q))=R0)(e1:P++(bg cm (U++W)++Q)=R1)(hN:R0.length=N)(hl:N<=1000000)(ha:P.length=a)(hb:a+U.length=b)(hc:b+W.length=c)(hU:0<U.length)(hW:0<W.length)(sU:jX cm U)(sW:jX cm W)(kU: ∀x∈U,x.ok)(kW: ∀x∈W,x.ok):TIv.hp 208 [.row 0 0 7 N false,.int .i64 (a:Int),.int .i64 (b:Int),.int .i64 (c:Int),.fn 148 []] [.row 7 (R0.map It.enc)]=some (.cx [],[.row 7 (R1.map It.enc)],[]):=by subst e0 e1 hN ha hb hc;have UM:TIv1.hp 208 (wO (P,U,W,Q)) (gj (rh (P,U,W,Q)))=bo wO (fun v=>gj (rh v)) syK Vw (wO (P,U,W,Q)) (gj (rh (P,U,W,Q))):=aj.dZ;have h0:TIv.hp 208 (wO (P,U,W,Q)) (gj (rh (P,U,W,Q)))=bo wO (fun v=>gj (rh v)) syK Vw (wO (P,U,W,Q)) (gj (rh (P,U,W,Q))):=UM;exact h0.trans (cM (DE:=fun v:UT=>gj (rh v)) QK (P,U,W,Q) ⟨⟨hl,hU,hW⟩,sU,sW,kU,kW⟩)
theorem uU{B:List It}(h: ∀x∈B,x.ok): ∀x∈bg cm B,x.ok:=fun x hx=>h x ((St.mem ib (gi ib B) x).1 hx)
theorem fD:ai Tryz.prog TIv Tryz.f183.ntmps (Tryz.f183.body.getD .skip)=true:=by kernel_rfl
theorem YS(l:List It)(h:l.length<=1000000)(hk: ∀x∈l,x.ok):dG Tryz.prog 183 [.row 0 0 7 l.length false,.int .i64 l.length,.fn 148 []] [.row 7 (l.map It.enc)]
 (.cx []) [.row 7 ((bg cm l).map It.enc)] []:=by
 refine bV TIv_ok mixed Tryz.func183 rfl (Nat.le_of_ble_eq_true rfl) (fun n h _=>by simp at h;subst h;rfl) (by show _<=1;simp) (by show 1<=_;simp) fD ?_;unfold Tryz.f183;obtain⟨N,hN⟩: ∃N,l.length=N:=⟨_,rfl⟩
 rw[hN]at h⊢;simp-implicitDefEqProofs (disch:=(first|omega|decide)) only[go_sem,↓reduceIte,seval,wrap_i64,List.length_map]
 refine ao [0,1,2,6] (ι:={p:List It×List It//p.1.length+p.2.length=N/\(∀r,zS cm 20 p.2 r->zS cm 20 l (p.1++r))/\ ∀x∈p.2,x.ok}) (fun p=>[(7,.int .i64 (p.1.1.length:Int)),(8,.int .i64 ((p.1.1.length+20:Nat):Int))]) (fun p=>[(0,.row 7 ((p.1.1++p.1.2).map It.enc))]) (fun p=>p.1.2.length) ⟨([],l),by simpa using hN,fun r hr=>hr,hk⟩ (by show 1<=_;simp) ?_ ?_
 · simp-implicitDefEqProofs (disch:=(first|omega|decide)) only[go_sem,↓reduceIte,seval,List.nil_append,List.length_nil]
   try first|done|rfl|exact⟨rfl,rfl⟩
 · rintro⟨⟨D,B⟩,h1,h2,h3⟩
   simp only at h1 h2 h3⊢;by_cases aw:20<=B.length
   · have c0:((D.length+20:Nat):Int)<=(N:Int):=by omega
     have tl:(B.take 20).length=20:=by rw[List.length_take];omega
     have f:=YQ (N:=N) (a:=D.length) (b:=D.length+20) (P:=D) (S:=B.take 20) (T:=B.drop 20) (R0:=D++B) (by rw[List.take_append_drop]) rfl (by rw[List.length_append];omega) h rfl (by omega) (fun x hx=>h3 x (List.mem_of_mem_take hx))
     simp-implicitDefEqProofs (disch:=(first|omega|decide)) only[go_sem,↓reduceIte,seval,c0,f,wrap_i64,List.length_map]
     refine⟨⟨(D++bg cm (B.take 20),B.drop 20),by rw[List.length_append,bP,List.length_drop];omega,fun r hr=> ?_,fun x hx=>h3 x (List.mem_of_mem_drop hx)⟩,⟨⟨by simp[bP];omega,by simp[bP];omega⟩,by simp⟩,by show(B.drop 20).length<B.length;rw[List.length_drop];omega⟩
     have hc:=zS.cons (lt:=cm) (B.take 20) (B.drop 20) r tl hr;rw[List.take_append_drop]at hc;have:=h2 _ hc
     rwa [List.append_assoc]
   · have c0: ¬((D.length+20:Nat):Int)<=(N:Int):=by omega
     have f:=YQ (N:=N) (a:=D.length) (b:=N) (P:=D) (S:=B) (T:=[]) (R0:=D++B) (by rw[List.append_nil]) rfl (by rw[List.length_append];omega) h rfl (by omega) h3;have hb:=h2 _ (zS.last B (by omega))
     rw[List.append_nil]at f;generalize D++bg cm B=R at*;simp-implicitDefEqProofs (disch:=(first|omega|decide)) only[go_sem,↓reduceIte,seval,c0,f,wrap_i64,List.length_map]
     clear f h1 h2 h3 c0 aw;refine ao [0,1,2] (ι:={p:Nat×List It//20<=p.1/\p.1<=2000020/\zS cm p.1 l p.2}) (fun p=>[(6,.int .i64 (p.1.1:Int))]) (fun p=>[(0,.row 7 (p.1.2.map It.enc))]) (fun p=>N-p.1.1) ⟨(20,R),by simp,by simp,hb⟩ (by show 1<=_;simp) ?_ ?_
     · simp-implicitDefEqProofs (disch:=(first|omega|decide)) only[go_sem,↓reduceIte,seval]
       try first|done|rfl|exact⟨rfl,rfl⟩
     · rintro⟨⟨bs,R'⟩,k1,k2,k3⟩
       simp only at k1 k2 k3⊢;clear hb;by_cases hbs:bs<N
       · have c1:(bs:Int)<(N:Int):=by omega
         have d1:2*(bs:Int)=((2*bs:Nat):Int):=by omega
         have d1':(bs:Int)*2=((2*bs:Nat):Int):=by omega
         simp-implicitDefEqProofs (disch:=(first|omega|decide)) only[go_sem,↓reduceIte,seval,c1,d1,d1',wrap_i64,List.length_map]
         refine ao [0,1,2,6] (ι:={p:List It×List It×List It//p.1.length+p.2.1.length=N/\zS cm bs p.2.1 p.2.2/\(∀r,zS cm (2*bs) p.2.1 r->zS cm (2*bs) l (p.1++r))/\ ∀x∈p.2.1,x.ok}) (fun p=>[(7,.int .i64 (p.1.1.length:Int)),(8,.int .i64 ((p.1.1.length+2*bs:Nat):Int))]) (fun p=>[(0,.row 7 ((p.1.1++p.1.2.2).map It.enc))]) (fun p=>p.1.2.1.length) ⟨([],l,R'),by simpa using hN,k3,fun r hr=>hr,hk⟩ (by show 1<=_;simp) ?_ ?_
         · simp-implicitDefEqProofs (disch:=(first|omega|decide)) only[go_sem,↓reduceIte,seval,List.nil_append,List.length_nil,Nat.zero_add]
           try first|done|rfl|exact⟨rfl,rfl⟩
         · rintro⟨⟨D,B,r⟩,h1,h2,h3,h4⟩
           simp only at h1 h2 h3 h4⊢;have d2:(D.length:Int)+(bs:Int)=((D.length+bs:Nat):Int):=by omega
           by_cases aw:2*bs<=B.length
           · have c0:((D.length+2*bs:Nat):Int)<=(N:Int):=by omega
             obtain⟨B1,B',r',rfl,b1,rfl,g2⟩:=h2.part (by omega)
             have lb':(B1++B').length=B1.length+B'.length:=List.length_append;obtain⟨B2,B3,r3,rfl,b2,rfl,g3⟩:=g2.part (by omega)
             have lb2:(B2++B3).length=B2.length+B3.length:=List.length_append;have lr:=g3.len;have o1: ∀x∈B1,x.ok:=fun x hx=>h4 x (by simp[hx])
             have o2: ∀x∈B2,x.ok:=fun x hx=>h4 x (by simp[hx])
             have f:=YR (N:=N) (a:=D.length) (b:=D.length+bs) (c:=D.length+2*bs) (P:=D) (U:=bg cm B1) (W:=bg cm B2) (Q:=r3) (R0:=D++(bg cm B1++(bg cm B2++r3))) rfl rfl (by simp only[List.length_append,bP];omega) h rfl (by rw[bP];omega) (by rw[bP];omega) (by rw[bP];omega) (by rw[bP];omega) (mY ib _) (mY ib _) (uU o1) (uU o2)
             rw[G5 ib]at f;have d3:((D.length+2*bs:Nat):Int)+((2*bs:Nat):Int)=((D.length+2*bs+2*bs:Nat):Int):=by omega
             simp-implicitDefEqProofs (disch:=(first|omega|decide)) only[go_sem,↓reduceIte,seval,c0,d1,d1',d2,d3,f,wrap_i64,List.length_map]
             refine⟨⟨(D++bg cm (B1++B2),B3,r3),by show(D++bg cm (B1++B2)).length+B3.length=N;rw[List.length_append,bP,List.length_append];omega,g3,fun r hr=> ?_,fun x hx=>h4 x (by simp[hx])⟩,⟨⟨by simp[bP];omega,by simp[bP];omega⟩,by simp⟩,by show B3.length<(B1++(B2++B3)).length;omega⟩
             have:=h3 (bg cm (B1++B2)++r) (by
              rw[<-List.append_assoc]
              exact zS.cons (B1++B2) B3 r (by rw[List.length_append];omega) hr)
             rwa [List.append_assoc]
           · have c0: ¬((D.length+2*bs:Nat):Int)<=(N:Int):=by omega
             by_cases hm:bs<B.length
             · have c2:((D.length+bs:Nat):Int)<(N:Int):=by omega
               obtain⟨B1,B2,r2,rfl,b1,rfl,g2⟩:=h2.part (by omega)
               have lb':(B1++B2).length=B1.length+B2.length:=List.length_append;obtain rfl:=g2.small (by omega)
               have o1: ∀x∈B1,x.ok:=fun x hx=>h4 x (by simp[hx])
               have o2: ∀x∈B2,x.ok:=fun x hx=>h4 x (by simp[hx])
               have f:=YR (N:=N) (a:=D.length) (b:=D.length+bs) (c:=N) (P:=D) (U:=bg cm B1) (W:=bg cm B2) (Q:=[]) (R0:=D++(bg cm B1++bg cm B2)) (by rw[List.append_nil]) rfl (by simp only[List.length_append,bP];omega) h rfl (by rw[bP];omega) (by rw[bP];omega) (by rw[bP];omega) (by rw[bP];omega) (mY ib _) (mY ib _) (uU o1) (uU o2)
               rw[G5 ib,List.append_nil]at f;have hb:=h3 _ (zS.last (B1++B2) (by omega))
               generalize D++bg cm (B1++B2)=R2 at*;simp-implicitDefEqProofs (disch:=(first|omega|decide)) only[go_sem,↓reduceIte,seval,c0,c2,d1,d1',d2,f,wrap_i64,List.length_map]
               exact⟨⟨(2*bs,R2),by show 20<=2*bs;omega,by show 2*bs<=2000020;omega,hb⟩,⟨by simp,by simp⟩,by show N-2*bs<N-bs;omega⟩
             · have c2: ¬((D.length+bs:Nat):Int)<(N:Int):=by omega
               obtain rfl:=h2.small (by omega)
               have hb:=h3 _ (zS.last B (by omega))
               generalize D++bg cm B=R2 at*;simp-implicitDefEqProofs (disch:=(first|omega|decide)) only[go_sem,↓reduceIte,seval,c0,c2,d1,d1',d2,wrap_i64,List.length_map]
               exact⟨⟨(2*bs,R2),by show 20<=2*bs;omega,by show 2*bs<=2000020;omega,hb⟩,⟨by simp,by simp⟩,by show N-2*bs<N-bs;omega⟩
       · have c1: ¬(bs:Int)<(N:Int):=by omega
         have e:=k3.small (by omega)
         rw[e]
         simp-implicitDefEqProofs (disch:=(first|omega|decide)) only[go_sem,↓reduceIte,seval,c1,List.length_map]
def sbE(l:List It):List A:=[.row 0 0 7 l.length false,.int .i64 l.length,.fn 148 []]
def ZG(l:List It):Prop:=l.length<=1000000/\ ∀x∈l,x.ok
def sbR(l:List It):A×List Go.bJ.Obj×List Nat:=(.cx [],gj (bg cm l),[])
def soE(l:List It):List A:=[.row 0 0 7 l.length false,.fn 148 []]
def TIw0:aj:=Vv.eP 183 (bo sbE gj ZG sbR)
def TIw:aj:={TIw0 with l_:=fun f=>f==183}
theorem TIw_ok:ag Tryz.prog TIw:=by
 have h1:ag Tryz.prog TIw0:=wK.eP (bn Tryz.func183 (by kernel_rfl) (by kernel_rfl)) (cL fun l h=>YS l h.1 h.2)
 exact⟨h1.f,h1.hp⟩
@[go_sem] theorem TIw_eff{g:FuncId}:TIw.l_ g=(g==183):=rfl
@[go_sem] theorem TIw_frz{g:FuncId}:TIw.qU g=false:=rfl
@[go_sem] theorem TIw_ords{n:Nat}:TIw.c6 n=[]:=rfl
theorem UX{l:List It}(h:ZG l):TIw.hp 183 [.row 0 0 7 l.length false,.int .i64 l.length,.fn 148 []] [.row 7 (l.map It.enc)]=some (.cx [],[.row 7 ((bg cm l).map It.enc)],[]):=by have UM:TIw0.hp 183 (sbE l) (gj l)=bo sbE gj ZG sbR (sbE l) (gj l):=aj.dZ;have h0:TIw.hp 183 (sbE l) (gj l)=bo sbE gj ZG sbR (sbE l) (gj l):=UM;exact h0.trans (cM (fun i j _ h=>uQ h) l h)
theorem da:ai Tryz.prog TIw Tryz.f147.ntmps (Tryz.f147.body.getD .skip)=true:=by kernel_rfl
theorem JM(l:List It)(h:ZG l):dG Tryz.prog 147 [.row 0 0 7 l.length false,.fn 148 []] [.row 7 (l.map It.enc)]
 (.cx []) [.row 7 ((bg cm l).map It.enc)] []:=by
 refine bV TIw_ok mixed Tryz.func147 rfl (Nat.le_of_ble_eq_true rfl) (fun n h _=>by simp at h;subst h;rfl) (by show _<=1;simp) (by show 1<=_;simp) da ?_;unfold Tryz.f147;have f:=UX h;simp-implicitDefEqProofs (disch:=(first|omega|decide)) only[go_sem,↓reduceIte,seval,f,List.length_map]
def YT:aj:=Fs.eP 147 (bo soE gj ZG sbR)
def JN:aj:={YT with l_:=fun f=>f==147}
theorem X18m_ok:ag Tryz.prog JN:=by
 have h1:ag Tryz.prog YT:=Sj.eP (bn Tryz.func147 (by kernel_rfl) (by kernel_rfl)) (cL fun l h=>JM l h)
 exact⟨h1.f,h1.hp⟩
@[go_sem] theorem X18m_f:JN.f=Fs.f:=rfl
@[go_sem] theorem X18m_eff{g:FuncId}:JN.l_ g=(g==147):=rfl
@[go_sem] theorem X18m_frz{g:FuncId}:JN.qU g=false:=rfl
@[go_sem] theorem X18m_fix{n:Nat}:JN.fix n=false:=rfl
@[go_sem] theorem X18m_ords{n:Nat}:JN.c6 n=[]:=rfl
theorem FC{l:List It}{n:Nat}(hn:n=l.length)(h:ZG l):JN.hp 147 [.row 0 0 7 n false,.fn 148 []] [.row 7 (l.map It.enc)]=some (.cx [],[.row 7 ((bg cm l).map It.enc)],[]):=by subst hn;have UM:YT.hp 147 (soE l) (gj l)=bo soE gj ZG sbR (soE l) (gj l):=aj.dZ;have h0:JN.hp 147 (soE l) (gj l)=bo soE gj ZG sbR (soE l) (gj l):=UM;exact h0.trans (cM (fun i j _ h=>uQ h) l h)
theorem FD:ai Tryz.prog JN Tryz.f90.ntmps (Tryz.f90.body.getD .skip)=true:=by kernel_rfl
theorem JO(L:List (List It))(hL:L.length<=1000000)(hk: ∀m∈L,∀x∈m,x.ok)(hs:L.flatten.length<=1000000):az Tryz.prog 90 [.ad (L.map fun m=> .ad (m.map It.enc))] (· = .ad ((aN L.flatten).map It.enc)):=by
 refine aa X18m_ok mixed Tryz.func90 rfl (Nat.le_of_ble_eq_true rfl) FD ?_;unfold Tryz.f90;have tk: ∀m:List It,(m.map It.enc).take m.length=m.map It.enc:=fun m=>List.take_of_length_le (by simp)
 simp-implicitDefEqProofs (disch:=(first|omega|decide)) only[go_sem,↓reduceIte,seval,List.length_map]
 refine aU 3 7 rfl ?_;refine ao [0,12,13] (ι:={i:Nat//i<=L.length}) (fun i=>[(14,.int .i64 i.1),(3,.row 0 0 7 ((L.take i.1).flatten.filter aM).length false)]) (fun i=>[(0,.row 7 (((L.take i.1).flatten.filter aM).map It.enc))]) (fun i=>L.length-i.1) ⟨0,by omega⟩ (Nat.zero_le _) ?_ ?_
 · simp-implicitDefEqProofs (disch:=(first|omega|decide)) only[go_sem,↓reduceIte,seval]
   first|done|simp
 · rintro⟨i,hi⟩
   simp only;by_cases aw:i<L.length
   · have ae:(i:Int)<(L.length:Int):=by omega
     have em:(L.map fun m=>A.ad (m.map It.enc))[i]? =some (.ad (L[i].map It.enc)):=by rw[List.getElem?_map,List.getElem?_eq_getElem aw];rfl
     have hm:=hk _ (List.getElem_mem aw)
     have hF:((L.take (i+1)).flatten).filter aM=((L.take i).flatten).filter aM++L[i].filter aM:=by rw[C4 aw,List.filter_append]
     have hb:((L.take i).flatten.filter aM).length+L[i].length<=1000000:=by
      have h1:=Qy L (i+1)
      rw[C4 aw,List.length_append]at h1;have h2:=List.length_filter_le aM (L.take i).flatten;omega
     generalize L[i]=m at*;generalize hFi:(L.take i).flatten.filter aM=F at*;simp-implicitDefEqProofs (disch:=(first|omega|decide)) only[go_sem,↓reduceIte,seval,ae,em,wrap_i64,List.length_map]
     refine ao [0,12,13,14,18,19] (ι:={j:Nat//j<=m.length}) (fun j=>[(20,.int .i64 j.1),(3,.row 0 0 7 (F++(m.take j.1).filter aM).length false)]) (fun j=>[(0,.row 7 ((F++(m.take j.1).filter aM).map It.enc))]) (fun j=>m.length-j.1) ⟨0,by omega⟩ (Nat.zero_le _) ?_ ?_
     · simp-implicitDefEqProofs (disch:=(first|omega|decide)) only[go_sem,↓reduceIte,seval,List.take_zero,List.filter_nil,List.append_nil]
       first|done|(simp;done)|exact⟨⟨rfl,rfl⟩,rfl⟩
     · rintro⟨j,hj⟩
       simp only;by_cases zB:j<m.length
       · have uS:(j:Int)<(m.length:Int):=by omega
         have ej:=dK zB;have gr:=x_Right (hm _ (List.getElem_mem zB))
         have iN:=l8 (f:=aM) zB
         have hgl:(F++(m.take j).filter aM).length<=1000000:=by
          have:=List.length_filter_le aM (m.take j)
          rw[List.length_take]at this;rw[List.length_append];omega
         have hgl2:(F++(m.take j).filter aM).length+1<=1000001:=by omega
         generalize m[j]=x at*;obtain⟨G,hG⟩: ∃G,F++(m.take j).filter aM=G:=⟨_,rfl⟩
         have tkG:=tk G;cases hr:aM x with
         |true=>
          rw[hr]at gr iN;have hn:F++(m.take (j+1)).filter aM=G++[x]:=by rw[iN,<-hG];simp
          rw[hG]at hgl hgl2⊢;simp-implicitDefEqProofs (disch:=(first|omega|decide)) only[go_sem,↓reduceIte,seval,uS,ej,gr,tkG,wrap_i64,List.length_map]
          refine⟨⟨Nat.le_refl _,by omega⟩,⟨j+1,zB⟩,⟨⟨by simp,by rw[hn];simp⟩,by rw[hn,<-jU]⟩,by show m.length-(j+1)<m.length-j;omega⟩
         |false=>
          rw[hr]at gr iN;have hn:F++(m.take (j+1)).filter aM=G:=by rw[iN,<-hG];simp
          rw[hG]
          simp-implicitDefEqProofs (disch:=(first|omega|decide)) only[go_sem,↓reduceIte,seval,uS,ej,gr,wrap_i64,List.length_map]
          exact⟨⟨j+1,zB⟩,⟨⟨by simp,by rw[hn]⟩,by rw[hn]⟩,by show m.length-(j+1)<m.length-j;omega⟩
       · have uS: ¬(j:Int)<(m.length:Int):=by omega
         rw[List.take_of_length_le (by omega),<-hF]
         simp-implicitDefEqProofs (disch:=(first|omega|decide)) only[go_sem,↓reduceIte,seval,uS,wrap_i64,List.length_map]
         exact⟨⟨i+1,aw⟩,⟨⟨by simp,rfl⟩,rfl⟩,by show L.length-(i+1)<L.length-i;omega⟩
   · have ae: ¬(i:Int)<(L.length:Int):=by omega
     rw[List.take_of_length_le (by omega)]
     have hsort:ZG (L.flatten.filter aM):=⟨Nat.le_trans (List.length_filter_le _ _) hs,fun x hx=>by obtain⟨m,hm,hx⟩:=List.mem_flatten.1 (List.mem_filter.1 hx).1;exact hk m hm x hx⟩
     have f:=FC rfl hsort;have hres:aN L.flatten=((bg cm (L.flatten.filter aM)).foldl (dO cm bt) []).reverse:=rfl;have oP:(bg cm (L.flatten.filter aM)).length=(L.flatten.filter aM).length:=bP _;have hb:=hsort.1;rw[hres]
     rw[<-oP]at f⊢;rw[<-oP]at hb;generalize hFl:L.flatten.filter aM=F at*;generalize hS:bg cm F=S at*;simp-implicitDefEqProofs (disch:=(first|omega|decide)) only[go_sem,↓reduceIte,seval,ae,f,wrap_i64,List.length_map]
     refine aU 8 7 rfl ?_;refine ao [3,34,35] (ι:={k:Nat//k<=S.length}) (fun k=>[(36,.int .i64 k.1),(8,.row 1 0 7 (((S.take k.1).foldl (dO cm bt) []).reverse).length false)]) (fun k=>[(0,.row 7 (S.map It.enc)),(1,.row 7 ((((S.take k.1).foldl (dO cm bt) []).reverse).map It.enc))]) (fun k=>S.length-k.1) ⟨0,by omega⟩ (Nat.zero_le _) ?_ ?_
     · simp-implicitDefEqProofs (disch:=(first|omega|decide)) only[go_sem,↓reduceIte,seval]
       first|done|(simp;done)|rfl
     · rintro⟨k,Tf⟩
       simp only;by_cases Vn:k<S.length
       · have UY:(k:Int)<(S.length:Int):=by omega
         have ek:=dK Vn;have bR:(S.take (k+1)).foldl (dO cm bt) []=dO cm bt ((S.take k).foldl (dO cm bt) []) S[k]:=by rw[<-List.take_append_getElem Vn,List.foldl_append];rfl
         have Gq:((S.take k).foldl (dO cm bt) []).length<=1000000:=by
          have:=G6 (S.take k) []
          rw[List.length_take]at this;simp only[List.length_nil]at this;omega
         generalize S[k]=x at*;generalize Vk:(S.take (k+1)).foldl (dO cm bt) []=r2 at*
         have fin: ∀(o2:List It) (c:Nat) (es:List A),r2.reverse=o2->c=o2.length->es=o2.map It.enc-> ∃j:{k:Nat//k<=S.length},(((k:Int)+1=(j.1:Int)/\c=(((S.take j.1).foldl (dO cm bt) []).reverse).length)/\es=(((S.take j.1).foldl (dO cm bt) []).reverse).map It.enc)/\S.length-j.1<S.length-k:=fun o2 c es h1 h2 h3=>
          ⟨⟨k+1,Vn⟩,⟨⟨by simp,by rw[Vk,h1];exact h2⟩,by rw[Vk,h1];exact h3⟩,by show S.length-(k+1)<S.length-k;omega⟩
         generalize(S.take k).foldl (dO cm bt) []=r at*;cases r with
         |nil=>
          have hn:r2=[x]:=bR;subst hn;have z0:((0:Int)==0)=true:=rfl;simp-implicitDefEqProofs (disch:=(first|omega|decide)) only[go_sem,↓reduceIte,seval,UY,ek,z0,wrap_i64,List.length_map,List.reverse_nil,List.length_nil,List.map_nil]
          exact fin [x] 1 _ rfl rfl rfl
         |cons y r'=>
          rw[List.reverse_cons]
          simp only[List.length_cons]at Gq;obtain⟨o,ho⟩: ∃o,r'.reverse=o:=⟨_,rfl⟩
          have oN:o.length=r'.length:=by rw[<-ho,List.length_reverse]
          have ya:(o++[y]).length=o.length+1:=by simp
          have c0:((((o.length+1:Nat):Int))==0)=false:=by rw[beq_eq_false_iff_ne];omega
          have c1:((o.length+1:Nat):Int)-1=(o.length:Int):=by omega
          have c2:(o.length:Int)<((o.length+1:Nat):Int):=by omega
          have gy:((o++[y]).map It.enc)[o.length]? =some (.agg [.str y.key,.int .i64 y.rep,.int .i64 y.cu,.int .i64 y.bq,.int .i64 y.prio,.bool y.dead,.str y.body]):=c_ (by simp)
          have gset:=n_ (o++[y]) o.length x;have fQ:(o++[y]).set o.length x=o++[x]:=by simp
          rw[fQ]at gset;have N8:=tk (o++[y])
          rw[ya]at N8;have gcmp:=x_Cmp (x:=x) (y:=y)
          have hbt:=cmpI_bt x y;have yh:eqv cm x y=(x.key==y.key):=eqvI;simp only[dO,yh]at bR;rw[ho]
          cases C':y.key==x.key with
          |false=>
           have YU:(x.key==y.key)=false:=by rw[beq_eq_false_iff_ne]at*;exact fun e=>C' e.symm
           rw[YU]at bR;have hn:r2.reverse=o++[y]++[x]:=by rw[bR];simp[ho]
           simp-implicitDefEqProofs (disch:=(first|omega|decide)) only[go_sem,↓reduceIte,seval,UY,ek,ya,c0,c1,c2,gy,C',N8,wrap_i64,List.length_map]
           exact⟨⟨Nat.le_refl _,by omega⟩,fin (o++[y]++[x]) _ _ hn (by simp) (jU (o++[y]) x)⟩
          |true=>
           have YU:(x.key==y.key)=true:=by rw[beq_iff_eq]at*;exact C'.symm
           rw[YU]at bR;cases hw:bt x y with
           |true=>
              rw[hw]at hbt;have hn:r2.reverse=o++[x]:=by rw[bR];simp[ho,better,hw]
              simp-implicitDefEqProofs (disch:=(first|omega|decide)) only[go_sem,↓reduceIte,seval,UY,ek,ya,c0,c1,c2,gy,C',gcmp,hbt,gset,YB,wrap_i64,List.length_map]
              exact fin (o++[x]) _ _ hn (by simp) rfl
           |false=>
              rw[hw]at hbt;have hn:r2.reverse=o++[y]:=by rw[bR];simp[ho,better,hw]
              simp-implicitDefEqProofs (disch:=(first|omega|decide)) only[go_sem,↓reduceIte,seval,UY,ek,ya,c0,c1,c2,gy,C',gcmp,hbt,wrap_i64,List.length_map]
              exact fin (o++[y]) _ _ hn (by simp) rfl
       · have UY: ¬(k:Int)<(S.length:Int):=by omega
         rw[List.take_of_length_le (by omega)]
         have N8:=tk (S.foldl (dO cm bt) []).reverse;simp-implicitDefEqProofs (disch:=(first|omega|decide)) only[go_sem,↓reduceIte,seval,UY,N8,wrap_i64,List.length_map]
         exact Nat.le_refl _
def Di(last:Option (List UInt8))(x:It):Bool:=match last with|none=>true|some k=>aQ k x.key
def kb(last:Option (List UInt8))(x:It):Bool:=aM x&&Di last x
def FE(l:List It)(last:Option (List UInt8)):Nat->Int
 |0=> -1
 |n+1=>if kb last (l[n]!)&&(decide (FE l last n<0)||aQ (l[n]!).key (l[(FE l last n).toNat]!).key)then(n:Int)else FE l last n
theorem qj(l:List It)(last:Option (List UInt8)): ∀n,(FE l last n= -1/\ ∀i,i<n->kb last (l[i]!)=false)\/(∃j,j<n/\FE l last n=(j:Int)/\kb last (l[j]!)=true/\ ∀i,i<n->kb last (l[i]!)=true->aQ (l[i]!).key (l[j]!).key=false)
 |0=> .inl ⟨rfl,fun i h=>absurd h (by omega)⟩
 |n+1=>by
  have ih:=qj l last n;simp only[FE]
  cases hc:kb last (l[n]!)with
  |false=>
   simp only[Bool.false_and,Bool.false_eq_true,if_false]
   rcases ih with⟨h1,h2⟩|⟨j,h1,h2,h3,h4⟩
   · refine .inl ⟨h1,fun i hi=> ?_⟩
     by_cases e:i=n
     · subst e;exact hc
     · exact h2 i (by omega)
   · refine .inr ⟨j,by omega,h2,h3,fun i hi ZH=> ?_⟩
     by_cases e:i=n
     · subst e;rw[hc]at ZH;cases ZH
     · exact h4 i (by omega) ZH
  |true=>
   simp only[Bool.true_and]
   rcases ih with⟨h1,h2⟩|⟨j,h1,h2,h3,h4⟩
   · rw[h1]
     refine .inr ⟨n,by omega,by simp,hc,fun i hi ZH=> ?_⟩
     by_cases e:i=n
     · subst e;exact lt_irrefl _
     · rw[h2 i (by omega)]at ZH;cases ZH
   · rw[h2]
     have h0: ¬((j:Int)<0):=by omega
     have ht:((j:Nat):Int).toNat=j:=Int.toNat_natCast _;simp only[decide_eq_false h0,Bool.false_or,ht]
     cases hb:aQ (l[n]!).key (l[j]!).key with
     |true=>
      refine .inr ⟨n,by omega,by simp,hc,fun i hi ZH=> ?_⟩
      by_cases e:i=n
      · subst e;exact lt_irrefl _
      · have:=h4 i (by omega) ZH
        cases g:aQ (l[i]!).key (l[n]!).key with
        |false=>rfl
        |true=>rw[bW g hb]at this;cases this
     |false=>
      refine .inr ⟨j,by omega,by simp,h3,fun i hi ZH=> ?_⟩
      by_cases e:i=n
      · subst e;exact hb
      · exact h4 i (by omega) ZH
def fb(o:List It):Option (List UInt8):=o.getLast?.map (·.key)
theorem sV{M:List It}{n:Nat}(h:n<=M.length)(h0:0<n):fb (M.take n)=some (M[n-1]'(by omega)).key:=by
 unfold fb;rw[List.getLast?_eq_getElem?,List.length_take,Nat.min_eq_left h,List.getElem?_take_of_lt (by omega),List.getElem?_eq_getElem (by omega)]
 rfl
theorem Dj{l:List It}{i:Nat}(h:i<(aN l).length): ∃k,k<l.length/\l[k]! =(aN l)[i]/\aM (aN l)[i]=true:=by
 obtain⟨h1,h2⟩:=dD (List.getElem_mem h)
 obtain⟨k,hk,he⟩:=List.getElem_of_mem h1;exact⟨k,hk,by rw[getElem!_pos l k hk,he],h2⟩
theorem Dk{l:List It}{i j:Nat}(vw:i<j)(h:j<(aN l).length):aQ ((aN l)[i]'(by omega)).key ((aN l)[j]).key=true:=
 (List.pairwise_iff_getElem.1 (fa l).1) i j (by omega) h vw
theorem Dl{l:List It}{n i:Nat}(hn:n<=i)(h:i<(aN l).length):kb (fb ((aN l).take n)) (aN l)[i]=true:=by
 obtain⟨_,_,_,hr⟩:=Dj h;unfold kb;rw[hr,Bool.true_and]
 by_cases h0:n=0
 · subst h0;rfl
 · rw[sV (by omega) (by omega)]
   exact Dk (by omega) h
theorem QL{l:List It}{n:Nat}(hn:n<=(aN l).length)(h:FE l (fb ((aN l).take n)) l.length= -1):n=(aN l).length:=by
 rcases qj l (fb ((aN l).take n)) l.length with⟨_,h2⟩|⟨j,_,h2,_⟩
 · by_cases aw:n<(aN l).length
   · obtain⟨k,hk,he,_⟩:=Dj aw
     have:=h2 k hk;rw[he,Dl (Nat.le_refl _) aw]at this;cases this
   · omega
 · omega
theorem QM{l:List It}{n j:Nat}(hn:n<=(aN l).length)(h:FE l (fb ((aN l).take n)) l.length=(j:Int)):
 j<l.length/\n<(aN l).length/\ ∃k,k<l.length/\C6 l (l[j]!).key false l.length=(k:Int)/\(aN l)[n]? =some (l[k]!):=by
 rcases qj l (fb ((aN l).take n)) l.length with⟨h1,_⟩|⟨j',u6,h2,h3,h4⟩
 · omega
 · obtain rfl:j'=j:=by omega
   obtain⟨x,hx⟩: ∃x,l[j']! =x:=⟨_,rfl⟩
   rw[hx]at h3 h4⊢;have hxm:x∈l:=by rw[<-hx,getElem!_pos l j' u6];exact List.getElem_mem _
   have hxr:aM x=true:=by unfold kb at h3;simp only[Bool.and_eq_true]at h3;exact h3.1
   have Vi:Di (fb ((aN l).take n)) x=true:=by unfold kb at h3;simp only[Bool.and_eq_true]at h3;exact h3.2
   have hf: ∀z:It,z.key=x.key->(l.filter aM).filter (fun y=>z.key==y.key)=l.filter (mZ x.key false):=fun z hz=>by
    rw[List.filter_filter]
    refine List.filter_congr fun y _=> ?_;unfold mZ;rw[hz,Bool.false_or,Bool.and_comm,show(x.key==y.key)=(y.key==x.key)from Bool.beq_comm]
   rcases C7 l x.key false l.length (Nat.le_refl _)with⟨_,b2⟩|⟨k,k1,k2,k3⟩
   · rw[List.take_length]at b2
     have:=wI b2;have hm:x∈l.filter (mZ x.key false):=List.mem_filter.2 ⟨hxm,by simp[mZ,hxr]⟩
     rw[this]at hm;cases hm
   · rw[List.take_length]at k3
     obtain⟨z,hz⟩: ∃z,l[k]! =z:=⟨_,rfl⟩
     rw[hz]at k3;have hzk:z.key=x.key:=by have:=(List.mem_filter.1 (mV k3)).2;simp only[mZ,Bool.false_or,Bool.and_eq_true,beq_iff_eq]at this;exact this.2
     have hzM:z∈aN l:=((fa l).2 z).2 (by rw[hf z hzk];exact k3)
     obtain⟨i,hi,hiz⟩:=List.getElem_of_mem hzM
     have TO:n<=i:=by
      by_cases aw:i<n
      · rw[sV hn (by omega)]at Vi
        have Vi:aQ ((aN l)[n-1]'(by omega)).key x.key=true:=Vi;rw[<-hzk,<-hiz]at Vi;by_cases e:i=n-1
        · subst e;rw[lt_irrefl]at Vi;cases Vi
        · have:=Dk (l:=l) (i:=i) (j:=n-1) (by omega) (by omega)
          rw[eR this]at Vi;cases Vi
      · omega
     have hni:i=n:=by
      by_cases aw:n<i
      · obtain⟨k0,ye,he0,_⟩:=Dj (l:=l) (i:=n) (by omega)
        have hc:=h4 k0 ye (by rw[he0];exact Dl (Nat.le_refl _) (by omega))
        rw[he0,<-hzk,<-hiz,Dk aw hi]at hc;cases hc
      · omega
     subst hni;exact⟨u6,hi,k,k1,k2,by rw[hz,List.getElem?_eq_getElem hi,hiz]⟩
theorem Dm:ai Tryz.prog rf Tryz.f29.ntmps (Tryz.f29.body.getD .skip)=true:=by kernel_rfl
theorem FF(l:List It)(hl:l.length<=1000000)(hk: ∀x∈l,x.ok):az Tryz.prog 29 [.ad (l.map It.enc)] (· = .ad ((aN l).map It.enc)):=by
 refine aa kC mixed Tryz.func29 rfl (Nat.le_of_ble_eq_true rfl) Dm ?_;unfold Tryz.f29;have tk: ∀m:List It,(m.map It.enc).take m.length=m.map It.enc:=fun m=>List.take_of_length_le (by simp)
 have hMl:=jF l;obtain⟨M,hM⟩: ∃M,aN l=M:=⟨_,rfl⟩
 have Gc: ∀n,n<=M.length->FE l (fb (M.take n)) l.length= -1->n=M.length:=fun n=>by rw[<-hM];exact QL
 have hsome: ∀n j,n<=M.length->FE l (fb (M.take n)) l.length=((j:Nat):Int)->j<l.length/\n<M.length/\ ∃k,k<l.length/\C6 l (l[j]!).key false l.length=(k:Int)/\M[n]? =some (l[k]!):=fun n j=>by rw[<-hM];exact QM
 have hMk: ∀n (h:n<M.length),M[n].ok:=fun n h=>by
  have:=dD (l:=l) (x:=M[n]) (by rw[hM];exact List.getElem_mem h)
  exact hk _ this.1
 rw[hM]at hMl⊢;simp-implicitDefEqProofs (disch:=(first|omega|decide)) only[go_sem,↓reduceIte,seval]
 refine aU 3 7 rfl ?_;refine ao [0] (ι:={n:Nat//n<=M.length}) (fun n=>[(3,.row 0 0 7 (M.take n.1).length false)]) (fun n=>[(0,.row 7 ((M.take n.1).map It.enc))]) (fun n=>M.length-n.1) ⟨0,by omega⟩ (Nat.zero_le _) ?_ ?_
 · simp-implicitDefEqProofs (disch:=(first|omega|decide)) only[go_sem,↓reduceIte,seval]
   first|done|(simp;done)|exact⟨rfl,rfl⟩
 · rintro⟨n,hn⟩
   simp only;have V3:(M.take n).length=n:=by rw[List.length_take];omega
   have c0:(n:Int)<=(l.length:Int):=by omega
   have tkn:=tk (M.take n)
   rw[V3]at tkn⊢;simp-implicitDefEqProofs (disch:=(first|omega|decide)) only[go_sem,↓reduceIte,seval,c0,List.length_map]
   refine ao [0,3] (ι:={i:Nat//i<=l.length}) (fun i=>[(5,.int .i64 i.1),(4,.int .i64 (FE l (fb (M.take n)) i.1))]) (fun i=>[(0,.row 7 ((M.take n).map It.enc))]) (fun i=>l.length-i.1) ⟨0,by omega⟩ (Nat.zero_le _) ?_ ?_
   · simp-implicitDefEqProofs (disch:=(first|omega|decide)) only[go_sem,↓reduceIte,seval,FE]
     try rfl
   · rintro⟨i,hi⟩
     simp only;by_cases aw:i<l.length
     · have ae:(i:Int)<(l.length:Int):=by omega
       have p1:(0:Int)<=(i:Int):=by omega
       have t1:((i:Nat):Int).toNat=i:=Int.toNat_natCast _;have e1:=c_ (l:=l) (k:=i) (x:=l[i]!) (by rw[getElem!_pos l i aw,List.getElem?_eq_getElem aw])
       have ox:(l[i]!).ok:=by rw[getElem!_pos l i aw];exact hk _ (List.getElem_mem aw)
       have g1:=Nw ox;have hb:FE l (fb (M.take n)) (i+1)=if kb (fb (M.take n)) (l[i]!)&&(decide (FE l (fb (M.take n)) i<0)||aQ (l[i]!).key (l[(FE l (fb (M.take n)) i).toNat]!).key)then(i:Int)else FE l (fb (M.take n)) i:=rfl
       have hr:FE l (fb (M.take n)) i= -1\/ ∃j,j<i/\FE l (fb (M.take n)) i=(j:Int):=by
        rcases qj l (fb (M.take n)) i with h|⟨j,h1,h2,_⟩
        · exact .inl h.1
        · exact .inr ⟨j,h1,h2⟩
       have iS: ∀v:Int,FE l (fb (M.take n)) (i+1)=v-> ∃j:{i:Nat//i<=l.length},((i:Int)+1=(j.1:Int)/\v=FE l (fb (M.take n)) j.1)/\l.length-j.1<l.length-i:=fun v hv=>⟨⟨i+1,aw⟩,⟨by simp,hv.symm⟩,by show l.length-(i+1)<l.length-i;omega⟩
       have e2: ∀j,j<i->(l.map It.enc)[j]? =some (.agg [.str (l[j]!).key,.int .i64 (l[j]!).rep,.int .i64 (l[j]!).cu,.int .i64 (l[j]!).bq,.int .i64 (l[j]!).prio,.bool (l[j]!).dead,.str (l[j]!).body]):=fun j hj=>c_ (by rw[getElem!_pos l j (by omega),List.getElem?_eq_getElem (by omega)])
       have oy: ∀j,j<i->(l[j]!).ok:=fun j hj=>by rw[getElem!_pos l j (by omega)];exact hk _ (List.getElem_mem _)
       generalize l[i]! =x at*;generalize FE l (fb (M.take n)) i=a at*;cases hR:aM x with
       |false=>
        rw[hR]at g1;simp only[kb,hR,Bool.false_and,Bool.false_eq_true,if_false]at hb;simp-implicitDefEqProofs (disch:=(first|omega|decide)) only[go_sem,↓reduceIte,seval,ae,p1,t1,e1,g1,wrap_i64,List.length_map]
        exact iS _ hb
       |true=>
        rw[hR]at g1;by_cases Zn:n=0
        · have haa:Di (fb (M.take n)) x=true:=by subst Zn;rfl
          have z0: ¬(0:Int)<(n:Int):=by omega
          rcases hr with rfl|⟨j,hj,rfl⟩
          · have hm:decide ((-1:Int)<0)=true:=rfl
            simp only[kb,hR,haa,Bool.true_and,hm,Bool.true_or,if_true]at hb;simp-implicitDefEqProofs (disch:=(first|omega|decide)) only[go_sem,↓reduceIte,seval,ae,p1,t1,e1,g1,z0,wrap_i64,List.length_map]
            exact iS _ hb
          · have q1: ¬((j:Int)<0):=by omega
            have q2:(0:Int)<=(j:Int):=by omega
            have q3:(j:Int)<(l.length:Int):=by omega
            have q4:((j:Nat):Int).toNat=j:=Int.toNat_natCast _;have ej:=e2 j hj;have gl:=je (a:=x.key) (b:=(l[j]!).key) ⟨ox.1,(oy j hj).1⟩
            rw[show(ck x.key (l[j]!).key== -1)=aQ x.key (l[j]!).key from rfl]at gl;simp only[kb,hR,haa,Bool.true_and,decide_eq_false q1,Bool.false_or,q4]at hb;generalize l[j]! =y at*;cases hw:aQ x.key y.key with
            |true=>
             rw[hw]at gl;simp only[hw,if_true]at hb;simp-implicitDefEqProofs (disch:=(first|omega|decide)) only[go_sem,↓reduceIte,seval,ae,p1,t1,e1,g1,z0,q1,q2,q3,q4,ej,gl,wrap_i64,List.length_map]
             exact iS _ hb
            |false=>
             rw[hw]at gl;simp only[hw,Bool.false_eq_true,if_false]at hb;simp-implicitDefEqProofs (disch:=(first|omega|decide)) only[go_sem,↓reduceIte,seval,ae,p1,t1,e1,g1,z0,q1,q2,q3,q4,ej,gl,wrap_i64,List.length_map]
             exact iS _ hb
        · have z0:(0:Int)<(n:Int):=by omega
          have z1:(n:Int)-1=((n-1:Nat):Int):=by omega
          have z2:(0:Int)<=((n-1:Nat):Int):=by omega
          have z3:((n-1:Nat):Int)<(n:Int):=by omega
          have z4:((n-1:Nat):Int).toNat=n-1:=Int.toNat_natCast _;have Zx:n-1<M.length:=by omega
          have eM:=c_ (l:=M.take n) (k:=n-1) (x:=M[n-1]) (by rw[List.getElem?_take_of_lt (by omega),List.getElem?_eq_getElem Zx])
          have oM:=hMk (n-1) Zx;have hla:Di (fb (M.take n)) x=aQ M[n-1].key x.key:=by rw[sV hn (by omega)];rfl
          have gM:=je (a:=M[n-1].key) (b:=x.key) ⟨oM.1,ox.1⟩
          rw[show(ck M[n-1].key x.key== -1)=aQ M[n-1].key x.key from rfl,<-hla]at gM;generalize M[n-1]=z at*;cases haa:Di (fb (M.take n)) x with
          |false=>
            rw[haa]at gM;simp only[kb,hR,haa,Bool.and_false,Bool.false_and,Bool.false_eq_true,if_false]at hb;simp-implicitDefEqProofs (disch:=(first|omega|decide)) only[go_sem,↓reduceIte,seval,ae,p1,t1,e1,g1,z0,z1,z2,z3,z4,eM,gM,wrap_i64,List.length_map]
            exact iS _ hb
          |true=>
            rw[haa]at gM;rcases hr with rfl|⟨j,hj,rfl⟩
            · have hm:decide ((-1:Int)<0)=true:=rfl
              simp only[kb,hR,haa,Bool.true_and,hm,Bool.true_or,if_true]at hb;simp-implicitDefEqProofs (disch:=(first|omega|decide)) only[go_sem,↓reduceIte,seval,ae,p1,t1,e1,g1,z0,z1,z2,z3,z4,eM,gM,wrap_i64,List.length_map]
              exact iS _ hb
            · have q1: ¬((j:Int)<0):=by omega
              have q2:(0:Int)<=(j:Int):=by omega
              have q3:(j:Int)<(l.length:Int):=by omega
              have q4:((j:Nat):Int).toNat=j:=Int.toNat_natCast _;have ej:=e2 j hj;have gl:=je (a:=x.key) (b:=(l[j]!).key) ⟨ox.1,(oy j hj).1⟩
              rw[show(ck x.key (l[j]!).key== -1)=aQ x.key (l[j]!).key from rfl]at gl;simp only[kb,hR,haa,Bool.true_and,decide_eq_false q1,Bool.false_or,q4]at hb;generalize l[j]! =y at*;cases hw:aQ x.key y.key with
              |true=>
               rw[hw]at gl;simp only[hw,if_true]at hb;simp-implicitDefEqProofs (disch:=(first|omega|decide)) only[go_sem,↓reduceIte,seval,ae,p1,t1,e1,g1,z0,z1,z2,z3,z4,eM,gM,q1,q2,q3,q4,ej,gl,wrap_i64,List.length_map]
               exact iS _ hb
              |false=>
               rw[hw]at gl;simp only[hw,Bool.false_eq_true,if_false]at hb;simp-implicitDefEqProofs (disch:=(first|omega|decide)) only[go_sem,↓reduceIte,seval,ae,p1,t1,e1,g1,z0,z1,z2,z3,z4,eM,gM,q1,q2,q3,q4,ej,gl,wrap_i64,List.length_map]
               exact iS _ hb
     · have ae: ¬(i:Int)<(l.length:Int):=by omega
       obtain rfl:i=l.length:=by omega
       rcases qj l (fb (M.take n)) l.length with⟨h1,_⟩|⟨j,_,h2,_⟩
       · have hnM:=Gc n hn h1
         rw[h1]
         have tM:M.take n=M:=List.take_of_length_le (by omega)
         rw[tM]at tkn⊢;simp-implicitDefEqProofs (disch:=(first|omega|decide)) only[go_sem,↓reduceIte,seval,ae,tkn,List.length_map]
         exact hn
       · obtain⟨hj,hnM,k,Vn,hbk,hMn⟩:=hsome n j hn h2
         rw[h2]
         have q1: ¬((j:Int)<0):=by omega
         have q2:(0:Int)<=(j:Int):=by omega
         have q3:(j:Int)<(l.length:Int):=by omega
         have q4:((j:Nat):Int).toNat=j:=Int.toNat_natCast _;have q5:(0:Int)<=(k:Int):=by omega
         have q6:(k:Int)<(l.length:Int):=by omega
         have q7:((k:Nat):Int).toNat=k:=Int.toNat_natCast _;have ej:=c_ (l:=l) (k:=j) (x:=l[j]!) (by rw[getElem!_pos l j hj,List.getElem?_eq_getElem hj])
         have ek:=c_ (l:=l) (k:=k) (x:=l[k]!) (by rw[getElem!_pos l k Vn,List.getElem?_eq_getElem Vn])
         have gb:=x_Best (l:=l) (k:=(l[j]!).key) (all:=false) ⟨hl,hk⟩
         rw[hbk]at gb
         have iN:M.take (n+1)=M.take n++[l[k]!]:=by
          rw[<-List.take_append_getElem hnM]
          rw[List.getElem?_eq_getElem hnM]at hMn;rw[Option.some.inj hMn]
         generalize l[j]! =x at*;generalize l[k]! =y at*;simp-implicitDefEqProofs (disch:=(first|omega|decide)) only[go_sem,↓reduceIte,seval,ae,tkn,q1,q2,q3,q4,q5,q6,q7,ej,ek,gb,List.length_map]
         exact⟨⟨Nat.le_of_eq V3.symm,by omega⟩,⟨n+1,hnM⟩,⟨by show n+1=(M.take (n+1)).length;rw[List.length_take];omega,by show _=(M.take (n+1)).map It.enc;rw[iN];exact jU _ y⟩,by show M.length-(n+1)<M.length-n;omega⟩
theorem bp:ai Tryz.prog QJ Tryz.f93.ntmps (Tryz.f93.body.getD .skip)=true:=by kernel_rfl
theorem NF(l:List ax)(hl:l.length<=1000000):az Tryz.prog 93 [.ad (l.map ax.enc)] (· = .ad (l.map ax.enc)):=by
 cases l with
 |nil=>
  refine Gj ?_ ?_
  · refine aa zR mixed Tryz.func93 rfl (Nat.le_of_ble_eq_true rfl) bp ?_
    unfold Tryz.f93;simp-implicitDefEqProofs (disch:=(first|omega|decide)) only[go_sem,↓reduceIte,seval]
  · refine aa zR mixed Tryz.func93 rfl (Nat.le_of_ble_eq_true rfl) bp ?_
    unfold Tryz.f93;simp-implicitDefEqProofs (disch:=(first|omega|decide)) only[go_sem,↓reduceIte,seval]
 |cons r l=>
  refine aa zR mixed Tryz.func93 rfl (Nat.le_of_ble_eq_true rfl) bp ?_;unfold Tryz.f93;obtain⟨lo,hi,op⟩:=r;simp only[List.length_cons]at hl;simp-implicitDefEqProofs (disch:=(first|omega|decide)) only[go_sem,↓reduceIte,seval,List.length_map]
  exact⟨by omega,Nat.le_refl _,by rw[List.take_of_length_le (by simp)]⟩
@[simp] theorem map_LIt_inj{l m:List (List It)}:(l.map (fun x=>A.ad (x.map It.enc))=m.map (fun x=>A.ad (x.map It.enc)))=(l=m):=map_inj (fun a b h=>by simpa using h)
def NG:aj:=QJ.add 93 (entry (fun(l:List ax)=>[.ad (l.map ax.enc)]) (fun l=>l.length<=1000000) (fun l=> .ad (l.map ax.enc)))
theorem Y23g_ok:ag Tryz.prog NG:=zR.bG Tryz.func93 (by kernel_rfl) (by kernel_rfl) fun l h=>NF l h
@[go_sem] theorem Y23g_old{g:FuncId}{xs:List A}(h:g≠93):NG.f g xs=QJ.f g xs:=aj.ak h
theorem dr(l:List ax)(h:l.length<=1000000):NG.f 93 [.ad (l.map ax.enc)]=some (.ad (l.map ax.enc)):=aj.an (Γ:=QJ) (fun i j h=>by simpa[Prod.ext_iff,and_assoc]using h) l h
def FG:aj:=NG.add 90 (entry (fun(L:List (List It))=>[.ad (L.map fun m=> .ad (m.map It.enc))]) (fun L=>(L.length<=1000000/\L.flatten.length<=1000000)/\ ∀m∈L,∀x∈m,x.ok) (fun L=> .ad ((aN L.flatten).map It.enc)))
theorem Sr:ag Tryz.prog FG:=Y23g_ok.bG Tryz.func90 (by kernel_rfl) (by kernel_rfl) fun L h=>JO L h.1.1 h.2 h.1.2
@[go_sem] theorem Y23h_old{g:FuncId}{xs:List A}(h:g≠90):FG.f g xs=NG.f g xs:=aj.ak h
@[go_sem] theorem Y23h_s:FG.pl NG:=⟨fun _=>rfl,fun _=>rfl,rfl,fun _=>rfl,rfl,fun _=>rfl,rfl⟩
theorem zh(L:List (List It))(h:(L.length<=1000000/\L.flatten.length<=1000000)/\ ∀m∈L,∀x∈m,x.ok):FG.f 90 [.ad (L.map fun m=> .ad (m.map It.enc))]=some (.ad ((aN L.flatten).map It.enc)):=aj.an (Γ:=NG) (fun i j h=>by simpa[Prod.ext_iff,and_assoc]using h) L h
theorem Ss{l:List ax}(h:l.length<=1000000):NG.f 93 [.ad (l.map ax.enc)]=some (.ad (l.map ax.enc)):=dr l h
theorem NH{a b:List It}(h:a.length+b.length<=1000000)(ha: ∀x∈a,x.ok)(hb: ∀x∈b,x.ok):FG.f 90 [.ad [.ad (a.map It.enc),.ad (b.map It.enc)]]=some (.ad ((aN (a++b)).map It.enc)):=by
 have e: [a,b].flatten=a++b:=by simp
 have:=zh [a,b] ⟨⟨by simp,by rw[e,List.length_append];exact h⟩,fun m hm=>by
  simp only[List.mem_cons,List.not_mem_nil,or_false]at hm;rcases hm with rfl|rfl
  · exact ha
  · exact hb⟩
 rw[e]at this;exact this
theorem Dn:ai Tryz.prog FG Tryz.f58.ntmps (Tryz.f58.body.getD .skip)=true:=by kernel_rfl
theorem FH(s:bh)(k:List UInt8)(hl:s.aK.length<=1000000):az Tryz.prog 58 [s.enc,.str k] (· = .int .i64 (lF s.aK k)):=by
 refine aa Sr mixed Tryz.func58 rfl (Nat.le_of_ble_eq_true rfl) Dn ?_;unfold Tryz.f58;obtain⟨id,F,I,K,ct⟩:=s;simp only[bh.enc,bh.cells]at*;simp-implicitDefEqProofs (disch:=(first|omega|decide)) only[go_sem,↓reduceIte,seval,List.length_map]
 refine ao [1,2] (ι:={i:Nat//i<=I.length/\ ∀j,j<i-> ∀h:j<I.length,(I[j].key==k)=false}) (fun i=>[(5,.int .i64 i.1)]) (fun _=>[]) (fun i=>I.length-i.1) ⟨0,by omega,fun j hj=>absurd hj (by omega)⟩ (Nat.zero_le _) ?_ ?_
 · simp-implicitDefEqProofs (disch:=(first|omega|decide)) only[go_sem,↓reduceIte,seval]
   try rfl
 · rintro⟨i,hi,hd⟩
   simp only;by_cases aw:i<I.length
   · have ae:(i:Int)<(I.length:Int):=by omega
     have p1:(0:Int)<=(i:Int):=by omega
     have t1:((i:Nat):Int).toNat=i:=Int.toNat_natCast _;have e1:=dK aw;cases hk:I[i].key==k with
     |true=>
      have hp:lF I k=(i:Int):=by unfold lF;rw[List.findIdx?_eq_some_iff_getElem.2 ⟨aw,hk,fun j hj=>by rw[hd j hj (by omega)];simp⟩]
      rw[hp]
      generalize I[i]=x at*;simp-implicitDefEqProofs (disch:=(first|omega|decide)) only[go_sem,↓reduceIte,seval,ae,p1,t1,e1,hk,wrap_i64,List.length_map]
     |false=>
      have Sh: ∀j,j<i+1-> ∀h:j<I.length,(I[j].key==k)=false:=fun j hj h=>by
       by_cases e:j=i
       · subst e;exact hk
       · exact hd j (by omega) h
      generalize I[i]=x at*;simp-implicitDefEqProofs (disch:=(first|omega|decide)) only[go_sem,↓reduceIte,seval,ae,p1,t1,e1,hk,wrap_i64,List.length_map]
      exact⟨⟨i+1,aw,Sh⟩,by simp,by show I.length-(i+1)<I.length-i;omega⟩
   · have ae: ¬(i:Int)<(I.length:Int):=by omega
     have hp:lF I k= -1:=by unfold lF;rw[List.findIdx?_eq_none_iff.2 fun x hx=>by obtain⟨j,hj,rfl⟩:=List.getElem_of_mem hx;exact hd j (by omega) hj]
     rw[hp]
     simp-implicitDefEqProofs (disch:=(first|omega|decide)) only[go_sem,↓reduceIte,seval,ae,List.length_map]
def FI:aj:=FG.add 58 (entry (fun(v:bh×List UInt8)=>[v.1.enc,.str v.2]) (fun v=>v.1.aK.length<=1000000) (fun v=> .int .i64 (lF v.1.aK v.2)))
theorem JP:ag Tryz.prog FI:=Sr.bG Tryz.func58 (by kernel_rfl) (by kernel_rfl) fun v h=>FH v.1 v.2 h
@[go_sem] theorem Y23i_old{g:FuncId}{xs:List A}(h:g≠58):FI.f g xs=FG.f g xs:=aj.ak h
@[go_sem] theorem Y23i_s:FI.pl FG:=⟨fun _=>rfl,fun _=>rfl,rfl,fun _=>rfl,rfl,fun _=>rfl,rfl⟩
theorem wR(v:bh×List UInt8)(h:v.1.aK.length<=1000000):FI.f 58 [v.1.enc,.str v.2]=some (.int .i64 (lF v.1.aK v.2)):=aj.an (Γ:=FG) (fun i j h=>by simpa[Prod.ext_iff,and_assoc]using h) v h
theorem JQ{s:bh}{k:List UInt8}(h:s.aK.length<=1000000):FI.f 58 [.agg [.int .i64 s.id,.ad (s.fl.map ax.enc),.ad (s.aK.map It.enc),.ad (s.kn.map Pc.enc),.int .i64 s.ct],.str k]=some (.int .i64 (lF s.aK k)):=wR (s,k) h
theorem wS(l:List It)(k:List UInt8):(lF l k= -1/\er l k=none)\/ ∃i,∃h:i<l.length,lF l k=(i:Int)/\er l k=some l[i]:=by
 unfold lF er;cases h:l.findIdx? (fun x=>x.key==k)with
 |none=>
  refine .inl ⟨rfl, ?_⟩
  rw[List.find?_eq_none]
  intro x hx;have:=List.findIdx?_eq_none_iff.1 h x hx;simpa using this
 |some i=>
  obtain⟨hi,h1,h2⟩:=List.findIdx?_eq_some_iff_getElem.1 h;refine .inr ⟨i,hi,rfl, ?_⟩
  rw[List.find?_eq_some_iff_getElem]
  exact⟨h1,i,hi,rfl,fun j hj=>by simpa using h2 j hj⟩
def cP(l:List It)(k:List UInt8):Int:=match er l k with|some x=>x.bq|none=>0
theorem FJ:ai Tryz.prog FI Tryz.f119.ntmps (Tryz.f119.body.getD .skip)=true:=by kernel_rfl
theorem JR(s:bh)(k:List UInt8)(hl:s.aK.length<=1000000):az Tryz.prog 119 [s.enc,.str k] (· = .int .i64 (cP s.aK k)):=by
 refine aa JP mixed Tryz.func119 rfl (Nat.le_of_ble_eq_true rfl) FJ ?_;unfold Tryz.f119;have g:=JQ (s:=s) (k:=k) hl;have hp:=wS s.aK k;obtain⟨id,F,I,K,ct⟩:=s;simp only[bh.enc,bh.cells]at*;unfold cP;rcases hp with⟨h1,h2⟩|⟨i,hi,h1,h2⟩
 · rw[h1]at g
   rw[h2]
   simp-implicitDefEqProofs (disch:=(first|omega|decide)) only[go_sem,↓reduceIte,seval,g]
 · rw[h1]at g
   rw[h2]
   have e1:=dK hi;have q1: ¬((i:Int)<0):=by omega
   have q2:(0:Int)<=(i:Int):=by omega
   have q3:(i:Int)<(I.length:Int):=by omega
   have q4:((i:Nat):Int).toNat=i:=Int.toNat_natCast _;generalize I[i]=x at*;simp-implicitDefEqProofs (disch:=(first|omega|decide)) only[go_sem,↓reduceIte,seval,g,e1,q1,q2,q3,q4,List.length_map]
def bF(s:bh)(x:It):It:=⟨x.key,s.id,s.ct+1,x.bq,x.prio,x.dead,x.body⟩
structure m_(s:bh)(x:It):Prop where
 fl:s.fl.length<=1000000
 aK:s.aK.length<=999999/\sP s.aK
 kn:cC s.kn/\cC (s.kn++eQ x.key [⟨s.id,s.ct+1⟩])
 ok:x.ok
 ct:0<=s.ct/\s.ct<=1099511627776
theorem JS:ai Tryz.prog FI Tryz.f118.ntmps (Tryz.f118.body.getD .skip)=true:=by kernel_rfl
theorem NI(s:bh)(x:It)(h:m_ s x):az Tryz.prog 118 [s.enc,x.enc] (· =(cO s (bF s x)).enc):=by
 refine aa JP mixed Tryz.func118 rfl (Nat.le_of_ble_eq_true rfl) JS ?_;unfold Tryz.f118;obtain⟨h1,⟨h2,h3⟩,⟨h4,h5⟩,h6,h7,h8⟩:=h;have gA:=q_Add (k:=s.kn) (x:=x.key) (l:=[⟨s.id,s.ct+1⟩]) h4 h5 h6.1 (by simp)
 have gM:=NH (a:=[bF s x]) (b:=s.aK) (by simp;omega) (fun y hy=>by obtain rfl:=List.mem_singleton.1 hy;exact h6) h3;have gC:=Ss (l:=s.fl) h1;simp only[cO,bh.enc,bh.cells,It.enc]
 rw[show [bF s x]++s.aK=bF s x::s.aK from rfl]at gM;have hv:(bF s x).key=x.key:=rfl;have hr:(bF s x).rep=s.id:=rfl;have hc:(bF s x).cu=s.ct+1:=rfl;rw[hv,hr,hc]
 generalize aN (bF s x::s.aK)=M at*;generalize aV (df (s.kn++eQ x.key [⟨s.id,s.ct+1⟩]))=Q at*;simp only[List.map_cons,List.map_nil,It.enc,bS.enc,bS.cells,bF]at gM gA;simp-implicitDefEqProofs (disch:=(first|omega|decide)) only[go_sem,↓reduceIte,seval,gA,gM,gC,wrap_i64,List.length_map]
def NJ:aj:=FI.add 118 (entry (fun(v:bh×It)=>[v.1.enc,v.2.enc]) (fun v=>m_ v.1 v.2) (fun v=>(cO v.1 (bF v.1 v.2)).enc))
theorem Y23j_ok:ag Tryz.prog NJ:=JP.bG Tryz.func118 (by kernel_rfl) (by kernel_rfl) fun v h=>NI v.1 v.2 h
@[go_sem] theorem Y23j_old{g:FuncId}{xs:List A}(h:g≠118):NJ.f g xs=FI.f g xs:=aj.ak h
theorem Dp(v:bh×It)(h:m_ v.1 v.2):NJ.f 118 [v.1.enc,v.2.enc]=some ((cO v.1 (bF v.1 v.2)).enc):=aj.an (Γ:=FI) (fun i j h=>by simpa[Prod.ext_iff,and_assoc]using h) v h
theorem YV{s:bh}{x:It}(h:m_ s x):NJ.f 118 [.agg [.int .i64 s.id,.ad (s.fl.map ax.enc),.ad (s.aK.map It.enc),.ad (s.kn.map Pc.enc),.int .i64 s.ct],.agg [.str x.key,.int .i64 x.rep,.int .i64 x.cu,.int .i64 x.bq,.int .i64 x.prio,.bool x.dead,.str x.body]]=some (cO s (bF s x)).enc:=Dp (s,x) h
def JT:aj:=NJ.add 56 (entry (fun(s:bh)=>[s.enc]) (fun s=>s_ s) (fun s=> .bool (cp s)))
theorem Su:ag Tryz.prog JT:=Y23j_ok.bG Tryz.func56 (by kernel_rfl) (by kernel_rfl) fun s h=>rR s h
@[go_sem] theorem Y23k_old{g:FuncId}{xs:List A}(h:g≠56):JT.f g xs=NJ.f g xs:=aj.ak h
@[go_sem] theorem Y23k_s:JT.pl NJ:=⟨fun _=>rfl,fun _=>rfl,rfl,fun _=>rfl,rfl,fun _=>rfl,rfl⟩
theorem gI(s:bh)(h:s_ s):JT.f 56 [s.enc]=some (.bool (cp s)):=aj.an (Γ:=NJ) (fun i j h=>by simpa[Prod.ext_iff,and_assoc]using h) s h
def cd:bh:=⟨0,[],[],[],0⟩
def fj(k:List UInt8)(prio:Int)(body:List UInt8):Bool:= !decide (1<=k.length/\k.length<=16)||decide (prio<0)||decide (255<prio)||decide (64<body.length)
def a_(s:bh)(k:List UInt8)(prio:Int)(body:List UInt8):Int:=
 if cp s=false then 41 else if fj k prio body=true then 2 else if ar s.fl k=false then 30
 else if s.ct=1099511627776\/cP s.aK k=1099511627776 then 33 else if er s.aK k=none/\s.aK.length=4096 then 32 else 0
def kD(s:bh)(k:List UInt8)(prio:Int)(body:List UInt8):It:=⟨k,0,0,cP s.aK k+1,prio,false,body⟩
def lG(s:bh)(k:List UInt8)(prio:Int)(body:List UInt8):bh:=if a_ s k prio body=0 then cO s (bF s (kD s k prio body))else cd
def iA(s:bh)(k:List UInt8)(prio:Int)(body:List UInt8):A:= .cx [(lG s k prio body).enc,.int .i64 (a_ s k prio body)]
theorem fk{s:bh}(h:cp s=true)(k:List UInt8):0<=cP s.aK k/\cP s.aK k<=1099511627776:=by
 unfold cP;cases hg:er s.aK k with
 |none=>simp
 |some x=>
  have hx:=List.mem_of_find?_eq_some hg;have hr:=(dE s).1 h;have:=hr.right x hx;simp only[aM,Bool.and_eq_true,decide_eq_true_eq]at this;show 0<=x.bq/\x.bq<=_;omega
theorem UZ(l:List It)(k:List UInt8): ∃(o:It) (ok:Bool),JI (er l k)= .cx [o.enc,.bool ok]/\o.bq=cP l k/\(ok=false ↔ er l k=none)/\(∀x,er l k=some x->o=x):=by
 unfold cP;cases h:er l k with
 |none=>exact⟨YI,false,rfl,rfl,by simp,fun x e=>by cases e⟩
 |some x=>exact⟨x,true,rfl,rfl,by simp,fun y e=>by cases e;rfl⟩
theorem Dq:ai Tryz.prog JT Tryz.f61.ntmps (Tryz.f61.body.getD .skip)=true:=by kernel_rfl
theorem FK(s:bh)(k:List UInt8)(prio:Int)(body:List UInt8)(h:s_ s)(hk:k.length<=9223372036854775807)(hb:body.length<=9223372036854775807)(hp:a_ s k prio body=0->m_ s (kD s k prio body)):
 az Tryz.prog 61 [s.enc,.str k,.int .i64 prio,.str body] (· =iA s k prio body):=by
 refine aa Su mixed Tryz.func61 rfl (Nat.le_of_ble_eq_true rfl) Dq ?_;unfold Tryz.f61;have gG:=Sq (s:=s) (k:=k) h.aK.1;have gR:=gI s h;have gK:=xV (s:=k) hk;have gH:=kA (l:=s.fl) (s:=k) (by have:=h.fl.1;omega) h.fl.2 hk;have ER: ∀hh:cp s=true,_:=fun hh=>fk hh k;unfold iA lG;obtain⟨o,ok,hgA,U0,fF,G0⟩:=UZ s.aK k;rw[hgA]at gG;simp only[bh.enc,bh.cells,It.enc]at*;rw[U0]at gG;have fail: ∀e:Int,e≠0->a_ s k prio body=e->A.cx [.agg [.int .i64 0,.ad [],.ad [],.ad [],.int .i64 0],.int .i64 e]= .cx [.agg [.int .i64 (if a_ s k prio body=0 then cO s (bF s (kD s k prio body))else cd).id,.ad ((if a_ s k prio body=0 then cO s (bF s (kD s k prio body))else cd).fl.map ax.enc),.ad ((if a_ s k prio body=0 then cO s (bF s (kD s k prio body))else cd).aK.map It.enc),.ad ((if a_ s k prio body=0 then cO s (bF s (kD s k prio body))else cd).kn.map Pc.enc),.int .i64 (if a_ s k prio body=0 then cO s (bF s (kD s k prio body))else cd).ct],.int .i64 (a_ s k prio body)]:=fun e he hc=>by rw[hc,if_neg he];rfl
 generalize hZ:A.cx [.agg [.int .i64 (if a_ s k prio body=0 then cO s (bF s (kD s k prio body))else cd).id,.ad ((if a_ s k prio body=0 then cO s (bF s (kD s k prio body))else cd).fl.map ax.enc),.ad ((if a_ s k prio body=0 then cO s (bF s (kD s k prio body))else cd).aK.map It.enc),.ad ((if a_ s k prio body=0 then cO s (bF s (kD s k prio body))else cd).kn.map Pc.enc),.int .i64 (if a_ s k prio body=0 then cO s (bF s (kD s k prio body))else cd).ct],.int .i64 (a_ s k prio body)]=Z at*;cases hR:cp s with
 |false=>
  have fl:=fail 41 (by decide) (by unfold a_;rw[if_pos hR])
  rw[hR]at gR;simp-implicitDefEqProofs (disch:=(first|omega|decide)) only[go_sem,↓reduceIte,seval,gG,gR,fl]
 |true=>
  have ER:=ER hR;rw[hR]at gR;have hC:a_ s k prio body=if fj k prio body=true then 2 else if ar s.fl k=false then 30 else if s.ct=1099511627776\/cP s.aK k=1099511627776 then 33 else if er s.aK k=none/\s.aK.length=4096 then 32 else 0:=by unfold a_;rw[if_neg (by rw[hR];simp)]
  have bad:fj k prio body=true->A.cx [.agg [.int .i64 0,.ad [],.ad [],.ad [],.int .i64 0],.int .i64 2]=Z:=fun hb=>fail 2 (by decide) (by rw[hC,if_pos hb])
  cases b1:decide (1<=k.length/\k.length<=16)with
  |false=>
   have fl:=bad (by unfold fj;rw[b1];rfl)
   rw[b1]at gK;simp-implicitDefEqProofs (disch:=(first|omega|decide)) only[go_sem,↓reduceIte,seval,gG,gR,gK,fl]
  |true=>
   rw[b1]at gK;by_cases b2:prio<0
   · have fl:=bad (by unfold fj;rw[b1,decide_eq_true b2];rfl)
     simp-implicitDefEqProofs (disch:=(first|omega|decide)) only[go_sem,↓reduceIte,seval,gG,gR,gK,b2,fl]
   · by_cases b3:255<prio
     · have fl:=bad (by unfold fj;rw[b1,decide_eq_true b3];simp)
       simp-implicitDefEqProofs (disch:=(first|omega|decide)) only[go_sem,↓reduceIte,seval,gG,gR,gK,b2,b3,fl]
     · by_cases b4:64<body.length
       · have fl:=bad (by unfold fj;rw[decide_eq_true b4];simp)
         have NK:(64:Int)<(body.length:Int):=by omega
         simp-implicitDefEqProofs (disch:=(first|omega|decide)) only[go_sem,↓reduceIte,seval,gG,gR,gK,b2,b3,NK,fl]
       · have NK: ¬(64:Int)<(body.length:Int):=by omega
         have hbf: ¬fj k prio body=true:=by unfold fj;rw[b1,decide_eq_false b2,decide_eq_false b3,decide_eq_false b4];simp
         rw[if_neg hbf]at hC;cases b5:ar s.fl k with
         |false=>
          have fl:=fail 30 (by decide) (by rw[hC,if_pos b5])
          rw[b5]at gH;simp-implicitDefEqProofs (disch:=(first|omega|decide)) only[go_sem,↓reduceIte,seval,gG,gR,gK,gH,b2,b3,NK,fl]
         |true=>
          rw[b5]at gH;rw[if_neg (by rw[b5];simp)]at hC;cases b6:s.ct==1099511627776 with
          |true=>
           have fl:=fail 33 (by decide) (by rw[hC,if_pos (.inl (by simpa using b6))])
           simp-implicitDefEqProofs (maxSteps:=600000) (disch:=(first|omega|decide)) only[go_sem,↓reduceIte,seval,gG,gR,gK,gH,b2,b3,NK,b6,fl]
          |false=>
           cases b7:cP s.aK k==1099511627776 with
           |true=>
            have fl:=fail 33 (by decide) (by rw[hC,if_pos (.inr (by simpa using b7))])
            simp-implicitDefEqProofs (maxSteps:=600000) (disch:=(first|omega|decide)) only[go_sem,↓reduceIte,seval,gG,gR,gK,gH,b2,b3,NK,b6,b7,fl]
           |false=>
            rw[if_neg (by simp at b6 b7;omega)]at hC;cases b8:(s.aK.length:Int)==4096 with
            |true=>
             cases ok with
             |false=>
              have fl:=fail 32 (by decide) (by rw[hC,if_pos ⟨fF.1 rfl,by simp at b8;omega⟩])
              simp-implicitDefEqProofs (maxSteps:=600000) (disch:=(first|omega|decide)) only[go_sem,↓reduceIte,seval,gG,gR,gK,gH,b2,b3,NK,b6,b7,b8,fl,List.length_map]
             |true=>
              have h0:a_ s k prio body=0:=by rw[hC,if_neg (fun e=>by have:=fF.2 e.1;cases this)]
              have gP:=YV (hp h0)
              rw[h0,if_pos rfl]at hZ;simp only[kD,bh.enc,bh.cells]at gP hZ;simp-implicitDefEqProofs (maxSteps:=600000) (disch:=(first|omega|decide)) only[go_sem,↓reduceIte,seval,gG,gR,gK,gH,gP,b2,b3,NK,b6,b7,b8,hZ,wrap_i64,List.length_map]
            |false=>
             have h0:a_ s k prio body=0:=by rw[hC,if_neg (fun e=>by simp at b8;omega)]
             have gP:=YV (hp h0)
             rw[h0,if_pos rfl]at hZ;simp only[kD,bh.enc,bh.cells]at gP hZ;cases ok<;>simp-implicitDefEqProofs (maxSteps:=600000) (disch:=(first|omega|decide)) only[go_sem,↓reduceIte,seval,gG,gR,gK,gH,gP,b2,b3,NK,b6,b7,b8,hZ,wrap_i64,List.length_map]
def JU:aj:=JT.add 61 (entry (fun(v:bh×List UInt8×Int×List UInt8)=>[v.1.enc,.str v.2.1,.int .i64 v.2.2.1,.str v.2.2.2]) (fun v=>(s_ v.1/\(a_ v.1 v.2.1 v.2.2.1 v.2.2.2=0->m_ v.1 (kD v.1 v.2.1 v.2.2.1 v.2.2.2)))/\v.2.1.length<=9223372036854775807/\v.2.2.2.length<=9223372036854775807) (fun v=>iA v.1 v.2.1 v.2.2.1 v.2.2.2))
theorem Sv:ag Tryz.prog JU:=Su.bG Tryz.func61 (by kernel_rfl) (by kernel_rfl) fun v h=>FK v.1 v.2.1 v.2.2.1 v.2.2.2 h.1.1 h.2.1 h.2.2 h.1.2
@[go_sem] theorem Y23l_old{g:FuncId}{xs:List A}(h:g≠61):JU.f g xs=JT.f g xs:=aj.ak h
@[go_sem] theorem Y23l_s:JU.pl JT:=⟨fun _=>rfl,fun _=>rfl,rfl,fun _=>rfl,rfl,fun _=>rfl,rfl⟩
theorem wT(v:bh×List UInt8×Int×List UInt8)(h:(s_ v.1/\(a_ v.1 v.2.1 v.2.2.1 v.2.2.2=0->m_ v.1 (kD v.1 v.2.1 v.2.2.1 v.2.2.2)))/\v.2.1.length<=9223372036854775807/\v.2.2.2.length<=9223372036854775807):JU.f 61 [v.1.enc,.str v.2.1,.int .i64 v.2.2.1,.str v.2.2.2]=some (iA v.1 v.2.1 v.2.2.1 v.2.2.2):=aj.an (Γ:=JT) (fun i j h=>by simpa[Prod.ext_iff,and_assoc]using h) v h
theorem JV{s:bh}{k:List UInt8}{prio:Int}{body:List UInt8}(h:(s_ s/\(a_ s k prio body=0->m_ s (kD s k prio body)))/\k.length<=9223372036854775807/\body.length<=9223372036854775807):JU.f 61 [.agg [.int .i64 s.id,.ad (s.fl.map ax.enc),.ad (s.aK.map It.enc),.ad (s.kn.map Pc.enc),.int .i64 s.ct],.str k,.int .i64 prio,.str body]=some (iA s k prio body):=wT (s,k,prio,body) h
def rS(l:List It)(k:List UInt8):Bool:=match er l k with|some x=>x.dead|none=>true
def rT(l:List It)(k:List UInt8):Int:=match er l k with|some x=>x.prio|none=>0
def dm(s:bh)(k:List UInt8):Int:=
 if cp s=false then 41 else if rS s.aK k=true then 31
 else if s.ct=1099511627776\/cP s.aK k=1099511627776 then 33 else 0
def oe(s:bh)(k:List UInt8):It:=⟨k,0,0,cP s.aK k+1,rT s.aK k,true,[]⟩
def JW(s:bh)(k:List UInt8):bh:=if dm s k=0 then cO s (bF s (oe s k))else cd
def Dr(s:bh)(k:List UInt8):A:= .cx [(JW s k).enc,.int .i64 (dm s k)]
theorem QN(l:List It)(k:List UInt8): ∃(o:It) (ok:Bool),JI (er l k)= .cx [o.enc,.bool ok]/\o.bq=cP l k/\rS l k=(!ok||o.dead)/\(ok=true->o.prio=rT l k):=by
 unfold cP rS rT;cases h:er l k with
 |none=>exact⟨YI,false,rfl,rfl,rfl,fun e=>by cases e⟩
 |some x=>exact⟨x,true,rfl,rfl,by simp,fun _=>rfl⟩
theorem zi:ai Tryz.prog JU Tryz.f59.ntmps (Tryz.f59.body.getD .skip)=true:=by kernel_rfl
theorem Ds(s:bh)(k:List UInt8)(h:s_ s)(hk:k.length<=9223372036854775807)(hp:dm s k=0->m_ s (oe s k)):
 az Tryz.prog 59 [s.enc,.str k] (· =Dr s k):=by
 refine aa Sv mixed Tryz.func59 rfl (Nat.le_of_ble_eq_true rfl) zi ?_;unfold Tryz.f59;have gG:=Sq (s:=s) (k:=k) h.aK.1;have gR:=gI s h;have ER: ∀hh:cp s=true,_:=fun hh=>fk hh k;unfold Dr JW;obtain⟨o,ok,hgA,U0,hod,hop⟩:=QN s.aK k;rw[hgA]at gG;simp only[bh.enc,bh.cells,It.enc]at*;rw[U0]at gG;have fail: ∀e:Int,e≠0->dm s k=e->A.cx [.agg [.int .i64 0,.ad [],.ad [],.ad [],.int .i64 0],.int .i64 e]= .cx [.agg [.int .i64 (if dm s k=0 then cO s (bF s (oe s k))else cd).id,.ad ((if dm s k=0 then cO s (bF s (oe s k))else cd).fl.map ax.enc),.ad ((if dm s k=0 then cO s (bF s (oe s k))else cd).aK.map It.enc),.ad ((if dm s k=0 then cO s (bF s (oe s k))else cd).kn.map Pc.enc),.int .i64 (if dm s k=0 then cO s (bF s (oe s k))else cd).ct],.int .i64 (dm s k)]:=fun e he hc=>by rw[hc,if_neg he];rfl
 generalize hZ:A.cx [.agg [.int .i64 (if dm s k=0 then cO s (bF s (oe s k))else cd).id,.ad ((if dm s k=0 then cO s (bF s (oe s k))else cd).fl.map ax.enc),.ad ((if dm s k=0 then cO s (bF s (oe s k))else cd).aK.map It.enc),.ad ((if dm s k=0 then cO s (bF s (oe s k))else cd).kn.map Pc.enc),.int .i64 (if dm s k=0 then cO s (bF s (oe s k))else cd).ct],.int .i64 (dm s k)]=Z at*;cases hR:cp s with
 |false=>
  have fl:=fail 41 (by decide) (by unfold dm;rw[if_pos hR])
  rw[hR]at gR;simp-implicitDefEqProofs (disch:=(first|omega|decide)) only[go_sem,↓reduceIte,seval,gG,gR,fl]
 |true=>
  have ER:=ER hR;rw[hR]at gR;have hC:dm s k=if rS s.aK k=true then 31 else if s.ct=1099511627776\/cP s.aK k=1099511627776 then 33 else 0:=by unfold dm;rw[if_neg (by rw[hR];simp)]
  rw[hod]at hC;cases ok with
  |false=>
   have fl:=fail 31 (by decide) (by rw[hC];rfl)
   simp-implicitDefEqProofs (disch:=(first|omega|decide)) only[go_sem,↓reduceIte,seval,gG,gR,fl]
  |true=>
   have hop:=hop rfl;rw[hop]at gG;cases hdd:o.dead with
   |true=>
    rw[hdd]at gG hC;have fl:=fail 31 (by decide) (by rw[hC];rfl)
    simp-implicitDefEqProofs (disch:=(first|omega|decide)) only[go_sem,↓reduceIte,seval,gG,gR,fl]
   |false=>
    rw[hdd]at gG hC;rw[if_neg (by simp)]at hC;cases b6:s.ct==1099511627776 with
    |true=>
     have fl:=fail 33 (by decide) (by rw[hC,if_pos (.inl (by simpa using b6))])
     simp-implicitDefEqProofs (disch:=(first|omega|decide)) only[go_sem,↓reduceIte,seval,gG,gR,b6,fl]
    |false=>
     cases b7:cP s.aK k==1099511627776 with
     |true=>
      have fl:=fail 33 (by decide) (by rw[hC,if_pos (.inr (by simpa using b7))])
      simp-implicitDefEqProofs (disch:=(first|omega|decide)) only[go_sem,↓reduceIte,seval,gG,gR,b6,b7,fl]
     |false=>
      have h0:dm s k=0:=by rw[hC,if_neg (by simp at b6 b7;omega)]
      have gP:=YV (hp h0)
      rw[h0,if_pos rfl]at hZ;simp only[oe,bh.enc,bh.cells]at gP hZ;simp-implicitDefEqProofs (disch:=(first|omega|decide)) only[go_sem,↓reduceIte,seval,gG,gR,gP,b6,b7,hZ,wrap_i64,List.length_map]
def NL:aj:=JU.add 59 (entry (fun(v:bh×List UInt8)=>[v.1.enc,.str v.2]) (fun v=>(s_ v.1/\(dm v.1 v.2=0->m_ v.1 (oe v.1 v.2)))/\v.2.length<=9223372036854775807) (fun v=>Dr v.1 v.2))
theorem Y23m_ok:ag Tryz.prog NL:=Sv.bG Tryz.func59 (by kernel_rfl) (by kernel_rfl) fun v h=>Ds v.1 v.2 h.1.1 h.2 h.1.2
@[go_sem] theorem Y23m_old{g:FuncId}{xs:List A}(h:g≠59):NL.f g xs=JU.f g xs:=aj.ak h
theorem uV(v:bh×List UInt8)(h:(s_ v.1/\(dm v.1 v.2=0->m_ v.1 (oe v.1 v.2)))/\v.2.length<=9223372036854775807):NL.f 59 [v.1.enc,.str v.2]=some (Dr v.1 v.2):=aj.an (Γ:=JU) (fun i j h=>by simpa[Prod.ext_iff,and_assoc]using h) v h
theorem YW{s:bh}{k:List UInt8}(h:(s_ s/\(dm s k=0->m_ s (oe s k)))/\k.length<=9223372036854775807):NL.f 59 [.agg [.int .i64 s.id,.ad (s.fl.map ax.enc),.ad (s.aK.map It.enc),.ad (s.kn.map Pc.enc),.int .i64 s.ct],.str k]=some (Dr s k):=uV (s,k) h
def JX:aj:=NL.add 94 (entry (fun(v:Int×Int)=>[.agg [.int .i64 v.1,.int .i64 v.2]]) (fun v=>True) (fun v=> .bool (aL ⟨v.1,v.2⟩)))
theorem Sw:ag Tryz.prog JX:=Y23m_ok.bG Tryz.func94 (by kernel_rfl) (by kernel_rfl) fun v h=>mg v.1 v.2
@[go_sem] theorem Y23n_old{g:FuncId}{xs:List A}(h:g≠94):JX.f g xs=NL.f g xs:=aj.ak h
@[go_sem] theorem Y23n_s:JX.pl NL:=⟨fun _=>rfl,fun _=>rfl,rfl,fun _=>rfl,rfl,fun _=>rfl,rfl⟩
theorem wU(v:Int×Int)(h:True):JX.f 94 [.agg [.int .i64 v.1,.int .i64 v.2]]=some (.bool (aL ⟨v.1,v.2⟩)):=aj.an (Γ:=NL) (fun i j h=>by simpa[Prod.ext_iff,and_assoc]using h) v h
theorem YX{r c:Int}:JX.f 94 [.agg [.int .i64 r,.int .i64 c]]=some (.bool (aL ⟨r,c⟩)):=wU (r,c) trivial
theorem JY:ai Tryz.prog JX Tryz.f33.ntmps (Tryz.f33.body.getD .skip)=true:=by kernel_rfl
theorem NM(k:List UInt8)(v:bS)(hk:k.length<=9223372036854775807)(hv:aL v=true):az Tryz.prog 33 [.str k,.agg [.int .i64 v.r,.int .i64 v.c]] (· = .ad ((eQ k [v]).map Pc.enc)):=by
 refine aa Sw mixed Tryz.func33 rfl (Nat.le_of_ble_eq_true rfl) JY ?_;unfold Tryz.f33;have g1:=YX (r:=v.r) (c:=v.c)
 have g2:=q_One (x:=k) (l:=[v]) hk (by simp)
 rw[show(⟨v.r,v.c⟩:bS)=v from rfl,hv]at g1;simp only[List.map_cons,List.map_nil,bS.enc,bS.cells]at g2;generalize(eQ k [v]).map Pc.enc=R at*;simp-implicitDefEqProofs (disch:=(first|omega|decide)) only[go_sem,↓reduceIte,seval,g1,g2]
def NN:aj:=JX.add 33 (entry (fun(v:List UInt8×Int×Int)=>[.str v.1,.agg [.int .i64 v.2.1,.int .i64 v.2.2]]) (fun v=>v.1.length<=9223372036854775807/\aL ⟨v.2.1,v.2.2⟩=true) (fun v=> .ad ((eQ v.1 [⟨v.2.1,v.2.2⟩]).map Pc.enc)))
theorem Y23o_ok:ag Tryz.prog NN:=Sw.bG Tryz.func33 (by kernel_rfl) (by kernel_rfl) fun v h=>NM v.1 ⟨v.2.1,v.2.2⟩ h.1 h.2
@[go_sem] theorem Y23o_old{g:FuncId}{xs:List A}(h:g≠33):NN.f g xs=JX.f g xs:=aj.ak h
theorem Dt(v:List UInt8×Int×Int)(h:v.1.length<=9223372036854775807/\aL ⟨v.2.1,v.2.2⟩=true):NN.f 33 [.str v.1,.agg [.int .i64 v.2.1,.int .i64 v.2.2]]=some (.ad ((eQ v.1 [⟨v.2.1,v.2.2⟩]).map Pc.enc)):=aj.an (Γ:=JX) (fun i j h=>by simpa[Prod.ext_iff,and_assoc]using h) v h
def JZ:aj:=NN.add 119 (entry (fun(v:bh×List UInt8)=>[v.1.enc,.str v.2]) (fun v=>v.1.aK.length<=1000000) (fun v=> .int .i64 (cP v.1.aK v.2)))
theorem Sx:ag Tryz.prog JZ:=Y23o_ok.bG Tryz.func119 (by kernel_rfl) (by kernel_rfl) fun v h=>JR v.1 v.2 h
@[go_sem] theorem Y23p_old{g:FuncId}{xs:List A}(h:g≠119):JZ.f g xs=NN.f g xs:=aj.ak h
@[go_sem] theorem Y23p_s:JZ.pl NN:=⟨fun _=>rfl,fun _=>rfl,rfl,fun _=>rfl,rfl,fun _=>rfl,rfl⟩
theorem zj(v:bh×List UInt8)(h:v.1.aK.length<=1000000):JZ.f 119 [v.1.enc,.str v.2]=some (.int .i64 (cP v.1.aK v.2)):=aj.an (Γ:=NN) (fun i j h=>by simpa[Prod.ext_iff,and_assoc]using h) v h
theorem y_Ver{k:List UInt8}{r c:Int}(h:k.length<=9223372036854775807/\aL ⟨r,c⟩=true):NN.f 33 [.str k,.agg [.int .i64 r,.int .i64 c]]=some (.ad ((eQ k [⟨r,c⟩]).map Pc.enc)):=Dt (k,r,c) h
theorem QO{s:bh}{k:List UInt8}(h:s.aK.length<=1000000):JZ.f 119 [.agg [.int .i64 s.id,.ad (s.fl.map ax.enc),.ad (s.aK.map It.enc),.ad (s.kn.map Pc.enc),.int .i64 s.ct],.str k]=some (.int .i64 (cP s.aK k)):=zj (s,k) h
def cD(x:It)(p:List It×Bool)(y:It):List It×Bool:=
 (if y.key==x.key then(if !p.2&& !aQ y.key x.key then p.1++[x]else p.1)else(if !p.2&& !aQ y.key x.key then p.1++[x]else p.1)++[y],p.2|| !aQ y.key x.key)
def J0(x:It)(l:List It):List It:=if(l.foldl (cD x) ([],false)).2 then(l.foldl (cD x) ([],false)).1 else(l.foldl (cD x) ([],false)).1++[x]
theorem U3(x:It)(p:List It×Bool)(y:It):(cD x p y).1.length<=p.1.length+2:=by unfold cD;simp only;split<;>split<;>simp
theorem wV(x:It): ∀(l:List It) (p:List It×Bool),(l.foldl (cD x) p).1.length<=p.1.length+2*l.length
 | [],p=>by simp
 |y::l,p=>by
  rw[List.foldl_cons]
  have h1:=wV x l (cD x p y)
  have h2:=U3 x p y;simp only[List.length_cons];omega
structure jG(s:bh)(x:It):Prop where
 aK:s.aK.length<=100000/\sP s.aK
 kn:gn s.kn/\s.kn.length<=500
 one:gn (eQ x.key [⟨s.id,s.ct+1⟩])/\(eQ x.key [⟨s.id,s.ct+1⟩]).length<=500
 ok:x.ok
 ct:0<=s.ct/\s.ct<=1099511627776
 v:aL ⟨s.id,s.ct+1⟩=true
 rk:0<=cP s.aK x.key/\cP s.aK x.key<=1099511627776
def lH(s:bh)(x:It):It:=⟨x.key,s.id,s.ct+1,cP s.aK x.key+1,x.prio,x.dead,x.body⟩
def J1(s:bh)(x:It):bh:=⟨s.id,s.fl,J0 (lH s x) s.aK,aV (df (s.kn++eQ x.key [⟨s.id,s.ct+1⟩])),s.ct+1⟩
theorem J2:ai Tryz.prog JZ Tryz.f120.ntmps (Tryz.f120.body.getD .skip)=true:=by kernel_rfl
theorem NO(s:bh)(x:It)(h:jG s x):az Tryz.prog 120 [s.enc,x.enc] (· =(J1 s x).enc):=by
 refine aa Sx mixed Tryz.func120 rfl (Nat.le_of_ble_eq_true rfl) J2 ?_;unfold Tryz.f120;obtain⟨⟨h1,h2⟩,⟨h3,h4⟩,⟨h5,h6⟩,h7,⟨h8,h9⟩,h10,h11,h12⟩:=h;have tk: ∀m:List It,(m.map It.enc).take m.length=m.map It.enc:=fun m=>List.take_of_length_le (by simp)
 have gR:=QO (s:=s) (k:=x.key) (by omega)
 have gV:=y_Ver (k:=x.key) (r:=s.id) (c:=s.ct+1) ⟨h7.1,h10⟩
 have gJ:=Yk (a:=s.kn) (b:=eQ x.key [⟨s.id,s.ct+1⟩]) h3 h5 ⟨h4,h6⟩
 simp only[J1,bh.enc,bh.cells,It.enc]
 generalize aV (df (s.kn++eQ x.key [⟨s.id,s.ct+1⟩]))=Q at*;generalize(eQ x.key [⟨s.id,s.ct+1⟩]).map Pc.enc=O at*;obtain⟨X,hX⟩: ∃X,lH s x=X:=⟨_,rfl⟩
 have hXe:A.agg [.str x.key,.int .i64 s.id,.int .i64 (s.ct+1),.int .i64 (cP s.aK x.key+1),.int .i64 x.prio,.bool x.dead,.str x.body]=X.enc:=by rw[<-hX];rfl
 have hXk:X.key=x.key:=by rw[<-hX];rfl
 rw[hX]
 simp-implicitDefEqProofs (disch:=(first|omega|decide)) only[go_sem,↓reduceIte,seval,gR,wrap_i64,List.length_map]
 refine DJ 3 2 7 _ rfl rfl ?_;refine ao [2,3,4,5] (ι:={i:Nat//i<=s.aK.length}) (fun i=>[(7,.int .i64 i.1),(6,.bool ((s.aK.take i.1).foldl (cD X) ([],false)).2)]) (fun i=>[(3,.box [.int .i64 s.id,.ad (s.fl.map ax.enc),.row 4 0 7 ((s.aK.take i.1).foldl (cD X) ([],false)).1.length false,.bK,.int .i64 (s.ct+1)]),(4,.row 7 (((s.aK.take i.1).foldl (cD X) ([],false)).1.map It.enc))]) (fun i=>s.aK.length-i.1) ⟨0,by omega⟩ (Nat.zero_le _) ?_ ?_
 · simp-implicitDefEqProofs (disch:=(first|omega|decide)) only[go_sem,↓reduceIte,seval]
   first|done|(simp;done)|exact⟨rfl,rfl⟩
 · rintro⟨i,hi⟩
   simp only;by_cases aw:i<s.aK.length
   · have ae:(i:Int)<(s.aK.length:Int):=by omega
     have p1:(0:Int)<=(i:Int):=by omega
     have t1:((i:Nat):Int).toNat=i:=Int.toNat_natCast _;have e1:=dK aw;have oy:=h2 _ (List.getElem_mem aw)
     have bR:(s.aK.take (i+1)).foldl (cD X) ([],false)=cD X ((s.aK.take i).foldl (cD X) ([],false)) s.aK[i]:=by rw[<-List.take_append_getElem aw,List.foldl_append];rfl
     have oN:((s.aK.take i).foldl (cD X) ([],false)).1.length<=200000:=by
      have:=wV X (s.aK.take i) ([],false)
      rw[List.length_take]at this;simp only[List.length_nil]at this;omega
     have gL:=je (a:=s.aK[i].key) (b:=x.key) ⟨oy.1,h7.1⟩
     rw[show(ck s.aK[i].key x.key== -1)=aQ s.aK[i].key x.key from rfl]at gL
     have fin: ∀(o2:List It) (d2:Bool) (c:Nat) (es:List A),(s.aK.take (i+1)).foldl (cD X) ([],false)=(o2,d2)->c=o2.length->es=o2.map It.enc-> ∃j:{i:Nat//i<=s.aK.length},(((i:Int)+1=(j.1:Int)/\d2=((s.aK.take j.1).foldl (cD X) ([],false)).2)/\c=((s.aK.take j.1).foldl (cD X) ([],false)).1.length/\es=((s.aK.take j.1).foldl (cD X) ([],false)).1.map It.enc)/\s.aK.length-j.1<s.aK.length-i:=fun o2 d2 c es q1 q2 q3=>
      ⟨⟨i+1,aw⟩,⟨⟨by simp,by rw[q1]⟩,by rw[q1];exact q2,by rw[q1];exact q3⟩,by show s.aK.length-(i+1)<s.aK.length-i;omega⟩
     generalize s.aK[i]=y at*;generalize(s.aK.take i).foldl (cD X) ([],false)=p at*;obtain⟨o,d⟩:=p;simp only at oN⊢;have N8:=tk o;simp only[cD,hXk]at bR;cases d with
     |true=>
      cases hk:y.key==x.key with
      |true=>
       simp only[hk,Bool.not_true,Bool.false_and,Bool.false_eq_true,if_false,if_true,Bool.true_or]at bR;simp-implicitDefEqProofs (disch:=(first|omega|decide)) only[go_sem,↓reduceIte,seval,ae,p1,t1,e1,hk,wrap_i64,List.length_map]
       exact fin o true _ _ bR rfl rfl
      |false=>
       simp only[hk,Bool.not_true,Bool.false_and,Bool.false_eq_true,if_false,if_true,Bool.true_or]at bR;simp-implicitDefEqProofs (disch:=(first|omega|decide)) only[go_sem,↓reduceIte,seval,ae,p1,t1,e1,hk,N8,wrap_i64,List.length_map]
       exact⟨⟨Nat.le_refl _,by omega⟩,fin (o++[y]) true _ _ bR (by simp) (jU o y)⟩
     |false=>
      cases hl:aQ y.key x.key with
      |true=>
       rw[hl]at gL;cases hk:y.key==x.key with
       |true=>
          simp only[hk,hl,Bool.not_true,Bool.not_false,Bool.true_and,Bool.false_eq_true,if_false,if_true,Bool.false_or]at bR;simp-implicitDefEqProofs (disch:=(first|omega|decide)) only[go_sem,↓reduceIte,seval,ae,p1,t1,e1,gL,hk,wrap_i64,List.length_map]
          exact fin o false _ _ bR rfl rfl
       |false=>
          simp only[hk,hl,Bool.not_true,Bool.not_false,Bool.true_and,Bool.false_eq_true,if_false,if_true,Bool.false_or]at bR;simp-implicitDefEqProofs (maxSteps:=600000) (disch:=(first|omega|decide)) only[go_sem,↓reduceIte,seval,ae,p1,t1,e1,gL,hk,N8,wrap_i64,List.length_map]
          exact⟨⟨Nat.le_refl _,by omega⟩,fin (o++[y]) false _ _ bR (by simp) (jU o y)⟩
      |false=>
       rw[hl]at gL;have tk2:(o.map It.enc++[A.agg [.str x.key,.int .i64 s.id,.int .i64 (s.ct+1),.int .i64 (cP s.aK x.key+1),.int .i64 x.prio,.bool x.dead,.str x.body]]).take (o.length+1)=o.map It.enc++[A.agg [.str x.key,.int .i64 s.id,.int .i64 (s.ct+1),.int .i64 (cP s.aK x.key+1),.int .i64 x.prio,.bool x.dead,.str x.body]]:=List.take_of_length_le (by simp)
       cases hk:y.key==x.key with
       |true=>
          simp only[hk,hl,Bool.not_true,Bool.not_false,Bool.true_and,Bool.false_eq_true,if_false,if_true,Bool.false_or]at bR;simp-implicitDefEqProofs (disch:=(first|omega|decide)) only[go_sem,↓reduceIte,seval,ae,p1,t1,e1,gL,hk,N8,wrap_i64,List.length_map]
          exact⟨⟨Nat.le_refl _,by omega⟩,fin (o++[X]) true _ _ bR (by simp) (by rw[hXe];simp)⟩
       |false=>
          simp only[hk,hl,Bool.not_true,Bool.not_false,Bool.true_and,Bool.false_eq_true,if_false,if_true,Bool.false_or]at bR;simp-implicitDefEqProofs (maxSteps:=600000) (disch:=(first|omega|decide)) only[go_sem,↓reduceIte,seval,ae,p1,t1,e1,gL,hk,N8,tk2,wrap_i64,List.length_map]
          exact⟨⟨Nat.le_refl _,by omega⟩,⟨by simp,by omega⟩,fin (o++[X]++[y]) true _ _ bR (by simp) (by rw[hXe,<-jU];simp)⟩
   · have ae: ¬(i:Int)<(s.aK.length:Int):=by omega
     rw[List.take_of_length_le (by omega)]
     have oN:(s.aK.foldl (cD X) ([],false)).1.length<=200000:=by
      have:=wV X s.aK ([],false)
      simp only[List.length_nil]at this;omega
     have TO:J0 X s.aK=if(s.aK.foldl (cD X) ([],false)).2 then(s.aK.foldl (cD X) ([],false)).1 else(s.aK.foldl (cD X) ([],false)).1++[X]:=rfl
     generalize s.aK.foldl (cD X) ([],false)=p at*;obtain⟨o,d⟩:=p;simp only at oN TO⊢;have N8:=tk o;cases d with
     |true=>
      rw[TO,if_pos rfl]
      simp-implicitDefEqProofs (disch:=(first|omega|decide)) only[go_sem,↓reduceIte,seval,ae,gV,gJ,N8,wrap_i64,List.length_map]
      exact Nat.le_refl _
     |false=>
      rw[TO,if_neg (by simp)]
      simp-implicitDefEqProofs (disch:=(first|omega|decide)) only[go_sem,↓reduceIte,seval,ae,gV,gJ,N8,wrap_i64,List.length_map]
      refine⟨⟨Nat.le_refl _,by omega⟩,by simp, ?_⟩
      rw[List.take_of_length_le (by simp),hXe,List.map_append];rfl
theorem U4{x y:It}(h1:aQ y.key x.key=false)(h2:aQ x.key y.key=false):y.key=x.key:=by
 rcases oL.tri y.key x.key with r|r|r
 · rw[h1]at r;cases r
 · exact r
 · rw[h2]at r;cases r
theorem NP(x:It): ∀(l:List It) (p:List It×Bool),(l.foldl (cD x) p).2=(p.2||l.any fun y=> !aQ y.key x.key)
 | [],p=>by simp
 |y::l,p=>by
  rw[List.foldl_cons,NP x l,List.any_cons]
  simp[cD,Bool.or_assoc]
theorem NQ(x z:It): ∀(l:List It) (p:List It×Bool),z∈(l.foldl (cD x) p).1 ↔ z∈p.1\/(z∈l/\z.key≠x.key)\/(z=x/\p.2=false/\(l.any fun y=> !aQ y.key x.key)=true)
 | [],p=>by simp
 |y::l,p=>by
  rw[List.foldl_cons,NQ x z l,List.any_cons]
  obtain⟨o,d⟩:=p;simp only[cD]
  cases hk:y.key==x.key<;>cases hl:aQ y.key x.key<;>cases d<;>simp only[Bool.not_false,Bool.not_true,Bool.and_true,Bool.and_false,Bool.true_and,Bool.false_and,Bool.or_true,Bool.or_false,Bool.true_or,Bool.false_or,if_true,Bool.false_eq_true,if_false,List.mem_append,List.mem_singleton,List.mem_cons]
  all_goals
   have Tf:(y.key=x.key)\/ ¬(y.key=x.key):=Decidable.em _
   first
    |(have e:y.key=x.key:=by simpa using hk
      constructor
      · intro h;simp at h⊢;grind
      · intro h;simp at h⊢;grind)
    |(have e: ¬y.key=x.key:=by simpa using hk
      constructor
      · intro h;simp at h⊢;grind
      · intro h;simp at h⊢;grind)
theorem YY{x z:It}{l:List It}:z∈J0 x l ↔ z=x\/(z∈l/\z.key≠x.key):=by
 unfold J0;have h1:=NP x l ([],false)
 have h2:=NQ x z l ([],false)
 rw[Bool.false_or]at h1;cases hd:(l.any fun y=> !aQ y.key x.key)with
 |true=>
  rw[hd]at h1;rw[if_pos h1,h2,hd]
  simp only[List.not_mem_nil,false_or,and_true]
  exact Or.comm
 |false=>
  rw[hd]at h1;rw[if_neg (by rw[h1];simp),List.mem_append,h2,hd]
  simp only[List.not_mem_nil,false_or,Bool.false_eq_true,and_false,or_false,List.mem_singleton]
  exact Or.comm
theorem qT(x:It): ∀(l:List It) (o:List It) (d:Bool),l.Pairwise (fun a b=>aQ a.key b.key=true)->o.Pairwise (fun a b=>aQ a.key b.key=true)->(∀a∈o,∀b∈l,aQ a.key b.key=true)->
 (d=false-> ∀a∈o,aQ a.key x.key=true)->(d=true-> ∀b∈l,aQ b.key x.key=false)->
 (if(l.foldl (cD x) (o,d)).2 then(l.foldl (cD x) (o,d)).1 else(l.foldl (cD x) (o,d)).1++[x]).Pairwise (fun a b=>aQ a.key b.key=true)
 | [],o,d,_,ho,_,h1,_=>by
  cases d with
  |true=>exact ho
  |false=>
   simp only[List.foldl_nil,Bool.false_eq_true,if_false]
   rw[List.pairwise_append]
   exact⟨ho,by simp,fun a ha b hb=>by rw[List.mem_singleton.1 hb];exact h1 rfl a ha⟩
 |y::l,o,d,hl,ho,oN,h1,h2=>by
  rw[List.pairwise_cons]at hl;rw[List.foldl_cons]
  have snoc: ∀{o:List It} {z:It},o.Pairwise (fun a b=>aQ a.key b.key=true)->(∀a∈o,aQ a.key z.key=true)->(o++[z]).Pairwise (fun a b=>aQ a.key b.key=true):=fun{o z} g1 g2=>by
   rw[List.pairwise_append]
   exact⟨g1,by simp,fun a ha b hb=>by rw[List.mem_singleton.1 hb];exact g2 a ha⟩
  cases hk:y.key==x.key with
  |true=>
   have e:y.key=x.key:=by simpa using hk
   have aw:aQ y.key x.key=false:=by rw[e];exact lt_irrefl _
   have rest: ∀b∈l,aQ b.key x.key=false:=fun b hb=>by rw[<-e];exact eR (hl.1 b hb)
   cases d with
   |true=>
    have:cD x (o,true) y=(o,true):=by simp[cD,hk]
    rw[this]
    exact qT x l o true hl.2 ho (fun a ha b hb=>oN a ha b (by simp[hb])) (fun e=>by cases e) (fun _=>rest)
   |false=>
    have:cD x (o,false) y=(o++[x],true):=by simp[cD,hk,aw]
    rw[this]
    refine qT x l _ true hl.2 (snoc ho (h1 rfl)) (fun a ha b hb=> ?_) (fun e=>by cases e) (fun _=>rest)
    rcases List.mem_append.1 ha with ha|ha
    · exact oN a ha b (by simp[hb])
    · rw[List.mem_singleton.1 ha,<-e];exact hl.1 b hb
  |false=>
   have e:y.key≠x.key:=by simpa using hk
   cases aw:aQ y.key x.key with
   |true=>
    cases d with
    |true=>have:=h2 rfl y (by simp);rw[aw]at this;cases this
    |false=>
     have:cD x (o,false) y=(o++[y],false):=by simp[cD,hk,aw]
     rw[this]
     refine qT x l _ false hl.2 (snoc ho (fun a ha=>oN a ha y (by simp))) (fun a ha b hb=> ?_) (fun _ a ha=> ?_) (fun e=>by cases e)
     · rcases List.mem_append.1 ha with ha|ha
       · exact oN a ha b (by simp[hb])
       · rw[List.mem_singleton.1 ha];exact hl.1 b hb
     · rcases List.mem_append.1 ha with ha|ha
       · exact h1 rfl a ha
       · rw[List.mem_singleton.1 ha];exact aw
   |false=>
    have LW:aQ x.key y.key=true:=by
     cases g:aQ x.key y.key with
     |true=>rfl
     |false=>exact absurd (U4 aw g) e
    have rest: ∀b∈l,aQ b.key x.key=false:=fun b hb=>eR (bW LW (hl.1 b hb))
    cases d with
    |true=>
     have:cD x (o,true) y=(o++[y],true):=by simp[cD,hk]
     rw[this]
     refine qT x l _ true hl.2 (snoc ho (fun a ha=>oN a ha y (by simp))) (fun a ha b hb=> ?_) (fun e=>by cases e) (fun _=>rest)
     rcases List.mem_append.1 ha with ha|ha
     · exact oN a ha b (by simp[hb])
     · rw[List.mem_singleton.1 ha];exact hl.1 b hb
    |false=>
     have:cD x (o,false) y=(o++[x]++[y],true):=by simp[cD,hk,aw]
     rw[this]
     refine qT x l _ true hl.2 (snoc (snoc ho (h1 rfl)) (fun a ha=> ?_)) (fun a ha b hb=> ?_) (fun e=>by cases e) (fun _=>rest)
     · rcases List.mem_append.1 ha with ha|ha
       · exact oN a ha y (by simp)
       · rw[List.mem_singleton.1 ha];exact LW
     · rcases List.mem_append.1 ha with ha|ha
       · rcases List.mem_append.1 ha with ha|ha
         · exact oN a ha b (by simp[hb])
         · rw[List.mem_singleton.1 ha];exact bW LW (hl.1 b hb)
       · rw[List.mem_singleton.1 ha];exact hl.1 b hb
theorem insF_up{x:It}{l:List It}(h:l.Pairwise fun a b=>aQ a.key b.key=true):(J0 x l).Pairwise fun a b=>aQ a.key b.key=true:=
 qT x l [] false h List.Pairwise.nil (fun a ha=>by cases ha) (fun _ a ha=>by cases ha) (fun e=>by cases e)
theorem filter_one{l:List It}{z:It}(h:l.Pairwise fun a b=>aQ a.key b.key=true)(hz:z∈l):l.filter (fun y=>z.key==y.key)=[z]:=by
 induction l with
 |nil=>cases hz
 |cons y l ih=>
  rw[List.pairwise_cons]at h;rcases List.mem_cons.1 hz with rfl|hz
  · have:l.filter (fun y=>z.key==y.key)=[]:=by
     rw[List.filter_eq_nil_iff]
     intro a ha e;have:=h.1 a ha;rw[show a.key=z.key from(by simpa using e:z.key=a.key).symm,lt_irrefl]at this;cases this
    rw[List.filter_cons_of_pos (by simp),this]
  · have bU: ¬(z.key==y.key)=true:=fun e=>by
     have:=h.1 z hz;rw[show z.key=y.key by simpa using e,lt_irrefl]at this;cases this
    rw[List.filter_cons_of_neg (p:=fun y:It=>z.key==y.key) bU,ih h.2 hz]
theorem filter_none{l:List It}{k:List UInt8}(h: ∀y∈l,y.key≠k):l.filter (fun y=>k==y.key)=[]:=by
 rw[List.filter_eq_nil_iff]
 intro a ha e;exact h a ha (by simpa using e:k=a.key).symm
theorem bt_asy{x y:It}(h:bt x y=true):bt y x=false:=by
 cases g:bt y x with
 |false=>rfl
 |true=>
  have:=bt_tr h g;rw[QD]at this;cases this
theorem sX{x:It}{l:List It}(hl:l.Pairwise fun a b=>aQ a.key b.key=true)(hr: ∀y∈l,aM y=true)(hx:aM x=true)(hb: ∀y∈l,y.key=x.key->bt x y=true):J0 x l=aN (x::l):=by
 have hf:(x::l).filter aM=x::l:=List.filter_eq_self.2 fun y hy=>by
  rcases List.mem_cons.1 hy with rfl|hy
  · exact hx
  · exact hr y hy
 unfold aN;rw[hf]
 refine Yw ib (insF_up hl) fun z=> ?_;rw[YY]
 have hfe:eqv cm z=fun y=>z.key==y.key:=funext fun y=>eqvI;rw[hfe]
 by_cases hk:z.key=x.key
 · have h1:(x::l).filter (fun y=>z.key==y.key)=x::l.filter (fun y=>z.key==y.key):=List.filter_cons_of_pos (by simp[hk])
   rw[h1]
   have hbest:kB bt (x::l.filter (fun y=>z.key==y.key))=some x:=by
    by_cases he: ∃y∈l,y.key=z.key
    · obtain⟨y,hy,hyk⟩:=he
      rw[<-hyk,filter_one hl hy]
      have:=bt_asy (hb y hy (by rw[hyk,hk]))
      simp[kB,better,this]
    · rw[filter_none fun y hy e=>he ⟨y,hy,e⟩];rfl
   rw[hbest]
   constructor
   · rintro(rfl|⟨_,h⟩)
     · rfl
     · exact absurd hk h
   · intro h
     exact .inl (Option.some.inj h).symm
 · have h1:(x::l).filter (fun y=>z.key==y.key)=l.filter (fun y=>z.key==y.key):=List.filter_cons_of_neg (by simpa using hk)
   rw[h1]
   constructor
   · rintro(rfl|⟨h,_⟩)
     · exact absurd rfl hk
     · rw[filter_one hl h];rfl
   · intro h
     exact .inr ⟨(List.mem_filter.1 (mV h)).1,hk⟩
theorem get_mem{l:List It}{k:List UInt8}{y:It}(h:l.Pairwise fun a b=>aQ a.key b.key=true)(hy:y∈l)(hk:y.key=k):er l k=some y:=by
 unfold er;cases hg:l.find? (fun x=>x.key==k)with
 |none=>
  have:=List.find?_eq_none.1 hg y hy;exact absurd (by simpa using hk) this
 |some z=>
  have h1:=List.mem_of_find?_eq_some hg;have h2:=List.find?_some hg;have hzk:z.key=k:=by simpa using h2
  have e:=filter_one h hy;have hz:z∈l.filter (fun x=>y.key==x.key):=List.mem_filter.2 ⟨h1,by simp[hk,hzk]⟩
  rw[e]at hz;rw[List.mem_singleton.1 hz]
theorem Sy{s:bh}{x:It}(h:fi s)(hx:aM (lH s x)=true):J1 s x=cO s (lH s x):=by
 have:J0 (lH s x) s.aK=aN (lH s x::s.aK):=sX h.up h.right hx fun y hy hk=>by
  have hg:=get_mem h.up hy (show y.key=x.key from hk)
  have hr:cP s.aK x.key=y.bq:=by unfold cP;rw[hg]
  unfold bt;have:y.bq<(lH s x).bq:=by show y.bq<cP s.aK x.key+1;omega
  rw[decide_eq_true this];rfl
 unfold J1 cO;rw[this]
 rfl
def J3:aj:=JZ.add 120 (entry (fun(v:bh×It)=>[v.1.enc,v.2.enc]) (fun v=>jG v.1 v.2) (fun v=>(J1 v.1 v.2).enc))
theorem Y23q_ok:ag Tryz.prog J3:=Sx.bG Tryz.func120 (by kernel_rfl) (by kernel_rfl) fun v h=>NO v.1 v.2 h
@[go_sem] theorem Y23q_old{g:FuncId}{xs:List A}(h:g≠120):J3.f g xs=JZ.f g xs:=aj.ak h
theorem Du(v:bh×It)(h:jG v.1 v.2):J3.f 120 [v.1.enc,v.2.enc]=some ((J1 v.1 v.2).enc):=aj.an (Γ:=JZ) (fun i j h=>by simpa[Prod.ext_iff,and_assoc]using h) v h
def J4:aj:=J3.add 21 (entry (fun(s:bh)=>[s.enc]) (fun s=>s_ s) (fun s=> .bool (cp s)))
theorem Sz:ag Tryz.prog J4:=Y23q_ok.bG Tryz.func21 (by kernel_rfl) (by kernel_rfl) fun s h=>rP s h
@[go_sem] theorem Y23r_old{g:FuncId}{xs:List A}(h:g≠21):J4.f g xs=J3.f g xs:=aj.ak h
@[go_sem] theorem Y23r_s:J4.pl J3:=⟨fun _=>rfl,fun _=>rfl,rfl,fun _=>rfl,rfl,fun _=>rfl,rfl⟩
theorem jH(s:bh)(h:s_ s):J4.f 21 [s.enc]=some (.bool (cp s)):=aj.an (Γ:=J3) (fun i j h=>by simpa[Prod.ext_iff,and_assoc]using h) s h
theorem YZ{s:bh}{x:It}(h:jG s x):J3.f 120 [.agg [.int .i64 s.id,.ad (s.fl.map ax.enc),.ad (s.aK.map It.enc),.ad (s.kn.map Pc.enc),.int .i64 s.ct],.agg [.str x.key,.int .i64 x.rep,.int .i64 x.cu,.int .i64 x.bq,.int .i64 x.prio,.bool x.dead,.str x.body]]=some (J1 s x).enc:=Du (s,x) h
def wW(k:List UInt8)(prio:Int)(body:List UInt8):It:=⟨k,0,0,0,prio,false,body⟩
def uW(s:bh)(k:List UInt8):It:=⟨k,0,0,0,rT s.aK k,true,[]⟩
theorem na{s:bh}(h:fi s)(hc:s.ct≠1099511627776):aL ⟨s.id,s.ct+1⟩=true:=by have:=h.id;have:=h.ct;simp[aL];omega
theorem putW_eq{s:bh}{k:List UInt8}{prio:Int}{body:List UInt8}(h:a_ s k prio body=0):J1 s (wW k prio body)=cO s (bF s (kD s k prio body)):=by
 unfold a_ at h;split at h
 · cases h
 rename_i hR;have hR:cp s=true:=by simpa using hR
 have hS:=(dE s).1 hR;have ER:=fk hR k;split at h
 · cases h
 rename_i hb;split at h
 · cases h
 split at h
 · cases h
 rename_i hm;have hv:=na hS (fun e=>hm (.inl e))
 have e:lH s (wW k prio body)=bF s (kD s k prio body):=rfl;rw[<-e]
 refine Sy hS ?_;unfold fj at hb;simp only[Bool.or_eq_true,Bool.not_eq_true',decide_eq_false_iff_not,decide_eq_true_eq,not_or]at hb;obtain⟨⟨⟨b1,b2⟩,b3⟩,b4⟩:=hb;unfold aM;have hk:(lH s (wW k prio body)).key=k:=rfl;have QP:aL ⟨(lH s (wW k prio body)).rep,(lH s (wW k prio body)).cu⟩=true:=hv;rw[QP]
 have r1:(lH s (wW k prio body)).bq=cP s.aK k+1:=rfl;have r2:(lH s (wW k prio body)).prio=prio:=rfl;have r3:(lH s (wW k prio body)).body=body:=rfl;have r4:(lH s (wW k prio body)).dead=false:=rfl;rw[hk,r1,r2,r3,r4]
 have b1:1<=k.length/\k.length<=16:=Decidable.not_not.1 b1;have hm2:cP s.aK k≠1099511627776:=fun e=>hm (.inr e)
 simp only[decide_eq_true b1,Bool.true_and,Bool.not_false,Bool.true_or,Bool.and_true,Bool.and_eq_true,decide_eq_true_eq]
 omega
theorem Dv:ai Tryz.prog J4 Tryz.f62.ntmps (Tryz.f62.body.getD .skip)=true:=by kernel_rfl
theorem FL(s:bh)(k:List UInt8)(prio:Int)(body:List UInt8)(h:s_ s)(hk:k.length<=9223372036854775807)(hb:body.length<=9223372036854775807)(hp:a_ s k prio body=0->jG s (wW k prio body)):
 az Tryz.prog 62 [s.enc,.str k,.int .i64 prio,.str body] (· =iA s k prio body):=by
 refine aa Sz mixed Tryz.func62 rfl (Nat.le_of_ble_eq_true rfl) Dv ?_;unfold Tryz.f62;have gR:=jH s h;have gK:=rN (s:=k) hk;have gH:=l6 (l:=s.fl) (s:=k) (by have:=h.fl.1;omega) h.fl.2 hk;have gP:=JQ (s:=s) (k:=k) h.aK.1;have gN:=QO (s:=s) (k:=k) h.aK.1;have hpg:=wS s.aK k;have ER: ∀hh:cp s=true,_:=fun hh=>fk hh k;unfold iA lG;simp only[bh.enc,bh.cells,It.enc]at*;have fail: ∀e:Int,e≠0->a_ s k prio body=e->A.cx [.agg [.int .i64 0,.ad [],.ad [],.ad [],.int .i64 0],.int .i64 e]= .cx [.agg [.int .i64 (if a_ s k prio body=0 then cO s (bF s (kD s k prio body))else cd).id,.ad ((if a_ s k prio body=0 then cO s (bF s (kD s k prio body))else cd).fl.map ax.enc),.ad ((if a_ s k prio body=0 then cO s (bF s (kD s k prio body))else cd).aK.map It.enc),.ad ((if a_ s k prio body=0 then cO s (bF s (kD s k prio body))else cd).kn.map Pc.enc),.int .i64 (if a_ s k prio body=0 then cO s (bF s (kD s k prio body))else cd).ct],.int .i64 (a_ s k prio body)]:=fun e he hc=>by rw[hc,if_neg he];rfl
 generalize hZ:A.cx [.agg [.int .i64 (if a_ s k prio body=0 then cO s (bF s (kD s k prio body))else cd).id,.ad ((if a_ s k prio body=0 then cO s (bF s (kD s k prio body))else cd).fl.map ax.enc),.ad ((if a_ s k prio body=0 then cO s (bF s (kD s k prio body))else cd).aK.map It.enc),.ad ((if a_ s k prio body=0 then cO s (bF s (kD s k prio body))else cd).kn.map Pc.enc),.int .i64 (if a_ s k prio body=0 then cO s (bF s (kD s k prio body))else cd).ct],.int .i64 (a_ s k prio body)]=Z at*;cases hR:cp s with
 |false=>
  have fl:=fail 41 (by decide) (by unfold a_;rw[if_pos hR])
  rw[hR]at gR;simp-implicitDefEqProofs (disch:=(first|omega|decide)) only[go_sem,↓reduceIte,seval,gR,fl]
 |true=>
  have ER:=ER hR;rw[hR]at gR;have hC:a_ s k prio body=if fj k prio body=true then 2 else if ar s.fl k=false then 30 else if s.ct=1099511627776\/cP s.aK k=1099511627776 then 33 else if er s.aK k=none/\s.aK.length=4096 then 32 else 0:=by unfold a_;rw[if_neg (by rw[hR];simp)]
  have bad:fj k prio body=true->A.cx [.agg [.int .i64 0,.ad [],.ad [],.ad [],.int .i64 0],.int .i64 2]=Z:=fun hb=>fail 2 (by decide) (by rw[hC,if_pos hb])
  cases b1:decide (1<=k.length/\k.length<=16)with
  |false=>
   have fl:=bad (by unfold fj;rw[b1];rfl)
   rw[b1]at gK;simp-implicitDefEqProofs (disch:=(first|omega|decide)) only[go_sem,↓reduceIte,seval,gR,gK,fl]
  |true=>
   rw[b1]at gK;by_cases b2:prio<0
   · have fl:=bad (by unfold fj;rw[b1,decide_eq_true b2];rfl)
     simp-implicitDefEqProofs (disch:=(first|omega|decide)) only[go_sem,↓reduceIte,seval,gR,gK,b2,fl]
   · by_cases b3:255<prio
     · have fl:=bad (by unfold fj;rw[b1,decide_eq_true b3];simp)
       simp-implicitDefEqProofs (disch:=(first|omega|decide)) only[go_sem,↓reduceIte,seval,gR,gK,b2,b3,fl]
     · by_cases b4:64<body.length
       · have fl:=bad (by unfold fj;rw[decide_eq_true b4];simp)
         have NK:(64:Int)<(body.length:Int):=by omega
         simp-implicitDefEqProofs (disch:=(first|omega|decide)) only[go_sem,↓reduceIte,seval,gR,gK,b2,b3,NK,fl]
       · have NK: ¬(64:Int)<(body.length:Int):=by omega
         have hbf: ¬fj k prio body=true:=by unfold fj;rw[b1,decide_eq_false b2,decide_eq_false b3,decide_eq_false b4];simp
         rw[if_neg hbf]at hC;cases b5:ar s.fl k with
         |false=>
          have fl:=fail 30 (by decide) (by rw[hC,if_pos b5])
          rw[b5]at gH;simp-implicitDefEqProofs (disch:=(first|omega|decide)) only[go_sem,↓reduceIte,seval,gR,gK,gH,b2,b3,NK,fl]
         |true=>
          rw[b5]at gH;rw[if_neg (by rw[b5];simp)]at hC;cases b6:s.ct==1099511627776 with
          |true=>
           have fl:=fail 33 (by decide) (by rw[hC,if_pos (.inl (by simpa using b6))])
           simp-implicitDefEqProofs (disch:=(first|omega|decide)) only[go_sem,↓reduceIte,seval,gR,gK,gH,b2,b3,NK,b6,fl]
          |false=>
           cases b7:cP s.aK k==1099511627776 with
           |true=>
            have fl:=fail 33 (by decide) (by rw[hC,if_pos (.inr (by simpa using b7))])
            simp-implicitDefEqProofs (disch:=(first|omega|decide)) only[go_sem,↓reduceIte,seval,gR,gK,gH,gN,b2,b3,NK,b6,b7,fl]
           |false=>
            rw[if_neg (by simp at b6 b7;omega)]at hC
            have ri:a_ s k prio body=0->J3.f 120 [.agg [.int .i64 s.id,.ad (s.fl.map ax.enc),.ad (s.aK.map It.enc),.ad (s.kn.map Pc.enc),.int .i64 s.ct],.agg [.str k,.int .i64 0,.int .i64 0,.int .i64 0,.int .i64 prio,.bool false,.str body]]=some (cO s (bF s (kD s k prio body))).enc:=fun h0=>by
             have:=YZ (hp h0)
             rw[putW_eq h0]at this;exact this
            rcases hpg with⟨q1,q2⟩|⟨i,hi,q1,q2⟩
            · rw[q1]at gP
              cases b8:(s.aK.length:Int)==4096 with
              |true=>
               have fl:=fail 32 (by decide) (by rw[hC,if_pos ⟨q2,by simp at b8;omega⟩])
               simp-implicitDefEqProofs (disch:=(first|omega|decide)) only[go_sem,↓reduceIte,seval,gR,gK,gH,gN,gP,b2,b3,NK,b6,b7,b8,fl,List.length_map]
              |false=>
               have h0:a_ s k prio body=0:=by rw[hC,if_neg (fun e=>by simp at b8;omega)]
               have ri:=ri h0;rw[h0,if_pos rfl]at hZ;simp only[bh.enc,bh.cells]at ri hZ;simp-implicitDefEqProofs (maxSteps:=600000) (disch:=(first|omega|decide)) only[go_sem,↓reduceIte,seval,gR,gK,gH,gN,gP,ri,b2,b3,NK,b6,b7,b8,hZ,wrap_i64,List.length_map]
            · rw[q1]at gP
              have q3: ¬((i:Int)<0):=by omega
              have h0:a_ s k prio body=0:=by rw[hC,if_neg (fun e=>by rw[q2]at e;cases e.1)]
              have ri:=ri h0;rw[h0,if_pos rfl]at hZ;simp only[bh.enc,bh.cells]at ri hZ;simp-implicitDefEqProofs (maxSteps:=600000) (disch:=(first|omega|decide)) only[go_sem,↓reduceIte,seval,gR,gK,gH,gN,gP,ri,q3,b2,b3,NK,b6,b7,hZ,wrap_i64,List.length_map]
def FM:aj:=J4.add 62 (entry (fun(v:bh×List UInt8×Int×List UInt8)=>[v.1.enc,.str v.2.1,.int .i64 v.2.2.1,.str v.2.2.2]) (fun v=>(s_ v.1/\(a_ v.1 v.2.1 v.2.2.1 v.2.2.2=0->jG v.1 (wW v.2.1 v.2.2.1 v.2.2.2)))/\v.2.1.length<=9223372036854775807/\v.2.2.2.length<=9223372036854775807) (fun v=>iA v.1 v.2.1 v.2.2.1 v.2.2.2))
theorem SA:ag Tryz.prog FM:=Sz.bG Tryz.func62 (by kernel_rfl) (by kernel_rfl) fun v h=>FL v.1 v.2.1 v.2.2.1 v.2.2.2 h.1.1 h.2.1 h.2.2 h.1.2
@[go_sem] theorem Y23s_old{g:FuncId}{xs:List A}(h:g≠62):FM.f g xs=J4.f g xs:=aj.ak h
@[go_sem] theorem Y23s_s:FM.pl J4:=⟨fun _=>rfl,fun _=>rfl,rfl,fun _=>rfl,rfl,fun _=>rfl,rfl⟩
theorem wX(v:bh×List UInt8×Int×List UInt8)(h:(s_ v.1/\(a_ v.1 v.2.1 v.2.2.1 v.2.2.2=0->jG v.1 (wW v.2.1 v.2.2.1 v.2.2.2)))/\v.2.1.length<=9223372036854775807/\v.2.2.2.length<=9223372036854775807):FM.f 62 [v.1.enc,.str v.2.1,.int .i64 v.2.2.1,.str v.2.2.2]=some (iA v.1 v.2.1 v.2.2.1 v.2.2.2):=aj.an (Γ:=J4) (fun i j h=>by simpa[Prod.ext_iff,and_assoc]using h) v h
theorem Y0{s:bh}{k:List UInt8}{prio:Int}{body:List UInt8}(h:(s_ s/\(a_ s k prio body=0->jG s (wW k prio body)))/\k.length<=9223372036854775807/\body.length<=9223372036854775807):FM.f 62 [.agg [.int .i64 s.id,.ad (s.fl.map ax.enc),.ad (s.aK.map It.enc),.ad (s.kn.map Pc.enc),.int .i64 s.ct],.str k,.int .i64 prio,.str body]=some (iA s k prio body):=wX (s,k,prio,body) h
theorem SB{s:bh}{k:List UInt8}(h:dm s k=0):cp s=true/\s.ct≠1099511627776/\cP s.aK k≠1099511627776/\ ∃o,er s.aK k=some o/\o.dead=false/\o.prio=rT s.aK k:=by
 unfold dm at h;split at h
 · cases h
 rename_i hR;split at h
 · cases h
 rename_i hd;split at h
 · cases h
 rename_i hm;refine⟨by simpa using hR,fun e=>hm (.inl e),fun e=>hm (.inr e), ?_⟩
 unfold rS at hd;unfold rT;cases hg:er s.aK k with
 |none=>rw[hg]at hd;simp at hd
 |some o=>rw[hg]at hd;exact⟨o,rfl,by simpa using hd,rfl⟩
theorem putD_eq{s:bh}{k:List UInt8}(h:dm s k=0):J1 s (uW s k)=cO s (bF s (oe s k)):=by
 obtain⟨hR,h1,h2,o,ho,hd,hp⟩:=SB h;have hS:=(dE s).1 hR;have ER:=fk hR k;have hv:=na hS h1;have U0:=hS.right o (List.mem_of_find?_eq_some ho)
 have fF:o.key=k:=by have:(o.key==k)=true:=List.find?_some (p:=fun x:It=>x.key==k) ho;simpa using this
 have e:lH s (uW s k)=bF s (oe s k):=rfl;rw[<-e]
 refine Sy hS ?_;unfold aM at U0⊢;have QP:aL ⟨(lH s (uW s k)).rep,(lH s (uW s k)).cu⟩=true:=hv;rw[QP]
 have r0:(lH s (uW s k)).key=k:=rfl;have r1:(lH s (uW s k)).bq=cP s.aK k+1:=rfl;have r2:(lH s (uW s k)).prio=rT s.aK k:=rfl;have r3:(lH s (uW s k)).body=[]:=rfl;have r4:(lH s (uW s k)).dead=true:=rfl;rw[r0,r1,r2,r3,r4,<-hp]
 rw[fF]at U0;simp only[Bool.and_eq_true,decide_eq_true_eq]at U0⊢;obtain⟨⟨⟨⟨⟨⟨⟨a1,a2⟩,a3⟩,a4⟩,a5⟩,a6⟩,a7⟩,a8⟩:=U0;exact⟨⟨⟨⟨⟨⟨⟨a1,trivial⟩,by omega⟩,by omega⟩,a5⟩,a6⟩,by simp⟩,by simp⟩
theorem zk:ai Tryz.prog FM Tryz.f60.ntmps (Tryz.f60.body.getD .skip)=true:=by kernel_rfl
theorem Dw(s:bh)(k:List UInt8)(h:s_ s)(hk:k.length<=9223372036854775807)(hp:dm s k=0->jG s (uW s k)):
 az Tryz.prog 60 [s.enc,.str k] (· =Dr s k):=by
 refine aa SA mixed Tryz.func60 rfl (Nat.le_of_ble_eq_true rfl) zk ?_;unfold Tryz.f60;have gR:=jH s h;have gP:=JQ (s:=s) (k:=k) h.aK.1;have gN:=QO (s:=s) (k:=k) h.aK.1;have hpg:=wS s.aK k;have ER: ∀hh:cp s=true,_:=fun hh=>fk hh k;unfold Dr JW;simp only[bh.enc,bh.cells,It.enc]at*;have fail: ∀e:Int,e≠0->dm s k=e->A.cx [.agg [.int .i64 0,.ad [],.ad [],.ad [],.int .i64 0],.int .i64 e]= .cx [.agg [.int .i64 (if dm s k=0 then cO s (bF s (oe s k))else cd).id,.ad ((if dm s k=0 then cO s (bF s (oe s k))else cd).fl.map ax.enc),.ad ((if dm s k=0 then cO s (bF s (oe s k))else cd).aK.map It.enc),.ad ((if dm s k=0 then cO s (bF s (oe s k))else cd).kn.map Pc.enc),.int .i64 (if dm s k=0 then cO s (bF s (oe s k))else cd).ct],.int .i64 (dm s k)]:=fun e he hc=>by rw[hc,if_neg he];rfl
 generalize hZ:A.cx [.agg [.int .i64 (if dm s k=0 then cO s (bF s (oe s k))else cd).id,.ad ((if dm s k=0 then cO s (bF s (oe s k))else cd).fl.map ax.enc),.ad ((if dm s k=0 then cO s (bF s (oe s k))else cd).aK.map It.enc),.ad ((if dm s k=0 then cO s (bF s (oe s k))else cd).kn.map Pc.enc),.int .i64 (if dm s k=0 then cO s (bF s (oe s k))else cd).ct],.int .i64 (dm s k)]=Z at*;cases hR:cp s with
 |false=>
  have fl:=fail 41 (by decide) (by unfold dm;rw[if_pos hR])
  rw[hR]at gR;simp-implicitDefEqProofs (disch:=(first|omega|decide)) only[go_sem,↓reduceIte,seval,gR,fl]
 |true=>
  have ER:=ER hR;rw[hR]at gR;have hC:dm s k=if rS s.aK k=true then 31 else if s.ct=1099511627776\/cP s.aK k=1099511627776 then 33 else 0:=by unfold dm;rw[if_neg (by rw[hR];simp)]
  rcases hpg with⟨q1,q2⟩|⟨i,hi,q1,q2⟩
  · rw[q1]at gP
    have fl:=fail 31 (by decide) (by rw[hC,if_pos (by unfold rS;rw[q2])])
    simp-implicitDefEqProofs (disch:=(first|omega|decide)) only[go_sem,↓reduceIte,seval,gR,gP,fl]
  · rw[q1]at gP
    have q3: ¬((i:Int)<0):=by omega
    have q4:(0:Int)<=(i:Int):=by omega
    have q5:(i:Int)<(s.aK.length:Int):=by omega
    have q6:((i:Nat):Int).toNat=i:=Int.toNat_natCast _;have e1:=dK hi;have hdd:rS s.aK k=s.aK[i].dead:=by unfold rS;rw[q2]
    have Kk:rT s.aK k=s.aK[i].prio:=by unfold rT;rw[q2]
    rw[<-hdd,<-Kk]at e1;cases b5:rS s.aK k with
    |true=>
     rw[b5]at e1;have fl:=fail 31 (by decide) (by rw[hC,if_pos b5])
     simp-implicitDefEqProofs (disch:=(first|omega|decide)) only[go_sem,↓reduceIte,seval,gR,gP,q3,q4,q5,q6,e1,fl,List.length_map]
    |false=>
     rw[b5]at e1;rw[if_neg (by rw[b5];simp)]at hC;cases b6:s.ct==1099511627776 with
     |true=>
      have fl:=fail 33 (by decide) (by rw[hC,if_pos (.inl (by simpa using b6))])
      simp-implicitDefEqProofs (disch:=(first|omega|decide)) only[go_sem,↓reduceIte,seval,gR,gP,q3,q4,q5,q6,e1,b6,fl,List.length_map]
     |false=>
      cases b7:cP s.aK k==1099511627776 with
      |true=>
       have fl:=fail 33 (by decide) (by rw[hC,if_pos (.inr (by simpa using b7))])
       simp-implicitDefEqProofs (disch:=(first|omega|decide)) only[go_sem,↓reduceIte,seval,gR,gP,gN,q3,q4,q5,q6,e1,b6,b7,fl,List.length_map]
      |false=>
       have h0:dm s k=0:=by rw[hC,if_neg (by simp at b6 b7;omega)]
       have gU:=YZ (hp h0)
       rw[putD_eq h0]at gU;rw[h0,if_pos rfl]at hZ;simp only[uW,bh.enc,bh.cells]at gU hZ;simp-implicitDefEqProofs (disch:=(first|omega|decide)) only[go_sem,↓reduceIte,seval,gR,gP,gN,gU,q3,q4,q5,q6,e1,b6,b7,hZ,wrap_i64,List.length_map]
def J5:aj:=FM.add 60 (entry (fun(v:bh×List UInt8)=>[v.1.enc,.str v.2]) (fun v=>(s_ v.1/\(dm v.1 v.2=0->jG v.1 (uW v.1 v.2)))/\v.2.length<=9223372036854775807) (fun v=>Dr v.1 v.2))
theorem SC:ag Tryz.prog J5:=SA.bG Tryz.func60 (by kernel_rfl) (by kernel_rfl) fun v h=>Dw v.1 v.2 h.1.1 h.2 h.1.2
@[go_sem] theorem Y23t_old{g:FuncId}{xs:List A}(h:g≠60):J5.f g xs=FM.f g xs:=aj.ak h
@[go_sem] theorem Y23t_s:J5.pl FM:=⟨fun _=>rfl,fun _=>rfl,rfl,fun _=>rfl,rfl,fun _=>rfl,rfl⟩
theorem uX(v:bh×List UInt8)(h:(s_ v.1/\(dm v.1 v.2=0->jG v.1 (uW v.1 v.2)))/\v.2.length<=9223372036854775807):J5.f 60 [v.1.enc,.str v.2]=some (Dr v.1 v.2):=aj.an (Γ:=FM) (fun i j h=>by simpa[Prod.ext_iff,and_assoc]using h) v h
theorem U5{s:bh}{k:List UInt8}(h:(s_ s/\(dm s k=0->jG s (uW s k)))/\k.length<=9223372036854775807):J5.f 60 [.agg [.int .i64 s.id,.ad (s.fl.map ax.enc),.ad (s.aK.map It.enc),.ad (s.kn.map Pc.enc),.int .i64 s.ct],.str k]=some (Dr s k):=uX (s,k) h
def Y3(k:List Pc)(w:Nat):Prop:= ∀p∈k,p.s.length+bj p.s<=w
theorem uY{k:List Pc}{w:Nat}(h:aS k=true)(hw:Y3 k w)(x:List UInt8):(setAt k x).length+bj (setAt k x)<=w:=by
 by_cases he: ∃p∈k,cg p.r x=true
 · obtain⟨p,hp,hx⟩:=he
   rw[uf h hp hx];exact hw p hp
 · have:k.filter (fun p=>cg p.r x)=[]:=List.filter_eq_nil_iff.2 fun p hp hx=>he ⟨p,hp,hx⟩
   have e:setAt k x=[]:=by unfold setAt;rw[this];rfl
   rw[e];exact Nat.zero_le _
theorem Y4{k:List Pc}{x:List UInt8}{W:Nat}(h:(setAt k x).length+bj (setAt k x)<=W):(df k x).length+bj (df k x)<=16+W:=by
 have h1:=MY (setAt k x)
 unfold df;omega
theorem SD{P:List UInt8->List ab}{es:List (List UInt8)}(hE:Kq P es){B:Nat}(hB: ∀x,(P x).length+bj (P x)<=B):Y3 (aV P) B:=by
 have gZ:=(nN hE).1;have uF:=qc P es es.length;rw[<-gZ]
 intro p hp;obtain⟨e,he⟩:=uF p (List.mem_reverse.1 hp)
 rw[he];exact hB e
theorem SE{k:List Pc}{N W:Nat}(h1:k.length<=N)(hW: ∀x,(setAt k x).length+bj (setAt k x)<=W)(hm:(1+2*N)*(16+W)<=900000)(hN:N<=1000):
 cC (aV (df k))/\(aV (df k)).length<=1+2*N/\wP (aV (df k))<=(1+2*N)*(16+W)/\Y3 (aV (df k)) (16+W):=by
 have hl:=lE (LL:=[k])
 simp only[mR,List.map_cons,List.map_nil,List.sum_cons,List.sum_nil]at hl;obtain⟨a,b,c⟩:=CL (edg1 k) (B:=16+W) (fun x=>Y4 (hW x)) (N:=1+2*N) (by omega) hm (by omega)
 exact⟨a,b,c,SD (edg1 k) fun x=>Y4 (hW x)⟩
theorem SF{k:List Pc}{l:List ax}{x:List UInt8}{W:Nat}(h:(setAt k x).length+bj (setAt k x)<=W):(br k l x).length+bj (br k l x)<=16+W:=by
 unfold br;split
 · exact Y4 h
 · simp[bj]
theorem SG(key:List UInt8)(v:bS):(eQ key [v]).length<=1/\wP (eQ key [v])<=32:=by
 unfold eQ;split
 · have h1:bj (cG [v])<=1:=by cases hv:aL v<;>simp[cG,bj,hv]
   have h2:=RK h1;refine⟨by simp, ?_⟩
   simp only[wP,List.map_cons,List.map_nil,List.sum_cons,List.sum_nil]
   omega
 · exact⟨by simp,by simp[wP]⟩
theorem U6{k:List Pc}{key:List UInt8}{v:bS}{w:Nat}(h:aS k=true)(hw:Y3 k w)(x:List UInt8):(setAt (k++eQ key [v]) x).length+bj (setAt (k++eQ key [v]) x)<=w+32:=by
 rw[gz,List.length_append,e_]
 have h1:=uY h hw x;have h2:=nU (eQ key [v]) x;have h3:=(SG key v).2;omega
theorem wt_wP{k:List Pc}{w:Nat}(h:Y3 k w):wP k<=k.length*w:=by
 induction k with
 |nil=>simp[wP]
 |cons p k ih=>
  have a:=ih fun q hq=>h q (by simp[hq])
  have b:=h p (by simp)
  rw[nT,List.length_cons,Nat.succ_mul];omega
theorem SH(key:List UInt8)(v:bS): ∀p∈eQ key [v],p.r.lo.length<=9223372036854775807/\p.r.hi.length<=9223372036854775807:=by
 intro p hp;unfold eQ at hp;split at hp
 · rename_i h
   obtain rfl:=List.mem_singleton.1 hp;have:=of_decide_eq_true h.1;show(mH key).lo.length<=_/\(mH key).hi.length<=_;have e:mH key=⟨key,key++[0],false⟩:=by unfold mH;rw[if_neg (by omega)]
   rw[e]
   simp only[List.length_append,List.length_cons,List.length_nil];omega
 · cases hp
structure iB(s:bh)(N w n:Nat):Prop where
 right:fi s
 fl:s.fl.length<=8/\dp s.fl
 aK:s.aK.length<=n/\sP s.aK
 kn:s.kn.length<=N/\Y3 s.kn w
theorem iB.cC{s:bh}{N w n:Nat}(h:iB s N w n)(hN:N<=400)(hw:w<=2200):gn s.kn:=by
 have h1:=wt_wP h.kn.2;have h2:s.kn.length*w<=400*2200:=Nat.mul_le_mul (Nat.le_trans h.kn.1 hN) hw;refine⟨⟨⟨by have:=h.kn.1;omega,by omega⟩,fun p hp=> ?_⟩,fun x=>by have:=uY h.right.kn h.kn.2 x;omega,fun p hp=>by have:=h.kn.2 p hp;omega⟩
 have:=(eN.1 h.right.kn).1 p hp;simp only[dW,Bool.and_eq_true]at this;obtain⟨k1,k2,_,_⟩:=cj this.1.1;omega
theorem iB.Y5{s:bh}{N w n:Nat}(h:iB s N w n)(hN:N<=400)(hw:w<=2200)(hn:n<=1000):s_ s:=by
 have h1:=h.fl;have h2:=h.aK;have h3:=h.kn.1;have hk:=h.cC hN hw;have hr:aV (br s.kn s.fl)=s.kn:=by rw[qg.2 h.right.inF,kN h.right.kn]
 exact⟨⟨by omega,h1.2⟩,⟨by omega,h2.2⟩,⟨hk,by omega⟩,by rw[hr];exact hk.1⟩
theorem iB.SI{s:bh}{x:It}{N w n:Nat}(h:iB s N w n)(hN:N<=400)(hw:w<=2200)(hn:n<=1000)(hx:x.ok):m_ s x:=by
 have hk:=h.cC hN hw;have h1:=SG x.key ⟨s.id,s.ct+1⟩
 have h2:=h.kn.1;have h3:=h.aK;have h4:=h.fl;have h5:wP s.kn<=880000:=Nat.le_trans (wt_wP h.kn.2) (Nat.mul_le_mul (Nat.le_trans h2 hN) hw)
 refine⟨by omega,⟨by omega,h3.2⟩,⟨hk.1,CM hk.1 ⟨⟨by omega,by omega⟩,SH _ _⟩ (by omega) (by omega)⟩,hx,h.right.ct⟩
theorem iB.Y6{s:bh}{x:It}{N w n:Nat}(h:iB s N w n)(hN:N<=400)(hw:w<=2200)(hn:n<=1000)(hx:x.ok)(hc:s.ct≠1099511627776):jG s x:=by
 have hk:=h.cC hN hw;have h1:=SG x.key ⟨s.id,s.ct+1⟩
 have h2:=h.kn.1;have h3:=h.aK;exact⟨⟨by omega,h3.2⟩,⟨hk,by omega⟩,⟨X6 ⟨⟨by omega,by omega⟩,SH _ _⟩ (by omega),by omega⟩,hx,h.right.ct,na h.right hc,fk ((dE s).2 h.right) x.key⟩
theorem iB.put{s:bh}{x:It}{N w n:Nat}(h:iB s N w n)(hN:N<=198)(hw:w<=2000)(hR:fi (cO s x))(hx:x.ok):iB (cO s x) (1+2*(N+1)) (48+w) (n+1):=by
 have h1:=SG x.key ⟨x.rep,x.cu⟩
 have hl:(s.kn++eQ x.key [⟨x.rep,x.cu⟩]).length<=N+1:=by rw[List.length_append];have:=h.kn.1;omega
 have hm:(1+2*(N+1))*(16+(w+32))<=900000:=Nat.le_trans (Nat.mul_le_mul (show 1+2*(N+1)<=399 by omega) (show 16+(w+32)<=2048 by omega)) (by decide)
 have hk:=SE (N:=N+1) (W:=w+32) hl (fun y=>U6 h.right.kn h.kn.2 y) hm (by omega)
 refine⟨hR,h.fl,⟨?_,fun y hy=> ?_⟩,⟨hk.2.1,fun p hp=> ?_⟩⟩
 · have:=jF (x::s.aK)
   simp only[List.length_cons]at this;show(aN (x::s.aK)).length<=n+1;have:=h.aK.1;omega
 · rcases List.mem_cons.1 (dD hy).1 with rfl|hy
   · exact hx
   · exact h.aK.2 y hy
 · have:=hk.2.2.2 p hp
   omega
theorem U7{a b:List It}(h:a.length≠b.length):l9 a b=false:=decide_eq_false fun e=>h (by rw[e])
theorem QQ(x y:It)(a b:List It):l9 (x::a) (y::b)=(decide (x=y)&&l9 a b):=by unfold l9;rw[Bool.eq_iff_iff];simp
theorem it_eq{x y:It}:decide (x=y)=(x.key==y.key&&(x.rep==y.rep&&(x.cu==y.cu&&(x.bq==y.bq&&(x.prio==y.prio&&(x.dead==y.dead&&x.body==y.body)))))):=by
 obtain⟨a,b,c,d,e,f,g⟩:=x;obtain⟨a',b',c',d',e',f',g'⟩:=y;rw[Bool.eq_iff_iff,decide_eq_true_iff]
 simp[and_assoc]
theorem FN:ai Tryz.prog J5 Tryz.f24.ntmps (Tryz.f24.body.getD .skip)=true:=by kernel_rfl
theorem J6(a b:List It)(ha:a.length<=4611686018427387904)(hb:b.length<=4611686018427387904):az Tryz.prog 24 [.ad (a.map It.enc),.ad (b.map It.enc)] (· = .bool (l9 a b)):=by
 refine aa SC mixed Tryz.func24 rfl (Nat.le_of_ble_eq_true rfl) FN ?_;unfold Tryz.f24;cases h0:((a.length:Int)==(b.length:Int))with
 |false=>
  have bU:a.length≠b.length:=fun e=>by rw[e]at h0;simp at h0
  rw[U7 bU]
  simp-implicitDefEqProofs (disch:=(first|omega|decide)) only[go_sem,↓reduceIte,seval,h0,List.length_map]
 |true=>
  have hlen:a.length=b.length:=by simp at h0;omega
  simp-implicitDefEqProofs (disch:=(first|omega|decide)) only[go_sem,↓reduceIte,seval,h0,List.length_map]
  refine ao [0,1] (ι:={k:Nat//k<=a.length/\l9 a b=l9 (a.drop k) (b.drop k)}) (fun p=>[(5,.int .i64 p.1)]) (fun _=>[]) (fun p=>a.length-p.1) ⟨0,by omega,rfl⟩ (Nat.zero_le _) ?_ ?_
  · simp-implicitDefEqProofs (disch:=(first|omega|decide)) only[go_sem,↓reduceIte,seval]
  · rintro⟨k,hk,hd⟩
    simp only;by_cases aw:k<a.length
    · have ae:(k:Int)<(a.length:Int):=by omega
      have gQ:k<b.length:=by omega
      have Bv:(k:Int)<(b.length:Int):=by omega
      have p1:(0:Int)<=(k:Int):=by omega
      have t1:((k:Nat):Int).toNat=k:=Int.toNat_natCast _;have e1:=dK aw;have e2:=dK gQ;rw[List.drop_eq_getElem_cons aw,List.drop_eq_getElem_cons gQ]at hd;rw[QQ,it_eq]at hd;generalize a[k]=x at*;generalize b[k]=y at*;cases k1:(x.key==y.key&&(x.rep==y.rep&&(x.cu==y.cu&&(x.bq==y.bq&&(x.prio==y.prio&&(x.dead==y.dead&&x.body==y.body))))))with
      |false=>
       rw[k1,Bool.false_and]at hd;rw[hd]
       simp-implicitDefEqProofs (disch:=(first|omega|decide)) only[go_sem,↓reduceIte,seval,ae,Bv,p1,t1,e1,e2,k1,List.length_map]
      |true=>
       rw[k1,Bool.true_and]at hd;simp-implicitDefEqProofs (disch:=(first|omega|decide)) only[go_sem,↓reduceIte,seval,ae,Bv,p1,t1,e1,e2,k1,wrap_i64,List.length_map]
       exact⟨⟨k+1,aw,hd⟩,by simp,by show a.length-(k+1)<a.length-k;omega⟩
    · have ae: ¬(k:Int)<(a.length:Int):=by omega
      rw[List.drop_of_length_le (by omega),List.drop_of_length_le (by omega)]at hd;have hd:l9 a b=true:=hd;rw[hd]
      simp-implicitDefEqProofs (disch:=(first|omega|decide)) only[go_sem,↓reduceIte,seval,ae,List.length_map]
def NR:aj:=J5.add 24 (entry (fun(v:List It×List It)=>[.ad (v.1.map It.enc),.ad (v.2.map It.enc)]) (fun v=>v.1.length<=1000000/\v.2.length<=1000000) (fun v=> .bool (l9 v.1 v.2)))
theorem Y23u_ok:ag Tryz.prog NR:=SC.bG Tryz.func24 (by kernel_rfl) (by kernel_rfl) fun v h=>J6 v.1 v.2 (Nat.le_trans h.1 (by decide)) (Nat.le_trans h.2 (by decide))
@[go_sem] theorem Y23u_old{g:FuncId}{xs:List A}(h:g≠24):NR.f g xs=J5.f g xs:=aj.ak h
theorem zl(v:List It×List It)(h:v.1.length<=1000000/\v.2.length<=1000000):NR.f 24 [.ad (v.1.map It.enc),.ad (v.2.map It.enc)]=some (.bool (l9 v.1 v.2)):=aj.an (Γ:=J5) (fun i j h=>by simpa[Prod.ext_iff,and_assoc]using h) v h
def sY:aj:=NR.add 68 (entry (fun(v:List ax×List ax)=>[.ad (v.1.map ax.enc),.ad (v.2.map ax.enc)]) (fun v=>v.1.length<=1000000/\v.2.length<=1000000) (fun v=> .bool (jE v.1 v.2)))
theorem zT:ag Tryz.prog sY:=Y23u_ok.bG Tryz.func68 (by kernel_rfl) (by kernel_rfl) fun v h=>IM v.1 v.2 (Nat.le_trans h.1 (by decide)) (Nat.le_trans h.2 (by decide))
@[go_sem] theorem Y23v_old{g:FuncId}{xs:List A}(h:g≠68):sY.f g xs=NR.f g xs:=aj.ak h
@[go_sem] theorem Y23v_s:sY.pl NR:=⟨fun _=>rfl,fun _=>rfl,rfl,fun _=>rfl,rfl,fun _=>rfl,rfl⟩
theorem zm(v:List ax×List ax)(h:v.1.length<=1000000/\v.2.length<=1000000):sY.f 68 [.ad (v.1.map ax.enc),.ad (v.2.map ax.enc)]=some (.bool (jE v.1 v.2)):=aj.an (Γ:=NR) (fun i j h=>by simpa[Prod.ext_iff,and_assoc]using h) v h
theorem Y7{a b:List It}(h:a.length<=1000000/\b.length<=1000000):NR.f 24 [.ad (a.map It.enc),.ad (b.map It.enc)]=some (.bool (l9 a b)):=zl (a,b) h
theorem Y8{a b:List ax}(h:a.length<=1000000/\b.length<=1000000):sY.f 68 [.ad (a.map ax.enc),.ad (b.map ax.enc)]=some (.bool (jE a b)):=zm (a,b) h
def uZ(s t:bh):Bool:=s.id==t.id&&(s.ct==t.ct&&(jE s.fl t.fl&&(l9 s.aK t.aK&&cX s.kn t.kn)))
theorem G9{s t:bh}:uZ s t=true ↔ s=t:=by
 obtain⟨a,b,c,d,e⟩:=s;obtain⟨a',b',c',d',e'⟩:=t;simp[uZ,jE,l9,cX]
 intro _;constructor
 · rintro⟨h2,h3,h4,h5⟩;exact⟨h3,h4,h5,h2⟩
 · rintro⟨h3,h4,h5,h2⟩;exact⟨h2,h3,h4,h5⟩
theorem FO:ai Tryz.prog sY Tryz.f18.ntmps (Tryz.f18.body.getD .skip)=true:=by kernel_rfl
theorem J7(s t:bh)(h:(s.fl.length<=1000000/\t.fl.length<=1000000)/\(s.aK.length<=1000000/\t.aK.length<=1000000)/\cC s.kn/\cC t.kn):az Tryz.prog 18 [s.enc,t.enc] (· = .bool (uZ s t)):=by
 refine aa zT mixed Tryz.func18 rfl (Nat.le_of_ble_eq_true rfl) FO ?_;unfold Tryz.f18;obtain⟨h1,h2,h3,h4⟩:=h;have g1:=Y8 (a:=s.fl) (b:=t.fl) h1;have g2:=Y7 (a:=s.aK) (b:=t.aK) h2;have g3:=Sc h3 h4;unfold uZ;simp only[bh.enc,bh.cells]
 generalize jE s.fl t.fl=b3 at*;generalize l9 s.aK t.aK=b4 at*;generalize cX s.kn t.kn=b5 at*;cases b1:s.id==t.id with
 |false=>simp-implicitDefEqProofs (disch:=(first|omega|decide)) only[go_sem,↓reduceIte,seval,b1]
 |true=>
  cases b2:s.ct==t.ct with
  |false=>simp-implicitDefEqProofs (disch:=(first|omega|decide)) only[go_sem,↓reduceIte,seval,b1,b2]
  |true=>
   cases b3 with
   |false=>simp-implicitDefEqProofs (disch:=(first|omega|decide)) only[go_sem,↓reduceIte,seval,b1,b2,g1]
   |true=>
    cases b4 with
    |false=>simp-implicitDefEqProofs (disch:=(first|omega|decide)) only[go_sem,↓reduceIte,seval,b1,b2,g1,g2]
    |true=>simp-implicitDefEqProofs (disch:=(first|omega|decide)) only[go_sem,↓reduceIte,seval,b1,b2,g1,g2,g3]
theorem has_key{s:bh}{k:List UInt8}(h:fi s)(hn:er s.aK k≠none\/s.aK.length≠4096):s.aK.length<4096\/k∈s.aK.map (·.key):=by
 have:=h.len;rcases hn with hn|hn
 · right
   cases hg:er s.aK k with
   |none=>exact absurd hg hn
   |some o=>
    have h1:=List.mem_of_find?_eq_some hg;have h2:(o.key==k)=true:=List.find?_some (p:=fun x:It=>x.key==k) hg;exact List.mem_map.2 ⟨o,h1,by simpa using h2⟩
 · left;omega
theorem lI{s:bh}{k:List UInt8}{prio:Int}{body:List UInt8}(h:a_ s k prio body=0):
 fi s/\s.ct≠1099511627776/\(bF s (kD s k prio body)).ok/\fi (cO s (bF s (kD s k prio body))):=by
 unfold a_ at h;split at h
 · cases h
 rename_i hR;have hR:cp s=true:=by simpa using hR
 have hS:=(dE s).1 hR;have ER:=fk hR k;split at h
 · cases h
 rename_i hb;split at h
 · cases h
 rename_i hf;split at h
 · cases h
 rename_i hm;split at h
 · cases h
 rename_i hl;have hc:s.ct≠1099511627776:=fun e=>hm (.inl e)
 have hv:=na hS hc;unfold fj at hb;simp only[Bool.or_eq_true,Bool.not_eq_true',decide_eq_false_iff_not,decide_eq_true_eq,not_or]at hb;obtain⟨⟨⟨b1,b2⟩,b3⟩,b4⟩:=hb;have b1:1<=k.length/\k.length<=16:=Decidable.not_not.1 b1;have hm2:cP s.aK k≠1099511627776:=fun e=>hm (.inr e)
 have hx:aM (bF s (kD s k prio body))=true:=by
  unfold aM;have QP:aL ⟨(bF s (kD s k prio body)).rep,(bF s (kD s k prio body)).cu⟩=true:=hv;rw[QP]
  have r0:(bF s (kD s k prio body)).key=k:=rfl;have r1:(bF s (kD s k prio body)).bq=cP s.aK k+1:=rfl;have r2:(bF s (kD s k prio body)).prio=prio:=rfl;have r3:(bF s (kD s k prio body)).body=body:=rfl;have r4:(bF s (kD s k prio body)).dead=false:=rfl;rw[r0,r1,r2,r3,r4]
  simp only[decide_eq_true b1,Bool.true_and,Bool.not_false,Bool.true_or,Bool.and_true,Bool.and_eq_true,decide_eq_true_eq]
  omega
 have hct:=hS.ct;refine⟨hS,hc,⟨by show k.length<=_;omega,by show body.length<=_;omega⟩,G8 hS hx rfl rfl (by show ar s.fl k=true;simpa using hf) (by omega) (has_key hS ?_)⟩
 by_cases hg:er s.aK k=none
 · right;intro e;exact hl ⟨hg,e⟩
 · left;exact hg
theorem qk{s:bh}{k:List UInt8}(h:dm s k=0)(hs:sP s.aK):
 fi s/\s.ct≠1099511627776/\(bF s (oe s k)).ok/\fi (cO s (bF s (oe s k))):=by
 obtain⟨hR,h1,h2,o,ho,hd,hp⟩:=SB h;have hS:=(dE s).1 hR;have ER:=fk hR k;have hv:=na hS h1;have gW:=List.mem_of_find?_eq_some ho;have U0:=hS.right o gW;have fF:o.key=k:=by have:(o.key==k)=true:=List.find?_some (p:=fun x:It=>x.key==k) ho;simpa using this
 have hx:aM (bF s (oe s k))=true:=by
  unfold aM at U0⊢;have QP:aL ⟨(bF s (oe s k)).rep,(bF s (oe s k)).cu⟩=true:=hv;rw[QP]
  have r0:(bF s (oe s k)).key=k:=rfl;have r1:(bF s (oe s k)).bq=cP s.aK k+1:=rfl;have r2:(bF s (oe s k)).prio=rT s.aK k:=rfl;have r3:(bF s (oe s k)).body=[]:=rfl;have r4:(bF s (oe s k)).dead=true:=rfl;rw[r0,r1,r2,r3,r4,<-hp]
  rw[fF]at U0;simp only[Bool.and_eq_true,decide_eq_true_eq]at U0⊢;obtain⟨⟨⟨⟨⟨⟨⟨a1,a2⟩,a3⟩,a4⟩,a5⟩,a6⟩,a7⟩,a8⟩:=U0;exact⟨⟨⟨⟨⟨⟨⟨a1,trivial⟩,by omega⟩,by omega⟩,a5⟩,a6⟩,by simp⟩,by simp⟩
 have hct:=hS.ct;have hko:=hs o gW;rw[<-fF]at hx⊢;refine⟨hS,h1,⟨hko.1,by show(0:Nat)<=_;omega⟩,G8 hS hx rfl rfl (hS.aK o gW).1 (by omega) (.inr (List.mem_map.2 ⟨o,gW,rfl⟩))⟩
theorem wY{s:bh}{k:List UInt8}{prio:Int}{body:List UInt8}{N w n:Nat}(h:iB s N w n)(hN:N<=198)(hw:w<=2000)(hC:a_ s k prio body=0):iB (cO s (bF s (kD s k prio body))) (1+2*(N+1)) (48+w) (n+1):=by obtain⟨_,_,h3,h4⟩:=lI hC;exact h.put hN hw h4 h3
theorem del_fin{s:bh}{k:List UInt8}{N w n:Nat}(h:iB s N w n)(hN:N<=198)(hw:w<=2000)(hC:dm s k=0):iB (cO s (bF s (oe s k))) (1+2*(N+1)) (48+w) (n+1):=by obtain⟨_,_,h3,h4⟩:=qk hC h.aK.2;exact h.put hN hw h4 h3
def U8:ax:=⟨[],[],true⟩
def G_:bh:=⟨2,[U8],[],[],0⟩
def Kt:bh:=cO G_ (bF G_ (kD G_ [107] 1 [97]))
def aw2:bh:=cO Kt (bF Kt (kD Kt [107] 1 [98]))
theorem QR(x:List UInt8):ar [U8] x=true:=by
 have:ay ⟨[],[],true⟩=true:=by decide
 simp[ar,U8,cg,H8,this]
theorem zU:iB G_ 0 0 0:=by
 refine⟨⟨by decide,by decide,by decide,by decide,List.Pairwise.nil,(fun x hx=>absurd hx List.not_mem_nil),by decide,(fun x n hn c hc=>QR x),(fun x c hc=> ?_),List.Pairwise.nil,(fun x hx=>absurd hx List.not_mem_nil)⟩,⟨by decide,(fun r hr=> ?_)⟩,⟨by decide,(fun x hx=>absurd hx List.not_mem_nil)⟩,⟨by decide,(fun p hp=>absurd hp List.not_mem_nil)⟩⟩
 · obtain⟨p,hp,_⟩:=C9.1 hc
   cases hp
 · obtain rfl:=List.mem_singleton.1 hr
   simp[U8,ax.ok]
theorem aw0_C:a_ G_ [107] 1 [97]=0:=by have hR:=(dE G_).2 zU.right;unfold a_;rw[if_neg (by rw[hR];simp),if_neg (by decide),if_neg (by show¬ar [U8] [107]=false;rw[QR];simp),if_neg (by decide),if_neg (by decide)]
theorem zV:iB Kt 3 48 1:=wY zU (by decide) (by decide) aw0_C
theorem J8:Kt.aK=[⟨[107],2,1,1,1,false,[97]⟩]:=by
 have h:J0 (bF G_ (kD G_ [107] 1 [97])) []=aN [bF G_ (kD G_ [107] 1 [97])]:=sX List.Pairwise.nil (fun y hy=>by cases hy) (by decide) fun y hy=>by cases hy
 have e:Kt.aK=aN [bF G_ (kD G_ [107] 1 [97])]:=rfl;rw[e,<-h];rfl
theorem aw1_C:a_ Kt [107] 1 [98]=0:=by
 have hR:=(dE Kt).2 zV.right;unfold a_;rw[if_neg (by rw[hR];simp),if_neg (by decide),if_neg (by show¬ar [U8] [107]=false;rw[QR];simp)]
 rw[J8]
 have e:Kt.ct=1:=rfl;rw[e,if_neg (by decide),if_neg (by decide)]
theorem J9:iB aw2 9 96 2:=wY zV (by decide) (by decide) aw1_C
theorem aw2_its:aw2.aK=[⟨[107],2,2,2,1,false,[98]⟩]:=by
 have hx:bF Kt (kD Kt [107] 1 [98])=⟨[107],2,2,2,1,false,[98]⟩:=by unfold bF kD;rw[J8];rfl
 have h:J0 ⟨[107],2,2,2,1,false,[98]⟩ [⟨[107],2,1,1,1,false,[97]⟩]=aN [⟨[107],2,2,2,1,false,[98]⟩,⟨[107],2,1,1,1,false,[97]⟩]:=sX (by simp) (fun y hy=>by obtain rfl:=List.mem_singleton.1 hy;decide) (by decide) fun y hy _=>by obtain rfl:=List.mem_singleton.1 hy;decide
 have e:aw2.aK=aN (bF Kt (kD Kt [107] 1 [98])::Kt.aK):=rfl;rw[e,hx,J8,<-h];rfl
theorem aw2_get:er aw2.aK [107]=some ⟨[107],2,2,2,1,false,[98]⟩:=by rw[aw2_its];rfl
def nb:A:= .agg [.int .i64 1,.int .i64 0,.str [],.str []]
theorem zn:ai Tryz.prog sY Tryz.f157.ntmps (Tryz.f157.body.getD .skip)=true:=by kernel_rfl
theorem Y9:az Tryz.prog 157 [nb] (· = .bool true):=by refine aa zT mixed Tryz.func157 rfl (Nat.le_of_ble_eq_true rfl) zn ?_;unfold Tryz.f157;unfold nb;simp-implicitDefEqProofs (disch:=(first|omega|decide)) only[go_sem,↓reduceIte,seval]
def J_:aj:=sY.add 157 (entry (fun(u:Unit)=>[nb]) (fun u=>True) (fun u=> .bool true))
theorem SJ:ag Tryz.prog J_:=zT.bG Tryz.func157 (by kernel_rfl) (by kernel_rfl) fun u h=>Y9
@[go_sem] theorem V23a_old{g:FuncId}{xs:List A}(h:g≠157):J_.f g xs=sY.f g xs:=aj.ak h
@[go_sem] theorem V23a_s:J_.pl sY:=⟨fun _=>rfl,fun _=>rfl,rfl,fun _=>rfl,rfl,fun _=>rfl,rfl⟩
theorem u0(u:Unit)(h:True):J_.f 157 [nb]=some (.bool true):=aj.an (Γ:=sY) (fun i j h=>by first|(cases i;cases j;rfl;done)|simpa[Prod.ext_iff,and_assoc]using h|(simp at h;omega)|(simp at h;exact Prod.ext h.1 (Prod.ext h.2.1 (by omega)))) u h
theorem v_plain:J_.f 157 [.agg [.int .i64 1,.int .i64 0,.str [],.str []]]=some (.bool true):=u0 () trivial
theorem zo:ai Tryz.prog J_ Tryz.f103.ntmps (Tryz.f103.body.getD .skip)=true:=by kernel_rfl
theorem U9:az Tryz.prog 103 [.ad [nb]] (· = .bool true):=by
 refine aa SJ mixed Tryz.func103 rfl (Nat.le_of_ble_eq_true rfl) zo ?_;unfold Tryz.f103;have g:=v_plain;unfold nb;simp-implicitDefEqProofs (disch:=(first|omega|decide)) only[go_sem,↓reduceIte,seval,g]
 refine ao [9,10] (ι:={k:Nat//k<=1}) (fun k=>[(11,.int .i64 k.1),(3,.int .i64 k.1)]) (fun _=>[]) (fun k=>1-k.1) ⟨0,by omega⟩ (Nat.zero_le _) ?_ ?_
 · simp-implicitDefEqProofs (disch:=(first|omega|decide)) only[go_sem,↓reduceIte,seval]
   try rfl
 · rintro⟨k,hk⟩
   have:k=0\/k=1:=by omega
   rcases this with rfl|rfl
   · simp-implicitDefEqProofs (disch:=(first|omega|decide)) only[go_sem,↓reduceIte,seval,g,wrap_i64]
     exact⟨⟨1,by omega⟩,rfl,by decide⟩
   · simp-implicitDefEqProofs (disch:=(first|omega|decide)) only[go_sem,↓reduceIte,seval,g,wrap_i64]
def NS:aj:=J_.add 103 (entry (fun(u:Unit)=>[.ad [nb]]) (fun u=>True) (fun u=> .bool true))
theorem V23b_ok:ag Tryz.prog NS:=SJ.bG Tryz.func103 (by kernel_rfl) (by kernel_rfl) fun u h=>U9
@[go_sem] theorem V23b_old{g:FuncId}{xs:List A}(h:g≠103):NS.f g xs=J_.f g xs:=aj.ak h
theorem u3(u:Unit)(h:True):NS.f 103 [.ad [nb]]=some (.bool true):=aj.an (Γ:=J_) (fun i j h=>by first|(cases i;cases j;rfl;done)|simpa[Prod.ext_iff,and_assoc]using h|(simp at h;omega)|(simp at h;exact Prod.ext h.1 (Prod.ext h.2.1 (by omega)))) u h
theorem SK:NS.f 103 [.ad [.agg [.int .i64 1,.int .i64 0,.str [],.str []]]]=some (.bool true):=u3 () trivial
def FP:aj:=NS.add 193 (entry (fun(u:Unit)=>[]) (fun u=>True) (fun u=> .agg [.str [],.str [],.bool true]))
theorem SL:ag Tryz.prog FP:=V23b_ok.bG Tryz.func193 (by kernel_rfl) (by kernel_rfl) fun u h=>A3
@[go_sem] theorem V23c_old{g:FuncId}{xs:List A}(h:g≠193):FP.f g xs=NS.f g xs:=aj.ak h
@[go_sem] theorem V23c_s:FP.pl NS:=⟨fun _=>rfl,fun _=>rfl,rfl,fun _=>rfl,rfl,fun _=>rfl,rfl⟩
theorem FQ(u:Unit)(h:True):FP.f 193 []=some (.agg [.str [],.str [],.bool true]):=aj.an (Γ:=NS) (fun i j h=>by first|(cases i;cases j;rfl;done)|simpa[Prod.ext_iff,and_assoc]using h|(simp at h;omega)|(simp at h;exact Prod.ext h.1 (Prod.ext h.2.1 (by omega)))) u h
theorem v_All:FP.f 193 []=some (.agg [.str [],.str [],.bool true]):=FQ () trivial
theorem ql:ai Tryz.prog FP Tryz.f158.ntmps (Tryz.f158.body.getD .skip)=true:=by kernel_rfl
theorem c_leaf1:az Tryz.prog 158 [nb] (· = .ad [.agg [.str [],.str [],.bool true]]):=by refine aa SL mixed Tryz.func158 rfl (Nat.le_of_ble_eq_true rfl) ql ?_;unfold Tryz.f158;have g:=v_All;unfold nb;simp-implicitDefEqProofs (disch:=(first|omega|decide)) only[go_sem,↓reduceIte,seval,g]
def FR:aj:=FP.add 158 (entry (fun(u:Unit)=>[nb]) (fun u=>True) (fun u=> .ad [.agg [.str [],.str [],.bool true]]))
theorem SM:ag Tryz.prog FR:=SL.bG Tryz.func158 (by kernel_rfl) (by kernel_rfl) fun u h=>c_leaf1
@[go_sem] theorem V23d_old{g:FuncId}{xs:List A}(h:g≠158):FR.f g xs=FP.f g xs:=aj.ak h
@[go_sem] theorem V23d_s:FR.pl FP:=⟨fun _=>rfl,fun _=>rfl,rfl,fun _=>rfl,rfl,fun _=>rfl,rfl⟩
theorem og(u:Unit)(h:True):FR.f 158 [nb]=some (.ad [.agg [.str [],.str [],.bool true]]):=aj.an (Γ:=FP) (fun i j h=>by first|(cases i;cases j;rfl;done)|simpa[Prod.ext_iff,and_assoc]using h|(simp at h;omega)|(simp at h;exact Prod.ext h.1 (Prod.ext h.2.1 (by omega)))) u h
theorem v_leaf:FR.f 158 [.agg [.int .i64 1,.int .i64 0,.str [],.str []]]=some (.ad [.agg [.str [],.str [],.bool true]]):=og () trivial
theorem wZ:ai Tryz.prog FR Tryz.f104.ntmps (Tryz.f104.body.getD .skip)=true:=by kernel_rfl
theorem QS:az Tryz.prog 104 [.ad [nb]] (· = .ad [.agg [.str [],.str [],.bool true]]):=by
 refine aa SM mixed Tryz.func104 rfl (Nat.le_of_ble_eq_true rfl) wZ ?_;unfold Tryz.f104;have g:=SK;have g2:=v_leaf;unfold nb;simp-implicitDefEqProofs (disch:=(first|omega|decide)) only[go_sem,↓reduceIte,seval,g]
 refine aU 3 1 rfl ?_;refine ao [10,11] (ι:={k:Nat//k<=1}) (fun k=>[(12,.int .i64 k.1),(3,.row 0 0 1 k.1 false)]) (fun k=>[(0,.row 1 ((List.replicate k.1 (A.ad [.agg [.str [],.str [],.bool true]]))))]) (fun k=>1-k.1) ⟨0,by omega⟩ (Nat.zero_le _) ?_ ?_
 · simp-implicitDefEqProofs (disch:=(first|omega|decide)) only[go_sem,↓reduceIte,seval,List.replicate]
   try first|done|exact⟨⟨rfl,rfl⟩,rfl⟩
 · rintro⟨k,hk⟩
   have:k=0\/k=1:=by omega
   rcases this with rfl|rfl
   · simp-implicitDefEqProofs (disch:=(first|omega|decide)) only[go_sem,↓reduceIte,seval,g2,wrap_i64,List.replicate]
     exact⟨⟨1,by omega⟩,⟨⟨rfl,rfl⟩,rfl⟩,by decide⟩
   · simp-implicitDefEqProofs (disch:=(first|omega|decide)) only[go_sem,↓reduceIte,seval,wrap_i64,List.replicate]
def J':aj:=FR.add 104 (entry (fun(u:Unit)=>[.ad [nb]]) (fun u=>True) (fun u=> .ad [.agg [.str [],.str [],.bool true]]))
theorem SN:ag Tryz.prog J':=SM.bG Tryz.func104 (by kernel_rfl) (by kernel_rfl) fun u h=>QS
@[go_sem] theorem V23e_old{g:FuncId}{xs:List A}(h:g≠104):J'.f g xs=FR.f g xs:=aj.ak h
@[go_sem] theorem V23e_s:J'.pl FR:=⟨fun _=>rfl,fun _=>rfl,rfl,fun _=>rfl,rfl,fun _=>rfl,rfl⟩
theorem sZ(u:Unit)(h:True):J'.f 104 [.ad [nb]]=some (.ad [.agg [.str [],.str [],.bool true]]):=aj.an (Γ:=FR) (fun i j h=>by first|(cases i;cases j;rfl;done)|simpa[Prod.ext_iff,and_assoc]using h|(simp at h;omega)|(simp at h;exact Prod.ext h.1 (Prod.ext h.2.1 (by omega)))) u h
theorem Y_:J'.f 104 [.ad [.agg [.int .i64 1,.int .i64 0,.str [],.str []]]]=some (.ad [.agg [.str [],.str [],.bool true]]):=sZ () trivial
theorem Ka:ai Tryz.prog J' Tryz.f53.ntmps (Tryz.f53.body.getD .skip)=true:=by kernel_rfl
theorem Kb:az Tryz.prog 53 [.int .i64 2,.ad [nb]] (· = .cx [G_.enc,.int .i64 0]):=by
 refine aa SN mixed Tryz.func53 rfl (Nat.le_of_ble_eq_true rfl) Ka ?_;unfold Tryz.f53;have g1:=SK;have g2:=Y_;have e:G_.enc= .agg [.int .i64 2,.ad [.agg [.str [],.str [],.bool true]],.ad [],.ad [],.int .i64 0]:=rfl;rw[e]
 unfold nb;simp-implicitDefEqProofs (disch:=(first|omega|decide)) only[go_sem,↓reduceIte,seval,g1,g2]
def NT:aj:=J'.add 53 (entry (fun(u:Unit)=>[.int .i64 2,.ad [nb]]) (fun u=>True) (fun u=> .cx [G_.enc,.int .i64 0]))
theorem V23f_ok:ag Tryz.prog NT:=SN.bG Tryz.func53 (by kernel_rfl) (by kernel_rfl) fun u h=>Kb
@[go_sem] theorem V23f_old{g:FuncId}{xs:List A}(h:g≠53):NT.f g xs=J'.f g xs:=aj.ak h
theorem Dx(u:Unit)(h:True):NT.f 53 [.int .i64 2,.ad [nb]]=some (.cx [G_.enc,.int .i64 0]):=aj.an (Γ:=J') (fun i j h=>by first|(cases i;cases j;rfl;done)|simpa[Prod.ext_iff,and_assoc]using h|(simp at h;omega)|(simp at h;exact Prod.ext h.1 (Prod.ext h.2.1 (by omega)))) u h
theorem v_New:NT.f 53 [.int .i64 2,.ad [.agg [.int .i64 1,.int .i64 0,.str [],.str []]]]=some (.cx [G_.enc,.int .i64 0]):=Dx () trivial
def Dy:aj:=NT.add 18 (entry (fun(v:bh×bh)=>[v.1.enc,v.2.enc]) (fun v=>(v.1.fl.length<=1000000/\v.2.fl.length<=1000000)/\(v.1.aK.length<=1000000/\v.2.aK.length<=1000000)/\cC v.1.kn/\cC v.2.kn) (fun v=> .bool (uZ v.1 v.2)))
theorem SO:ag Tryz.prog Dy:=V23f_ok.bG Tryz.func18 (by kernel_rfl) (by kernel_rfl) fun v h=>J7 v.1 v.2 h
@[go_sem] theorem V23g_old{g:FuncId}{xs:List A}(h:g≠18):Dy.f g xs=NT.f g xs:=aj.ak h
@[go_sem] theorem V23g_s:Dy.pl NT:=⟨fun _=>rfl,fun _=>rfl,rfl,fun _=>rfl,rfl,fun _=>rfl,rfl⟩
theorem zp(v:bh×bh)(h:(v.1.fl.length<=1000000/\v.2.fl.length<=1000000)/\(v.1.aK.length<=1000000/\v.2.aK.length<=1000000)/\cC v.1.kn/\cC v.2.kn):Dy.f 18 [v.1.enc,v.2.enc]=some (.bool (uZ v.1 v.2)):=aj.an (Γ:=NT) (fun i j h=>by simpa[Prod.ext_iff,and_assoc]using h) v h
theorem Kc{s t:bh}(h:(s.fl.length<=1000000/\t.fl.length<=1000000)/\(s.aK.length<=1000000/\t.aK.length<=1000000)/\cC s.kn/\cC t.kn):Dy.f 18 [.agg [.int .i64 s.id,.ad (s.fl.map ax.enc),.ad (s.aK.map It.enc),.ad (s.kn.map Pc.enc),.int .i64 s.ct],.agg [.int .i64 t.id,.ad (t.fl.map ax.enc),.ad (t.aK.map It.enc),.ad (t.kn.map Pc.enc),.int .i64 t.ct]]=some (.bool (uZ s t)):=zp (s,t) h
theorem Dz:ai Tryz.prog Dy Tryz.f51.ntmps (Tryz.f51.body.getD .skip)=true:=by kernel_rfl
theorem DA:az Tryz.prog 51 [] (· = .bool true):=by
 refine aa SO mixed Tryz.func51 rfl (Nat.le_of_ble_eq_true rfl) Dz ?_;unfold Tryz.f51;have g1:=v_New;have g2:=JV (s:=G_) (k:=[107]) (prio:=1) (body:=[97]) ⟨⟨zU.Y5 (by decide) (by decide) (by decide),fun _=>zU.SI (by decide) (by decide) (by decide) ⟨by decide,by decide⟩⟩,by decide,by decide⟩
 have g3:=JV (s:=Kt) (k:=[107]) (prio:=1) (body:=[98]) ⟨⟨zV.Y5 (by decide) (by decide) (by decide),fun _=>zV.SI (by decide) (by decide) (by decide) ⟨by decide,by decide⟩⟩,by decide,by decide⟩
 have w1:iA G_ [107] 1 [97]= .cx [Kt.enc,.int .i64 0]:=by unfold iA lG;rw[aw0_C,if_pos rfl];rfl
 have w2:iA Kt [107] 1 [98]= .cx [aw2.enc,.int .i64 0]:=by unfold iA lG;rw[aw1_C,if_pos rfl];rfl
 rw[w1]at g2;rw[w2]at g3;have g4:=Sq (s:=aw2) (k:=[107]) (by have:=J9.aK.1;omega)
 rw[aw2_get]at g4;have g5:=gI aw2 (J9.Y5 (by decide) (by decide) (by decide))
 rw[(dE aw2).2 J9.right]at g5;simp only[JI,It.enc,bh.enc,bh.cells,List.map_cons,List.map_nil]at g1 g2 g3 g4 g5;generalize aw2=a2 at*;generalize Kt=a1 at*;generalize G_=a0 at*;simp-implicitDefEqProofs (maxSteps:=600000) (disch:=(first|omega|decide)) only[go_sem,↓reduceIte,seval,g1,g2,g3,g4,g5]
def QT:aj:=Dy.add 51 (entry (fun(u:Unit)=>[]) (fun u=>True) (fun u=> .bool true))
theorem V23h_ok:ag Tryz.prog QT:=SO.bG Tryz.func51 (by kernel_rfl) (by kernel_rfl) fun u h=>DA
@[go_sem] theorem V23h_old{g:FuncId}{xs:List A}(h:g≠51):QT.f g xs=Dy.f g xs:=aj.ak h
theorem w3(u:Unit)(h:True):QT.f 51 []=some (.bool true):=aj.an (Γ:=Dy) (fun i j h=>by first|(cases i;cases j;rfl;done)|simpa[Prod.ext_iff,and_assoc]using h|(simp at h;omega)|(simp at h;exact Prod.ext h.1 (Prod.ext h.2.1 (by omega)))) u h
def FT:aj:=QT.add 21 (entry (fun(s:bh)=>[s.enc]) (fun s=>s_ s) (fun s=> .bool (cp s)))
theorem V23i_ok:ag Tryz.prog FT:=V23h_ok.bG Tryz.func21 (by kernel_rfl) (by kernel_rfl) fun s h=>rP s h
@[go_sem] theorem V23i_old{g:FuncId}{xs:List A}(h:g≠21):FT.f g xs=QT.f g xs:=aj.ak h
theorem w4(s:bh)(h:s_ s):FT.f 21 [s.enc]=some (.bool (cp s)):=aj.an (Γ:=QT) (fun i j h=>by simpa[Prod.ext_iff,and_assoc]using h) s h
def Kd:aj:=FT.add 14 (entry (fun(s:bh)=>[s.enc]) (fun s=>(s.fl.length<=9223372036854775807/\s.aK.length<=9223372036854775807)/\s.kn.length<=9223372036854775807/\ ∀p∈s.kn,p.s.length<=9223372036854775807) (fun s=> .bool (qh s)))
theorem SP:ag Tryz.prog Kd:=V23i_ok.bG Tryz.func14 (by kernel_rfl) (by kernel_rfl) fun s h=>uM s h.1.1 h.1.2 h.2.1 h.2.2
@[go_sem] theorem V23j_old{g:FuncId}{xs:List A}(h:g≠14):Kd.f g xs=FT.f g xs:=aj.ak h
@[go_sem] theorem V23j_s:Kd.pl FT:=⟨fun _=>rfl,fun _=>rfl,rfl,fun _=>rfl,rfl,fun _=>rfl,rfl⟩
theorem zq(s:bh)(h:(s.fl.length<=9223372036854775807/\s.aK.length<=9223372036854775807)/\s.kn.length<=9223372036854775807/\ ∀p∈s.kn,p.s.length<=9223372036854775807):Kd.f 14 [s.enc]=some (.bool (qh s)):=aj.an (Γ:=FT) (fun i j h=>by simpa[Prod.ext_iff,and_assoc]using h) s h
theorem SQ:QT.f 51 []=some (.bool true):=w3 () trivial
theorem NU{s:bh}(h:s_ s):FT.f 21 [.agg [.int .i64 s.id,.ad (s.fl.map ax.enc),.ad (s.aK.map It.enc),.ad (s.kn.map Pc.enc),.int .i64 s.ct]]=some (.bool (cp s)):=w4 s h
theorem SR{s:bh}(h:(s.fl.length<=9223372036854775807/\s.aK.length<=9223372036854775807)/\s.kn.length<=9223372036854775807/\ ∀p∈s.kn,p.s.length<=9223372036854775807):Kd.f 14 [.agg [.int .i64 s.id,.ad (s.fl.map ax.enc),.ad (s.aK.map It.enc),.ad (s.kn.map Pc.enc),.int .i64 s.ct]]=some (.bool (qh s)):=zq s h
structure InS3(s:bh):Prop where
 fl:s.fl.length<=9223372036854775807/\dp s.fl
 aK:s.aK.length<=9223372036854775807/\sP s.aK
 kn:s.kn.length<=9223372036854775807/\ ∀p∈s.kn,p.s.length<=9223372036854775807
theorem G'{s:bh}(h:InS3 s)(hl:qh s=false):OkS s/\Y3 s.kn 272:=by
 unfold qh at hl;simp only[Bool.or_eq_false_iff]at hl;have h1:=Ym hl.1.1;have h2:=GZ hl.1.2;refine⟨⟨⟨by omega,h.fl.2⟩,⟨by omega,h.aK.2⟩,xY (m:=24) hl.2⟩,fun p hp=> ?_⟩
 have h3:=hl.2;unfold jt at h3;rw[Bool.or_eq_false_iff,List.any_eq_false]at h3;have:=h3.2 p hp;simp only[wx,Bool.not_eq_true,Bool.or_eq_false_iff,decide_eq_false_iff_not]at this;obtain⟨a,b,c⟩:=this;have:=sD (m:=16) c;omega
theorem s0{s:bh}(h:OkS s)(hw:Y3 s.kn 272)(hR:fi s):iB s 24 272 24:=⟨hR,h.fl,h.aK,⟨h.kn.1,hw⟩⟩
theorem NV{s:bh}(h:s=cd\/iB s 51 320 25):Dy.f 18 [.agg [.int .i64 s.id,.ad (s.fl.map ax.enc),.ad (s.aK.map It.enc),.ad (s.kn.map Pc.enc),.int .i64 s.ct],.agg [.int .i64 s.id,.ad (s.fl.map ax.enc),.ad (s.aK.map It.enc),.ad (s.kn.map Pc.enc),.int .i64 s.ct]]=some (.bool true):=by
 have e:uZ s s=true:=G9.2 rfl;rw[<-e]
 rcases h with rfl|h
 · exact Kc ⟨by decide,by decide,⟨⟨by decide,by decide⟩,fun p hp=>absurd hp List.not_mem_nil⟩,⟨⟨by decide,by decide⟩,fun p hp=>absurd hp List.not_mem_nil⟩⟩
 · have h1:=h.fl.1
   have h2:=h.aK.1;have h3:=(h.cC (by decide) (by decide)).1;exact Kc ⟨⟨by omega,by omega⟩,⟨by omega,by omega⟩,h3,h3⟩
theorem Ha{s:bh}(h:iB s 51 320 25):FT.f 21 [.agg [.int .i64 s.id,.ad (s.fl.map ax.enc),.ad (s.aK.map It.enc),.ad (s.kn.map Pc.enc),.int .i64 s.ct]]=some (.bool true):=by
 have:=NU (h.Y5 (by decide) (by decide) (by decide))
 rwa [(dE s).2 h.right]at this
theorem qm:ai Tryz.prog Kd Tryz.f11.ntmps (Tryz.f11.body.getD .skip)=true:=by kernel_rfl
theorem rm(s:bh)(k:List UInt8)(prio:Int)(body:List UInt8)(dead:Bool)(h:InS3 s)(hk:k.length<=9223372036854775807)(hb:body.length<=9223372036854775807):
 az Tryz.prog 11 [s.enc,.agg [.str k,.int .i64 prio,.str body,.bool dead]] (· = .bool true):=by
 refine aa SP mixed Tryz.func11 rfl (Nat.le_of_ble_eq_true rfl) qm ?_;unfold Tryz.f11;have g0:=SQ;have g1:=SR (s:=s) ⟨⟨h.fl.1,h.aK.1⟩,h.kn⟩
 simp only[bh.enc,bh.cells]
 cases hl:qh s with
 |true=>
  rw[hl]at g1;simp-implicitDefEqProofs (disch:=(first|omega|decide)) only[go_sem,↓reduceIte,seval,g0,g1]
 |false=>
  rw[hl]at g1;obtain⟨ok,hw⟩:=G' h hl;by_cases c1:(300:Int)<(k.length:Int)
  · simp-implicitDefEqProofs (disch:=(first|omega|decide)) only[go_sem,↓reduceIte,seval,g0,g1,c1]
  · by_cases c2:(300:Int)<(body.length:Int)
    · simp-implicitDefEqProofs (disch:=(first|omega|decide)) only[go_sem,↓reduceIte,seval,g0,g1,c1,c2]
    · cases dead with
      |true=>
       have g2:=YW (s:=s) (k:=k) ⟨⟨ok.toR,fun h0=>(s0 ok hw (qk h0 ok.aK.2).1).SI (by decide) (by decide) (by decide) ⟨hk,by show(0:Nat)<=_;omega⟩⟩,hk⟩
       have g3:=U5 (s:=s) (k:=k) ⟨⟨ok.toR,fun h0=>(s0 ok hw (qk h0 ok.aK.2).1).Y6 (by decide) (by decide) (by decide) ⟨hk,by show(0:Nat)<=_;omega⟩ (qk h0 ok.aK.2).2.1⟩,hk⟩
       have dQ:dm s k=0->iB (JW s k) 51 320 25:=fun h0=>by
        unfold JW;rw[if_pos h0]
        exact del_fin (s0 ok hw (qk h0 ok.aK.2).1) (by decide) (by decide) h0
       have NW:JW s k=cd\/iB (JW s k) 51 320 25:=by
        by_cases h0:dm s k=0
        · exact .inr (dQ h0)
        · left;unfold JW;rw[if_neg h0]
       have g4:=NV NW;have g5:dm s k=0->_:=fun h0=>Ha (dQ h0)
       clear dQ NW;unfold Dr at g2 g3;simp only[bh.enc,bh.cells]at g2 g3;generalize JW s k=t at*;generalize dm s k=c at*;cases hc:c==0 with
       |true=>
        have g5:=g5 (by simpa using hc)
        simp-implicitDefEqProofs (maxSteps:=600000) (disch:=(first|omega|decide)) only[go_sem,↓reduceIte,seval,g0,g1,c1,c2,g2,g3,g4,g5,hc,beq_self_eq_true]
       |false=>
        simp-implicitDefEqProofs (maxSteps:=600000) (disch:=(first|omega|decide)) only[go_sem,↓reduceIte,seval,g0,g1,c1,c2,g2,g3,g4,hc,beq_self_eq_true]
      |false=>
       have g2:=JV (s:=s) (k:=k) (prio:=prio) (body:=body) ⟨⟨ok.toR,fun h0=>(s0 ok hw (lI h0).1).SI (by decide) (by decide) (by decide) ⟨hk,hb⟩⟩,hk,hb⟩
       have g3:=Y0 (s:=s) (k:=k) (prio:=prio) (body:=body) ⟨⟨ok.toR,fun h0=>(s0 ok hw (lI h0).1).Y6 (by decide) (by decide) (by decide) ⟨hk,hb⟩ (lI h0).2.1⟩,hk,hb⟩
       have dQ:a_ s k prio body=0->iB (lG s k prio body) 51 320 25:=fun h0=>by
        unfold lG;rw[if_pos h0]
        exact wY (s0 ok hw (lI h0).1) (by decide) (by decide) h0
       have NW:lG s k prio body=cd\/iB (lG s k prio body) 51 320 25:=by
        by_cases h0:a_ s k prio body=0
        · exact .inr (dQ h0)
        · left;unfold lG;rw[if_neg h0]
       have g4:=NV NW;have g5:a_ s k prio body=0->_:=fun h0=>Ha (dQ h0)
       clear dQ NW;unfold iA at g2 g3;simp only[bh.enc,bh.cells]at g2 g3;generalize lG s k prio body=t at*;generalize a_ s k prio body=c at*;cases hc:c==0 with
       |true=>
        have g5:=g5 (by simpa using hc)
        simp-implicitDefEqProofs (maxSteps:=600000) (disch:=(first|omega|decide)) only[go_sem,↓reduceIte,seval,g0,g1,c1,c2,g2,g3,g4,g5,hc,beq_self_eq_true]
       |false=>
        simp-implicitDefEqProofs (maxSteps:=600000) (disch:=(first|omega|decide)) only[go_sem,↓reduceIte,seval,g0,g1,c1,c2,g2,g3,g4,hc,beq_self_eq_true]
theorem Hb{x:A}(h:fits (.rows [.str,.int .i64,.int .i64,.int .i64,.int .i64,.bool,.str]) x): ∃l:List It,x= .ad (l.map It.enc)/\l.length<=maxLen/\sP l:=by
 simp only[fits]at h;obtain⟨es,rfl,hl,he⟩:=h;have ml:=mF;obtain⟨l,rfl,hk⟩:=qD (f:=It.enc) (P:=fun x=>x.ok) (es:=es) (fun e hx=>by obtain⟨ys,rfl,hy⟩:=he e hx;simp only[cJ]at hy;obtain⟨y1,z1,rfl,h1,y2,z2,rfl,h2,y3,z3,rfl,h3,y4,z4,rfl,h4,y5,z5,rfl,h5,y6,z6,rfl,h6,y7,z7,rfl,h7,rfl⟩:=hy;simp only[fits]at h1 h2 h3 h4 h5 h6 h7;obtain⟨s,rfl,hs⟩:=h1;obtain⟨a,rfl,_⟩:=h2;obtain⟨b,rfl,_⟩:=h3;obtain⟨c,rfl,_⟩:=h4;obtain⟨d,rfl,_⟩:=h5;obtain⟨e,rfl⟩:=h6;obtain⟨t,rfl,ht⟩:=h7;exact⟨⟨s,a,b,c,d,e,t⟩,rfl,⟨by show s.length<=_;omega,by show t.length<=_;omega⟩⟩)
 exact⟨l,rfl,by simpa using hl,hk⟩
theorem Hc{x:List A}(h:cJ [.int .i64,.rows [.str,.str,.bool],.rows [.str,.int .i64,.int .i64,.int .i64,.int .i64,.bool,.str],.rows [.str,.str,.bool,.rows [.int .i64,.rows [.int .i64,.int .i64]]],.int .i64] x): ∃s:bh,x=s.cells/\InS3 s:=by simp only[cJ]at h;have ml:=mF;obtain⟨y1,z1,rfl,h1,y2,z2,rfl,h2,y3,z3,rfl,h3,y4,z4,rfl,h4,y5,z5,rfl,h5,rfl⟩:=h;simp only[fits]at h1 h5;obtain⟨id,rfl,_⟩:=h1;obtain⟨ct,rfl,_⟩:=h5;obtain⟨F,rfl,f1,f2⟩:=UF h2;obtain⟨I,rfl,i1,i2⟩:=Hb h3;obtain⟨K,rfl,k1,k2⟩:=Nj h4;exact⟨⟨id,F,I,K,ct⟩,rfl,⟨⟨by show F.length<=_;omega,f2⟩,⟨by show I.length<=_;omega,i2⟩,⟨by show K.length<=_;omega,fun p hp=>by have:=k2 p hp;omega⟩⟩⟩
theorem Y'{x:List A}(h:cJ [.str,.int .i64,.str,.bool] x): ∃(k:List UInt8) (p:Int) (b:List UInt8) (d:Bool),x=[.str k,.int .i64 p,.str b,.bool d]/\k.length<=maxLen/\b.length<=maxLen:=by simp only[cJ]at h;obtain⟨y1,z1,rfl,h1,y2,z2,rfl,h2,y3,z3,rfl,h3,y4,z4,rfl,h4,rfl⟩:=h;simp only[fits]at h1 h2 h3 h4;obtain⟨k,rfl,hk⟩:=h1;obtain⟨p,rfl,_⟩:=h2;obtain⟨b,rfl,hb⟩:=h3;obtain⟨d,rfl⟩:=h4;exact⟨k,p,b,d,rfl,hk,hb⟩
end Go.Proofs.YtihgnfmoafjakaaGreat
