/- What the laws of this claim rest on: the abstract executor, its soundness, and what the functions compute on pure data. No condition. -/
import Derived.Test.YtihgnfmoafjakaaGreatU7
noncomputable section
set_option linter.unusedVariables false
set_option linter.unusedSimpArgs false
namespace Go.Proofs.YtihgnfmoafjakaaGreat
open Go.bJ
set_option linter.unusedSimpArgs false
set_option linter.unusedVariables false
theorem P5{r:ax}{es:List (List UInt8)}(he:ay r=true->r.lo∈es/\(r.op=false->r.hi∈es)){x e:List UInt8}(h1:aQ x e=false)(h2: ∀y∈es,aQ e y=true->aQ x y=true):cg r x=cg r e:=by have:=so (l:=[r]) (es:=es) (fun q hq=>by simp only[List.mem_singleton]at hq;subst hq;exact he) h1 h2;simpa[ar]using this
theorem M4{k:List Pc}{x e:List UInt8}(h: ∀p∈k,cg p.r x=cg p.r e):setAt k x=setAt k e:=by unfold setAt;rw[List.filter_congr h]
theorem I'{m:List ax}{P:List UInt8->List ab}{es:List (List UInt8)}(up:es.Pairwise (fun x y=>aQ x y=true))(nil: []∈es)(len: ∀e∈es,e.length<=17)
 (all: ∀r∈m,ay r=true->r.lo∈es/\(r.op=false->r.hi∈es)) (hright: ∀x,aZ (P x)=true) (tu: ∀x e,(∀r∈m,cg r x=cg r e)->P x=P e):Kq P es:=
 ⟨up,nil,len,fun x e he h1 h2=>tu x e fun r hr=>P5 (all r hr) h1 h2,hright⟩
section
variable{LL:List (List Pc)}
theorem nW(x:List UInt8):x∈gh LL ↔ x∈cS [[]] (LL.flatMap qQ):=by
 unfold gh;rw[kM]
 exact(eO (Cz (lD LL))).1.mem_iff
theorem GU:(gh LL).Pairwise (fun x y=>aQ x y=true):=IP (eO (Cz (lD LL))).2
theorem CB: []∈gh LL:=(nW []).2 ((h_ _ _ _).2 (.inl (by simp)))
theorem GV: ∀e∈gh LL,e.length<=17:=fun e he=>Cz (lD LL) e ((nW e).1 he)
theorem CC: ∀r∈(LL.flatMap fun k=>k.map (·.r)),ay r=true->r.lo∈gh LL/\(r.op=false->r.hi∈gh LL):=fun r hr h=>by
 have hm:r∈LL.flatMap qQ:=by obtain⟨k,hk,hr⟩:=List.mem_flatMap.1 hr;exact List.mem_flatMap.2 ⟨k,hk,List.mem_filter.2 ⟨hr,h⟩⟩
 exact⟨(nW _).2 ((h_ _ _ _).2 (.inr ⟨r,hm,.inl rfl⟩)),fun ho=>(nW _).2 ((h_ _ _ _).2 (.inr ⟨r,hm,.inr ⟨ho,rfl⟩⟩))⟩
theorem lE:(gh LL).length<=1+2*mR LL:=by
 have h1:=(eO (Cz (lD LL))).1.length_eq;have h2:=(fB (LL.flatMap qQ) [[]]).2;have h3:=qP (jb (cS [[]] (LL.flatMap qQ)))
 have h4:=Cy LL LL.length;rw[List.take_length]at h4;rw[List.length_singleton]at h2;unfold gh;omega
end
theorem uG{k:List Pc}{x e:List UInt8}(h: ∀r∈k.map (·.r),cg r x=cg r e):df k x=df k e:=by unfold df;rw[M4 fun p hp=>h p.r (List.mem_map.2 ⟨p,hp,rfl⟩)]
theorem xX{l:List ax}{x e:List UInt8}(h: ∀r∈l,cg r x=cg r e):ar l x=ar l e:=by
 unfold ar;induction l with
 |nil=>rfl
 |cons r l ih=>rw[List.any_cons,List.any_cons,h r (by simp),ih fun q hq=>h q (by simp[hq])]
theorem mS(k:List Pc)(x:List UInt8):aZ (df k x)=true:=Uc _
theorem qR(op:Int)(a b:List ab):aZ (N6 op a b)=true:=Bq fun n=>f_ _
theorem kN{k:List Pc}(h:aS k=true):aV (df k)=k:=by
 symm;have cQ:=(eN.1 h).1;refine H7 h fun x l=> ?_;rw[ue cQ]
 have key: ∀p∈k,cg p.r x=true->df k x=p.s:=fun p hp hx=>by
  unfold df;rw[uf h hp hx]
  have:=cQ p hp;simp only[dW,Bool.and_eq_true]at this;exact cy this.2
 constructor
 · rintro⟨p,hp,hx,rfl⟩
   refine⟨key p hp hx,fun e=> ?_⟩
   have:=cQ p hp;simp only[dW,Bool.and_eq_true]at this;rw[e]at this;simp at this
 · rintro⟨h1,h2⟩
   by_cases hex: ∃p∈k,cg p.r x=true
   · obtain⟨p,hp,hx⟩:=hex
     exact⟨p,hp,hx,by rw[<-key p hp hx];exact h1⟩
   · exfalso
     apply h2;rw[<-h1]
     have:setAt k x=[]:=by unfold setAt;rw[List.filter_eq_nil_iff.2 (fun p hp hx=>hex ⟨p,hp,hx⟩)];rfl
     unfold df;rw[this]
     exact RQ fun n _=>GK fun c=>rfl
end Go.Proofs.YtihgnfmoafjakaaGreat
namespace Go.Proofs.YtihgnfmoafjakaaGreat
open Go.bJ
set_option linter.unusedSimpArgs false
set_option linter.unusedVariables false
set_option maxRecDepth 20000
set_option maxHeartbeats 16000000
theorem caps1(cs:List A):Caps [.dz cs]:=⟨rfl,fun _=>rfl,fun _=>rfl,fun _=>rfl⟩
theorem caps2(cs ds:List A):Caps [.dz cs,.dz ds]:=⟨rfl,fun _=>rfl,fun _=>rfl,fun _=>rfl⟩
theorem stP(l:List Pc):((l.map Pc.enc).isEmpty||bT (l.map Pc.enc)==4)=true:=by cases l<;>rfl
def iy(k:List Pc):List Pc:=k.map fun p=>⟨p.r,dF p.s⟩
theorem ES:ai Tryz.prog wq Tryz.f186.ntmps (Tryz.f186.body.getD .skip)=true:=by kernel_rfl
theorem Ja(k:List Pc)(hk:cC k):az Tryz.prog 186 [.ad (k.map Pc.enc)] (· = .ad ((iy k).map Pc.enc)):=by
 refine aa zP mixed Tryz.func186 rfl (Nat.le_of_ble_eq_true rfl) ES ?_;unfold Tryz.f186;obtain⟨⟨k1,k2⟩,k3⟩:=id hk;simp-implicitDefEqProofs (disch:=(first|omega|decide)) only[go_sem,↓reduceIte,seval,List.length_map]
 refine aU 3 4 rfl ?_;refine ao [0,6,7] (ι:={j:Nat//j<=k.length}) (fun p=>[(8,.int .i64 p.1),(3,.row 0 0 4 p.1 false)]) (fun p=>[(0,.row 4 ((iy (k.take p.1)).map Pc.enc))]) (fun p=>k.length-p.1) ⟨0,by omega⟩ (Nat.zero_le _) ?_ ?_
 · simp-implicitDefEqProofs (disch:=(first|omega|decide)) only[go_sem,↓reduceIte,seval]
   simp[iy]
 · rintro⟨j,hj⟩
   simp only;have jg:((iy (k.take j)).map Pc.enc).length=j:=by simp[iy];omega
   have tl:((iy (k.take j)).map Pc.enc).take j=(iy (k.take j)).map Pc.enc:=List.take_of_length_le (Nat.le_of_eq jg)
   by_cases aw:j<k.length
   · have ae:(j:Int)<(k.length:Int):=by omega
     have e1:=fM aw;have yQ:=eT hk (List.getElem_mem aw)
     have bR:iy (k.take (j+1))=iy (k.take j)++[⟨k[j].r,dF k[j].s⟩]:=by rw[<-List.take_append_getElem aw];unfold iy;rw[List.map_append];rfl
     generalize hp:k[j]=p at*;obtain⟨⟨lo,hi,op⟩,s⟩:=p;simp only at yQ bR;have ho:=qO yQ;simp-implicitDefEqProofs (disch:=(first|omega|decide)) only[go_sem,↓reduceIte,seval,ae,e1,ho,tl,jg,wrap_i64,List.length_map]
     exact⟨by omega,⟨j+1,aw⟩,⟨⟨by simp,rfl⟩,by rw[bR,List.map_append];rfl⟩,by show k.length-(j+1)<k.length-j;omega⟩
   · have ae: ¬(j:Int)<(k.length:Int):=by omega
     obtain rfl:j=k.length:=by omega
     rw[List.take_length]at*;simp-implicitDefEqProofs (disch:=(first|omega|decide)) only[go_sem,↓reduceIte,seval,ae,tl,jg,List.length_map]
     try exact Nat.le_refl _
def P6:aj:=wq.add 186 (entry (fun(k:List Pc)=>[.ad (k.map Pc.enc)]) (fun k=>cC k) (fun k=> .ad ((iy k).map Pc.enc)))
theorem P16a_ok:ag Tryz.prog P6:=zP.bG Tryz.func186 (by kernel_rfl) (by kernel_rfl) fun k h=>Ja k h
@[go_sem] theorem P16a_old{g:FuncId}{xs:List A}(h:g≠186):P6.f g xs=wq.f g xs:=aj.ak h
theorem yU(k:List Pc)(h:cC k):P6.f 186 [.ad (k.map Pc.enc)]=some (.ad ((iy k).map Pc.enc)):=aj.an (Γ:=wq) (fun i j h=>by simpa[Prod.ext_iff,and_assoc]using h) k h
def CD:aj:=P6.add 137 (entry (fun(LL:List (List Pc))=>[.ad (LL.map Vr)]) (fun LL=>(LL.length<=1000/\mR LL<=1000000)/\ ∀k∈LL,∀p∈k,p.r.lo.length<=9223372036854775807/\p.r.hi.length<=9223372036854775807) (fun LL=> .ad ((gh LL).map .str)))
theorem R5:ag Tryz.prog CD:=P16a_ok.bG Tryz.func137 (by kernel_rfl) (by kernel_rfl) fun LL h=>I6 LL h.1.1 h.1.2 h.2
@[go_sem] theorem P16b_old{g:FuncId}{xs:List A}(h:g≠137):CD.f g xs=P6.f g xs:=aj.ak h
theorem ow(LL:List (List Pc))(h:(LL.length<=1000/\mR LL<=1000000)/\ ∀k∈LL,∀p∈k,p.r.lo.length<=9223372036854775807/\p.r.hi.length<=9223372036854775807):CD.f 137 [.ad (LL.map Vr)]=some (.ad ((gh LL).map .str)):=aj.an (Γ:=P6) (fun i j h=>by simpa[Prod.ext_iff,and_assoc]using h) LL h
theorem p_clone{k:List Pc}(h:cC k):P6.f 186 [.ad (k.map Pc.enc)]=some (.ad ((iy k).map Pc.enc)):=yU k h
theorem Yb{k:List Pc}(h:cC k):CD.f 137 [.ad [.ad (k.map Pc.enc)]]=some (.ad ((gh [k]).map .str)):=ow [k] ⟨⟨by simp,by have:=h.1.1;simp[mR];omega⟩,fun m hm=>by simp only[List.mem_singleton]at hm;subst hm;exact h.2⟩
theorem Yc{a b:List Pc}(ha:cC a)(hb:cC b):CD.f 137 [.ad [.ad (a.map Pc.enc),.ad (b.map Pc.enc)]]=some (.ad ((gh [a,b]).map .str)):=ow [a,b] ⟨⟨by simp,by have:=ha.1.1;have:=hb.1.1;simp[mR];omega⟩,fun m hm=>by
 simp only[List.mem_cons,List.not_mem_nil,or_false]at hm;rcases hm with rfl|rfl
 · exact ha.2
 · exact hb.2⟩
theorem edg1(k:List Pc):Kq (df k) (gh [k]):=I' GU CB GV CC (mS k) fun x e h=>uG fun r hr=>h r (by simpa using hr)
theorem P7{k:List Pc}(h:aS k=true):iy k=k:=by
 have cQ:=(eN.1 h).1;unfold iy
 conv=>rhs;rw[<-List.map_id k]
 apply List.map_congr_left;intro p hp;have:=cQ p hp;simp only[dW,Bool.and_eq_true]at this;rw[cy this.2];rfl
def Uq:aj:=CD.add 136 (entry (fun(v:List (List UInt8)×List Pc)=>[.ad (v.1.map .str),.fn 187 [.dz [.ad (v.2.map Pc.enc)]]]) (fun v=>(Kq (df v.2) v.1/\cC v.2)/\v.1.length<=1000000) (fun v=> .ad ((aV (df v.2)).map Pc.enc)))
theorem R6:ag Tryz.prog Uq:=R5.bG Tryz.func136 (by kernel_rfl) (by kernel_rfl) fun v h=>uE v.1 _ _ (df v.2) (caps1 _) h.1.1 h.2 (fun x=>(qb h.1.2 x).2) (fun x hx=>p_Of1 h.1.2 (by have:=h.1.1.len x hx;omega))
@[go_sem] theorem P16c_old{g:FuncId}{xs:List A}(h:g≠136):Uq.f g xs=CD.f g xs:=aj.ak h
theorem yV(v:List (List UInt8)×List Pc)(h:(Kq (df v.2) v.1/\cC v.2)/\v.1.length<=1000000):Uq.f 136 [.ad (v.1.map .str),.fn 187 [.dz [.ad (v.2.map Pc.enc)]]]=some (.ad ((aV (df v.2)).map Pc.enc)):=aj.an (Γ:=CD) (fun i j h=>by simpa[Prod.ext_iff,and_assoc]using h) v h
theorem Ur{es:List (List UInt8)}{k:List Pc}(hE:Kq (df k) es)(hk:cC k)(hl:es.length<=1000000):Uq.f 136 [.ad (es.map .str),.fn 187 [.dz [.ad (k.map Pc.enc)]]]=some (.ad ((aV (df k)).map Pc.enc)):=yV (es,k) ⟨⟨hE,hk⟩,hl⟩
def O15:aj:={Uq with l_:=fun f=>f==136,qU:=fun f=>f==136}
theorem O15_ok:ag Tryz.prog O15:=⟨R6.f,R6.hp⟩
@[go_sem] theorem O15_f:O15.f=Uq.f:=rfl
@[go_sem] theorem O15_eff{g:FuncId}:O15.l_ g=(g==136):=rfl
@[go_sem] theorem O15_frz{g:FuncId}:O15.qU g=(g==136):=rfl
@[go_sem] theorem O15_fix{n:Nat}:O15.fix n=false:=rfl
@[go_sem] theorem O15_ords{n:Nat}:O15.c6 n=[]:=rfl
theorem P8:ai Tryz.prog O15 Tryz.f150.ntmps (Tryz.f150.body.getD .skip)=true:=by kernel_rfl
theorem Us(k:List Pc)(hk:cC k):az Tryz.prog 150 [.ad (k.map Pc.enc)] (· = .ad ((aV (df k)).map Pc.enc)):=by
 refine aa O15_ok mixed Tryz.func150 rfl (Nat.le_of_ble_eq_true rfl) P8 ?_;unfold Tryz.f150;have h1:=I9 hk;cases hr:aS k with
 |true=>
  rw[hr]at h1;have h2:=p_clone hk;rw[P7 hr]at h2;simp-implicitDefEqProofs (disch:=(first|omega|decide)) only[go_sem,↓reduceIte,seval,h1,h2]
  rw[kN hr]
 |false=>
  rw[hr]at h1;have h2:=Yb hk;have h3:=Ur (edg1 k) hk (by have:=lE (LL:=[k]);have:=hk.1.1;simp[mR]at*;omega)
  simp-implicitDefEqProofs (disch:=(first|omega|decide)) only[go_sem,↓reduceIte,seval,h1,h2,h3,List.contains_nil,List.contains_cons]
def Ut:aj:=CD.add 150 (entry (fun(k:List Pc)=>[.ad (k.map Pc.enc)]) (fun k=>cC k) (fun k=> .ad ((aV (df k)).map Pc.enc)))
theorem P16e_ok:ag Tryz.prog Ut:=R5.bG Tryz.func150 (by kernel_rfl) (by kernel_rfl) fun k h=>Us k h
@[go_sem] theorem P16e_old{g:FuncId}{xs:List A}(h:g≠150):Ut.f g xs=CD.f g xs:=aj.ak h
theorem Jb(k:List Pc)(h:cC k):Ut.f 150 [.ad (k.map Pc.enc)]=some (.ad ((aV (df k)).map Pc.enc)):=aj.an (Γ:=CD) (fun i j h=>by simpa[Prod.ext_iff,and_assoc]using h) k h
def Uu:aj:=Ut
theorem Jc:ag Tryz.prog Uu:=P16e_ok
@[go_sem] theorem P16f_old{g:FuncId}{xs:List A}:Uu.f g xs=Ut.f g xs:=rfl
theorem p_Of{k:List Pc}(h:cC k):Ut.f 150 [.ad (k.map Pc.enc)]=some (.ad ((aV (df k)).map Pc.enc)):=Jb k h
def J15:aj:={Uu with l_:=fun f=>f==150,qU:=fun f=>f==150}
theorem J15_ok:ag Tryz.prog J15:=⟨Jc.f,Jc.hp⟩
@[go_sem] theorem J15_f:J15.f=Uu.f:=rfl
@[go_sem] theorem J15_eff{g:FuncId}:J15.l_ g=(g==150):=rfl
@[go_sem] theorem J15_frz{g:FuncId}:J15.qU g=(g==150):=rfl
@[go_sem] theorem J15_fix{n:Nat}:J15.fix n=false:=rfl
@[go_sem] theorem J15_ords{n:Nat}:J15.c6 n=[]:=rfl
theorem Uv{LL:List (List Pc)}{o:Nat}(h:o<LL.length):(LL.take (o+1)).flatten=(LL.take o).flatten++LL[o]:=by rw[<-List.take_append_getElem h,List.flatten_append];simp
theorem Yd(LL:List (List Pc))(o:Nat):(LL.take o).flatten.length<=LL.flatten.length:=by
 conv=>rhs;rw[<-List.take_append_drop o LL]
 rw[List.flatten_append,List.length_append];omega
theorem Jd:ai Tryz.prog J15 Tryz.f92.ntmps (Tryz.f92.body.getD .skip)=true:=by kernel_rfl
theorem M5(LL:List (List Pc))(hL:LL.length<=1000000)(hk:cC LL.flatten):az Tryz.prog 92 [.ad (LL.map Vr)] (· = .ad ((aV (df LL.flatten)).map Pc.enc)):=by
 refine aa J15_ok mixed Tryz.func92 rfl (Nat.le_of_ble_eq_true rfl) Jd ?_;unfold Tryz.f92;have Vn:=hk.1.1;simp-implicitDefEqProofs (disch:=(first|omega|decide)) only[go_sem,↓reduceIte,seval,List.length_map]
 refine aU 3 4 rfl ?_;refine ao [0,6,7] (ι:={o:Nat//o<=LL.length}) (fun p=>[(8,.int .i64 p.1),(3,.row 0 0 4 (LL.take p.1).flatten.length false)]) (fun p=>[(0,.row 4 ((LL.take p.1).flatten.map Pc.enc))]) (fun p=>LL.length-p.1) ⟨0,by omega⟩ (Nat.zero_le _) ?_ ?_
 · simp-implicitDefEqProofs (disch:=(first|omega|decide)) only[go_sem,↓reduceIte,seval]
   simp
 · rintro⟨o,ho⟩
   simp only;have hfl:=Yd LL (o+1)
   by_cases aw:o<LL.length
   · have ae:(o:Int)<(LL.length:Int):=by omega
     have hd:=R4 aw;have bR:=Uv aw;rw[bR,List.length_append]at hfl;generalize LL[o]=k at*;have st:=stP k;have tl:((LL.take o).flatten.map Pc.enc).take (LL.take o).flatten.length=(LL.take o).flatten.map Pc.enc:=List.take_of_length_le (by rw[List.length_map];exact Nat.le_refl _)
     simp-implicitDefEqProofs (disch:=(first|omega|decide)) only[go_sem,↓reduceIte,seval,ae,hd,st,tl,wrap_i64,List.length_map]
     exact⟨⟨Nat.le_refl _,by omega⟩,⟨o+1,aw⟩,⟨⟨by simp,by rw[bR,List.length_append]⟩,by rw[bR,List.map_append]⟩,by show LL.length-(o+1)<LL.length-o;omega⟩
   · have ae: ¬(o:Int)<(LL.length:Int):=by omega
     obtain rfl:o=LL.length:=by omega
     rw[List.take_length]at*;have h:=p_Of hk;have tl:(LL.flatten.map Pc.enc).take LL.flatten.length=LL.flatten.map Pc.enc:=List.take_of_length_le (by rw[List.length_map];exact Nat.le_refl _)
     simp-implicitDefEqProofs (disch:=(first|omega|decide)) only[go_sem,↓reduceIte,seval,ae,h,tl,List.length_map,List.contains_nil,List.contains_cons]
     exact Nat.le_refl _
def Uw:aj:=Uu
theorem P16g_ok:ag Tryz.prog Uw:=Jc
@[go_sem] theorem P16g_old{g:FuncId}{xs:List A}:Uw.f g xs=Uu.f g xs:=rfl
def ET:aj:=Uw.add 92 (entry (fun(LL:List (List Pc))=>[.ad (LL.map Vr)]) (fun LL=>LL.length<=1000000/\cC LL.flatten) (fun LL=> .ad ((aV (df LL.flatten)).map Pc.enc)))
theorem R7:ag Tryz.prog ET:=P16g_ok.bG Tryz.func92 (by kernel_rfl) (by kernel_rfl) fun LL h=>M5 LL h.1 h.2
@[go_sem] theorem P16h_old{g:FuncId}{xs:List A}(h:g≠92):ET.f g xs=Uw.f g xs:=aj.ak h
@[go_sem] theorem P16h_s:ET.pl Uw:=⟨fun _=>rfl,fun _=>rfl,rfl,fun _=>rfl,rfl,fun _=>rfl,rfl⟩
theorem CE(LL:List (List Pc))(h:LL.length<=1000000/\cC LL.flatten):ET.f 92 [.ad (LL.map Vr)]=some (.ad ((aV (df LL.flatten)).map Pc.enc)):=aj.an (Γ:=Uw) (fun i j h=>by simpa[Prod.ext_iff,and_assoc]using h) LL h
theorem R9{a b:List Pc}(h:cC (a++b)):ET.f 92 [.ad [.ad (a.map Pc.enc),.ad (b.map Pc.enc)]]=some (.ad ((aV (df (a++b))).map Pc.enc)):=by
 have e: [a,b].flatten=a++b:=by simp
 have:=CE [a,b] ⟨by simp,by rw[e];exact h⟩
 rw[e]at this;exact this
def cX(a b:List Pc):Bool:=decide (a=b)
def rEq(lo hi:List UInt8)(op:Bool)(gm eW:List UInt8)(lW:Bool):Bool:=(lo==gm&&hi==eW)&&op==lW
theorem CF:ai Tryz.prog ET Tryz.f164.ntmps (Tryz.f164.body.getD .skip)=true:=by kernel_rfl
theorem Je(x y:Pc)(hx:aG x.s/\aG (dF x.s))(hy:aG y.s/\aG (dF y.s)):az Tryz.prog 164 [.agg [.str x.r.lo,.str x.r.hi,.bool x.r.op,.ad (x.s.map ab.enc)],.agg [.str y.r.lo,.str y.r.hi,.bool y.r.op,.ad (y.s.map ab.enc)]] (· = .bool (rEq x.r.lo x.r.hi x.r.op y.r.lo y.r.hi y.r.op&&bQ (dF x.s) (dF y.s))):=by
 refine aa R7 mixed Tryz.func164 rfl (Nat.le_of_ble_eq_true rfl) CF ?_;unfold Tryz.f164;have h:=IJ hx.1 hy.1 hx.2 hy.2;unfold rEq;cases h1:x.r.lo==y.r.lo with
 |false=>simp-implicitDefEqProofs (disch:=(first|omega|decide)) only[go_sem,↓reduceIte,seval,h1,Bool.false_and]
 |true=>
  cases h2:x.r.hi==y.r.hi with
  |false=>simp-implicitDefEqProofs (disch:=(first|omega|decide)) only[go_sem,↓reduceIte,seval,h1,h2,Bool.false_and,Bool.and_false,Bool.true_and]
  |true=>
   cases h3:x.r.op==y.r.op with
   |false=>simp-implicitDefEqProofs (disch:=(first|omega|decide)) only[go_sem,↓reduceIte,seval,h1,h2,h3,Bool.false_and,Bool.and_false,Bool.true_and]
   |true=>simp-implicitDefEqProofs (disch:=(first|omega|decide)) only[go_sem,↓reduceIte,seval,h1,h2,h3,h,Bool.true_and,Bool.and_true]
def EU:aj:=ET.add 164 (entry (fun(v:((List UInt8×List UInt8×Bool)×List ab)×((List UInt8×List UInt8×Bool)×List ab))=>[.agg [.str v.1.1.1,.str v.1.1.2.1,.bool v.1.1.2.2,.ad (v.1.2.map ab.enc)],.agg [.str v.2.1.1,.str v.2.1.2.1,.bool v.2.1.2.2,.ad (v.2.2.map ab.enc)]]) (fun v=>(aG v.1.2/\aG (dF v.1.2))/\aG v.2.2/\aG (dF v.2.2)) (fun v=> .bool (rEq v.1.1.1 v.1.1.2.1 v.1.1.2.2 v.2.1.1 v.2.1.2.1 v.2.1.2.2&&bQ (dF v.1.2) (dF v.2.2))))
theorem R_:ag Tryz.prog EU:=R7.bG Tryz.func164 (by kernel_rfl) (by kernel_rfl) fun v h=>Je ⟨⟨v.1.1.1,v.1.1.2.1,v.1.1.2.2⟩,v.1.2⟩ ⟨⟨v.2.1.1,v.2.1.2.1,v.2.1.2.2⟩,v.2.2⟩ h.1 h.2
@[go_sem] theorem P16i_old{g:FuncId}{xs:List A}(h:g≠164):EU.f g xs=ET.f g xs:=aj.ak h
@[go_sem] theorem P16i_s:EU.pl ET:=⟨fun _=>rfl,fun _=>rfl,rfl,fun _=>rfl,rfl,fun _=>rfl,rfl⟩
theorem wu(v:((List UInt8×List UInt8×Bool)×List ab)×((List UInt8×List UInt8×Bool)×List ab))(h:(aG v.1.2/\aG (dF v.1.2))/\aG v.2.2/\aG (dF v.2.2)):EU.f 164 [.agg [.str v.1.1.1,.str v.1.1.2.1,.bool v.1.1.2.2,.ad (v.1.2.map ab.enc)],.agg [.str v.2.1.1,.str v.2.1.2.1,.bool v.2.1.2.2,.ad (v.2.2.map ab.enc)]]=some (.bool (rEq v.1.1.1 v.1.1.2.1 v.1.1.2.2 v.2.1.1 v.2.1.2.1 v.2.1.2.2&&bQ (dF v.1.2) (dF v.2.2))):=aj.an (Γ:=ET) (fun i j h=>by simpa[Prod.ext_iff,and_assoc]using h) v h
theorem p_Same1{lo hi gm eW:List UInt8}{op lW:Bool}{s s':List ab}(h:aG s/\aG (dF s))(h':aG s'/\aG (dF s')):EU.f 164 [.agg [.str lo,.str hi,.bool op,.ad (s.map ab.enc)],.agg [.str gm,.str eW,.bool lW,.ad (s'.map ab.enc)]]=some (.bool (rEq lo hi op gm eW lW&&bQ (dF s) (dF s'))):=wu (((lo,hi,op),s),((gm,eW,lW),s')) ⟨h,h'⟩
theorem bC:ai Tryz.prog EU Tryz.f117.ntmps (Tryz.f117.body.getD .skip)=true:=by kernel_rfl
theorem Jf(a b:List Pc)(ha:cC a)(hb:cC b)(ra: ∀p∈a,aZ p.s=true)(rb: ∀p∈b,aZ p.s=true):az Tryz.prog 117 [.ad (a.map Pc.enc),.ad (b.map Pc.enc),.fn 164 []] (· = .bool (cX a b)):=by
 refine aa R_ mixed Tryz.func117 rfl (Nat.le_of_ble_eq_true rfl) bC ?_;unfold Tryz.f117;obtain⟨⟨a1,a2⟩,a3⟩:=id ha;obtain⟨⟨b1,b2⟩,b3⟩:=id hb;cases h0:((a.length:Int)==(b.length:Int))with
 |false=>
  have bU:a.length≠b.length:=by
   have:(a.length:Int)≠(b.length:Int):=by simpa using h0
   omega
  have hh:cX a b=false:=by unfold cX;simp;intro e;exact bU (by rw[e])
  simp-implicitDefEqProofs (disch:=(first|omega|decide)) only[go_sem,↓reduceIte,seval,h0,hh,List.length_map]
 |true=>
  have he:a.length=b.length:=by
   have:(a.length:Int)=(b.length:Int):=by simpa using h0
   omega
  simp-implicitDefEqProofs (disch:=(first|omega|decide)) only[go_sem,↓reduceIte,seval,h0,List.length_map]
  refine ao [0,1,2,15,16] (ι:={k:Nat//k<=a.length/\a.take k=b.take k}) (fun p=>[(17,.int .i64 p.1)]) (fun _=>[]) (fun p=>a.length-p.1) ⟨0,by omega,rfl⟩ (Nat.zero_le _) ?_ ?_
  · simp-implicitDefEqProofs (disch:=(first|omega|decide)) only[go_sem,↓reduceIte,seval]
  · rintro⟨k,hk,hd⟩
    simp only;by_cases aw:k<a.length
    · have ae:(k:Int)<(a.length:Int):=by omega
      have nQ:(k:Int)<(b.length:Int):=by omega
      have gQ:k<b.length:=by omega
      have e1:=fM aw;have e2:=fM gQ;have s1:=eT ha (List.getElem_mem aw)
      have s2:=eT hb (List.getElem_mem gQ)
      have r1:=ra _ (List.getElem_mem aw)
      have r2:=rb _ (List.getElem_mem gQ)
      have t1:=(List.take_append_getElem aw).symm;have t2:=(List.take_append_getElem gQ).symm;have qF:a[k]≠b[k]->cX a b=false:=fun h=>by unfold cX;simp;intro e;subst e;exact h rfl
      generalize hx:a[k]=x at*;generalize hy:b[k]=y at*;obtain⟨⟨lo,hi,op⟩,s⟩:=x;obtain⟨⟨gm,eW,lW⟩,s'⟩:=y;simp only at s1 s2 r1 r2;have hs:=p_Same1 (lo:=lo) (hi:=hi) (op:=op) (gm:=gm) (eW:=eW) (lW:=lW) (s:=s) (s':=s') ⟨s1,by rw[cy r1];exact s1⟩ ⟨s2,by rw[cy r2];exact s2⟩
      rw[cy r1,cy r2]at hs;cases h1:(rEq lo hi op gm eW lW&&bQ s s')with
      |false=>
       have hh:=qF (fun e=>by simp only[Pc.mk.injEq,ax.mk.injEq]at e;obtain⟨⟨rfl,rfl,rfl⟩,rfl⟩:=e;simp[rEq,bQ]at h1)
       rw[h1]at hs;simp-implicitDefEqProofs (disch:=(first|omega|decide)) only[go_sem,↓reduceIte,seval,ae,nQ,e1,e2,hs,hh,List.length_map]
      |true=>
       rw[h1]at hs;have e:(⟨⟨lo,hi,op⟩,s⟩:Pc)=⟨⟨gm,eW,lW⟩,s'⟩:=by simp only[rEq,bQ,Bool.and_eq_true,beq_iff_eq,decide_eq_true_iff]at h1;obtain⟨⟨⟨rfl,rfl⟩,rfl⟩,rfl⟩:=h1;rfl
       simp-implicitDefEqProofs (disch:=(first|omega|decide)) only[go_sem,↓reduceIte,seval,ae,nQ,e1,e2,hs,wrap_i64,List.length_map]
       exact⟨⟨k+1,aw,by rw[t1,t2,hd,e]⟩,by simp,by show a.length-(k+1)<a.length-k;omega⟩
    · have ae: ¬(k:Int)<(a.length:Int):=by omega
      have hh:cX a b=true:=by rw[List.take_of_length_le (by omega),List.take_of_length_le (by omega)]at hd;simp[cX,hd]
      simp-implicitDefEqProofs (disch:=(first|omega|decide)) only[go_sem,↓reduceIte,seval,ae,hh,List.length_map]
def Jg:aj:=EU.add 117 (entry (fun(v:List Pc×List Pc)=>[.ad (v.1.map Pc.enc),.ad (v.2.map Pc.enc),.fn 164 []]) (fun v=>(cC v.1/\cC v.2)/\(∀p∈v.1,aZ p.s=true)/\ ∀p∈v.2,aZ p.s=true) (fun v=> .bool (cX v.1 v.2)))
theorem Sa:ag Tryz.prog Jg:=R_.bG Tryz.func117 (by kernel_rfl) (by kernel_rfl) fun v h=>Jf v.1 v.2 h.1.1 h.1.2 h.2.1 h.2.2
@[go_sem] theorem P16j_old{g:FuncId}{xs:List A}(h:g≠117):Jg.f g xs=EU.f g xs:=aj.ak h
@[go_sem] theorem P16j_s:Jg.pl EU:=⟨fun _=>rfl,fun _=>rfl,rfl,fun _=>rfl,rfl,fun _=>rfl,rfl⟩
theorem bz(v:List Pc×List Pc)(h:(cC v.1/\cC v.2)/\(∀p∈v.1,aZ p.s=true)/\ ∀p∈v.2,aZ p.s=true):Jg.f 117 [.ad (v.1.map Pc.enc),.ad (v.2.map Pc.enc),.fn 164 []]=some (.bool (cX v.1 v.2)):=aj.an (Γ:=EU) (fun i j h=>by simpa[Prod.ext_iff,and_assoc]using h) v h
theorem GW(P:List UInt8->List ab): ∀p∈aV P,aZ p.s=true:=fun p hp=>by have:=(eN.1 (lk P)).1 p hp;simp only[dW,Bool.and_eq_true]at this;exact this.2
theorem M6{P Q:List UInt8->List ab}(ha:cC (aV P))(hb:cC (aV Q)):Jg.f 117 [.ad ((aV P).map Pc.enc),.ad ((aV Q).map Pc.enc),.fn 164 []]=some (.bool (cX (aV P) (aV Q))):=bz (aV P,aV Q) ⟨⟨ha,hb⟩,GW P,GW Q⟩
theorem Jh:ai Tryz.prog Jg Tryz.f110.ntmps (Tryz.f110.body.getD .skip)=true:=by kernel_rfl
theorem M7(a b:List Pc)(ha:cC a)(hb:cC b)(Hz:cC (aV (df a)))(o9:cC (aV (df b))):az Tryz.prog 110 [.ad (a.map Pc.enc),.ad (b.map Pc.enc)] (· = .bool (cX (aV (df a)) (aV (df b)))):=by refine aa Sa mixed Tryz.func110 rfl (Nat.le_of_ble_eq_true rfl) Jh ?_;unfold Tryz.f110;have h1:=p_Of ha;have h2:=p_Of hb;have h3:=M6 Hz o9;simp-implicitDefEqProofs (disch:=(first|omega|decide)) only[go_sem,↓reduceIte,seval,h1,h2,h3]
def M8:aj:=Jg.add 110 (entry (fun(v:List Pc×List Pc)=>[.ad (v.1.map Pc.enc),.ad (v.2.map Pc.enc)]) (fun v=>(cC v.1/\cC v.2)/\cC (aV (df v.1))/\cC (aV (df v.2))) (fun v=> .bool (cX (aV (df v.1)) (aV (df v.2)))))
theorem P16k_ok:ag Tryz.prog M8:=Sa.bG Tryz.func110 (by kernel_rfl) (by kernel_rfl) fun v h=>M7 v.1 v.2 h.1.1 h.1.2 h.2.1 h.2.2
@[go_sem] theorem P16k_old{g:FuncId}{xs:List A}(h:g≠110):M8.f g xs=Jg.f g xs:=aj.ak h
theorem CG(v:List Pc×List Pc)(h:(cC v.1/\cC v.2)/\cC (aV (df v.1))/\cC (aV (df v.2))):M8.f 110 [.ad (v.1.map Pc.enc),.ad (v.2.map Pc.enc)]=some (.bool (cX (aV (df v.1)) (aV (df v.2)))):=aj.an (Γ:=Jg) (fun i j h=>by simpa[Prod.ext_iff,and_assoc]using h) v h
theorem p_Same{a b:List Pc}(ha:cC a)(hb:cC b)(Hz:cC (aV (df a)))(o9:cC (aV (df b))):M8.f 110 [.ad (a.map Pc.enc),.ad (b.map Pc.enc)]=some (.bool (cX (aV (df a)) (aV (df b)))):=CG (a,b) ⟨⟨ha,hb⟩,Hz,o9⟩
def lO(l:List ax)(s:List ab):List Pc:=l.map fun r=>⟨r,s⟩
theorem edg3(k:List Pc)(own:List ax):Kq (br k own) (gh [k,lO own []]):=I' GU CB GV CC (fun x=>by
 unfold br;split
 · exact mS k x
 · rfl) fun x e h=>by
 unfold br
 rw[uG (k:=k) fun r hr=>h r (by simp only[List.flatMap_cons,List.mem_append];exact .inl hr),xX (l:=own) fun r hr=>h r (by
  simp only[List.flatMap_cons,List.mem_append]
  exact .inr (.inl (List.mem_map.2 ⟨⟨r,[]⟩,List.mem_map.2 ⟨r,hr,rfl⟩,rfl⟩)))]
def M9:aj:=M8.add 136 (entry (fun(v:List (List UInt8)×List ax×List Pc)=>[.ad (v.1.map .str),.fn 138 [.dz [.ad (v.2.1.map ax.enc)],.dz [.ad (v.2.2.map Pc.enc)]]]) (fun v=>((Kq (br v.2.2 v.2.1) v.1/\cC v.2.2)/\dp v.2.1/\v.2.1.length<=100000)/\v.1.length<=1000000) (fun v=> .ad ((aV (br v.2.2 v.2.1)).map Pc.enc)))
theorem Ji:ag Tryz.prog M9:=P16k_ok.bG Tryz.func136 (by kernel_rfl) (by kernel_rfl) fun v h=>uE v.1 _ _ (br v.2.2 v.2.1) (caps2 _ _) h.1.1.1 h.2 (fun x=>by unfold br;split;exact(qb h.1.1.2 x).2;exact⟨by simp,by simp[bj]⟩) (fun x hx=>M3 h.1.1.2 h.1.2.2 h.1.2.1 (by have:=h.1.1.1.len x hx;omega))
@[go_sem] theorem P16l_old{g:FuncId}{xs:List A}(h:g≠136):M9.f g xs=M8.f g xs:=aj.ak h
theorem yW(v:List (List UInt8)×List ax×List Pc)(h:((Kq (br v.2.2 v.2.1) v.1/\cC v.2.2)/\dp v.2.1/\v.2.1.length<=100000)/\v.1.length<=1000000):M9.f 136 [.ad (v.1.map .str),.fn 138 [.dz [.ad (v.2.1.map ax.enc)],.dz [.ad (v.2.2.map Pc.enc)]]]=some (.ad ((aV (br v.2.2 v.2.1)).map Pc.enc)):=aj.an (Γ:=M8) (fun i j h=>by simpa[Prod.ext_iff,and_assoc]using h) v h
theorem M_{es:List (List UInt8)}{own:List ax}{k:List Pc}(hE:Kq (br k own) es)(hk:cC k)(ho:dp own)(oN:own.length<=100000)(hl:es.length<=1000000):M9.f 136 [.ad (es.map .str),.fn 138 [.dz [.ad (own.map ax.enc)],.dz [.ad (k.map Pc.enc)]]]=some (.ad ((aV (br k own)).map Pc.enc)):=yW (es,own,k) ⟨⟨⟨hE,hk⟩,ho,oN⟩,hl⟩
def R15:aj:={M9 with l_:=fun f=>f==136,qU:=fun f=>f==136,c6:=fun n=>if n=8 then [[999999,2]]else []}
theorem R15_ok:ag Tryz.prog R15:=⟨Ji.f,Ji.hp⟩
@[go_sem] theorem R15_f:R15.f=M9.f:=rfl
@[go_sem] theorem R15_eff{g:FuncId}:R15.l_ g=(g==136):=rfl
@[go_sem] theorem R15_frz{g:FuncId}:R15.qU g=(g==136):=rfl
@[go_sem] theorem R15_fix{n:Nat}:R15.fix n=false:=rfl
@[go_sem] theorem R15_ords8:R15.c6 8=[[999999,2]]:=rfl
@[go_sem] theorem R15_ords{n:Nat}(h:n≠8):R15.c6 n=[]:=if_neg h
theorem Ye(l:List ax):dp (dd (ar l))/\(dd (ar l)).length<=l.length:=⟨uA _,qa l⟩
theorem wv:ai Tryz.prog R15 Tryz.f83.ntmps (Tryz.f83.body.getD .skip)=true:=by kernel_rfl
theorem yX(k:List Pc)(l:List ax)(hk:cC k)(hl:l.length<=1000)(oN:dp l):az Tryz.prog 83 [.ad (k.map Pc.enc),.ad (l.map ax.enc)] (· = .ad ((aV (br k (dd (ar l)))).map Pc.enc)):=by
 refine aa R15_ok mixed Tryz.func83 rfl (Nat.le_of_ble_eq_true rfl) wv ?_;unfold Tryz.f83;have h0:=MW (l:=l) (by omega) oN;obtain⟨o1,o2⟩:=Ye l;generalize dd (ar l)=own at*;simp-implicitDefEqProofs (disch:=(first|omega|decide)) only[go_sem,↓reduceIte,seval,h0,List.length_map]
 refine aU 6 4 rfl ?_;refine ao [0,1,2,4,5,11,12] (ι:={j:Nat//j<=own.length}) (fun p=>[(13,.int .i64 p.1),(6,.row 2 0 4 p.1 false)]) (fun p=>[(2,.row 4 ((lO (own.take p.1) []).map Pc.enc))]) (fun p=>own.length-p.1) ⟨0,by omega⟩ (Nat.zero_le _) ?_ ?_
 · simp-implicitDefEqProofs (disch:=(first|omega|decide)) only[go_sem,↓reduceIte,seval]
   simp[lO]
 · rintro⟨j,hj⟩
   simp only;have jg:((lO (own.take j) []).map Pc.enc).length=j:=by simp[lO];omega
   have tl:((lO (own.take j) []).map Pc.enc).take j=(lO (own.take j) []).map Pc.enc:=List.take_of_length_le (Nat.le_of_eq jg)
   by_cases aw:j<own.length
   · have ae:(j:Int)<(own.length:Int):=by omega
     have e1:=dw aw;have bR:lO (own.take (j+1)) []=lO (own.take j) []++[⟨own[j],[]⟩]:=by rw[<-List.take_append_getElem aw];unfold lO;rw[List.map_append];rfl
     generalize hp:own[j]=p at*;obtain⟨lo,hi,op⟩:=p;simp-implicitDefEqProofs (disch:=(first|omega|decide)) only[go_sem,↓reduceIte,seval,ae,e1,tl,jg,wrap_i64,List.length_map]
     exact⟨by omega,⟨j+1,aw⟩,⟨⟨by simp,rfl⟩,by rw[bR,List.map_append];rfl⟩,by show own.length-(j+1)<own.length-j;omega⟩
   · have ae: ¬(j:Int)<(own.length:Int):=by omega
     obtain rfl:j=own.length:=by omega
     rw[List.take_length]at*
     have oc:cC (lO own []):=⟨⟨by simp[lO];omega,by
      have: ∀m:List ax,wP (lO m [])=0:=fun m=>by
       induction m with
       |nil=>rfl
       |cons r m ih=>show wP (⟨r,[]⟩::lO m [])=0;rw[nT,ih];rfl
      rw[this];omega⟩,fun p hp=>by
      obtain⟨r,hr,rfl⟩:=List.mem_map.1 hp;exact o1 r hr⟩
     have h2:=Yc hk oc;have h3:=M_ (edg3 k own) hk o1 (by omega) (by have:=lE (LL:=[k,lO own []]);have:=hk.1.1;simp[mR,lO]at*;omega)
     have hle:(own.length<=own.length)=True:=by simp
     simp-implicitDefEqProofs (disch:=(first|omega|decide)) only[go_sem,↓reduceIte,seval,ae,h2,h3,tl,jg,hle,List.length_map,List.contains_nil,List.contains_cons]
def Ux:aj:=M9
theorem P17a_ok:ag Tryz.prog Ux:=Ji
@[go_sem] theorem P17a_old{g:FuncId}{xs:List A}:Ux.f g xs=M9.f g xs:=rfl
def uH:aj:=Ux.add 83 (entry (fun(v:List Pc×List ax)=>[.ad (v.1.map Pc.enc),.ad (v.2.map ax.enc)]) (fun v=>(cC v.1/\dp v.2)/\v.2.length<=1000) (fun v=> .ad ((aV (br v.1 (dd (ar v.2)))).map Pc.enc)))
theorem nX:ag Tryz.prog uH:=P17a_ok.bG Tryz.func83 (by kernel_rfl) (by kernel_rfl) fun v h=>yX v.1 v.2 h.1.1 h.2 h.1.2
@[go_sem] theorem P17b_old{g:FuncId}{xs:List A}(h:g≠83):uH.f g xs=Ux.f g xs:=aj.ak h
@[go_sem] theorem P17b_s:uH.pl Ux:=⟨fun _=>rfl,fun _=>rfl,rfl,fun _=>rfl,rfl,fun _=>rfl,rfl⟩
theorem sN(v:List Pc×List ax)(h:(cC v.1/\dp v.2)/\v.2.length<=1000):uH.f 83 [.ad (v.1.map Pc.enc),.ad (v.2.map ax.enc)]=some (.ad ((aV (br v.1 (dd (ar v.2)))).map Pc.enc)):=aj.an (Γ:=Ux) (fun i j h=>by simpa[Prod.ext_iff,and_assoc]using h) v h
theorem CH{k:List Pc}{l:List ax}(hk:cC k)(hl:l.length<=1000)(oN:dp l):uH.f 83 [.ad (k.map Pc.enc),.ad (l.map ax.enc)]=some (.ad ((aV (br k (dd (ar l)))).map Pc.enc)):=sN (k,l) ⟨⟨hk,oN⟩,hl⟩
theorem GX(p:Pc)(k:List Pc)(x:List UInt8)(n c:Int):bZ (p::k) x n c=((cg p.r x&&nL p.s n c)||bZ k x n c):=rfl
theorem M':ai Tryz.prog uH Tryz.f71.ntmps (Tryz.f71.body.getD .skip)=true:=by kernel_rfl
theorem P9(k:List Pc)(x:List UInt8)(n c:Int)(hk:cC k)(hx:x.length<=9223372036854775807):az Tryz.prog 71 [.ad (k.map Pc.enc),.str x,.agg [.int .i64 n,.int .i64 c]] (· = .bool (bZ k x n c)):=by
 refine aa nX mixed Tryz.func71 rfl (Nat.le_of_ble_eq_true rfl) M' ?_;unfold Tryz.f71;obtain⟨⟨k1,k2⟩,k3⟩:=id hk;simp-implicitDefEqProofs (disch:=(first|omega|decide)) only[go_sem,↓reduceIte,seval,List.length_map]
 refine ao [0,1,5,9,10] (ι:={j:Nat//j<=k.length/\bZ k x n c=bZ (k.drop j) x n c}) (fun p=>[(11,.int .i64 p.1)]) (fun _=>[]) (fun p=>k.length-p.1) ⟨0,by omega,rfl⟩ (Nat.zero_le _) ?_ ?_
 · simp-implicitDefEqProofs (disch:=(first|omega|decide)) only[go_sem,↓reduceIte,seval]
 · rintro⟨j,hj,hd⟩
   simp only at hj hd⊢;by_cases aw:j<k.length
   · have ae:(j:Int)<(k.length:Int):=by omega
     have e1:=fM aw;have fF:=k3 _ (List.getElem_mem aw)
     have yQ:=eT hk (List.getElem_mem aw)
     rw[List.drop_eq_getElem_cons aw,GX]at hd;generalize hp:k[j]=p at*;obtain⟨⟨lo,hi,op⟩,s⟩:=p;simp only at hd fF yQ;have hh:=Po (n:=n) (c:=c) yQ;have next:bZ k x n c=bZ (k.drop (j+1)) x n c-> ∃i:{j:Nat//j<=k.length/\bZ k x n c=bZ (k.drop j) x n c},(j:Int)+1=(i.1:Int)/\k.length-i.1<k.length-j:=fun h=>⟨⟨j+1,aw,h⟩,by simp,by show k.length-(j+1)<k.length-j;omega⟩
     cases h1:cg ⟨lo,hi,op⟩ x with
     |false=>
      rw[h1,Bool.false_and,Bool.false_or]at hd;simp-implicitDefEqProofs (disch:=(first|omega|decide)) only[go_sem,↓reduceIte,seval,ae,e1,h1,wrap_i64,List.length_map]
      exact next hd
     |true=>
      cases h2:nL s n c with
      |false=>
       rw[h1,h2,Bool.and_false,Bool.false_or]at hd;rw[h2]at hh;simp-implicitDefEqProofs (disch:=(first|omega|decide)) only[go_sem,↓reduceIte,seval,ae,e1,h1,hh,wrap_i64,List.length_map]
       exact next hd
      |true=>
       rw[h1,h2]at hd;have hh2:bZ k x n c=true:=by rw[hd];rfl
       rw[h2]at hh;simp-implicitDefEqProofs (disch:=(first|omega|decide)) only[go_sem,↓reduceIte,seval,ae,e1,h1,hh,hh2,wrap_i64,List.length_map]
   · have ae: ¬(j:Int)<(k.length:Int):=by omega
     have hh:bZ k x n c=false:=by rw[hd,List.drop_of_length_le (by omega)];rfl
     simp-implicitDefEqProofs (disch:=(first|omega|decide)) only[go_sem,↓reduceIte,seval,ae,hh,List.length_map]
theorem Jj:ai Tryz.prog uH Tryz.f74.ntmps (Tryz.f74.body.getD .skip)=true:=by kernel_rfl
theorem Na(k:List Pc)(x:List UInt8)(n c:Int)(hk:cC k)(hx:x.length<=9223372036854775807):az Tryz.prog 74 [.ad (k.map Pc.enc),.str x,.agg [.int .i64 n,.int .i64 c]] (· = .bool (bZ k x n c)):=by
 refine aa nX mixed Tryz.func74 rfl (Nat.le_of_ble_eq_true rfl) Jj ?_;unfold Tryz.f74;obtain⟨⟨k1,k2⟩,k3⟩:=id hk;simp-implicitDefEqProofs (disch:=(first|omega|decide)) only[go_sem,↓reduceIte,seval,List.length_map]
 refine ao [0,1,5] (ι:={j:Nat//j<=k.length/\bZ k x n c=bZ (k.drop j) x n c}) (fun p=>[(7,.int .i64 p.1)]) (fun _=>[]) (fun p=>k.length-p.1) ⟨0,by omega,rfl⟩ (Nat.zero_le _) ?_ ?_
 · simp-implicitDefEqProofs (disch:=(first|omega|decide)) only[go_sem,↓reduceIte,seval]
 · rintro⟨j,hj,hd⟩
   simp only at hj hd⊢;by_cases aw:j<k.length
   · have ae:(j:Int)<(k.length:Int):=by omega
     have e1:=fM aw;have fF:=k3 _ (List.getElem_mem aw)
     have yQ:=eT hk (List.getElem_mem aw)
     rw[List.drop_eq_getElem_cons aw,GX]at hd;generalize hp:k[j]=p at*;obtain⟨⟨lo,hi,op⟩,s⟩:=p;simp only at hd fF yQ;have hh:=Mg (n:=n) (c:=c) yQ;have next:bZ k x n c=bZ (k.drop (j+1)) x n c-> ∃i:{j:Nat//j<=k.length/\bZ k x n c=bZ (k.drop j) x n c},(j:Int)+1=(i.1:Int)/\k.length-i.1<k.length-j:=fun h=>⟨⟨j+1,aw,h⟩,by simp,by show k.length-(j+1)<k.length-j;omega⟩
     cases h1:cg ⟨lo,hi,op⟩ x with
     |false=>
      rw[h1,Bool.false_and,Bool.false_or]at hd;simp-implicitDefEqProofs (disch:=(first|omega|decide)) only[go_sem,↓reduceIte,seval,ae,e1,h1,wrap_i64,List.length_map]
      exact next hd
     |true=>
      cases h2:nL s n c with
      |false=>
       rw[h1,h2,Bool.and_false,Bool.false_or]at hd;rw[h2]at hh;simp-implicitDefEqProofs (disch:=(first|omega|decide)) only[go_sem,↓reduceIte,seval,ae,e1,h1,hh,wrap_i64,List.length_map]
       exact next hd
      |true=>
       rw[h1,h2]at hd;have hh2:bZ k x n c=true:=by rw[hd];rfl
       rw[h2]at hh;simp-implicitDefEqProofs (disch:=(first|omega|decide)) only[go_sem,↓reduceIte,seval,ae,e1,h1,hh,hh2,wrap_i64,List.length_map]
   · have ae: ¬(j:Int)<(k.length:Int):=by omega
     have hh:bZ k x n c=false:=by rw[hd,List.drop_of_length_le (by omega)];rfl
     simp-implicitDefEqProofs (disch:=(first|omega|decide)) only[go_sem,↓reduceIte,seval,ae,hh,List.length_map]
def wx(p:Pc):Bool:=decide ((40:Int)<(p.r.lo.length:Int))||(decide ((40:Int)<(p.r.hi.length:Int))||l0 p.s 16)
def jt(k:List Pc)(m:Int):Bool:=decide (m<(k.length:Int))||k.any wx
theorem EV:ai Tryz.prog uH Tryz.f63.ntmps (Tryz.f63.body.getD .skip)=true:=by kernel_rfl
theorem Jk(k:List Pc)(m:Int)(hk:k.length<=9223372036854775807)(hs: ∀p∈k,p.s.length<=9223372036854775807):az Tryz.prog 63 [.ad (k.map Pc.enc),.int .i64 m] (· = .bool (jt k m)):=by
 refine aa nX mixed Tryz.func63 rfl (Nat.le_of_ble_eq_true rfl) EV ?_;unfold Tryz.f63;by_cases h0:m<(k.length:Int)
 · have hh:jt k m=true:=by unfold jt;rw[decide_eq_true h0];rfl
   simp-implicitDefEqProofs (disch:=(first|omega|decide)) only[go_sem,↓reduceIte,seval,h0,hh,List.length_map]
 · simp-implicitDefEqProofs (disch:=(first|omega|decide)) only[go_sem,↓reduceIte,seval,h0,List.length_map]
   refine ao [0,1] (ι:={j:Nat//j<=k.length/\jt k m=(k.drop j).any wx}) (fun p=>[(5,.int .i64 p.1)]) (fun _=>[]) (fun p=>k.length-p.1) ⟨0,by omega,by unfold jt;rw[decide_eq_false h0,Bool.false_or];rfl⟩ (Nat.zero_le _) ?_ ?_
   · simp-implicitDefEqProofs (disch:=(first|omega|decide)) only[go_sem,↓reduceIte,seval]
   · rintro⟨j,hj,hd⟩
     simp only at hj hd⊢;by_cases aw:j<k.length
     · have ae:(j:Int)<(k.length:Int):=by omega
       have e1:=fM aw;have oP:=hs _ (List.getElem_mem aw)
       rw[List.drop_eq_getElem_cons aw,List.any_cons]at hd;generalize hp:k[j]=p at*;obtain⟨⟨lo,hi,op⟩,s⟩:=p;simp only[wx]at hd oP;have hL:=Iz (m:=16) oP;by_cases h1:(40:Int)<(lo.length:Int)
       · have hh:jt k m=true:=by rw[hd,decide_eq_true h1];rfl
         simp-implicitDefEqProofs (disch:=(first|omega|decide)) only[go_sem,↓reduceIte,seval,ae,e1,h1,hh,List.length_map]
       · by_cases h2:(40:Int)<(hi.length:Int)
         · have hh:jt k m=true:=by rw[hd,decide_eq_true h2];simp
           simp-implicitDefEqProofs (disch:=(first|omega|decide)) only[go_sem,↓reduceIte,seval,ae,e1,h1,h2,hh,List.length_map]
         · cases h3:l0 s 16 with
           |true=>
            have hh:jt k m=true:=by rw[hd,h3];simp
            rw[h3]at hL;simp-implicitDefEqProofs (disch:=(first|omega|decide)) only[go_sem,↓reduceIte,seval,ae,e1,h1,h2,hL,hh,List.length_map]
           |false=>
            rw[decide_eq_false h1,decide_eq_false h2,h3]at hd;simp only[Bool.or_self,Bool.false_or]at hd;rw[h3]at hL;simp-implicitDefEqProofs (disch:=(first|omega|decide)) only[go_sem,↓reduceIte,seval,ae,e1,h1,h2,hL,wrap_i64,List.length_map]
            exact⟨⟨j+1,aw,hd⟩,by simp,by show k.length-(j+1)<k.length-j;omega⟩
     · have ae: ¬(j:Int)<(k.length:Int):=by omega
       have hh:jt k m=false:=by rw[hd,List.drop_of_length_le (by omega)];rfl
       simp-implicitDefEqProofs (disch:=(first|omega|decide)) only[go_sem,↓reduceIte,seval,ae,hh,List.length_map]
theorem EW:ai Tryz.prog uH Tryz.f26.ntmps (Tryz.f26.body.getD .skip)=true:=by kernel_rfl
theorem Jl(a b:List Pc)(ha:cC a)(hb:cC b):az Tryz.prog 26 [.ad (a.map Pc.enc),.ad (b.map Pc.enc)] (· = .bool (cX a b)):=by
 refine aa nX mixed Tryz.func26 rfl (Nat.le_of_ble_eq_true rfl) EW ?_;unfold Tryz.f26;obtain⟨⟨a1,a2⟩,a3⟩:=id ha;obtain⟨⟨b1,b2⟩,b3⟩:=id hb;cases h0:((a.length:Int)==(b.length:Int))with
 |false=>
  have bU:a.length≠b.length:=by
   have:(a.length:Int)≠(b.length:Int):=by simpa using h0
   omega
  have hh:cX a b=false:=by unfold cX;simp;intro e;exact bU (by rw[e])
  simp-implicitDefEqProofs (disch:=(first|omega|decide)) only[go_sem,↓reduceIte,seval,h0,hh,List.length_map]
 |true=>
  have he:a.length=b.length:=by
   have:(a.length:Int)=(b.length:Int):=by simpa using h0
   omega
  simp-implicitDefEqProofs (disch:=(first|omega|decide)) only[go_sem,↓reduceIte,seval,h0,List.length_map]
  refine ao [0,1] (ι:={k:Nat//k<=a.length/\a.take k=b.take k}) (fun p=>[(5,.int .i64 p.1)]) (fun _=>[]) (fun p=>a.length-p.1) ⟨0,by omega,rfl⟩ (Nat.zero_le _) ?_ ?_
  · simp-implicitDefEqProofs (disch:=(first|omega|decide)) only[go_sem,↓reduceIte,seval]
  · rintro⟨k,hk,hd⟩
    simp only;by_cases aw:k<a.length
    · have ae:(k:Int)<(a.length:Int):=by omega
      have nQ:(k:Int)<(b.length:Int):=by omega
      have gQ:k<b.length:=by omega
      have e1:=fM aw;have e2:=fM gQ;have s1:=eT ha (List.getElem_mem aw)
      have s2:=eT hb (List.getElem_mem gQ)
      have t1:=(List.take_append_getElem aw).symm;have t2:=(List.take_append_getElem gQ).symm;have qF:a[k]≠b[k]->cX a b=false:=fun h=>by unfold cX;simp;intro e;subst e;exact h rfl
      generalize hx:a[k]=x at*;generalize hy:b[k]=y at*;obtain⟨⟨lo,hi,op⟩,s⟩:=x;obtain⟨⟨gm,eW,lW⟩,s'⟩:=y;simp only at s1 s2;have hs:=kt s1 s2;cases h1:lo==gm with
      |false=>
       have hh:=qF (fun e=>by injection e with e _;injection e with e _ _;simp[e]at h1)
       simp-implicitDefEqProofs (disch:=(first|omega|decide)) only[go_sem,↓reduceIte,seval,ae,nQ,e1,e2,h1,hh,Bool.false_and,Bool.not_false,List.length_map]
      |true=>
       cases h2:hi==eW with
       |false=>
        have hh:=qF (fun e=>by injection e with e _;injection e with _ e _;simp[e]at h2)
        simp-implicitDefEqProofs (disch:=(first|omega|decide)) only[go_sem,↓reduceIte,seval,ae,nQ,e1,e2,h1,h2,hh,Bool.false_and,Bool.true_and,Bool.not_false,List.length_map]
       |true=>
        cases h3:op==lW with
        |false=>
           have hh:=qF (fun e=>by injection e with e _;injection e with _ _ e;simp[e]at h3)
           simp-implicitDefEqProofs (disch:=(first|omega|decide)) only[go_sem,↓reduceIte,seval,ae,nQ,e1,e2,h1,h2,h3,hh,Bool.false_and,Bool.true_and,Bool.not_false,List.length_map]
        |true=>
           cases h4:bQ s s' with
           |false=>
            have hh:=qF (fun e=>by injection e with _ e;simp[bQ,e]at h4)
            rw[h4]at hs;simp-implicitDefEqProofs (disch:=(first|omega|decide)) only[go_sem,↓reduceIte,seval,ae,nQ,e1,e2,h1,h2,h3,hs,hh,Bool.true_and,Bool.not_true,List.length_map]
           |true=>
            obtain rfl:lo=gm:=by simpa using h1
            obtain rfl:hi=eW:=by simpa using h2
            obtain rfl:op=lW:=by simpa using h3
            obtain rfl:s=s':=by simpa[bQ]using h4
            rw[h4]at hs;simp-implicitDefEqProofs (disch:=(first|omega|decide)) only[go_sem,↓reduceIte,seval,ae,nQ,e1,e2,h1,h2,h3,hs,Bool.true_and,Bool.not_true,wrap_i64,List.length_map]
            exact⟨⟨k+1,aw,by rw[t1,t2,hd]⟩,by simp,by show a.length-(k+1)<a.length-k;omega⟩
    · have ae: ¬(k:Int)<(a.length:Int):=by omega
      have hh:cX a b=true:=by rw[List.take_of_length_le (by omega),List.take_of_length_le (by omega)]at hd;simp[cX,hd]
      simp-implicitDefEqProofs (disch:=(first|omega|decide)) only[go_sem,↓reduceIte,seval,ae,hh,List.length_map]
def cb(k:List Pc):List ax:=k.map (·.r)
theorem CI:ai Tryz.prog uH Tryz.f155.ntmps (Tryz.f155.body.getD .skip)=true:=by kernel_rfl
theorem EX(k:List Pc)(hk:cC k):az Tryz.prog 155 [.ad (k.map Pc.enc)] (· = .ad ((cb k).map ax.enc)):=by
 refine aa nX mixed Tryz.func155 rfl (Nat.le_of_ble_eq_true rfl) CI ?_;unfold Tryz.f155;obtain⟨⟨k1,k2⟩,k3⟩:=id hk;simp-implicitDefEqProofs (disch:=(first|omega|decide)) only[go_sem,↓reduceIte,seval,List.length_map]
 refine aU 3 3 rfl ?_;refine ao [0] (ι:={j:Nat//j<=k.length}) (fun p=>[(4,.int .i64 p.1),(3,.row 0 0 3 p.1 false)]) (fun p=>[(0,.row 3 ((cb (k.take p.1)).map ax.enc))]) (fun p=>k.length-p.1) ⟨0,by omega⟩ (Nat.zero_le _) ?_ ?_
 · simp-implicitDefEqProofs (disch:=(first|omega|decide)) only[go_sem,↓reduceIte,seval]
   simp[cb]
 · rintro⟨j,hj⟩
   simp only;have jg:((cb (k.take j)).map ax.enc).length=j:=by simp[cb];omega
   have tl:((cb (k.take j)).map ax.enc).take j=(cb (k.take j)).map ax.enc:=List.take_of_length_le (Nat.le_of_eq jg)
   by_cases aw:j<k.length
   · have ae:(j:Int)<(k.length:Int):=by omega
     have e1:=fM aw;have bR:cb (k.take (j+1))=cb (k.take j)++[k[j].r]:=by rw[<-List.take_append_getElem aw];unfold cb;rw[List.map_append];rfl
     generalize hp:k[j]=p at*;obtain⟨⟨lo,hi,op⟩,s⟩:=p;simp only at bR;simp-implicitDefEqProofs (disch:=(first|omega|decide)) only[go_sem,↓reduceIte,seval,ae,e1,tl,jg,wrap_i64,List.length_map]
     exact⟨by omega,⟨j+1,aw⟩,⟨⟨by simp,rfl⟩,by rw[bR,List.map_append];rfl⟩,by show k.length-(j+1)<k.length-j;omega⟩
   · have ae: ¬(j:Int)<(k.length:Int):=by omega
     obtain rfl:j=k.length:=by omega
     rw[List.take_length]at*;simp-implicitDefEqProofs (disch:=(first|omega|decide)) only[go_sem,↓reduceIte,seval,ae,tl,jg,List.length_map]
     try exact Nat.le_refl _
def en(op:Int)(a b:List Pc)(l:List ax)(x:List UInt8):List ab:=if op=1 then N6 1 (df a x) (df b x)else if op=2 then N6 3 (df a x) (df b x)else br a l x
theorem EY:ai Tryz.prog uH Tryz.f156.ntmps (Tryz.f156.body.getD .skip)=true:=by kernel_rfl
theorem Jm(op:Int)(a b:List Pc)(l:List ax)(x:List UInt8)(ha:gn a)(hb:gn b)(hl:l.length<=100000)(oN:dp l)(hx:x.length<=9223372036854775807):az Tryz.prog 156 [.int .i64 op,.ad (a.map Pc.enc),.ad (b.map Pc.enc),.ad (l.map ax.enc),.str x] (· = .ad ((en op a b l x).map ab.enc)):=by
 refine aa nX mixed Tryz.func156 rfl (Nat.le_of_ble_eq_true rfl) EY ?_;unfold Tryz.f156;have h1:=p_rAt ha hx;have h2:=p_rAt hb hx;have h3:=kv (a:=df a x) (b:=df b x) Xu (mQ ha x).2 (mQ hb x).2;have h4:=kv (a:=df a x) (b:=df b x) opOK3 (mQ ha x).2 (mQ hb x).2;have h5:=l6 hl oN hx;unfold en;cases e1:op==1 with
 |true=>
  have e1':op=1:=by simpa using e1
  rw[if_pos e1']
  simp-implicitDefEqProofs (disch:=(first|omega|decide)) only[go_sem,↓reduceIte,seval,h1,h2,h3,e1]
 |false=>
  have e1':op≠1:=by simpa using e1
  rw[if_neg e1']
  cases e2:op==2 with
  |true=>
   have e2':op=2:=by simpa using e2
   rw[if_pos e2']
   simp-implicitDefEqProofs (disch:=(first|omega|decide)) only[go_sem,↓reduceIte,seval,h1,h2,h4,e1,e2]
  |false=>
   have e2':op≠2:=by simpa using e2
   rw[if_neg e2']
   unfold br;cases e3:ar l x with
   |true=>
    rw[e3]at h5;simp-implicitDefEqProofs (disch:=(first|omega|decide)) only[go_sem,↓reduceIte,seval,h1,h5,e1,e2]
   |false=>
    rw[e3]at h5;simp-implicitDefEqProofs (disch:=(first|omega|decide)) only[go_sem,↓reduceIte,seval,h5,e1,e2,List.map_nil,Bool.false_eq_true]
def EZ:aj:=uH.add 71 (entry (fun(v:List Pc×List UInt8×Int×Int)=>[.ad (v.1.map Pc.enc),.str v.2.1,.agg [.int .i64 v.2.2.1,.int .i64 v.2.2.2]]) (fun v=>cC v.1/\v.2.1.length<=9223372036854775807) (fun v=> .bool (bZ v.1 v.2.1 v.2.2.1 v.2.2.2)))
theorem P17c_ok:ag Tryz.prog EZ:=nX.bG Tryz.func71 (by kernel_rfl) (by kernel_rfl) fun v h=>P9 v.1 v.2.1 v.2.2.1 v.2.2.2 h.1 h.2
@[go_sem] theorem P17c_old{g:FuncId}{xs:List A}(h:g≠71):EZ.f g xs=uH.f g xs:=aj.ak h
theorem E4(v:List Pc×List UInt8×Int×Int)(h:cC v.1/\v.2.1.length<=9223372036854775807):EZ.f 71 [.ad (v.1.map Pc.enc),.str v.2.1,.agg [.int .i64 v.2.2.1,.int .i64 v.2.2.2]]=some (.bool (bZ v.1 v.2.1 v.2.2.1 v.2.2.2)):=aj.an (Γ:=uH) (fun i j h=>by simpa[Prod.ext_iff,and_assoc]using h) v h
def E5:aj:=EZ.add 74 (entry (fun(v:List Pc×List UInt8×Int×Int)=>[.ad (v.1.map Pc.enc),.str v.2.1,.agg [.int .i64 v.2.2.1,.int .i64 v.2.2.2]]) (fun v=>cC v.1/\v.2.1.length<=9223372036854775807) (fun v=> .bool (bZ v.1 v.2.1 v.2.2.1 v.2.2.2)))
theorem P17d_ok:ag Tryz.prog E5:=P17c_ok.bG Tryz.func74 (by kernel_rfl) (by kernel_rfl) fun v h=>Na v.1 v.2.1 v.2.2.1 v.2.2.2 h.1 h.2
@[go_sem] theorem P17d_old{g:FuncId}{xs:List A}(h:g≠74):E5.f g xs=EZ.f g xs:=aj.ak h
theorem CJ(v:List Pc×List UInt8×Int×Int)(h:cC v.1/\v.2.1.length<=9223372036854775807):E5.f 74 [.ad (v.1.map Pc.enc),.str v.2.1,.agg [.int .i64 v.2.2.1,.int .i64 v.2.2.2]]=some (.bool (bZ v.1 v.2.1 v.2.2.1 v.2.2.2)):=aj.an (Γ:=EZ) (fun i j h=>by simpa[Prod.ext_iff,and_assoc]using h) v h
def P_:aj:=E5.add 63 (entry (fun(v:List Pc×Int)=>[.ad (v.1.map Pc.enc),.int .i64 v.2]) (fun v=>v.1.length<=9223372036854775807/\ ∀p∈v.1,p.s.length<=9223372036854775807) (fun v=> .bool (jt v.1 v.2)))
theorem P17e_ok:ag Tryz.prog P_:=P17d_ok.bG Tryz.func63 (by kernel_rfl) (by kernel_rfl) fun v h=>Jk v.1 v.2 h.1 h.2
@[go_sem] theorem P17e_old{g:FuncId}{xs:List A}(h:g≠63):P_.f g xs=E5.f g xs:=aj.ak h
theorem yY(v:List Pc×Int)(h:v.1.length<=9223372036854775807/\ ∀p∈v.1,p.s.length<=9223372036854775807):P_.f 63 [.ad (v.1.map Pc.enc),.int .i64 v.2]=some (.bool (jt v.1 v.2)):=aj.an (Γ:=E5) (fun i j h=>by simpa[Prod.ext_iff,and_assoc]using h) v h
def Qa:aj:=P_.add 26 (entry (fun(v:List Pc×List Pc)=>[.ad (v.1.map Pc.enc),.ad (v.2.map Pc.enc)]) (fun v=>cC v.1/\cC v.2) (fun v=> .bool (cX v.1 v.2)))
theorem P17f_ok:ag Tryz.prog Qa:=P17e_ok.bG Tryz.func26 (by kernel_rfl) (by kernel_rfl) fun v h=>Jl v.1 v.2 h.1 h.2
@[go_sem] theorem P17f_old{g:FuncId}{xs:List A}(h:g≠26):Qa.f g xs=P_.f g xs:=aj.ak h
theorem yZ(v:List Pc×List Pc)(h:cC v.1/\cC v.2):Qa.f 26 [.ad (v.1.map Pc.enc),.ad (v.2.map Pc.enc)]=some (.bool (cX v.1 v.2)):=aj.an (Γ:=P_) (fun i j h=>by simpa[Prod.ext_iff,and_assoc]using h) v h
def Qb:aj:=Qa.add 155 (entry (fun(k:List Pc)=>[.ad (k.map Pc.enc)]) (fun k=>cC k) (fun k=> .ad ((cb k).map ax.enc)))
theorem P17g_ok:ag Tryz.prog Qb:=P17f_ok.bG Tryz.func155 (by kernel_rfl) (by kernel_rfl) fun k h=>EX k h
@[go_sem] theorem P17g_old{g:FuncId}{xs:List A}(h:g≠155):Qb.f g xs=Qa.f g xs:=aj.ak h
theorem wy(k:List Pc)(h:cC k):Qb.f 155 [.ad (k.map Pc.enc)]=some (.ad ((cb k).map ax.enc)):=aj.an (Γ:=Qa) (fun i j h=>by simpa[Prod.ext_iff,and_assoc]using h) k h
def E6:aj:=Qb.add 156 (entry (fun(v:(Int×List Pc×List Pc)×List ax×List UInt8)=>[.int .i64 v.1.1,.ad (v.1.2.1.map Pc.enc),.ad (v.1.2.2.map Pc.enc),.ad (v.2.1.map ax.enc),.str v.2.2]) (fun v=>(gn v.1.2.1/\gn v.1.2.2)/\(v.2.1.length<=100000/\dp v.2.1)/\v.2.2.length<=9223372036854775807) (fun v=> .ad ((en v.1.1 v.1.2.1 v.1.2.2 v.2.1 v.2.2).map ab.enc)))
theorem Jn:ag Tryz.prog E6:=P17g_ok.bG Tryz.func156 (by kernel_rfl) (by kernel_rfl) fun v h=>Jm v.1.1 v.1.2.1 v.1.2.2 v.2.1 v.2.2 h.1.1 h.1.2 h.2.1.1 h.2.1.2 h.2.2
@[go_sem] theorem P17h_old{g:FuncId}{xs:List A}(h:g≠156):E6.f g xs=Qb.f g xs:=aj.ak h
theorem y0(v:(Int×List Pc×List Pc)×List ax×List UInt8)(h:(gn v.1.2.1/\gn v.1.2.2)/\(v.2.1.length<=100000/\dp v.2.1)/\v.2.2.length<=9223372036854775807):E6.f 156 [.int .i64 v.1.1,.ad (v.1.2.1.map Pc.enc),.ad (v.1.2.2.map Pc.enc),.ad (v.2.1.map ax.enc),.str v.2.2]=some (.ad ((en v.1.1 v.1.2.1 v.1.2.2 v.2.1 v.2.2).map ab.enc)):=aj.an (Γ:=Qb) (fun i j h=>by simpa[Prod.ext_iff,and_assoc]using h) v h
theorem Yf{k:List Pc}{x:List UInt8}{n c:Int}(h:cC k)(hx:x.length<=9223372036854775807):EZ.f 71 [.ad (k.map Pc.enc),.str x,.agg [.int .i64 n,.int .i64 c]]=some (.bool (bZ k x n c)):=E4 (k,x,n,c) ⟨h,hx⟩
theorem Qc{k:List Pc}{x:List UInt8}{n c:Int}(h:cC k)(hx:x.length<=9223372036854775807):E5.f 74 [.ad (k.map Pc.enc),.str x,.agg [.int .i64 n,.int .i64 c]]=some (.bool (bZ k x n c)):=CJ (k,x,n,c) ⟨h,hx⟩
theorem Sb{k:List Pc}{m:Int}(h:k.length<=9223372036854775807)(h': ∀p∈k,p.s.length<=9223372036854775807):P_.f 63 [.ad (k.map Pc.enc),.int .i64 m]=some (.bool (jt k m)):=yY (k,m) ⟨h,h'⟩
theorem Sc{a b:List Pc}(ha:cC a)(hb:cC b):Qa.f 26 [.ad (a.map Pc.enc),.ad (b.map Pc.enc)]=some (.bool (cX a b)):=yZ (a,b) ⟨ha,hb⟩
theorem Sd{k:List Pc}(h:cC k):Qb.f 155 [.ad (k.map Pc.enc)]=some (.ad ((cb k).map ax.enc)):=wy k h
theorem p_What{op:Int}{a b:List Pc}{l:List ax}{x:List UInt8}(ha:gn a)(hb:gn b)(hl:l.length<=100000)(oN:dp l)(hx:x.length<=9223372036854775807):E6.f 156 [.int .i64 op,.ad (a.map Pc.enc),.ad (b.map Pc.enc),.ad (l.map ax.enc),.str x]=some (.ad ((en op a b l x).map ab.enc)):=y0 ((op,a,b),l,x) ⟨⟨ha,hb⟩,⟨hl,oN⟩,hx⟩
theorem edg4(op:Int)(a b:List Pc)(l:List ax):Kq (en op a b l) (iq (cb a) (cb b++l)):=I' (m:=cb a++(cb b++l)) (Gs _ _) (Bi _ _) (tZ _ _) (fun r hr h=>sq _ _ r hr h) (fun x=>by
 unfold en;split
 · exact qR _ _ _
 · split
   · exact qR _ _ _
   · unfold br;split
     · exact mS _ _
     · rfl) fun x e h=>by
 have h1:=uG (k:=a) (x:=x) (e:=e) fun r hr=>h r (by simp only[List.mem_append];exact .inl hr)
 have h2:=uG (k:=b) (x:=x) (e:=e) fun r hr=>h r (by simp only[List.mem_append];exact .inr (.inl hr))
 have h3:=xX (l:=l) (x:=x) (e:=e) fun r hr=>h r (by simp only[List.mem_append];exact .inr (.inr hr))
 unfold en br;rw[h1,h2,h3]
theorem Qd{op:Int}{a b:List Pc}{l:List ax}(ha:gn a)(hb:gn b)(x:List UInt8):aG (en op a b l x):=by
 have h1:=MY (setAt a x)
 have h2:=MY (setAt b x)
 have h3:=ha.2.1 x;have h4:=hb.2.1 x;unfold en;split
 · have:=opK_w 1 (df a x) (df b x);unfold df at*;exact⟨by omega,by omega⟩
 · split
   · have:=opK_w 3 (df a x) (df b x);unfold df at*;exact⟨by omega,by omega⟩
   · unfold br;split
     · unfold df;exact⟨by omega,by omega⟩
     · exact⟨by simp,by simp[bj]⟩
def M15:aj:={E6 with l_:=fun f=>f==107,qU:=fun f=>f==107}
theorem M15_ok:ag Tryz.prog M15:=⟨Jn.f,Jn.hp⟩
@[go_sem] theorem M15_f:M15.f=E6.f:=rfl
@[go_sem] theorem M15_eff{g:FuncId}:M15.l_ g=(g==107):=rfl
@[go_sem] theorem M15_frz{g:FuncId}:M15.qU g=(g==107):=rfl
@[go_sem] theorem M15_fix{n:Nat}:M15.fix n=false:=rfl
@[go_sem] theorem M15_ords{n:Nat}:M15.c6 n=[]:=rfl
theorem Nb{k:List Pc}(h:cC k):dp (cb k)/\(cb k).length=k.length:=⟨fun r hr=>by obtain⟨p,hp,rfl⟩:=List.mem_map.1 hr;exact h.2 p hp,by simp[cb]⟩
theorem stG(l:List ax):((l.map ax.enc).isEmpty||bT (l.map ax.enc)==3)=true:=by cases l<;>rfl
theorem E7:ai Tryz.prog M15 Tryz.f102.ntmps (Tryz.f102.body.getD .skip)=true:=by kernel_rfl
theorem Jo(op:Int)(a b:List Pc)(l:List ax)(ha:gn a)(hb:gn b)(Wd:a.length<=500)(hbl:b.length<=500)(hl:l.length<=500)(oN:dp l):
 az Tryz.prog 102 [.int .i64 op,.ad (a.map Pc.enc),.ad (b.map Pc.enc),.ad (l.map ax.enc)] (· = .ad ((aV (en op a b l)).map Pc.enc)):=by
 refine aa M15_ok mixed Tryz.func102 rfl (Nat.le_of_ble_eq_true rfl) E7 ?_;unfold Tryz.f102;have hE:=edg4 op a b l;have yQ:=fun x=>Qd (op:=op) (l:=l) ha hb x;have s1:=Sd ha.1;have s2:=Sd hb.1;obtain⟨oa,la⟩:=Nb ha.1;obtain⟨ob,lb⟩:=Nb hb.1
 have ocut:dp (cb b++l):=fun r hr=>by
  rcases List.mem_append.1 hr with hr|hr
  · exact ob r hr
  · exact oN r hr
 have he:=EJ (a:=cb a) (b:=cb b++l) ⟨by omega,by rw[List.length_append];omega⟩ oa ocut;have Zz:=O5 (cb a) (cb b++l)
 rw[List.length_append]at Zz;have hWh:=fun x (hx:x∈iq (cb a) (cb b++l))=>p_What (op:=op) (x:=x) ha hb (l:=l) (by omega) oN (by have:=hE.len x hx;omega)
 generalize iq (cb a) (cb b++l)=es at*;generalize en op a b l=P at*;have st2:=stG (cb b)
 have st3:=stG l;have tl0:List.take (cb b).length ((cb b).map ax.enc)=(cb b).map ax.enc:=List.take_of_length_le (by simp)
 have tl1:List.take ((cb b).length+l.length) ((cb b).map ax.enc++l.map ax.enc)=(cb b).map ax.enc++l.map ax.enc:=List.take_of_length_le (by simp)
 rw[List.map_append]at he;simp-implicitDefEqProofs (disch:=(first|omega|decide)) only[go_sem,↓reduceIte,seval,s1,s2,st2,st3,tl0,tl1,he,List.length_map,List.contains_nil,List.contains_cons]
 refine⟨by omega,⟨Nat.le_refl _,by omega⟩,by simp, ?_⟩
 refine aU 11 4 rfl ?_;refine ao [0,1,2,3,10] (ι:={k:Nat//k<=es.length}) (fun p=>[(12,.int .i64 p.1),(11,.row 2 0 4 (kL P es p.1).length false)]) (fun p=>[(2,.row 4 (dg (kL P es p.1)))]) (fun p=>es.length-p.1) ⟨0,by omega⟩ (Nat.zero_le _) ?_ ?_
 · simp-implicitDefEqProofs (disch:=(first|omega|decide)) only[go_sem,↓reduceIte,seval]
   simp[kL,dg]
 · rintro⟨k,hk⟩
   simp only;have qx:=zH P es k;by_cases aw:k<es.length
   · have ae:(k:Int)<(es.length:Int):=by omega
     have e1:=uD aw;have TO:es[k]! ∈es:=by rw[getElem!_pos es k aw];exact List.getElem_mem _
     have yT:=hWh _ TO;have By:=(pP hE k (by omega)).1;have uF:=qc P es k;have P3:=yQ (es[k]!)
     have ER:=hE.right (es[k]!)
     have next: ∀m',kL P es (k+1)=m'-> ∃i:{k:Nat//k<=es.length},(((k:Int)+1=(i.1:Int)/\m'.length=(kL P es i.1).length)/\dg m'=dg (kL P es i.1))/\es.length-i.1<es.length-k:=fun m' h=>⟨⟨k+1,aw⟩,⟨⟨by simp,by rw[h]⟩,by rw[h]⟩,by show es.length-(k+1)<es.length-k;omega⟩
     have bR:kL P es (k+1)=if P (es[k]!)=[]then kL P es k else b9 (kL P es k) ⟨jS es k,P (es[k]!)⟩:=rfl
     generalize kL P es k=m at*;generalize hs:es[k]! =s at*;generalize hS:P s=S at*;by_cases hn:k+1<es.length
     · have jw:(k:Int)+1<(es.length:Int):=by omega
       have e2:=uD hn;have c9:((k:Int)+1).toNat=k+1:=by omega
       have c8:(0:Int)<=(k:Int)+1:=by omega
       have hr:jS es k=⟨s,es[k+1]!,false⟩:=by unfold jS;rw[if_pos hn,hs]
       rw[hr]at bR;cases nV:((S.length:Int)==0)with
       |true=>
        have hS00:(S.length:Int)=0:=by simpa using nV
        have P4:S=[]:=List.length_eq_zero_iff.1 (by omega)
        rw[if_pos P4]at bR;have fin:=next _ bR
        simp-implicitDefEqProofs (disch:=(first|omega|decide)) only[go_sem,↓reduceIte,seval,ae,e1,yT,jw,e2,c9,c8,nV,wrap_i64,List.length_map]
        exact fin
       |false=>
        have P4:S≠ []:=fun e=>by rw[e]at nV;simp at nV
        rw[if_neg P4]at bR;cases m with
        |nil=>
          have fin:=next _ bR
          simp only[b9,aW,jT,List.nil_append,List.length_cons,List.length_nil]at fin;rw[jT]
          simp-implicitDefEqProofs (maxSteps:=600000) (disch:=(first|omega|decide)) only[go_sem,↓reduceIte,seval,ae,e1,yT,jw,e2,c9,c8,nV,wrap_i64,List.length_map,List.length_nil]
          exact fin
        |cons q qs=>
          have Rt:aZ q.s=true:=by have:=By q (by simp);simp only[dW,Bool.and_eq_true]at this;exact this.2
          have Up:aG q.s:=by obtain⟨e,he⟩:=uF q (by simp);rw[he];exact yQ e
          obtain⟨⟨gm,eW,lW⟩,s'⟩:=q;simp only at Rt Up;have dN:=kt Up P3;have hml':qs.length+1<=k:=qx;have b0:(0:Int)<((qs.length+1:Nat):Int):=by omega
          have b1:(((qs.length+1:Nat):Int)-1).toNat=qs.length:=by omega
          have b2:(0:Int)<=((qs.length+1:Nat):Int)-1:=by omega
          have b3:((qs.length+1:Nat):Int)-1<((qs.length+1:Nat):Int):=by omega
          have g1: ∀x:A,(dg qs++[x])[qs.length]? =some x:=fun x=>by
           have:=Go.bJ.ga (x:=x) (l:=dg qs)
           rwa [dH]at this
          have g2: ∀x v:A,cn (dg qs++[x]) qs.length v=dg qs++[v]:=fun x v=>by
           have:=Go.bJ.gf (x:=x) (v:=v) (l:=dg qs)
           rwa [dH]at this
          have gl: ∀x:A,(dg qs++[x]).length=qs.length+1:=fun x=>by rw[List.length_append,dH];rfl
          have gt: ∀x:A,(dg qs++[x]).take (qs.length+1)=dg qs++[x]:=fun x=>List.take_of_length_le (Nat.le_of_eq (gl x))
          rw[aW]
          cases lW with
          |true=>
           have dX:b9 (⟨⟨gm,eW,true⟩,s'⟩::qs) ⟨⟨s,es[k+1]!,false⟩,S⟩=⟨⟨s,es[k+1]!,false⟩,S⟩::⟨⟨gm,eW,true⟩,s'⟩::qs:=by simp[b9]
           have fin:=next _ bR
           rw[dX,aW,aW]at fin;simp-implicitDefEqProofs (maxSteps:=600000) (disch:=(first|omega|decide)) only[go_sem,↓reduceIte,seval,ae,e1,yT,jw,e2,c9,c8,nV,b0,b1,b2,b3,g1,g2,gl,gt,wrap_i64,List.length_map,List.length_cons,Bool.not_true,Bool.false_and]
           exact⟨⟨Nat.le_refl _,by omega⟩,fin⟩
          |false=>
           cases h1:eW==s with
           |false=>
            have dX:b9 (⟨⟨gm,eW,false⟩,s'⟩::qs) ⟨⟨s,es[k+1]!,false⟩,S⟩=⟨⟨s,es[k+1]!,false⟩,S⟩::⟨⟨gm,eW,false⟩,s'⟩::qs:=by simp only[b9];rw[if_neg (by rw[h1];simp)]
            have fin:=next _ bR
            rw[dX,aW,aW]at fin;simp-implicitDefEqProofs (maxSteps:=600000) (disch:=(first|omega|decide)) only[go_sem,↓reduceIte,seval,ae,e1,yT,jw,e2,c9,c8,nV,b0,b1,b2,b3,g1,g2,gl,gt,h1,wrap_i64,List.length_map,List.length_cons,Bool.not_false,Bool.true_and]
            exact⟨⟨Nat.le_refl _,by omega⟩,fin⟩
           |true=>
            cases h2:bQ s' S with
            |false=>
             have mB:s'≠S:=by simpa[bQ]using h2
             rw[h2]at dN;have dX:b9 (⟨⟨gm,eW,false⟩,s'⟩::qs) ⟨⟨s,es[k+1]!,false⟩,S⟩=⟨⟨s,es[k+1]!,false⟩,S⟩::⟨⟨gm,eW,false⟩,s'⟩::qs:=by simp only[b9];rw[if_neg (by simp[mB])]
             have fin:=next _ bR
             rw[dX,aW,aW]at fin;simp-implicitDefEqProofs (maxSteps:=600000) (disch:=(first|omega|decide)) only[go_sem,↓reduceIte,seval,ae,e1,yT,jw,e2,c9,c8,nV,b0,b1,b2,b3,g1,g2,gl,gt,h1,dN,wrap_i64,List.length_map,List.length_cons,Bool.not_false,Bool.true_and]
             exact⟨⟨Nat.le_refl _,by omega⟩,fin⟩
            |true=>
             have mB:s'=S:=by simpa[bQ]using h2
             rw[h2]at dN;have dX:b9 (⟨⟨gm,eW,false⟩,s'⟩::qs) ⟨⟨s,es[k+1]!,false⟩,S⟩=⟨⟨gm,es[k+1]!,false⟩,s'⟩::qs:=by simp only[b9];rw[if_pos (by simp[h1,mB])]
             have fin:=next _ bR
             rw[dX,aW]at fin;simp-implicitDefEqProofs (maxSteps:=600000) (disch:=(first|omega|decide)) only[go_sem,↓reduceIte,seval,ae,e1,yT,jw,e2,c9,c8,nV,b0,b1,b2,b3,g1,g2,gl,gt,h1,dN,wrap_i64,List.length_map,List.length_cons,Bool.not_false,Bool.true_and]
             exact fin
     · have jw: ¬(k:Int)+1<(es.length:Int):=by omega
       have hr:jS es k=⟨s,[],true⟩:=by unfold jS;rw[if_neg hn,hs]
       rw[hr]at bR;cases nV:((S.length:Int)==0)with
       |true=>
        have hS00:(S.length:Int)=0:=by simpa using nV
        have P4:S=[]:=List.length_eq_zero_iff.1 (by omega)
        rw[if_pos P4]at bR;have fin:=next _ bR
        simp-implicitDefEqProofs (disch:=(first|omega|decide)) only[go_sem,↓reduceIte,seval,ae,e1,yT,jw,nV,wrap_i64,List.length_map]
        exact fin
       |false=>
        have P4:S≠ []:=fun e=>by rw[e]at nV;simp at nV
        rw[if_neg P4]at bR;cases m with
        |nil=>
          have fin:=next _ bR
          simp only[b9,aW,jT,List.nil_append,List.length_cons,List.length_nil]at fin;rw[jT]
          simp-implicitDefEqProofs (maxSteps:=600000) (disch:=(first|omega|decide)) only[go_sem,↓reduceIte,seval,ae,e1,yT,jw,nV,wrap_i64,List.length_map,List.length_nil]
          exact fin
        |cons q qs=>
          have Rt:aZ q.s=true:=by have:=By q (by simp);simp only[dW,Bool.and_eq_true]at this;exact this.2
          have Up:aG q.s:=by obtain⟨e,he⟩:=uF q (by simp);rw[he];exact yQ e
          obtain⟨⟨gm,eW,lW⟩,s'⟩:=q;simp only at Rt Up;have dN:=kt Up P3;have hml':qs.length+1<=k:=qx;have b0:(0:Int)<((qs.length+1:Nat):Int):=by omega
          have b1:(((qs.length+1:Nat):Int)-1).toNat=qs.length:=by omega
          have b2:(0:Int)<=((qs.length+1:Nat):Int)-1:=by omega
          have b3:((qs.length+1:Nat):Int)-1<((qs.length+1:Nat):Int):=by omega
          have g1: ∀x:A,(dg qs++[x])[qs.length]? =some x:=fun x=>by
           have:=Go.bJ.ga (x:=x) (l:=dg qs)
           rwa [dH]at this
          have g2: ∀x v:A,cn (dg qs++[x]) qs.length v=dg qs++[v]:=fun x v=>by
           have:=Go.bJ.gf (x:=x) (v:=v) (l:=dg qs)
           rwa [dH]at this
          have gl: ∀x:A,(dg qs++[x]).length=qs.length+1:=fun x=>by rw[List.length_append,dH];rfl
          have gt: ∀x:A,(dg qs++[x]).take (qs.length+1)=dg qs++[x]:=fun x=>List.take_of_length_le (Nat.le_of_eq (gl x))
          rw[aW]
          cases lW with
          |true=>
           have dX:b9 (⟨⟨gm,eW,true⟩,s'⟩::qs) ⟨⟨s,[],true⟩,S⟩=⟨⟨s,[],true⟩,S⟩::⟨⟨gm,eW,true⟩,s'⟩::qs:=by simp[b9]
           have fin:=next _ bR
           rw[dX,aW,aW]at fin;simp-implicitDefEqProofs (maxSteps:=600000) (disch:=(first|omega|decide)) only[go_sem,↓reduceIte,seval,ae,e1,yT,jw,nV,b0,b1,b2,b3,g1,g2,gl,gt,wrap_i64,List.length_map,List.length_cons,Bool.not_true,Bool.false_and]
           exact⟨⟨Nat.le_refl _,by omega⟩,fin⟩
          |false=>
           cases h1:eW==s with
           |false=>
            have dX:b9 (⟨⟨gm,eW,false⟩,s'⟩::qs) ⟨⟨s,[],true⟩,S⟩=⟨⟨s,[],true⟩,S⟩::⟨⟨gm,eW,false⟩,s'⟩::qs:=by simp only[b9];rw[if_neg (by rw[h1];simp)]
            have fin:=next _ bR
            rw[dX,aW,aW]at fin;simp-implicitDefEqProofs (maxSteps:=600000) (disch:=(first|omega|decide)) only[go_sem,↓reduceIte,seval,ae,e1,yT,jw,nV,b0,b1,b2,b3,g1,g2,gl,gt,h1,wrap_i64,List.length_map,List.length_cons,Bool.not_false,Bool.true_and]
            exact⟨⟨Nat.le_refl _,by omega⟩,fin⟩
           |true=>
            cases h2:bQ s' S with
            |false=>
             have mB:s'≠S:=by simpa[bQ]using h2
             rw[h2]at dN;have dX:b9 (⟨⟨gm,eW,false⟩,s'⟩::qs) ⟨⟨s,[],true⟩,S⟩=⟨⟨s,[],true⟩,S⟩::⟨⟨gm,eW,false⟩,s'⟩::qs:=by simp only[b9];rw[if_neg (by simp[mB])]
             have fin:=next _ bR
             rw[dX,aW,aW]at fin;simp-implicitDefEqProofs (maxSteps:=600000) (disch:=(first|omega|decide)) only[go_sem,↓reduceIte,seval,ae,e1,yT,jw,nV,b0,b1,b2,b3,g1,g2,gl,gt,h1,dN,wrap_i64,List.length_map,List.length_cons,Bool.not_false,Bool.true_and]
             exact⟨⟨Nat.le_refl _,by omega⟩,fin⟩
            |true=>
             have mB:s'=S:=by simpa[bQ]using h2
             rw[h2]at dN;have dX:b9 (⟨⟨gm,eW,false⟩,s'⟩::qs) ⟨⟨s,[],true⟩,S⟩=⟨⟨gm,[],true⟩,s'⟩::qs:=by simp only[b9];rw[if_pos (by simp[h1,mB])]
             have fin:=next _ bR
             rw[dX,aW]at fin;simp-implicitDefEqProofs (maxSteps:=600000) (disch:=(first|omega|decide)) only[go_sem,↓reduceIte,seval,ae,e1,yT,jw,nV,b0,b1,b2,b3,g1,g2,gl,gt,h1,dN,wrap_i64,List.length_map,List.length_cons,Bool.not_false,Bool.true_and]
             exact fin
   · have ae: ¬(k:Int)<(es.length:Int):=by omega
     obtain rfl:k=es.length:=by omega
     have gZ:=(nN hE).1;have dQ:dg (kL P es es.length)=(aV P).map Pc.enc:=by unfold dg;rw[gZ]
     have tk:List.take (kL P es es.length).length (dg (kL P es es.length))=dg (kL P es es.length):=List.take_of_length_le (by rw[dH];exact Nat.le_refl _)
     have LX:=dH (kL P es es.length)
     simp-implicitDefEqProofs (disch:=(first|omega|decide)) only[go_sem,↓reduceIte,seval,ae,tk,LX,wrap_i64,List.length_map]
     rw[<-dQ]
     exact⟨Nat.le_refl _,rfl⟩
def wz:aj:=E6.add 102 (entry (fun(v:(Int×List Pc×List Pc)×List ax)=>[.int .i64 v.1.1,.ad (v.1.2.1.map Pc.enc),.ad (v.1.2.2.map Pc.enc),.ad (v.2.map ax.enc)]) (fun v=>(gn v.1.2.1/\gn v.1.2.2)/\(v.1.2.1.length<=500/\v.1.2.2.length<=500/\v.2.length<=500)/\dp v.2) (fun v=> .ad ((aV (en v.1.1 v.1.2.1 v.1.2.2 v.2)).map Pc.enc)))
theorem nY:ag Tryz.prog wz:=Jn.bG Tryz.func102 (by kernel_rfl) (by kernel_rfl) fun v h=>Jo v.1.1 v.1.2.1 v.1.2.2 v.2 h.1.1 h.1.2 h.2.1.1 h.2.1.2.1 h.2.1.2.2 h.2.2
@[go_sem] theorem P17i_old{g:FuncId}{xs:List A}(h:g≠102):wz.f g xs=E6.f g xs:=aj.ak h
@[go_sem] theorem P17i_s:wz.pl E6:=⟨fun _=>rfl,fun _=>rfl,rfl,fun _=>rfl,rfl,fun _=>rfl,rfl⟩
theorem y8(v:(Int×List Pc×List Pc)×List ax)(h:(gn v.1.2.1/\gn v.1.2.2)/\(v.1.2.1.length<=500/\v.1.2.2.length<=500/\v.2.length<=500)/\dp v.2):wz.f 102 [.int .i64 v.1.1,.ad (v.1.2.1.map Pc.enc),.ad (v.1.2.2.map Pc.enc),.ad (v.2.map ax.enc)]=some (.ad ((aV (en v.1.1 v.1.2.1 v.1.2.2 v.2)).map Pc.enc)):=aj.an (Γ:=E6) (fun i j h=>by simpa[Prod.ext_iff,and_assoc]using h) v h
theorem Qe{op:Int}{a b:List Pc}{l:List ax}(ha:gn a)(hb:gn b)(hl:a.length<=500/\b.length<=500/\l.length<=500)(oN:dp l):wz.f 102 [.int .i64 op,.ad (a.map Pc.enc),.ad (b.map Pc.enc),.ad (l.map ax.enc)]=some (.ad ((aV (en op a b l)).map Pc.enc)):=y8 ((op,a,b),l) ⟨⟨ha,hb⟩,hl,oN⟩
theorem okR_nil:gn []:=X6 ⟨⟨by simp,by simp[wP]⟩,fun p hp=>by cases hp⟩ (by simp[wP])
theorem E9:ai Tryz.prog wz Tryz.f49.ntmps (Tryz.f49.body.getD .skip)=true:=by kernel_rfl
theorem Jp(a b:List Pc)(ha:gn a)(hb:gn b)(Wd:a.length<=500)(hbl:b.length<=500):az Tryz.prog 49 [.ad (a.map Pc.enc),.ad (b.map Pc.enc)] (· = .ad ((aV (en 1 a b [])).map Pc.enc)):=by refine aa nY mixed Tryz.func49 rfl (Nat.le_of_ble_eq_true rfl) E9 ?_;unfold Tryz.f49;have h:=Qe (op:=1) ha hb ⟨Wd,hbl,by simp⟩ IV;simp only[List.map_nil]at h;simp-implicitDefEqProofs (disch:=(first|omega|decide)) only[go_sem,↓reduceIte,seval,h]
theorem E_:ai Tryz.prog wz Tryz.f65.ntmps (Tryz.f65.body.getD .skip)=true:=by kernel_rfl
theorem Jq(a b:List Pc)(ha:gn a)(hb:gn b)(Wd:a.length<=500)(hbl:b.length<=500):az Tryz.prog 65 [.ad (a.map Pc.enc),.ad (b.map Pc.enc)] (· = .ad ((aV (en 2 a b [])).map Pc.enc)):=by refine aa nY mixed Tryz.func65 rfl (Nat.le_of_ble_eq_true rfl) E_ ?_;unfold Tryz.f65;have h:=Qe (op:=2) ha hb ⟨Wd,hbl,by simp⟩ IV;simp only[List.map_nil]at h;simp-implicitDefEqProofs (disch:=(first|omega|decide)) only[go_sem,↓reduceIte,seval,h]
theorem uI:ai Tryz.prog wz Tryz.f79.ntmps (Tryz.f79.body.getD .skip)=true:=by kernel_rfl
theorem wA(a:List Pc)(l:List ax)(ha:gn a)(Wd:a.length<=500)(hl:l.length<=500)(oN:dp l):az Tryz.prog 79 [.ad (a.map Pc.enc),.ad (l.map ax.enc)] (· = .ad ((aV (en 3 a [] l)).map Pc.enc)):=by refine aa nY mixed Tryz.func79 rfl (Nat.le_of_ble_eq_true rfl) uI ?_;unfold Tryz.f79;have h:=Qe (op:=3) ha okR_nil ⟨Wd,by simp,hl⟩ oN;simp only[List.map_nil]at h;simp-implicitDefEqProofs (disch:=(first|omega|decide)) only[go_sem,↓reduceIte,seval,h]
def eQ(x:List UInt8)(l:List bS):List Pc:=if decide (1<=x.length/\x.length<=16)=true/\dF (cG l)≠ []then [⟨mH x,dF (cG l)⟩]else []
theorem Jr:ai Tryz.prog wz Tryz.f95.ntmps (Tryz.f95.body.getD .skip)=true:=by kernel_rfl
theorem Nc(x:List UInt8)(l:List bS)(hx:x.length<=9223372036854775807)(hl:l.length<=50000):az Tryz.prog 95 [.str x,.ad (l.map bS.enc)] (· = .ad ((eQ x l).map Pc.enc)):=by
 refine aa nY mixed Tryz.func95 rfl (Nat.le_of_ble_eq_true rfl) Jr ?_;unfold Tryz.f95;have h:=l_rAdd (s:=[]) (l:=l) IE (by have:bj []=0:=rfl;omega)
 simp only[List.nil_append,List.map_nil]at h;unfold eQ;cases h1:decide (1<=x.length/\x.length<=16)with
 |false=>simp-implicitDefEqProofs (disch:=(first|omega|decide)) only[go_sem,↓reduceIte,seval,h,h1,Bool.false_eq_true,false_and,List.map_nil]
 |true=>
  cases h2:(((dF (cG l)).length:Int)==0)with
  |true=>
   have h20:((dF (cG l)).length:Int)=0:=by simpa using h2
   have mB:dF (cG l)=[]:=List.length_eq_zero_iff.1 (by omega)
   simp-implicitDefEqProofs (disch:=(first|omega|decide)) only[go_sem,↓reduceIte,seval,h,h1,h2,mB,List.length_map,ne_eq,not_true_eq_false,and_false,List.map_nil]
  |false=>
   have mB:dF (cG l)≠ []:=fun e=>by rw[e]at h2;simp at h2
   have hre:(mH x).enc= .agg [.str (mH x).lo,.str (mH x).hi,.bool (mH x).op]:=rfl;have N1:([⟨mH x,dF (cG l)⟩]:List Pc).map Pc.enc=[.agg [.str (mH x).lo,.str (mH x).hi,.bool (mH x).op,.ad ((dF (cG l)).map ab.enc)]]:=rfl;rw[if_pos ⟨rfl,mB⟩,N1]
   simp-implicitDefEqProofs (disch:=(first|omega|decide)) only[go_sem,↓reduceIte,seval,h,h1,h2,hre,List.length_map]
theorem Js{l:List bS}{n c:Int}:ah (aB (cG l) n) c=true ↔ ⟨n,c⟩∈l/\aL ⟨n,c⟩=true:=by
 induction l with
 |nil=>simp[cG,aB,ah]
 |cons v l ih=>
  have e:cG (v::l)=cG [v]++cG l:=by rw[<-pT];rfl
  rw[e,de,fg,Bool.or_eq_true,ih]
  obtain⟨r,d⟩:=v
  have h1:ah (aB (cG [⟨r,d⟩]) n) c=true ↔ (⟨n,c⟩:bS)=⟨r,d⟩/\aL ⟨n,c⟩=true:=by
   cases hv:aL ⟨r,d⟩with
   |false=>
    have:cG [⟨r,d⟩]=[]:=by unfold cG;simp[hv]
    rw[this]
    simp only[aB,qH,Bool.false_eq_true,false_iff,not_and]
    intro e;rw[e,hv];simp
   |true=>
    have:cG [⟨r,d⟩]=[⟨r,[⟨d,d⟩]⟩]:=by unfold cG;simp[hv]
    rw[this]
    simp only[aB,List.append_nil]
    have hd:1<=d/\d<=1099511627776:=by simp only[aL,Bool.and_eq_true,decide_eq_true_iff]at hv;omega
    by_cases hr:r=n
    · subst hr
      rw[if_pos rfl,dJ]
      constructor
      · rintro⟨q,hq,_,h2,h3⟩
        simp only[List.mem_singleton]at hq;subst hq;simp only at h2 h3;obtain rfl:c=d:=by omega
        exact⟨rfl,hv⟩
      · rintro⟨e,_⟩
        injection e with _ e
        subst e;exact⟨⟨c,c⟩,by simp,cr.2 ⟨hd.1,Int.le_refl _,hd.2⟩,Int.le_refl _,Int.le_refl _⟩
    · rw[if_neg hr,qH]
      simp only[Bool.false_eq_true,bS.mk.injEq,false_iff,not_and]
      intro⟨e,_⟩;exact absurd e.symm hr
  rw[h1,List.mem_cons]
  constructor
  · rintro(⟨a,b⟩|⟨a,b⟩)
    · exact⟨.inl a,b⟩
    · exact⟨.inr a,b⟩
  · rintro⟨a|a,b⟩
    · exact .inl ⟨a,b⟩
    · exact .inr ⟨a,b⟩
theorem Qf{l:List bS}{v:bS}:v∈ec l ↔ v∈l/\aL v=true:=by
 unfold ec;rw[kM]
 rw[(dC Ug (l.filter aL)).1.mem_iff,List.mem_filter]
theorem Qg(l:List bS):dF (cG (ec l))=dF (cG l):=B7.2 fun n hn c=>by
 unfold hk;rw[Bool.eq_iff_iff,Js,Js,Qf]
 exact⟨fun⟨⟨a,b⟩,_⟩=>⟨a,b⟩,fun⟨a,b⟩=>⟨⟨a,b⟩,b⟩⟩
theorem Qh(l:List bS):(ec l).length<=l.length:=by
 unfold ec;have h1:=qP (cW fA (l.filter aL))
 have h2:=(dC Ug (l.filter aL)).1.length_eq;have h3:=List.length_filter_le aL l;omega
def D15:aj:={wz with c6:=fun n=>if n=5 then [[999999,0]]else []}
theorem D15_ok:ag Tryz.prog D15:=⟨nY.f,nY.hp⟩
@[go_sem] theorem D15_f:D15.f=wz.f:=rfl
@[go_sem] theorem D15_eff{g:FuncId}:D15.l_ g=false:=rfl
@[go_sem] theorem D15_ords5:D15.c6 5=[[999999,0]]:=rfl
@[go_sem] theorem D15_ords{n:Nat}(h:n≠5):D15.c6 n=[]:=if_neg h
theorem Nd:ai Tryz.prog D15 Tryz.f98.ntmps (Tryz.f98.body.getD .skip)=true:=by kernel_rfl
theorem Qi(k:List Pc)(x:List UInt8)(l:List bS)(hk:cC k)(hx:x.length<=9223372036854775807)(hl:l.length<=50000)(Tf:cC (k++eQ x l)):az Tryz.prog 98 [.ad (k.map Pc.enc),.str x,.ad (l.map bS.enc)] (· = .ad ((aV (df (k++eQ x l))).map Pc.enc)):=by
 refine aa D15_ok mixed Tryz.func98 rfl (Nat.le_of_ble_eq_true rfl) Nd ?_;unfold Tryz.f98;have oP:=Qh l;have h0:=MX (l:=l) (by omega)
 have h:=l_Add (s:=[]) (l:=ec l) IE.1 (by have:bj []=0:=rfl;omega)
 rw[List.nil_append,Qg]at h;simp only[List.map_nil]at h;have hJ:=R9 Tf;unfold eQ at hJ⊢;cases h1:decide (1<=x.length/\x.length<=16)with
 |false=>
  rw[h1]at hJ;simp only[Bool.false_eq_true,false_and,if_false,List.map_nil]at hJ;simp-implicitDefEqProofs (disch:=(first|omega|decide)) only[go_sem,↓reduceIte,seval,h0,h,h1,hJ,Bool.false_eq_true,false_and,List.length_map]
 |true=>
  rw[h1]at hJ;by_cases h2:(0:Int)<((dF (cG l)).length:Int)
  · have mB:dF (cG l)≠ []:=fun e=>by rw[e]at h2;simp at h2
    rw[if_pos ⟨rfl,mB⟩]at hJ⊢;have hre:(mH x).enc= .agg [.str (mH x).lo,.str (mH x).hi,.bool (mH x).op]:=rfl;have N1:([⟨mH x,dF (cG l)⟩]:List Pc).map Pc.enc=[.agg [.str (mH x).lo,.str (mH x).hi,.bool (mH x).op,.ad ((dF (cG l)).map ab.enc)]]:=rfl;rw[N1]at hJ;simp-implicitDefEqProofs (disch:=(first|omega|decide)) only[go_sem,↓reduceIte,seval,h0,h,h1,h2,hre,hJ,List.length_map]
  · have mB:dF (cG l)=[]:=List.length_eq_zero_iff.1 (by omega)
    rw[if_neg (fun e=>e.2 mB)]at hJ⊢;simp only[List.map_nil]at hJ;simp-implicitDefEqProofs (disch:=(first|omega|decide)) only[go_sem,↓reduceIte,seval,h0,h,h1,h2,hJ,List.length_map]
theorem GY{s t:List ab}(h:aZ s=true)(h':aZ t=true)(e: ∀n,bI n=true-> ∀c,hk s n c=hk t n c):s=t:=by rw[<-cy h,<-cy h'];exact B7.2 e
theorem wB(s t:List ab)(n c:Int):hk (s++t) n c=(hk s n c||hk t n c):=by unfold hk;rw[de,fg]
theorem qe{k:List Pc}{x:List UInt8}{n:Int}(h:bI n=true)(c:Int):hk (df k x) n c=hk (setAt k x) n c:=RP h c
theorem Nf{a b:List Pc}{x:List UInt8}{n:Int}(h:bI n=true)(c:Int):hk (xW a b x) n c=(hk (setAt a x) n c&& !hk (setAt b x) n c):=by unfold xW;rw[hk_op h,qe h,qe h];rfl
theorem Ng{k:List Pc}{l:List ax}{x:List UInt8}{n:Int}(h:bI n=true)(c:Int):hk (br k l x) n c=(ar l x&&hk (setAt k x) n c):=by
 unfold br;cases ar l x with
 |true=>rw[if_pos rfl,qe h];rfl
 |false=>rw[if_neg (by simp)];rfl
theorem iz{P:List UInt8->List ab}(h:IsP P)(x:List UInt8):setAt (aV P) x=P x:=by
 have hr:=lk P;have cQ:=(eN.1 hr).1;have hs:=GA h x;by_cases hP:P x=[]
 · rw[hP]
   unfold setAt
   rw[List.filter_eq_nil_iff.2 (fun p hp hx=>by
    have:=(hs p.s).1 ((ue cQ).2 ⟨p,hp,hx,rfl⟩)
    exact this.2 (by rw[<-this.1];exact hP))];rfl
 · obtain⟨p,hp,hx,Tk⟩:=(ue cQ).1 ((hs (P x)).2 ⟨rfl,hP⟩)
   rw[uf hr hp hx];exact Tk
theorem Yg{P:List UInt8->List ab}(h:IsP P)(hr: ∀x,aZ (P x)=true):df (aV P)=P:=by
 funext x
 unfold df;rw[iz h];exact cy (hr x)
theorem Nh{P Q:List UInt8->List ab}(h:IsP P)(h':IsP Q):aV P=aV Q ↔ P=Q:=by
 constructor
 · intro e
   funext x
   rw[<-iz h,<-iz h',e]
 · intro e;rw[e]
theorem Uy{P:List UInt8->List ab}(h: ∀x,P x=[]):aV P=[]:=(H7 (k:=[]) rfl fun x l=>by
 constructor
 · intro hs;exact absurd hs Iv.lY
 · rintro⟨h1,h2⟩;rw[h]at h1;exact absurd h1.symm h2).symm
theorem Qj(k:List Pc):IsP (df k):=(nN (edg1 k)).2
theorem qf(k:List Pc)(l:List ax):IsP (br k l):=(nN (edg3 k l)).2
theorem Qk(k:List Pc)(l:List ax)(x:List UInt8):aZ (br k l x)=true:=by
 unfold br;split
 · exact mS _ _
 · rfl
theorem Ql(a b:List Pc)(x:List UInt8):aZ (xW a b x)=true:=qR _ _ _
theorem Uz{a b:List Pc}{x:List UInt8}:xW a b x=[] ↔∀n,bI n=true-> ∀c,hk (setAt a x) n c=true->hk (setAt b x) n c=true:=by
 constructor
 · intro h n hn c h1
   have h2:=Nf (a:=a) (b:=b) (x:=x) hn c;rw[h,h1]at h2;have h3:hk [] n c=false:=rfl;rw[h3]at h2;simpa using h2.symm
 · intro h
   refine GY (Ql a b x) rfl fun n hn c=> ?_;rw[Nf hn]
   have h3:hk [] n c=false:=rfl;rw[h3]
   cases h1:hk (setAt a x) n c with
   |false=>rfl
   |true=>rw[h n hn c h1];rfl
theorem UA(a b:List Pc):en 1 a b []=df (a++b):=by
 funext x
 unfold en;rw[if_pos rfl]
 refine GY (qR _ _ _) (mS _ _) fun n hn c=> ?_;rw[hk_op hn,qe hn,qe hn,qe hn,gz,wB];rfl
theorem UB(a b:List Pc):en 2 a b []=xW a b:=by
 funext x;unfold en;rw[if_neg (by decide),if_pos rfl];rfl
theorem UC(a:List Pc)(l:List ax):en 3 a [] l=br a l:=by
 funext x;unfold en;rw[if_neg (by decide),if_neg (by decide)]
theorem Ni(a:List Pc)(l:List ax):br a (dd (ar l))=br a l:=by
 funext x;unfold br;rw[t_]
theorem CL{P:List UInt8->List ab}{es:List (List UInt8)}(hE:Kq P es){B:Nat}(hB: ∀x,(P x).length+bj (P x)<=B){N:Nat}(hN:es.length<=N)(hm:N*B<=900000)(Pd:N<=10000):
 cC (aV P)/\(aV P).length<=N/\wP (aV P)<=N*B:=by
 have gZ:=(nN hE).1;have hlen:=zH P es es.length;have cQ:=(pP hE es.length (Nat.le_refl _)).1;have uF:=qc P es es.length;rw[<-gZ]
 generalize kL P es es.length=m at*
 have hw: ∀m:List Pc,(∀p∈m,∃e,p.s=P e)->wP m<=m.length*B:=fun m=>by
  induction m with
  |nil=>intro _;simp[wP]
  |cons p m ih=>
   intro h;have h1:=ih fun q hq=>h q (by simp[hq])
   obtain⟨e,he⟩:=h p (by simp)
   have h2:=hB e;rw[<-he]at h2;rw[nT,List.length_cons,Nat.succ_mul];omega
 have h1:=hw m.reverse fun p hp=>uF p (List.mem_reverse.1 hp)
 rw[List.length_reverse]at h1;have h2:m.length*B<=N*B:=Nat.mul_le_mul_right B (by omega)
 refine⟨⟨⟨by rw[List.length_reverse];omega,by omega⟩,fun p hp=> ?_⟩,by rw[List.length_reverse];omega,by omega⟩
 have:=cQ p (List.mem_reverse.1 hp)
 simp only[dW,Bool.and_eq_true]at this;obtain⟨k1,k2,_,_⟩:=cj this.1.1;omega
theorem at_w{k:List Pc}(x:List UInt8):(df k x).length+bj (df k x)<=16+wP k:=by
 have h1:=MY (setAt k x)
 have h2:=nU k x;unfold df;omega
theorem rest_w{k:List Pc}{l:List ax}(x:List UInt8):(br k l x).length+bj (br k l x)<=16+wP k:=by
 unfold br;split
 · exact at_w x
 · simp[bj]
theorem Yh{a:List Pc}{l:List ax}{N M W:Nat}(h1:a.length<=N)(h2:l.length<=M)(h3:wP a<=W)(hm:(1+2*(N+M))*(16+W)<=900000)(hN:N+M<=1000):
 cC (aV (br a l))/\(aV (br a l)).length<=1+2*(N+M)/\wP (aV (br a l))<=(1+2*(N+M))*(16+W):=by
 have hl:=lE (LL:=[a,lO l []])
 simp only[mR,List.map_cons,List.map_nil,List.sum_cons,List.sum_nil]at hl;have e:(lO l []).length=l.length:=by simp[lO]
 exact CL (edg3 a l) (B:=16+W) (fun x=>by have:=rest_w (k:=a) (l:=l) x;omega) (N:=1+2*(N+M)) (by omega) hm (by omega)
theorem CM{a b:List Pc}(ha:cC a)(hb:cC b)(h1:a.length+b.length<=10000)(h2:wP a+wP b<=900000):cC (a++b):=⟨⟨by rw[List.length_append];exact h1,by rw[GS];exact h2⟩,fun p hp=>by
 rcases List.mem_append.1 hp with h|h
 · exact ha.2 p h
 · exact hb.2 p h⟩
theorem xY{k:List Pc}{m:Nat}(h:jt k m=false):k.length<=m/\wP k<=m*272/\ ∀p∈k,p.r.lo.length<=40/\p.r.hi.length<=40:=by
 unfold jt at h;rw[Bool.or_eq_false_iff,List.any_eq_false]at h;obtain⟨h1,h2⟩:=h;have mb:k.length<=m:=by have:=of_decide_eq_false h1;omega
 have h3: ∀p∈k,(p.r.lo.length<=40/\p.r.hi.length<=40)/\p.s.length+bj p.s<=272:=fun p hp=>by have:=h2 p hp;simp only[wx,Bool.not_eq_true,Bool.or_eq_false_iff,decide_eq_false_iff_not]at this;obtain⟨a,b,c⟩:=this;have:=sD (m:=16) c;omega
 have hw: ∀k:List Pc,(∀p∈k,p.s.length+bj p.s<=272)->wP k<=k.length*272:=fun k=>by
  induction k with
  |nil=>intro _;simp[wP]
  |cons p k ih=>
   intro h;have a:=ih fun q hq=>h q (by simp[hq])
   have b:=h p (by simp)
   rw[nT,List.length_cons,Nat.succ_mul];omega
 have:=hw k fun p hp=>(h3 p hp).2;have h4:k.length*272<=m*272:=Nat.mul_le_mul_right _ mb;exact⟨mb,by omega,fun p hp=>(h3 p hp).1⟩
theorem Yi{k:List Pc}{m:Nat}(h:k.length<=m/\wP k<=m*272/\ ∀p∈k,p.r.lo.length<=40/\p.r.hi.length<=40)(hm:m<=100):gn k:=by obtain⟨h1,h2,h3⟩:=h;exact X6 ⟨⟨by omega,by omega⟩,fun p hp=>by have:=h3 p hp;omega⟩ (by omega)
def Yj:aj:=wz
theorem L15a_ok:ag Tryz.prog Yj:=nY
@[go_sem] theorem L15a_old{g:FuncId}{xs:List A}:Yj.f g xs=wz.f g xs:=rfl
def Qm:aj:=Yj.add 49 (entry (fun(v:List Pc×List Pc)=>[.ad (v.1.map Pc.enc),.ad (v.2.map Pc.enc)]) (fun v=>(gn v.1/\gn v.2)/\v.1.length<=500/\v.2.length<=500) (fun v=> .ad ((aV (en 1 v.1 v.2 [])).map Pc.enc)))
theorem L15b_ok:ag Tryz.prog Qm:=L15a_ok.bG Tryz.func49 (by kernel_rfl) (by kernel_rfl) fun v h=>Jp v.1 v.2 h.1.1 h.1.2 h.2.1 h.2.2
@[go_sem] theorem L15b_old{g:FuncId}{xs:List A}(h:g≠49):Qm.f g xs=Yj.f g xs:=aj.ak h
theorem y9(v:List Pc×List Pc)(h:(gn v.1/\gn v.2)/\v.1.length<=500/\v.2.length<=500):Qm.f 49 [.ad (v.1.map Pc.enc),.ad (v.2.map Pc.enc)]=some (.ad ((aV (en 1 v.1 v.2 [])).map Pc.enc)):=aj.an (Γ:=Yj) (fun i j h=>by simpa[Prod.ext_iff,and_assoc]using h) v h
def Qn:aj:=Qm.add 65 (entry (fun(v:List Pc×List Pc)=>[.ad (v.1.map Pc.enc),.ad (v.2.map Pc.enc)]) (fun v=>(gn v.1/\gn v.2)/\v.1.length<=500/\v.2.length<=500) (fun v=> .ad ((aV (en 2 v.1 v.2 [])).map Pc.enc)))
theorem L15c_ok:ag Tryz.prog Qn:=L15b_ok.bG Tryz.func65 (by kernel_rfl) (by kernel_rfl) fun v h=>Jq v.1 v.2 h.1.1 h.1.2 h.2.1 h.2.2
@[go_sem] theorem L15c_old{g:FuncId}{xs:List A}(h:g≠65):Qn.f g xs=Qm.f g xs:=aj.ak h
theorem y_(v:List Pc×List Pc)(h:(gn v.1/\gn v.2)/\v.1.length<=500/\v.2.length<=500):Qn.f 65 [.ad (v.1.map Pc.enc),.ad (v.2.map Pc.enc)]=some (.ad ((aV (en 2 v.1 v.2 [])).map Pc.enc)):=aj.an (Γ:=Qm) (fun i j h=>by simpa[Prod.ext_iff,and_assoc]using h) v h
def Qo:aj:=Qn.add 79 (entry (fun(v:List Pc×List ax)=>[.ad (v.1.map Pc.enc),.ad (v.2.map ax.enc)]) (fun v=>(gn v.1/\dp v.2)/\v.1.length<=500/\v.2.length<=500) (fun v=> .ad ((aV (en 3 v.1 [] v.2)).map Pc.enc)))
theorem L15d_ok:ag Tryz.prog Qo:=L15c_ok.bG Tryz.func79 (by kernel_rfl) (by kernel_rfl) fun v h=>wA v.1 v.2 h.1.1 h.2.1 h.2.2 h.1.2
@[go_sem] theorem L15d_old{g:FuncId}{xs:List A}(h:g≠79):Qo.f g xs=Qn.f g xs:=aj.ak h
theorem re(v:List Pc×List ax)(h:(gn v.1/\dp v.2)/\v.1.length<=500/\v.2.length<=500):Qo.f 79 [.ad (v.1.map Pc.enc),.ad (v.2.map ax.enc)]=some (.ad ((aV (en 3 v.1 [] v.2)).map Pc.enc)):=aj.an (Γ:=Qn) (fun i j h=>by simpa[Prod.ext_iff,and_assoc]using h) v h
def Qp:aj:=Qo.add 95 (entry (fun(v:List UInt8×List bS)=>[.str v.1,.ad (v.2.map bS.enc)]) (fun v=>v.1.length<=9223372036854775807/\v.2.length<=50000) (fun v=> .ad ((eQ v.1 v.2).map Pc.enc)))
theorem L15e_ok:ag Tryz.prog Qp:=L15d_ok.bG Tryz.func95 (by kernel_rfl) (by kernel_rfl) fun v h=>Nc v.1 v.2 h.1 h.2
@[go_sem] theorem L15e_old{g:FuncId}{xs:List A}(h:g≠95):Qp.f g xs=Qo.f g xs:=aj.ak h
theorem CN(v:List UInt8×List bS)(h:v.1.length<=9223372036854775807/\v.2.length<=50000):Qp.f 95 [.str v.1,.ad (v.2.map bS.enc)]=some (.ad ((eQ v.1 v.2).map Pc.enc)):=aj.an (Γ:=Qo) (fun i j h=>by simpa[Prod.ext_iff,and_assoc]using h) v h
def UD:aj:=Qp.add 98 (entry (fun(v:List Pc×List UInt8×List bS)=>[.ad (v.1.map Pc.enc),.str v.2.1,.ad (v.2.2.map bS.enc)]) (fun v=>(cC v.1/\cC (v.1++eQ v.2.1 v.2.2))/\v.2.1.length<=9223372036854775807/\v.2.2.length<=50000) (fun v=> .ad ((aV (df (v.1++eQ v.2.1 v.2.2))).map Pc.enc)))
theorem L15f_ok:ag Tryz.prog UD:=L15e_ok.bG Tryz.func98 (by kernel_rfl) (by kernel_rfl) fun v h=>Qi v.1 v.2.1 v.2.2 h.1.1 h.2.1 h.2.2 h.1.2
@[go_sem] theorem L15f_old{g:FuncId}{xs:List A}(h:g≠98):UD.f g xs=Qp.f g xs:=aj.ak h
theorem Fa(v:List Pc×List UInt8×List bS)(h:(cC v.1/\cC (v.1++eQ v.2.1 v.2.2))/\v.2.1.length<=9223372036854775807/\v.2.2.length<=50000):UD.f 98 [.ad (v.1.map Pc.enc),.str v.2.1,.ad (v.2.2.map bS.enc)]=some (.ad ((aV (df (v.1++eQ v.2.1 v.2.2))).map Pc.enc)):=aj.an (Γ:=Qp) (fun i j h=>by simpa[Prod.ext_iff,and_assoc]using h) v h
theorem Yk{a b:List Pc}(ha:gn a)(hb:gn b)(hl:a.length<=500/\b.length<=500):Qm.f 49 [.ad (a.map Pc.enc),.ad (b.map Pc.enc)]=some (.ad ((aV (df (a++b))).map Pc.enc)):=by
 have:=y9 (a,b) ⟨⟨ha,hb⟩,hl⟩
 simp only[UA]at this;exact this
theorem q_Less{a b:List Pc}(ha:gn a)(hb:gn b)(hl:a.length<=500/\b.length<=500):Qn.f 65 [.ad (a.map Pc.enc),.ad (b.map Pc.enc)]=some (.ad ((aV (xW a b)).map Pc.enc)):=by
 have:=y_ (a,b) ⟨⟨ha,hb⟩,hl⟩
 simp only[UB]at this;exact this
theorem CO{a:List Pc}{l:List ax}(ha:gn a)(ho:dp l)(hl:a.length<=500/\l.length<=500):Qo.f 79 [.ad (a.map Pc.enc),.ad (l.map ax.enc)]=some (.ad ((aV (br a l)).map Pc.enc)):=by
 have:=re (a,l) ⟨⟨ha,ho⟩,hl⟩
 simp only[UC]at this;exact this
theorem q_One{x:List UInt8}{l:List bS}(hx:x.length<=9223372036854775807)(hl:l.length<=50000):Qp.f 95 [.str x,.ad (l.map bS.enc)]=some (.ad ((eQ x l).map Pc.enc)):=CN (x,l) ⟨hx,hl⟩
theorem q_Add{k:List Pc}{x:List UInt8}{l:List bS}(hk:cC k)(Tf:cC (k++eQ x l))(hx:x.length<=9223372036854775807)(hl:l.length<=50000):UD.f 98 [.ad (k.map Pc.enc),.str x,.ad (l.map bS.enc)]=some (.ad ((aV (df (k++eQ x l))).map Pc.enc)):=Fa (k,x,l) ⟨⟨hk,Tf⟩,hx,hl⟩
def Yl:aj:=UD
theorem L15g_ok:ag Tryz.prog Yl:=L15f_ok
@[go_sem] theorem L15g_old{g:FuncId}{xs:List A}:Yl.f g xs=UD.f g xs:=rfl
set_option maxHeartbeats 8000000
theorem Fb(l:List ax)(m:Int)(hl:l.length<=9223372036854775807):az Tryz.prog 66 [.ad (l.map ax.enc),.int .i64 m] (· = .bool (fL l m)):=by
 refine aa ff mixed Tryz.func66 rfl (Nat.le_of_ble_eq_true rfl) rL ?_;unfold Tryz.f66;by_cases h0:m<(l.length:Int)
 · have hh:fL l m=true:=by simp[fL,h0]
   simp-implicitDefEqProofs (disch:=(first|omega|decide)) only[go_sem,↓reduceIte,seval,h0,hh,List.length_map]
 · have hh:fL l m=l.any fun r=>decide (40<r.lo.length)||decide (40<r.hi.length):=by simp[fL,h0]
   simp-implicitDefEqProofs (disch:=(first|omega|decide)) only[go_sem,↓reduceIte,seval,h0,List.length_map]
   rw[hh]
   refine ao [0] (ι:={k:Nat//k<=l.length/\(l.any fun r=>decide (40<r.lo.length)||decide (40<r.hi.length))=((l.drop k).any fun r=>decide (40<r.lo.length)||decide (40<r.hi.length))}) (fun p=>[(5,.int .i64 p.1),(4,.bool false)]) (fun _=>[]) (fun p=>l.length-p.1) ⟨0,by omega,rfl⟩ (Nat.zero_le _) ?_ ?_
   · simp-implicitDefEqProofs (disch:=(first|omega|decide)) only[go_sem,↓reduceIte,seval]
   · rintro⟨k,hk,hd⟩
     simp only;by_cases aw:k<l.length
     · have ae:(k:Int)<(l.length:Int):=by omega
       have e1:=dw aw;rw[List.drop_eq_getElem_cons aw,List.any_cons]at hd;generalize hx:l[k]=x at*;obtain⟨lo,hi,op⟩:=x;simp only at hd;by_cases h1:40<lo.length
       · have mb:(40:Int)<(lo.length:Int):=by omega
         rw[decide_eq_true h1,Bool.true_or,Bool.true_or]at hd;simp-implicitDefEqProofs (disch:=(first|omega|decide)) only[go_sem,↓reduceIte,seval,ae,e1,mb,hd,wrap_i64,List.length_map]
       · have mb: ¬(40:Int)<(lo.length:Int):=by omega
         by_cases h2:40<hi.length
         · have mB:(40:Int)<(hi.length:Int):=by omega
           rw[decide_eq_true h2,Bool.or_true,Bool.true_or]at hd;simp-implicitDefEqProofs (disch:=(first|omega|decide)) only[go_sem,↓reduceIte,seval,ae,e1,mb,mB,hd,wrap_i64,List.length_map]
         · have mB: ¬(40:Int)<(hi.length:Int):=by omega
           rw[decide_eq_false h1,decide_eq_false h2,Bool.or_false,Bool.false_or]at hd;simp-implicitDefEqProofs (disch:=(first|omega|decide)) only[go_sem,↓reduceIte,seval,ae,e1,mb,mB,wrap_i64,List.length_map]
           exact⟨⟨k+1,aw,hd⟩,by simp,by show l.length-(k+1)<l.length-k;omega⟩
     · have ae: ¬(k:Int)<(l.length:Int):=by omega
       rw[List.drop_of_length_le (by omega)]at hd;simp-implicitDefEqProofs (disch:=(first|omega|decide)) only[go_sem,↓reduceIte,seval,ae,hd,List.length_map]
theorem Ym{l:List ax}{m:Int}(h:fL l m=false): ¬m<(l.length:Int):=by unfold fL at h;simp only[Bool.or_eq_false_iff,decide_eq_false_iff_not]at h;exact h.1
theorem UE{x:List A}(h:cJ [.str,.str,.bool] x): ∃r:ax,x=[.str r.lo,.str r.hi,.bool r.op]/\r.ok:=by have ml:=mF;simp only[cJ,fits]at h;obtain⟨y1,z1,rfl,⟨s1,rfl,h1⟩,y2,z2,rfl,⟨s2,rfl,h2⟩,y3,z3,rfl,⟨b,rfl⟩,rfl⟩:=h;exact⟨⟨s1,s2,b⟩,rfl,Nat.le_trans h1 ml,Nat.le_trans h2 ml⟩
theorem UF{x:A}(h:fits (.rows [.str,.str,.bool]) x): ∃l:List ax,x= .ad (l.map ax.enc)/\l.length<=maxLen/\dp l:=by
 simp only[fits]at h;obtain⟨es,rfl,hl,he⟩:=h
 obtain⟨l,rfl,hk⟩:=qD (f:=ax.enc) (P:=fun r=>r.ok) (es:=es) (fun e hx=>by
  obtain⟨ys,rfl,hy⟩:=he e hx;obtain⟨r,rfl,hr⟩:=UE (by simpa only[cJ,fits]using hy)
  exact⟨r,rfl,hr⟩)
 exact⟨l,rfl,by simpa using hl,hk⟩
set_option maxHeartbeats 16000000
def Fc:aj:=Yl.add 66 (entry (fun(v:List ax×Int)=>[.ad (v.1.map ax.enc),.int .i64 v.2]) (fun v=>v.1.length<=9223372036854775807) (fun v=> .bool (fL v.1 v.2)))
theorem Jt:ag Tryz.prog Fc:=L15g_ok.bG Tryz.func66 (by kernel_rfl) (by kernel_rfl) fun v h=>Fb v.1 v.2 h
@[go_sem] theorem L15h_old{g:FuncId}{xs:List A}(h:g≠66):Fc.f g xs=Yl.f g xs:=aj.ak h
theorem za(v:List ax×Int)(h:v.1.length<=9223372036854775807):Fc.f 66 [.ad (v.1.map ax.enc),.int .i64 v.2]=some (.bool (fL v.1 v.2)):=aj.an (Γ:=Yl) (fun i j h=>by simpa[Prod.ext_iff,and_assoc]using h) v h
theorem q_rLong{l:List ax}{m:Int}(h:l.length<=9223372036854775807):Fc.f 66 [.ad (l.map ax.enc),.int .i64 m]=some (.bool (fL l m)):=za (l,m) h
theorem mi{a b:List Pc}{x:List UInt8}{n:Int}(hn:bI n=true)(c:Int):hk (setAt (aV (df (a++b))) x) n c=(hk (setAt a x) n c||hk (setAt b x) n c):=by rw[iz (Qj _),qe hn,gz,wB]
theorem Nj{x:A}(h:fits (.rows [.str,.str,.bool,.rows [.int .i64,.rows [.int .i64,.int .i64]]]) x): ∃l:List Pc,x= .ad (l.map Pc.enc)/\l.length<=maxLen/\ ∀p∈l,p.s.length<=maxLen:=by
 simp only[fits]at h;obtain⟨es,rfl,hl,he⟩:=h;obtain⟨l,rfl,hk⟩:=qD (f:=Pc.enc) (P:=fun p=>p.s.length<=maxLen) (es:=es) (fun e hx=>by obtain⟨ys,rfl,hy⟩:=he e hx;simp only[cJ]at hy;obtain⟨y1,z1,rfl,h1,y2,z2,rfl,h2,y3,z3,rfl,h3,y4,z4,rfl,h4,rfl⟩:=hy;simp only[fits]at h1 h2 h3;obtain⟨s1,rfl,_⟩:=h1;obtain⟨s2,rfl,_⟩:=h2;obtain⟨b,rfl⟩:=h3;obtain⟨ks,rfl,hks,_⟩:=MD h4;exact⟨⟨⟨s1,s2,b⟩,ks⟩,rfl,hks⟩)
 exact⟨l,rfl,by simpa using hl,hk⟩
def G15:aj:={Fc with c6:=fun n=>if n=7 then
 [[0,1,2,3,4,5,6,7,8,9,10,11,12,13,14],[0,1,2,3,4,5,6,7,8,9,10,12,11,13,14],[0,1,2,3,4,5,6,7,8,9,11,10,12,13,14],[0,1,2,3,4,5,6,7,8,9,11,12,10,13,14],
  [0,1,2,3,4,5,6,7,8,9,11,12,13,10,14],[0,1,2,3,4,5,6,7,8,9,12,10,11,13,14],[0,1,2,3,4,5,6,7,8,9,12,11,10,13,14],[0,1,2,3,4,5,6,7,8,9,12,11,13,10,14]]else []}
theorem G15_ok:ag Tryz.prog G15:=⟨Jt.f,Jt.hp⟩
@[go_sem] theorem G15_f:G15.f=Fc.f:=rfl
@[go_sem] theorem G15_eff{g:FuncId}:G15.l_ g=false:=rfl
@[go_sem] theorem G15_ords7:G15.c6 7=
 [[0,1,2,3,4,5,6,7,8,9,10,11,12,13,14],[0,1,2,3,4,5,6,7,8,9,10,12,11,13,14],[0,1,2,3,4,5,6,7,8,9,11,10,12,13,14],[0,1,2,3,4,5,6,7,8,9,11,12,10,13,14],
  [0,1,2,3,4,5,6,7,8,9,11,12,13,10,14],[0,1,2,3,4,5,6,7,8,9,12,10,11,13,14],[0,1,2,3,4,5,6,7,8,9,12,11,10,13,14],[0,1,2,3,4,5,6,7,8,9,12,11,13,10,14]]:=rfl
@[go_sem] theorem G15_ords{n:Nat}(h:n≠7):G15.c6 n=[]:=if_neg h
theorem CP:ai Tryz.prog G15 Tryz.f78.ntmps (Tryz.f78.body.getD .skip)=true:=by kernel_rfl
theorem Fe(k:List Pc)(hk:cC k):az Tryz.prog 78 [.ad (k.map Pc.enc)] (· = .bool (aS k)):=by
 refine aa G15_ok mixed Tryz.func78 rfl (Nat.le_of_ble_eq_true rfl) CP ?_;unfold Tryz.f78;obtain⟨⟨k1,k2⟩,k3⟩:=id hk;simp-implicitDefEqProofs (disch:=(first|omega|decide)) only[go_sem,↓reduceIte,seval,List.length_map]
 refine ao [0] (ι:={j:Nat//j<=k.length/\aS k=H6 (j_ k j) (k.drop j)}) (fun p=>[(3,.int .i64 p.1)]) (fun _=>[]) (fun p=>k.length-p.1) ⟨0,by omega,rfl⟩ (Nat.zero_le _) ?_ ?_
 · simp-implicitDefEqProofs (disch:=(first|omega|decide)) only[go_sem,↓reduceIte,seval]
 · rintro⟨j,hj,hd⟩
   simp only at hj hd⊢;by_cases aw:j<k.length
   · have ae:(j:Int)<(k.length:Int):=by omega
     have e1:=fM aw;have fF:=k3 _ (List.getElem_mem aw)
     have yQ:=eT hk (List.getElem_mem aw)
     have rC:j_ k (j+1)=some k[j]:=by unfold j_;rw[if_neg (by omega),Nat.add_sub_cancel,getElem!_pos k j aw]
     rw[List.drop_eq_getElem_cons aw]at hd;generalize hx:k[j]=x at*;obtain⟨⟨lo,hi,op⟩,s⟩:=x;simp only[H6,dW]at hd fF yQ;have next:aS k=H6 (some ⟨⟨lo,hi,op⟩,s⟩) (k.drop (j+1))-> ∃i:{j:Nat//j<=k.length/\aS k=H6 (j_ k j) (k.drop j)},(j:Int)+1=(i.1:Int)/\k.length-i.1<k.length-j:=fun h=>⟨⟨j+1,aw,by rw[rC];exact h⟩,by simp,by show k.length-(j+1)<k.length-j;omega⟩
     cases h1:ay ⟨lo,hi,op⟩with
     |false=>
      have hh:aS k=false:=by rw[hd,h1];simp
      simp-implicitDefEqProofs (disch:=(first|omega|decide)) only[go_sem,↓reduceIte,seval,ae,e1,h1,hh,List.length_map]
     |true=>
      cases h2:((s.length:Int)==0)with
      |true=>
       have h20:(s.length:Int)=0:=by simpa using h2
       have:s=[]:=List.length_eq_zero_iff.1 (by omega)
       have hh:aS k=false:=by rw[hd,this];simp
       simp-implicitDefEqProofs (disch:=(first|omega|decide)) only[go_sem,↓reduceIte,seval,ae,e1,h1,h2,hh,List.length_map]
      |false=>
       have bU:s.isEmpty=false:=by
          cases s with
          |nil=>simp at h2
          |cons _ _=>rfl
       have rE:=Em yQ;cases h3:aZ s with
       |false=>
          have hh:aS k=false:=by rw[hd,h3];simp
          rw[h3]at rE;simp-implicitDefEqProofs (disch:=(first|omega|decide)) only[go_sem,↓reduceIte,seval,ae,e1,h1,h2,rE,hh,List.length_map]
       |true=>
          rw[h3]at rE;rw[h1,bU,h3]at hd;simp only[Bool.not_false,Bool.and_self,Bool.true_and]at hd;by_cases hj0:j=0
          · have hz:((j:Int)==0)=true:=by simp[hj0]
            have hh:aS k=H6 (some ⟨⟨lo,hi,op⟩,s⟩) (k.drop (j+1)):=by rw[hd];unfold j_;rw[if_pos hj0,Bool.true_and]
            simp-implicitDefEqProofs (disch:=(first|omega|decide)) only[go_sem,↓reduceIte,seval,ae,e1,h1,h2,rE,hz,wrap_i64,List.length_map]
            exact next hh
          · have hz:((j:Int)==0)=false:=by simp;omega
            have kh:j-1<k.length:=by omega
            have e2:=fM kh;have DT:=k3 _ (List.getElem_mem kh)
            have Uk:=eT hk (List.getElem_mem kh)
            have N5:j_ k j=some k[j-1]:=by unfold j_;rw[if_neg hj0,getElem!_pos k (j-1) kh]
            rw[N5]at hd;generalize hy:k[j-1]=y at*;obtain⟨⟨gm,eW,lW⟩,s'⟩:=y;simp only at DT Uk;have c1:((j:Int)-1).toNat=j-1:=by omega
            have c2:(0:Int)<=(j:Int)-1:=by omega
            have dN:=kt Uk yQ;simp only[vG]at hd;cases h4:lW with
            |true=>
             have hh:aS k=false:=by rw[hd,h4];simp
             subst h4;simp-implicitDefEqProofs (maxSteps:=6000000) (disch:=(first|omega|decide)) only[go_sem,↓reduceIte,seval,ae,e1,h1,h2,rE,hz,e2,c1,c2,hh,wrap_i64,List.length_map]
            |false=>
             subst h4;cases h5:aQ lo eW with
             |true=>
              have hh:aS k=false:=by rw[hd,h5];simp
              simp-implicitDefEqProofs (maxSteps:=6000000) (disch:=(first|omega|decide)) only[go_sem,↓reduceIte,seval,ae,e1,h1,h2,rE,hz,e2,c1,c2,h5,hh,wrap_i64,List.length_map]
             |false=>
              cases h6:eW==lo with
              |false=>
               have hh:aS k=H6 (some ⟨⟨lo,hi,op⟩,s⟩) (k.drop (j+1)):=by rw[hd,h5,h6];simp
               simp-implicitDefEqProofs (maxSteps:=6000000) (disch:=(first|omega|decide)) only[go_sem,↓reduceIte,seval,ae,e1,h1,h2,rE,hz,e2,c1,c2,h5,h6,wrap_i64,List.length_map]
               exact next hh
              |true=>
               cases h7:bQ s' s with
               |true=>
                have h7':s'=s:=by simpa[bQ]using h7
                rw[h7]at dN;have hh:aS k=false:=by rw[hd,h6,h7'];simp
                simp-implicitDefEqProofs (maxSteps:=6000000) (disch:=(first|omega|decide)) only[go_sem,↓reduceIte,seval,ae,e1,h1,h2,rE,hz,e2,c1,c2,h5,h6,dN,hh,wrap_i64,List.length_map]
               |false=>
                have h7':s'≠s:=by simpa[bQ]using h7
                rw[h7]at dN;have hh:aS k=H6 (some ⟨⟨lo,hi,op⟩,s⟩) (k.drop (j+1)):=by rw[hd,h5,h6,decide_eq_false h7'];simp
                simp-implicitDefEqProofs (maxSteps:=6000000) (disch:=(first|omega|decide)) only[go_sem,↓reduceIte,seval,ae,e1,h1,h2,rE,hz,e2,c1,c2,h5,h6,dN,wrap_i64,List.length_map]
                exact next hh
   · have ae: ¬(j:Int)<(k.length:Int):=by omega
     have hh:aS k=true:=by rw[hd,List.drop_of_length_le (by omega)];rfl
     simp-implicitDefEqProofs (disch:=(first|omega|decide)) only[go_sem,↓reduceIte,seval,ae,hh,List.length_map]
def wC:aj:=Fc.add 78 (entry (fun(k:List Pc)=>[.ad (k.map Pc.enc)]) (fun k=>cC k) (fun k=> .bool (aS k)))
theorem uJ:ag Tryz.prog wC:=Jt.bG Tryz.func78 (by kernel_rfl) (by kernel_rfl) fun k h=>Fe k h
@[go_sem] theorem L15i_old{g:FuncId}{xs:List A}(h:g≠78):wC.f g xs=Fc.f g xs:=aj.ak h
@[go_sem] theorem L15i_s:wC.pl Fc:=⟨fun _=>rfl,fun _=>rfl,rfl,fun _=>rfl,rfl,fun _=>rfl,rfl⟩
theorem wD(k:List Pc)(h:cC k):wC.f 78 [.ad (k.map Pc.enc)]=some (.bool (aS k)):=aj.an (Γ:=Fc) (fun i j h=>by simpa[Prod.ext_iff,and_assoc]using h) k h
theorem Nk{k:List Pc}(h:cC k):wC.f 78 [.ad (k.map Pc.enc)]=some (.bool (aS k)):=wD k h
structure It where
 key:List UInt8
 rep:Int
 cu:Int
 bq:Int
 prio:Int
 dead:Bool
 body:List UInt8
 deriving DecidableEq
def It.enc(x:It):A:= .agg [.str x.key,.int .i64 x.rep,.int .i64 x.cu,.int .i64 x.bq,.int .i64 x.prio,.bool x.dead,.str x.body]
theorem It.d_(r s:It)(h:r.enc=s.enc):r=s:=by obtain⟨a,b,c,d,e,f,g⟩:=r;obtain⟨a',b',c',d',e',f',g'⟩:=s;simpa[It.enc]using h
@[simp] theorem It.Se{r s:It}:(r.enc=s.enc)=(r=s):=propext ⟨It.d_ r s,fun h=>by rw[h]⟩
@[simp] theorem map_It_inj{l m:List It}:(l.map It.enc=m.map It.enc)=(l=m):=map_inj It.d_
def It.ok(x:It):Prop:=x.key.length<=9223372036854775807/\x.body.length<=9223372036854775807
def sP(l:List It):Prop:= ∀x∈l,x.ok
theorem dK{l:List It}{k:Nat}(h:k<l.length):(l.map It.enc)[k]? =some (.agg [.str l[k].key,.int .i64 l[k].rep,.int .i64 l[k].cu,.int .i64 l[k].bq,.int .i64 l[k].prio,.bool l[k].dead,.str l[k].body]):=by rw[List.getElem?_map,List.getElem?_eq_getElem h];rfl
def aM(x:It):Bool:=decide (1<=x.key.length/\x.key.length<=16)&&aL ⟨x.rep,x.cu⟩&&decide (1<=x.bq)&&decide (x.bq<=1099511627776)&&decide (0<=x.prio)&&decide (x.prio<=255)&&decide (x.body.length<=64)&&(!x.dead||x.body==[])
def goI:Option (List UInt8)->List It->Bool
 |_,[]=>true
 |p,x::l=>aM x&&(match p with|none=>true|some k=>aQ k x.key)&&goI (some x.key) l
def b_(l:List It):Bool:=goI none l
def nZ(l:List It)(i:Nat):Bool:=(l.take i).any fun y=>match l[i]? with|some x=>decide (y.rep=x.rep/\y.cu=x.cu)|none=>false
structure bh where
 id:Int
 fl:List ax
 aK:List It
 kn:List Pc
 ct:Int
def bh.cells(s:bh):List A:=[.int .i64 s.id,.ad (s.fl.map ax.enc),.ad (s.aK.map It.enc),.ad (s.kn.map Pc.enc),.int .i64 s.ct]
def bh.enc(s:bh):A:= .agg s.cells
theorem bh.d_(r s:bh)(h:r.enc=s.enc):r=s:=by obtain⟨a,b,c,d,e⟩:=r;obtain⟨a',b',c',d',e'⟩:=s;simpa[bh.enc,bh.cells]using h
@[simp] theorem bh.Se{r s:bh}:(r.enc=s.enc)=(r=s):=propext ⟨bh.d_ r s,fun h=>by rw[h]⟩
def mT(l:List It)(m:Int):Bool:=decide (m<(l.length:Int))||l.any fun x=>decide (60<x.key.length)||decide (200<x.body.length)
theorem GZ{l:List It}{m:Int}(h:mT l m=false): ¬m<(l.length:Int):=by unfold mT at h;simp only[Bool.or_eq_false_iff,decide_eq_false_iff_not]at h;exact h.1
structure Fd where
 code:Int
 at_:Int
 deriving DecidableEq
def Fd.enc(x:Fd):A:= .agg [.int .i64 x.code,.int .i64 x.at_]
theorem Fd.d_(r s:Fd)(h:r.enc=s.enc):r=s:=by obtain⟨a,b⟩:=r;obtain⟨a',b'⟩:=s;simpa[Fd.enc]using h
@[simp] theorem Fd.Se{r s:Fd}:(r.enc=s.enc)=(r=s):=propext ⟨Fd.d_ r s,fun h=>by rw[h]⟩
def oz(p:Pc)(id:Int):Int:=if bI id=true then eI (cw (ah (aB p.s id)))else 0
def CQ(s:bh)(c:Int):Bool:=
 if c==1 then decide (s.id<1)||decide (16<s.id)
 else if c==2 then decide (s.ct<0)||decide (1099511627776<s.ct)
 else if c==3 then !aO s.fl
 else if c==9 then !aS s.kn
 else if c==12 then decide (4096<s.aK.length)
 else false
theorem qg{k:List Pc}{F:List ax}:br k F=df k ↔∀x n,bI n=true-> ∀c,hk (setAt k x) n c=true->ar F x=true:=by
 constructor
 · intro h x n hn c hc
   have h1:=Ng (k:=k) (l:=F) (x:=x) hn c;rw[h,qe hn,hc,Bool.and_true]at h1;exact h1.symm
 · intro h
   funext x
   unfold br;split
   · rfl
   · rename_i hx
     have: ∀n,bI n=true-> ∀c,hk (setAt k x) n c=false:=fun n hn c=>by
      cases h1:hk (setAt k x) n c with
      |false=>rfl
      |true=>exact absurd (h x n hn c h1) hx
     unfold df dF;exact(RQ fun n hn=>GK fun c=>this n hn c).symm
theorem UG{k:List Pc}{x:List UInt8}{n c:Int}:hk (setAt k x) n c=true ↔∃p∈k,hk (setAt [p] x) n c=true:=by
 induction k with
 |nil=>simp[setAt,hk,aB,ah]
 |cons p k ih=>
  have e:setAt (p::k) x=setAt [p] x++setAt k x:=gz [p] k x;rw[e,wB,Bool.or_eq_true,ih]
  simp
def dc(k:List Pc)(id:Int):Int:=k.foldl (fun n p=>max n (oz p id)) 0
theorem uK{id b:Int}: ∀{k:List Pc} {n:Int},k.foldl (fun n p=>max n (oz p id)) n<=b ↔ n<=b/\ ∀p∈k,oz p id<=b
 | [],n=>by simp
 |p::k,n=>by simp only[List.foldl_cons,uK (k:=k),List.mem_cons,forall_eq_or_imp,Int.max_le,and_assoc]
def cY(l:List It):Bool:=(List.range l.length).all fun i=> !nZ l i
def cp(s:bh):Bool:=
 !CQ s 1&& !CQ s 2&&decide (s.aK.length<=4096)&&aO s.fl&&b_ s.aK&&aS s.kn&&cX (aV (br s.kn s.fl)) s.kn&&decide (dc s.kn s.id<=s.ct)&&cY s.aK&&s.aK.all fun x=>ar s.fl x.key&&bZ s.kn x.key x.rep x.cu
set_option maxHeartbeats 8000000
theorem Ff:ai Tryz.prog wC Tryz.f69.ntmps (Tryz.f69.body.getD .skip)=true:=by kernel_rfl
theorem Ju(x:It)(h:x.ok):az Tryz.prog 69 [x.enc] (· = .bool (aM x)):=by
 refine aa uJ mixed Tryz.func69 rfl (Nat.le_of_ble_eq_true rfl) Ff ?_;unfold Tryz.f69;obtain⟨key,rep,cu,bq,prio,dead,body⟩:=x;obtain⟨h1,h2⟩:=h;simp only[It.enc]at h1 h2⊢;have g1:=xV h1;simp only[aM]
 cases e1:decide (1<=key.length/\key.length<=16)with
 |false=>rw[e1]at g1;simp-implicitDefEqProofs (disch:=(first|omega|decide)) only[go_sem,↓reduceIte,seval,g1]
 |true=>
  rw[e1]at g1;cases e2:aL ⟨rep,cu⟩with
  |false=>simp-implicitDefEqProofs (disch:=(first|omega|decide)) only[go_sem,↓reduceIte,seval,g1,e2]
  |true=>
   by_cases e3:1<=bq
   · have Qq: ¬bq<1:=by omega
     by_cases e4:bq<=1099511627776
     · have UH: ¬1099511627776<bq:=by omega
       by_cases e5:0<=prio
       · have Yn: ¬prio<0:=by omega
         by_cases e6:prio<=255
         · have e6': ¬255<prio:=by omega
           by_cases e7:body.length<=64
           · have e7':(body.length:Int)<=64:=by omega
             cases dead<;>cases e8:body==[]<;>simp-implicitDefEqProofs (disch:=(first|omega|decide)) only[go_sem,↓reduceIte,seval,g1,e2,e3,e4,e5,e6,e7,Qq,UH,Yn,e6',e7',e8]
           · have e7': ¬(body.length:Int)<=64:=by omega
             simp-implicitDefEqProofs (disch:=(first|omega|decide)) only[go_sem,↓reduceIte,seval,g1,e2,e3,e4,e5,e6,e7,Qq,UH,Yn,e6',e7']
         · have e6':255<prio:=by omega
           simp-implicitDefEqProofs (disch:=(first|omega|decide)) only[go_sem,↓reduceIte,seval,g1,e2,e3,e4,e5,e6,Qq,UH,Yn,e6']
       · have Yn:prio<0:=by omega
         simp-implicitDefEqProofs (disch:=(first|omega|decide)) only[go_sem,↓reduceIte,seval,g1,e2,e3,e4,e5,Qq,UH,Yn]
     · have UH:1099511627776<bq:=by omega
       simp-implicitDefEqProofs (disch:=(first|omega|decide)) only[go_sem,↓reduceIte,seval,g1,e2,e3,e4,Qq,UH]
   · have Qq:bq<1:=by omega
     simp-implicitDefEqProofs (disch:=(first|omega|decide)) only[go_sem,↓reduceIte,seval,g1,e2,e3,Qq]
theorem CR:ai Tryz.prog wC Tryz.f73.ntmps (Tryz.f73.body.getD .skip)=true:=by kernel_rfl
theorem Fg(x:It)(h:x.ok):az Tryz.prog 73 [x.enc] (· = .bool (aM x)):=by
 refine aa uJ mixed Tryz.func73 rfl (Nat.le_of_ble_eq_true rfl) CR ?_;unfold Tryz.f73;obtain⟨key,rep,cu,bq,prio,dead,body⟩:=x;obtain⟨h1,h2⟩:=h;simp only[It.enc]at h1 h2⊢;have g1:=rN h1;simp only[aM]
 cases e1:decide (1<=key.length/\key.length<=16)with
 |false=>rw[e1]at g1;simp-implicitDefEqProofs (disch:=(first|omega|decide)) only[go_sem,↓reduceIte,seval,g1]
 |true=>
  rw[e1]at g1;cases e2:aL ⟨rep,cu⟩with
  |false=>simp-implicitDefEqProofs (disch:=(first|omega|decide)) only[go_sem,↓reduceIte,seval,g1,e2]
  |true=>
   by_cases e3:1<=bq
   · have Qq: ¬bq<1:=by omega
     by_cases e4:bq<=1099511627776
     · have UH: ¬1099511627776<bq:=by omega
       by_cases e5:0<=prio
       · have Yn: ¬prio<0:=by omega
         by_cases e6:prio<=255
         · have e6': ¬255<prio:=by omega
           have e8':decide ((0:Int)<(body.length:Int))= !(body==[]):=by
            cases body with
            |nil=>rfl
            |cons a b=>simp
           by_cases e7:body.length<=64
           · have e7':(body.length:Int)<=64:=by omega
             cases dead<;>cases e8:body==[]<;>rw[e8]at e8'<;>simp-implicitDefEqProofs (disch:=(first|omega|decide)) only[go_sem,↓reduceIte,seval,g1,e2,e3,e4,e5,e6,e7,Qq,UH,Yn,e6',e7',e8,e8']
           · have e7': ¬(body.length:Int)<=64:=by omega
             simp-implicitDefEqProofs (disch:=(first|omega|decide)) only[go_sem,↓reduceIte,seval,g1,e2,e3,e4,e5,e6,e7,Qq,UH,Yn,e6',e7']
         · have e6':255<prio:=by omega
           simp-implicitDefEqProofs (disch:=(first|omega|decide)) only[go_sem,↓reduceIte,seval,g1,e2,e3,e4,e5,e6,Qq,UH,Yn,e6']
       · have Yn:prio<0:=by omega
         simp-implicitDefEqProofs (disch:=(first|omega|decide)) only[go_sem,↓reduceIte,seval,g1,e2,e3,e4,e5,Qq,UH,Yn]
     · have UH:1099511627776<bq:=by omega
       simp-implicitDefEqProofs (disch:=(first|omega|decide)) only[go_sem,↓reduceIte,seval,g1,e2,e3,e4,Qq,UH]
   · have Qq:bq<1:=by omega
     simp-implicitDefEqProofs (disch:=(first|omega|decide)) only[go_sem,↓reduceIte,seval,g1,e2,e3,Qq]
def Jv:aj:=wC.add 69 (entry (fun(x:It)=>[x.enc]) (fun x=>x.ok) (fun x=> .bool (aM x)))
theorem T18a_ok:ag Tryz.prog Jv:=uJ.bG Tryz.func69 (by kernel_rfl) (by kernel_rfl) fun x h=>Ju x h
@[go_sem] theorem T18a_old{g:FuncId}{xs:List A}(h:g≠69):Jv.f g xs=wC.f g xs:=aj.ak h
theorem zb(x:It)(h:x.ok):Jv.f 69 [x.enc]=some (.bool (aM x)):=aj.an (Γ:=wC) (fun i j h=>by simpa[Prod.ext_iff,and_assoc]using h) x h
def CS:aj:=Jv.add 73 (entry (fun(x:It)=>[x.enc]) (fun x=>x.ok) (fun x=> .bool (aM x)))
theorem Jw:ag Tryz.prog CS:=T18a_ok.bG Tryz.func73 (by kernel_rfl) (by kernel_rfl) fun x h=>Fg x h
@[go_sem] theorem T18b_old{g:FuncId}{xs:List A}(h:g≠73):CS.f g xs=Jv.f g xs:=aj.ak h
@[go_sem] theorem T18b_s:CS.pl Jv:=⟨fun _=>rfl,fun _=>rfl,rfl,fun _=>rfl,rfl,fun _=>rfl,rfl⟩
theorem mU(x:It)(h:x.ok):CS.f 73 [x.enc]=some (.bool (aM x)):=aj.an (Γ:=Jv) (fun i j h=>by simpa[Prod.ext_iff,and_assoc]using h) x h
theorem Sf{key body:List UInt8}{rep cu bq prio:Int}{dead:Bool}(h:It.ok ⟨key,rep,cu,bq,prio,dead,body⟩):Jv.f 69 [.agg [.str key,.int .i64 rep,.int .i64 cu,.int .i64 bq,.int .i64 prio,.bool dead,.str body]]=some (.bool (aM ⟨key,rep,cu,bq,prio,dead,body⟩)):=zb _ h
theorem Yo{key body:List UInt8}{rep cu bq prio:Int}{dead:Bool}(h:It.ok ⟨key,rep,cu,bq,prio,dead,body⟩):CS.f 73 [.agg [.str key,.int .i64 rep,.int .i64 cu,.int .i64 bq,.int .i64 prio,.bool dead,.str body]]=some (.bool (aM ⟨key,rep,cu,bq,prio,dead,body⟩)):=mU _ h
theorem Fh:ai Tryz.prog CS Tryz.f15.ntmps (Tryz.f15.body.getD .skip)=true:=by kernel_rfl
theorem Jx(l:List It)(m:Int)(hl:l.length<=9223372036854775807):az Tryz.prog 15 [.ad (l.map It.enc),.int .i64 m] (· = .bool (mT l m)):=by
 refine aa Jw mixed Tryz.func15 rfl (Nat.le_of_ble_eq_true rfl) Fh ?_;unfold Tryz.f15;by_cases h0:m<(l.length:Int)
 · have hh:mT l m=true:=by simp[mT,h0]
   simp-implicitDefEqProofs (disch:=(first|omega|decide)) only[go_sem,↓reduceIte,seval,h0,hh,List.length_map]
 · have hh:mT l m=l.any fun x=>decide (60<x.key.length)||decide (200<x.body.length):=by simp[mT,h0]
   simp-implicitDefEqProofs (disch:=(first|omega|decide)) only[go_sem,↓reduceIte,seval,h0,List.length_map]
   rw[hh]
   refine ao [0] (ι:={k:Nat//k<=l.length/\(l.any fun x=>decide (60<x.key.length)||decide (200<x.body.length))=((l.drop k).any fun x=>decide (60<x.key.length)||decide (200<x.body.length))}) (fun p=>[(5,.int .i64 p.1),(4,.bool false)]) (fun _=>[]) (fun p=>l.length-p.1) ⟨0,by omega,rfl⟩ (Nat.zero_le _) ?_ ?_
   · simp-implicitDefEqProofs (disch:=(first|omega|decide)) only[go_sem,↓reduceIte,seval]
   · rintro⟨k,hk,hd⟩
     simp only;by_cases aw:k<l.length
     · have ae:(k:Int)<(l.length:Int):=by omega
       have e1:=dK aw;rw[List.drop_eq_getElem_cons aw,List.any_cons]at hd;generalize hx:l[k]=x at*;obtain⟨key,rep,cu,bq,prio,dead,body⟩:=x;simp only at hd e1;by_cases h1:60<key.length
       · have mb:(60:Int)<(key.length:Int):=by omega
         rw[decide_eq_true h1,Bool.true_or,Bool.true_or]at hd;simp-implicitDefEqProofs (disch:=(first|omega|decide)) only[go_sem,↓reduceIte,seval,ae,e1,mb,hd,wrap_i64,List.length_map]
       · have mb: ¬(60:Int)<(key.length:Int):=by omega
         by_cases h2:200<body.length
         · have mB:(200:Int)<(body.length:Int):=by omega
           rw[decide_eq_true h2,Bool.or_true,Bool.true_or]at hd;simp-implicitDefEqProofs (disch:=(first|omega|decide)) only[go_sem,↓reduceIte,seval,ae,e1,mb,mB,hd,wrap_i64,List.length_map]
         · have mB: ¬(200:Int)<(body.length:Int):=by omega
           rw[decide_eq_false h1,decide_eq_false h2,Bool.or_false,Bool.false_or]at hd;simp-implicitDefEqProofs (disch:=(first|omega|decide)) only[go_sem,↓reduceIte,seval,ae,e1,mb,mB,wrap_i64,List.length_map]
           exact⟨⟨k+1,aw,hd⟩,by simp,by show l.length-(k+1)<l.length-k;omega⟩
     · have ae: ¬(k:Int)<(l.length:Int):=by omega
       rw[List.drop_of_length_le (by omega)]at hd;simp-implicitDefEqProofs (disch:=(first|omega|decide)) only[go_sem,↓reduceIte,seval,ae,hd,List.length_map]
def oA(l:List It)(k:Nat):Option (List UInt8):=match k with|0=>none|j+1=>(l[j]?).map (·.key)
theorem Fi:ai Tryz.prog CS Tryz.f77.ntmps (Tryz.f77.body.getD .skip)=true:=by kernel_rfl
theorem Jy(l:List It)(hl:l.length<=4611686018427387904)(ho:sP l):az Tryz.prog 77 [.ad (l.map It.enc)] (· = .bool (b_ l)):=by
 refine aa Jw mixed Tryz.func77 rfl (Nat.le_of_ble_eq_true rfl) Fi ?_;unfold Tryz.f77;simp-implicitDefEqProofs (disch:=(first|omega|decide)) only[go_sem,↓reduceIte,seval,List.length_map]
 refine ao [0] (ι:={k:Nat//k<=l.length/\b_ l=goI (oA l k) (l.drop k)}) (fun p=>[(3,.int .i64 p.1)]) (fun _=>[]) (fun p=>l.length-p.1) ⟨0,by omega,rfl⟩ (Nat.zero_le _) ?_ ?_
 · simp-implicitDefEqProofs (disch:=(first|omega|decide)) only[go_sem,↓reduceIte,seval]
 · rintro⟨k,hk,hd⟩
   simp only;by_cases aw:k<l.length
   · have ae:(k:Int)<(l.length:Int):=by omega
     have e1:=dK aw;have G0:=ho _ (List.getElem_mem aw)
     have N5:oA l (k+1)=some l[k].key:=by simp[oA,aw]
     rw[List.drop_eq_getElem_cons aw]at hd;simp only[goI]at hd;rw[<-N5]at hd;generalize hx:l[k]=x at*;obtain⟨key,rep,cu,bq,prio,dead,body⟩:=x;have g1:=Yo G0;simp only at hd e1 G0;cases hr:aM ⟨key,rep,cu,bq,prio,dead,body⟩with
     |false=>
      rw[hr]at g1 hd;rw[Bool.false_and,Bool.false_and]at hd;simp-implicitDefEqProofs (disch:=(first|omega|decide)) only[go_sem,↓reduceIte,seval,ae,e1,g1,hd,List.length_map]
     |true=>
      rw[hr]at g1 hd;cases k with
      |zero=>
       rw[show oA l 0=none from rfl,Bool.true_and,Bool.true_and]at hd;have hlt0:(0:Int)<(l.length:Int):=by omega
       simp-implicitDefEqProofs (disch:=(first|omega|decide)) only[go_sem,↓reduceIte,seval,ae,hlt0,e1,g1,wrap_i64,List.length_map]
       exact⟨⟨1,aw,hd⟩,by simp,by show l.length-1<l.length-0;omega⟩
      |succ j=>
       have hj:j<l.length:=by omega
       have e2:=dK hj;have hoy:=ho _ (List.getElem_mem hj)
       have Ic:oA l (j+1)=some l[j].key:=by simp[oA,hj]
       rw[Ic]at hd;generalize hy:l[j]=y at*;obtain⟨Nl,Fj,Jz,rank',prio',dead',body'⟩:=y;simp only at hd e2 hoy;have c0:(0:Int)<((j+1:Nat):Int):=by omega
       have c1:(((j+1:Nat):Int)-1).toNat=j:=by omega
       have c2:(0:Int)<=((j+1:Nat):Int)-1:=by omega
       have c3:((j+1:Nat):Int)-1<(l.length:Int):=by omega
       have g2:=je (a:=Nl) (b:=key) ⟨hoy.1,G0.1⟩
       have e3:(ck Nl key== -1)=aQ Nl key:=rfl;rw[e3]at g2;cases hb:aQ Nl key with
       |false=>
          rw[hb]at g2 hd;rw[Bool.and_false,Bool.false_and]at hd;simp-implicitDefEqProofs (disch:=(first|omega|decide)) only[go_sem,↓reduceIte,seval,ae,e1,e2,g1,g2,c0,c1,c2,c3,hd,wrap_i64,List.length_map]
       |true=>
          rw[hb]at g2 hd;rw[Bool.and_true,Bool.true_and]at hd;simp-implicitDefEqProofs (disch:=(first|omega|decide)) only[go_sem,↓reduceIte,seval,ae,e1,e2,g1,g2,c0,c1,c2,c3,wrap_i64,List.length_map]
          exact⟨⟨j+1+1,aw,hd⟩,by simp,by show l.length-(j+1+1)<l.length-(j+1);omega⟩
   · have ae: ¬(k:Int)<(l.length:Int):=by omega
     rw[List.drop_of_length_le (by omega)]at hd;have hd:b_ l=true:=hd;simp-implicitDefEqProofs (disch:=(first|omega|decide)) only[go_sem,↓reduceIte,seval,ae,hd,List.length_map]
def Nn:aj:=CS.add 15 (entry (fun(v:List It×Int)=>[.ad (v.1.map It.enc),.int .i64 v.2]) (fun v=>v.1.length<=9223372036854775807) (fun v=> .bool (mT v.1 v.2)))
theorem T18c_ok:ag Tryz.prog Nn:=Jw.bG Tryz.func15 (by kernel_rfl) (by kernel_rfl) fun v h=>Jx v.1 v.2 h
@[go_sem] theorem T18c_old{g:FuncId}{xs:List A}(h:g≠15):Nn.f g xs=CS.f g xs:=aj.ak h
theorem oB(v:List It×Int)(h:v.1.length<=9223372036854775807):Nn.f 15 [.ad (v.1.map It.enc),.int .i64 v.2]=some (.bool (mT v.1 v.2)):=aj.an (Γ:=CS) (fun i j h=>by simpa[Prod.ext_iff,and_assoc]using h) v h
def sQ:aj:=Nn.add 77 (entry (fun(l:List It)=>[.ad (l.map It.enc)]) (fun l=>l.length<=4611686018427387904/\sP l) (fun l=> .bool (b_ l)))
theorem uL:ag Tryz.prog sQ:=T18c_ok.bG Tryz.func77 (by kernel_rfl) (by kernel_rfl) fun l h=>Jy l h.1 h.2
@[go_sem] theorem T18d_old{g:FuncId}{xs:List A}(h:g≠77):sQ.f g xs=Nn.f g xs:=aj.ak h
@[go_sem] theorem T18d_s:sQ.pl Nn:=⟨fun _=>rfl,fun _=>rfl,rfl,fun _=>rfl,rfl,fun _=>rfl,rfl⟩
theorem oC(l:List It)(h:l.length<=4611686018427387904/\sP l):sQ.f 77 [.ad (l.map It.enc)]=some (.bool (b_ l)):=aj.an (Γ:=Nn) (fun i j h=>by simpa[Prod.ext_iff,and_assoc]using h) l h
theorem i_rLong{l:List It}{m:Int}(h:l.length<=9223372036854775807):Nn.f 15 [.ad (l.map It.enc),.int .i64 m]=some (.bool (mT l m)):=oB (l,m) h
theorem i_rList{l:List It}(h:l.length<=4611686018427387904/\sP l):sQ.f 77 [.ad (l.map It.enc)]=some (.bool (b_ l)):=oC l h
def qh(s:bh):Bool:=fL s.fl 8||mT s.aK 24||jt s.kn 24
theorem Fk:ai Tryz.prog sQ Tryz.f14.ntmps (Tryz.f14.body.getD .skip)=true:=by kernel_rfl
theorem uM(s:bh)(h1:s.fl.length<=9223372036854775807)(h2:s.aK.length<=9223372036854775807)(h3:s.kn.length<=9223372036854775807)(h4: ∀p∈s.kn,p.s.length<=9223372036854775807):az Tryz.prog 14 [s.enc] (· = .bool (qh s)):=by
 refine aa uL mixed Tryz.func14 rfl (Nat.le_of_ble_eq_true rfl) Fk ?_;unfold Tryz.f14;obtain⟨id,F,I,K,ct⟩:=s;simp only at h1 h2 h3 h4;have g1:=q_rLong (l:=F) (m:=8) h1;have g2:=i_rLong (l:=I) (m:=24) h2;have g3:=Sb (k:=K) (m:=24) h3 h4;simp only[bh.enc,bh.cells,qh]
 cases e1:fL F 8<;>rw[e1]at g1
 · cases e2:mT I 24<;>rw[e2]at g2<;>simp-implicitDefEqProofs (disch:=(first|omega|decide)) only[go_sem,↓reduceIte,seval,g1,g2,g3]
 · simp-implicitDefEqProofs (disch:=(first|omega|decide)) only[go_sem,↓reduceIte,seval,g1]
def sS(id:Int)(n:Int)(k:ab):Int:=if k.n=id then max n (eI k.rs)else n
theorem uN{t:Int->List aC}{id n:Int}: ∀k:Nat,(lX t k).foldl (sS id) n=if 1<=id/\id<=k/\(t id).isEmpty=false then max n (eI (t id))else n
 |0=>by rw[if_neg (by omega)];rfl
 |k+1=>by
  simp only[lX]
  by_cases e:id=(k:Int)+1
  · have h0:(lX t k).foldl (sS id) n=n:=by rw[uN k,if_neg (by omega)]
    subst e;split
    · rename_i h1
      rw[h0,if_neg (by rw[h1];simp)]
    · rename_i h1
      rw[List.foldl_append,h0,if_pos ⟨by omega,by push_cast;omega,by simpa using h1⟩]
      simp[sS]
  · have hc:(1<=id/\id<=((k+1:Nat):Int)/\(t id).isEmpty=false) ↔ (1<=id/\id<=(k:Int)/\(t id).isEmpty=false):=by
     constructor
     · rintro⟨h1,h2,h3⟩;exact⟨h1,by omega,h3⟩
     · rintro⟨h1,h2,h3⟩;exact⟨h1,by omega,h3⟩
    split
    · rw[uN k];simp only[hc]
    · rw[List.foldl_append,uN k]
      have: ∀m:Int,List.foldl (sS id) m [⟨(k:Int)+1,t ((k:Int)+1)⟩]=m:=fun m=>by simp[sS];intro h;exact absurd h.symm e
      rw[this];simp only[hc]
theorem fold_of{p:Pc}{id n:Int}(hn:0<=n):(dF p.s).foldl (sS id) n=max n (oz p id):=by
 unfold dF lM oz;rw[uN]
 cases hr:bI id with
 |false=>
  rw[if_neg,if_neg (by simp)]
  · omega
  · rintro⟨h1,h2,_⟩
    have:=bL (n:=id)
    rw[hr]at this;simp at this;omega
 |true=>
  have h:=bL.1 hr;rw[if_pos rfl]
  cases he:(cw (ah (aB p.s id))).isEmpty with
  |false=>rw[if_pos ⟨by omega,by omega,by rfl⟩]
  |true=>
   have e0:cw (ah (aB p.s id))=[]:=by simpa using he
   rw[if_neg (by simp),e0]
   have:eI []=0:=rfl;rw[this];omega
theorem Yp(a b:Int):(if b>a then b else a)=max a b:=by rw[Int.max_def];split<;>split<;>omega
theorem Yq{rs:List aC}(h:rs≠ []): ∃f,(rs.map aC.enc)[rs.length-1]? =some (.agg [.int .i64 f,.int .i64 (eI rs)]):=by
 have e:rs.getLast? =some (rs.getLast h):=List.getLast?_eq_some_getLast h;refine⟨(rs.getLast h).f, ?_⟩
 rw[List.getElem?_map,<-List.getLast?_eq_getElem?,e]
 unfold eI;rw[e];rfl
theorem ofK_ne{s:List ab}{k:ab}(h:k∈dF s):k.rs≠ []:=(ud h).2.2.2
theorem ofK_rl{s:List ab}{k:ab}(h:k∈dF s):k.rs.length<=1099511627776:=of_len (by have:=(ud h).2.2.1;rw[this];exact f_ _)
theorem Yr(k:List Pc)(id:Int):0<=dc k id:=by
 unfold dc
 have: ∀(l:List Pc) (n:Int),0<=n->0<=l.foldl (fun n p=>max n (oz p id)) n:=fun l=>by
  induction l with
  |nil=>intro n h;exact h
  |cons p l ih=>intro n h;exact ih _ (by show 0<=max n (oz p id);omega)
 exact this k 0 (Int.le_refl _)
theorem CU{k:List Pc}{id:Int}{i:Nat}(h:i<k.length):dc (k.take (i+1)) id=max (dc (k.take i) id) (oz k[i] id):=by unfold dc;rw[<-List.take_append_getElem h,List.foldl_append];rfl
theorem Sg{k:List Pc}(hk:gn k){p:Pc}(hp:p∈k):lz p.s:=by
 have h1:=hk.2.2 p hp;refine⟨⟨by omega,by omega⟩,fun n=> ?_⟩
 have:=fG p.s n;omega
theorem Fl:ai Tryz.prog sQ Tryz.f80.ntmps (Tryz.f80.body.getD .skip)=true:=by kernel_rfl
theorem uO(k:List Pc)(id:Int)(hk:gn k):az Tryz.prog 80 [.ad (k.map Pc.enc),.int .i64 id] (· = .int .i64 (dc k id)):=by
 refine aa uL mixed Tryz.func80 rfl (Nat.le_of_ble_eq_true rfl) Fl ?_;unfold Tryz.f80;have Vn:=hk.1.1.1;simp-implicitDefEqProofs (disch:=(first|omega|decide)) only[go_sem,↓reduceIte,seval,List.length_map]
 have m0:dc (k.take 0) id=0:=rfl;refine ao [0,1] (ι:={i:Nat//i<=k.length}) (fun p=>[(6,.int .i64 p.1),(5,.int .i64 (dc (k.take p.1) id))]) (fun _=>[]) (fun p=>k.length-p.1) ⟨0,by omega⟩ (Nat.zero_le _) ?_ ?_
 · simp-implicitDefEqProofs (disch:=(first|omega|decide)) only[go_sem,↓reduceIte,seval,m0]
   rfl
 · rintro⟨i,hi⟩
   simp only;by_cases aw:i<k.length
   · have ae:(i:Int)<(k.length:Int):=by omega
     have e1:=fM aw;have hm:=Sg hk (List.getElem_mem aw)
     have go:=rK k[i].s hm;have hn:=Yr (k.take i) id;have hs:=CU (id:=id) aw;have hf:=fold_of (p:=k[i]) (id:=id) hn;have oN:(dF k[i].s).length<=16:=by unfold dF lM;exact nM _ 16
     have bU: ∀x∈dF k[i].s,x.rs≠ []:=fun x hx=>ofK_ne hx;have Gq: ∀x∈dF k[i].s,x.rs.length<=1099511627776:=fun x hx=>ofK_rl hx;generalize dF k[i].s=o at*;generalize dc (k.take i) id=n at*;simp-implicitDefEqProofs (disch:=(first|omega|decide)) only[go_sem,↓reduceIte,seval,ae,e1,go,List.length_map]
     refine ao [0,1,6,7] (ι:={j:Nat//j<=o.length}) (fun q=>[(8,.int .i64 q.1),(5,.int .i64 ((o.take q.1).foldl (sS id) n))]) (fun _=>[]) (fun q=>o.length-q.1) ⟨0,by omega⟩ (Nat.zero_le _) ?_ ?_
     · simp-implicitDefEqProofs (disch:=(first|omega|decide)) only[go_sem,↓reduceIte,seval]
       rfl
     · rintro⟨j,hj⟩
       simp only;by_cases hlj:j<o.length
       · have hlj':(j:Int)<(o.length:Int):=by omega
         have e2:=eB hlj;have bR:(o.take (j+1)).foldl (sS id) n=sS id ((o.take j).foldl (sS id) n) o[j]:=by rw[<-List.take_append_getElem hlj,List.foldl_append];rfl
         have hnj:=bU _ (List.getElem_mem hlj)
         have Zv:=Gq _ (List.getElem_mem hlj)
         obtain⟨f,e3⟩:=Yq hnj;have hpos:0<o[j].rs.length:=List.length_pos_iff.2 hnj;generalize(o.take j).foldl (sS id) n=m at*;generalize o[j]=x at*;obtain⟨xn,rs⟩:=x;simp only at e2 e3 hpos bR Zv;cases h1:xn==id with
         |false=>
          have hne': ¬xn=id:=by simpa using h1
          have ht:sS id m ⟨xn,rs⟩=m:=by unfold sS;rw[if_neg hne']
          rw[ht]at bR;simp-implicitDefEqProofs (disch:=(first|omega|decide)) only[go_sem,↓reduceIte,seval,hlj',e2,h1,wrap_i64,List.length_map]
          exact⟨⟨j+1,hlj⟩,⟨by simp,by rw[bR]⟩,by show o.length-(j+1)<o.length-j;omega⟩
         |true=>
          have he:xn=id:=by simpa using h1
          have ht:sS id m ⟨xn,rs⟩=max m (eI rs):=by unfold sS;rw[if_pos he]
          rw[ht]at bR;have c0:((rs.length:Int)-1).toNat=rs.length-1:=by omega
          have c1:(0:Int)<=(rs.length:Int)-1:=by omega
          have c2:(rs.length:Int)-1<(rs.length:Int):=by omega
          simp-implicitDefEqProofs (disch:=(first|omega|decide)) only[go_sem,↓reduceIte,seval,hlj',e2,e3,h1,c0,c1,c2,Yp,wrap_i64,List.length_map]
          exact⟨⟨j+1,hlj⟩,⟨by simp,by rw[bR]⟩,by show o.length-(j+1)<o.length-j;omega⟩
       · have hlj': ¬(j:Int)<(o.length:Int):=by omega
         obtain rfl:j=o.length:=by omega
         rw[List.take_length,hf,<-hs]
         simp-implicitDefEqProofs (disch:=(first|omega|decide)) only[go_sem,↓reduceIte,seval,hlj',wrap_i64,List.length_map]
         exact⟨⟨i+1,aw⟩,⟨by simp,rfl⟩,by show k.length-(i+1)<k.length-i;omega⟩
   · have ae: ¬(i:Int)<(k.length:Int):=by omega
     rw[List.take_of_length_le (by omega)]
     simp-implicitDefEqProofs (disch:=(first|omega|decide)) only[go_sem,↓reduceIte,seval,ae,List.length_map]
theorem CV:ai Tryz.prog sQ Tryz.f81.ntmps (Tryz.f81.body.getD .skip)=true:=by kernel_rfl
theorem rO(l:List It)(hl:l.length<=1000000):az Tryz.prog 81 [.ad (l.map It.enc)] (· = .bool (cY l)):=by
 refine aa uL mixed Tryz.func81 rfl (Nat.le_of_ble_eq_true rfl) CV ?_;unfold Tryz.f81;simp-implicitDefEqProofs (disch:=(first|omega|decide)) only[go_sem,↓reduceIte,seval,List.length_map]
 refine ao [0] (ι:={i:Nat//i<=l.length/\ ∀j,j<i->nZ l j=false}) (fun p=>[(3,.int .i64 p.1)]) (fun _=>[]) (fun p=>l.length-p.1) ⟨0,by omega,fun j h=>absurd h (Nat.not_lt_zero _)⟩ (Nat.zero_le _) ?_ ?_
 · simp-implicitDefEqProofs (disch:=(first|omega|decide)) only[go_sem,↓reduceIte,seval]
 · rintro⟨i,hi,hd⟩
   simp only;by_cases aw:i<l.length
   · have ae:(i:Int)<(l.length:Int):=by omega
     have ei:=dK aw;have hP:nZ l i=(l.take i).any fun y=>decide (y.rep=l[i].rep/\y.cu=l[i].cu):=by unfold nZ;rw[List.getElem?_eq_getElem aw]
     have qF:nZ l i=true->cY l=false:=fun h=>by
      unfold cY;rw[List.all_eq_false]
      exact⟨i,List.mem_range.2 aw,by rw[h];simp⟩
     have LX:(l.take i).length=i:=by rw[List.length_take];omega
     have ny: ∀q (hq:q<i),(l.take i)[q]'(by omega)=l[q]'(by omega):=fun q hq=>List.getElem_take;simp-implicitDefEqProofs (disch:=(first|omega|decide)) only[go_sem,↓reduceIte,seval,ae,List.length_map]
     refine ao [0,3] (ι:={q:Nat//q<=i/\nZ l i=(((l.take i).drop q).any fun y=>decide (y.rep=l[i].rep/\y.cu=l[i].cu))}) (fun q=>[(4,.int .i64 q.1)]) (fun _=>[]) (fun q=>i-q.1) ⟨0,by omega,by rw[hP];rfl⟩ (Nat.zero_le _) ?_ ?_
     · simp-implicitDefEqProofs (disch:=(first|omega|decide)) only[go_sem,↓reduceIte,seval]
     · rintro⟨q,hq,Sh⟩
       simp only;by_cases hlq:q<i
       · have Ys:(q:Int)<(i:Int):=by omega
         have eq':=dK (show q<l.length by omega)
         rw[List.drop_eq_getElem_cons (by omega),List.any_cons,ny q hlq]at Sh;have b1:(q:Int)<(l.length:Int):=by omega
         generalize l[q]=y at*;generalize l[i]=z at*;obtain⟨key,rep,cu,bq,prio,dead,body⟩:=y;obtain⟨Nl,Fj,Jz,rank',prio',dead',body'⟩:=z;simp only at ei eq' Sh;cases h1:Fj==rep with
         |false=>
          have bU:decide (rep=Fj/\cu=Jz)=false:=by
           have:Fj≠rep:=by simpa using h1
           simp[Ne.symm this]
          rw[bU,Bool.false_or]at Sh;simp-implicitDefEqProofs (disch:=(first|omega|decide)) only[go_sem,↓reduceIte,seval,ae,Ys,b1,ei,eq',h1,wrap_i64,List.length_map]
          exact⟨⟨q+1,hlq,Sh⟩,by simp,by show i-(q+1)<i-q;omega⟩
         |true=>
          obtain rfl:Fj=rep:=by simpa using h1
          cases h2:Jz==cu with
          |false=>
           have bU:decide (Fj=Fj/\cu=Jz)=false:=by
              have:Jz≠cu:=by simpa using h2
              simp[Ne.symm this]
           rw[bU,Bool.false_or]at Sh;simp-implicitDefEqProofs (disch:=(first|omega|decide)) only[go_sem,↓reduceIte,seval,ae,Ys,b1,ei,eq',h1,h2,wrap_i64,List.length_map]
           exact⟨⟨q+1,hlq,Sh⟩,by simp,by show i-(q+1)<i-q;omega⟩
          |true=>
           obtain rfl:Jz=cu:=by simpa using h2
           have he:decide (Fj=Fj/\Jz=Jz)=true:=by simp
           rw[he,Bool.true_or]at Sh;have hh:=qF Sh;simp-implicitDefEqProofs (disch:=(first|omega|decide)) only[go_sem,↓reduceIte,seval,ae,Ys,b1,ei,eq',h1,h2,hh,wrap_i64,List.length_map]
       · have Ys: ¬(q:Int)<(i:Int):=by omega
         rw[List.drop_of_length_le (by omega)]at Sh;have Sh:nZ l i=false:=Sh;simp-implicitDefEqProofs (disch:=(first|omega|decide)) only[go_sem,↓reduceIte,seval,Ys,wrap_i64,List.length_map]
         exact⟨⟨i+1,aw,fun j hj=>by
          by_cases e:j=i
          · subst e;exact Sh
          · exact hd j (by omega)⟩,by simp,by show l.length-(i+1)<l.length-i;omega⟩
   · have ae: ¬(i:Int)<(l.length:Int):=by omega
     have hh:cY l=true:=by
      unfold cY;rw[List.all_eq_true]
      intro j hj;rw[hd j (by have:=List.mem_range.1 hj;omega)];rfl
     simp-implicitDefEqProofs (disch:=(first|omega|decide)) only[go_sem,↓reduceIte,seval,ae,hh,List.length_map]
def UI:aj:=sQ.add 14 (entry (fun(s:bh)=>[s.enc]) (fun s=>(s.fl.length<=9223372036854775807/\s.aK.length<=9223372036854775807)/\s.kn.length<=9223372036854775807/\ ∀p∈s.kn,p.s.length<=9223372036854775807) (fun s=> .bool (qh s)))
theorem T23a_ok:ag Tryz.prog UI:=uL.bG Tryz.func14 (by kernel_rfl) (by kernel_rfl) fun s h=>uM s h.1.1 h.1.2 h.2.1 h.2.2
@[go_sem] theorem T23a_old{g:FuncId}{xs:List A}(h:g≠14):UI.f g xs=sQ.f g xs:=aj.ak h
theorem Vu(s:bh)(h:(s.fl.length<=9223372036854775807/\s.aK.length<=9223372036854775807)/\s.kn.length<=9223372036854775807/\ ∀p∈s.kn,p.s.length<=9223372036854775807):UI.f 14 [s.enc]=some (.bool (qh s)):=aj.an (Γ:=sQ) (fun i j h=>by simpa[Prod.ext_iff,and_assoc]using h) s h
def Qr:aj:=UI.add 80 (entry (fun(v:List Pc×Int)=>[.ad (v.1.map Pc.enc),.int .i64 v.2]) (fun v=>gn v.1) (fun v=> .int .i64 (dc v.1 v.2)))
theorem T23b_ok:ag Tryz.prog Qr:=T23a_ok.bG Tryz.func80 (by kernel_rfl) (by kernel_rfl) fun v h=>uO v.1 v.2 h
@[go_sem] theorem T23b_old{g:FuncId}{xs:List A}(h:g≠80):Qr.f g xs=UI.f g xs:=aj.ak h
theorem zc(v:List Pc×Int)(h:gn v.1):Qr.f 80 [.ad (v.1.map Pc.enc),.int .i64 v.2]=some (.int .i64 (dc v.1 v.2)):=aj.an (Γ:=UI) (fun i j h=>by simpa[Prod.ext_iff,and_assoc]using h) v h
def Np:aj:=Qr.add 81 (entry (fun(l:List It)=>[.ad (l.map It.enc)]) (fun l=>l.length<=1000000) (fun l=> .bool (cY l)))
theorem T23c_ok:ag Tryz.prog Np:=T23b_ok.bG Tryz.func81 (by kernel_rfl) (by kernel_rfl) fun l h=>rO l h
@[go_sem] theorem T23c_old{g:FuncId}{xs:List A}(h:g≠81):Np.f g xs=Qr.f g xs:=aj.ak h
theorem wE(l:List It)(h:l.length<=1000000):Np.f 81 [.ad (l.map It.enc)]=some (.bool (cY l)):=aj.an (Γ:=Qr) (fun i j h=>by simpa[Prod.ext_iff,and_assoc]using h) l h
def UJ:aj:=Np.add 76 (entry (fun(l:List ax)=>[.ad (l.map ax.enc)]) (fun l=>l.length<=100000/\dp l) (fun l=> .bool (aO l)))
theorem T23d_ok:ag Tryz.prog UJ:=T23c_ok.bG Tryz.func76 (by kernel_rfl) (by kernel_rfl) fun l h=>Ev l (Nat.le_trans h.1 (by decide)) h.2
@[go_sem] theorem T23d_old{g:FuncId}{xs:List A}(h:g≠76):UJ.f g xs=Np.f g xs:=aj.ak h
@[go_sem] theorem T23d_s:UJ.pl Np:=⟨fun _=>rfl,fun _=>rfl,rfl,fun _=>rfl,rfl,fun _=>rfl,rfl⟩
theorem wF(l:List ax)(h:l.length<=100000/\dp l):UJ.f 76 [.ad (l.map ax.enc)]=some (.bool (aO l)):=aj.an (Γ:=Np) (fun i j h=>by simpa[Prod.ext_iff,and_assoc]using h) l h
theorem s_rMost{k:List Pc}{id:Int}(h:gn k):Qr.f 80 [.ad (k.map Pc.enc),.int .i64 id]=some (.int .i64 (dc k id)):=zc (k,id) h
theorem Yt{l:List It}(h:l.length<=1000000):Np.f 81 [.ad (l.map It.enc)]=some (.bool (cY l)):=wE l h
theorem Nq{l:List ax}(h:l.length<=100000/\dp l):UJ.f 76 [.ad (l.map ax.enc)]=some (.bool (aO l)):=wF l h
structure OkS(s:bh):Prop where
 fl:s.fl.length<=8/\dp s.fl
 aK:s.aK.length<=24/\sP s.aK
 kn:s.kn.length<=24/\wP s.kn<=24*272/\ ∀p∈s.kn,p.r.lo.length<=40/\p.r.hi.length<=40
theorem OkS.gn{s:bh}(h:OkS s):gn s.kn:=Yi (m:=24) h.kn (by omega)
structure s_(s:bh):Prop where
 fl:s.fl.length<=500/\dp s.fl
 aK:s.aK.length<=1000000/\sP s.aK
 kn:gn s.kn/\s.kn.length<=500
 rest:cC (aV (br s.kn s.fl))
theorem OkS.toR{s:bh}(h:OkS s):s_ s:=by
 have o:=Yh (a:=s.kn) (l:=s.fl) (N:=24) (M:=8) (W:=24*272) h.kn.1 h.fl.1 h.kn.2.1 (by omega) (by omega)
 exact⟨⟨by have:=h.fl.1;omega,h.fl.2⟩,⟨by have:=h.aK.1;omega,h.aK.2⟩,⟨h.gn,by have:=h.kn.1;omega⟩,o.1⟩
theorem CW:ai Tryz.prog UJ Tryz.f21.ntmps (Tryz.f21.body.getD .skip)=true:=by kernel_rfl
theorem rP(s:bh)(h:s_ s):az Tryz.prog 21 [s.enc] (· = .bool (cp s)):=by
 refine aa T23d_ok mixed Tryz.func21 rfl (Nat.le_of_ble_eq_true rfl) CW ?_;unfold Tryz.f21;obtain⟨⟨hf1,Vf⟩,⟨hi1,tg⟩,⟨ke,OF⟩,hr⟩:=h;have g1:=Nq (l:=s.fl) ⟨by omega,Vf⟩
 have g2:=i_rList (l:=s.aK) ⟨by omega,tg⟩
 have g3:=Nk ke.1;have g4:=CO ke Vf ⟨OF,hf1⟩
 have g5:=Sc hr ke.1;have g6:=s_rMost (id:=s.id) ke;have g7:=Yt hi1;have g8: ∀x:List UInt8,x.length<=9223372036854775807->I1.f 36 [.ad (s.fl.map ax.enc),.str x]=some (.bool (ar s.fl x)):=fun x hx=>l6 (by omega) Vf hx;have g9: ∀(x:List UInt8) (n c:Int),x.length<=9223372036854775807->E5.f 74 [.ad (s.kn.map Pc.enc),.str x,.agg [.int .i64 n,.int .i64 c]]=some (.bool (bZ s.kn x n c)):=fun x n c hx=>Qc ke.1 hx;have hR:cp s=(!(decide (s.id<1)||decide (16<s.id))&& !(decide (s.ct<0)||decide (1099511627776<s.ct))&&decide (s.aK.length<=4096)&&aO s.fl&&b_ s.aK&&aS s.kn&&cX (aV (br s.kn s.fl)) s.kn&&decide (dc s.kn s.id<=s.ct)&&cY s.aK&&s.aK.all fun x=>ar s.fl x.key&&bZ s.kn x.key x.rep x.cu):=rfl;rw[hR]
 obtain⟨id,F,I,K,ct⟩:=s;simp only[bh.enc,bh.cells]at*;generalize aV (br K F)=Q at*;generalize dc K id=m at*;by_cases c1:id<1
 · simp-implicitDefEqProofs (disch:=(first|omega|decide)) only[go_sem,↓reduceIte,seval,c1]
 · by_cases c2:16<id
   · simp-implicitDefEqProofs (disch:=(first|omega|decide)) only[go_sem,↓reduceIte,seval,c1,c2]
   · by_cases c3:ct<0
     · simp-implicitDefEqProofs (disch:=(first|omega|decide)) only[go_sem,↓reduceIte,seval,c1,c2,c3]
     · by_cases c4:1099511627776<ct
       · simp-implicitDefEqProofs (disch:=(first|omega|decide)) only[go_sem,↓reduceIte,seval,c1,c2,c3,c4]
       · by_cases c5:I.length<=4096
         · have Ks: ¬(4096:Int)<(I.length:Int):=by omega
           cases d1:aO F with
           |false=>rw[d1]at g1;simp-implicitDefEqProofs (maxSteps:=600000) (disch:=(first|omega|decide)) only[go_sem,↓reduceIte,seval,c1,c2,c3,c4,c5,Ks,g1,List.length_map]
           |true=>
            rw[d1]at g1;cases d2:b_ I with
            |false=>rw[d2]at g2;simp-implicitDefEqProofs (maxSteps:=600000) (disch:=(first|omega|decide)) only[go_sem,↓reduceIte,seval,c1,c2,c3,c4,c5,Ks,g1,g2,List.length_map]
            |true=>
             rw[d2]at g2;cases d3:aS K with
             |false=>rw[d3]at g3;simp-implicitDefEqProofs (maxSteps:=600000) (disch:=(first|omega|decide)) only[go_sem,↓reduceIte,seval,c1,c2,c3,c4,c5,Ks,g1,g2,g3,List.length_map]
             |true=>
              rw[d3]at g3;cases d4:cX Q K with
              |false=>rw[d4]at g5;simp-implicitDefEqProofs (maxSteps:=600000) (disch:=(first|omega|decide)) only[go_sem,↓reduceIte,seval,c1,c2,c3,c4,c5,Ks,g1,g2,g3,g4,g5,List.length_map]
              |true=>
               rw[d4]at g5;by_cases d5:m<=ct
               · have d5': ¬ct<m:=by omega
                 cases d6:cY I with
                 |false=>rw[d6]at g7;simp-implicitDefEqProofs (maxSteps:=600000) (disch:=(first|omega|decide)) only[go_sem,↓reduceIte,seval,c1,c2,c3,c4,c5,Ks,g1,g2,g3,g4,g5,g6,g7,d5,d5',List.length_map]
                 |true=>
                  rw[d6]at g7;simp-implicitDefEqProofs (maxSteps:=600000) (disch:=(first|omega|decide)) only[go_sem,↓reduceIte,seval,c1,c2,c3,c4,c5,Ks,g1,g2,g3,g4,g5,g6,g7,d5,d5',List.length_map]
                  refine ao [1] (ι:={i:Nat//i<=I.length/\(I.all fun x=>ar F x.key&&bZ K x.key x.rep x.cu)=((I.drop i).all fun x=>ar F x.key&&bZ K x.key x.rep x.cu)}) (fun p=>[(3,.int .i64 p.1),(2,.bool false)]) (fun p=>[(0,.box [.int .i64 id,.ad (F.map ax.enc),.ad (I.map It.enc),.ad (K.map Pc.enc),.int .i64 ct])]) (fun p=>I.length-p.1) ⟨0,by omega,rfl⟩ (Nat.zero_le _) ?_ ?_
                  · simp-implicitDefEqProofs (disch:=(first|omega|decide)) only[go_sem,↓reduceIte,seval]
                  · rintro⟨i,hi,hd⟩
                    simp only;by_cases aw:i<I.length
                    · have ae:(i:Int)<(I.length:Int):=by omega
                      have ei:=dK aw;have G0:=tg _ (List.getElem_mem aw)
                      rw[List.drop_eq_getElem_cons aw,List.all_cons]at hd;generalize I[i]=x at*;obtain⟨key,rep,cu,bq,prio,dead,body⟩:=x;simp only at ei hd;have g8:=g8 key G0.1;have g9:=g9 key rep cu G0.1;cases k1:ar F key with
                      |false=>
                       rw[k1]at g8 hd;rw[Bool.false_and,Bool.false_and]at hd;simp-implicitDefEqProofs (disch:=(first|omega|decide)) only[go_sem,↓reduceIte,seval,ae,ei,g8,hd,List.length_map]
                      |true=>
                       rw[k1]at g8 hd;cases k2:bZ K key rep cu with
                       |false=>
                        rw[k2]at g9 hd;rw[Bool.and_false,Bool.false_and]at hd;simp-implicitDefEqProofs (disch:=(first|omega|decide)) only[go_sem,↓reduceIte,seval,ae,ei,g8,g9,hd,List.length_map]
                       |true=>
                        rw[k2]at g9 hd;rw[Bool.and_true,Bool.true_and]at hd;simp-implicitDefEqProofs (disch:=(first|omega|decide)) only[go_sem,↓reduceIte,seval,ae,ei,g8,g9,wrap_i64,List.length_map]
                        exact⟨⟨i+1,aw,hd⟩,by simp,by show I.length-(i+1)<I.length-i;omega⟩
                    · have ae: ¬(i:Int)<(I.length:Int):=by omega
                      rw[List.drop_of_length_le (by omega)]at hd;have hd:(I.all fun x=>ar F x.key&&bZ K x.key x.rep x.cu)=true:=hd;simp-implicitDefEqProofs (disch:=(first|omega|decide)) only[go_sem,↓reduceIte,seval,ae,hd,List.length_map]
               · have d5':ct<m:=by omega
                 simp-implicitDefEqProofs (maxSteps:=600000) (disch:=(first|omega|decide)) only[go_sem,↓reduceIte,seval,c1,c2,c3,c4,c5,Ks,g1,g2,g3,g4,g5,g6,d5,d5',List.length_map]
         · have Ks:(4096:Int)<(I.length:Int):=by omega
           simp-implicitDefEqProofs (disch:=(first|omega|decide)) only[go_sem,↓reduceIte,seval,c1,c2,c3,c4,c5,Ks,List.length_map]
end Go.Proofs.YtihgnfmoafjakaaGreat
namespace Go.bJ
end Go.bJ
namespace Go.Proofs.YtihgnfmoafjakaaGreat
open Go.bJ
set_option linter.unusedSimpArgs false
set_option linter.unusedVariables false
set_option maxRecDepth 20000
set_option maxHeartbeats 8000000
end Go.Proofs.YtihgnfmoafjakaaGreat
