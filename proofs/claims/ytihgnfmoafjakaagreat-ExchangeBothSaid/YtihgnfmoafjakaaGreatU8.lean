/- What the laws of this claim rest on: the abstract executor, its soundness, and what the functions compute on pure data. No condition. -/
import Derived.Test.YtihgnfmoafjakaaGreatU7
noncomputable section
set_option linter.unusedVariables false
set_option linter.unusedSimpArgs false
namespace Go.Proofs.YtihgnfmoafjakaaGreat
open Go.bo
set_option linter.unusedSimpArgs false
set_option linter.unusedVariables false
theorem Sk{r:ax}{es:List (List UInt8)}(he:aA r=true->r.lo∈es/\(r.op=false->r.hi∈es)){x e:List UInt8}(h1:aV x e=false)(h2: ∀y∈es,aV e y=true->aV x y=true):b_ r x=b_ r e:=by have:=tX (l:=[r]) (es:=es) (fun q hq=>by simp only[List.mem_singleton]at hq;subst hq;exact he) h1 h2;simpa[aj]using this
theorem Pa{k:List Pc}{x e:List UInt8}(h: ∀p∈k,b_ p.r x=b_ p.r e):setAt k x=setAt k e:=by unfold setAt;rw[List.filter_congr h]
theorem BK{m:List ax}{P:List UInt8->List ad}{es:List (List UInt8)}(up:es.Pairwise (fun x y=>aV x y=true))(nil: []∈es)(len: ∀e∈es,e.length<=17)
 (all: ∀r∈m,aA r=true->r.lo∈es/\(r.op=false->r.hi∈es)) (hright: ∀x,bc (P x)=true) (va: ∀x e,(∀r∈m,b_ r x=b_ r e)->P x=P e):Kc P es:=
 ⟨up,nil,len,fun x e he h1 h2=>va x e fun r hr=>Sk (all r hr) h1 h2,hright⟩
section
variable{LL:List (List Pc)}
theorem o7(x:List UInt8):x∈gI LL ↔ x∈db [[]] (LL.flatMap sA):=by
 unfold gI;rw[l0]
 exact(ff (Es (my LL))).1.mem_iff
theorem yf:(gI LL).Pairwise (fun x y=>aV x y=true):=KP (ff (Es (my LL))).2
theorem uu: []∈gI LL:=(o7 []).2 ((iR _ _ _).2 (.inl (by simp)))
theorem yg: ∀e∈gI LL,e.length<=17:=fun e he=>Es (my LL) e ((o7 e).1 he)
theorem uv: ∀r∈(LL.flatMap fun k=>k.map (·.r)),aA r=true->r.lo∈gI LL/\(r.op=false->r.hi∈gI LL):=fun r hr h=>by
 have hm:r∈LL.flatMap sA:=by obtain⟨k,hk,hr⟩:=List.mem_flatMap.1 hr;exact List.mem_flatMap.2 ⟨k,hk,List.mem_filter.2 ⟨hr,h⟩⟩
 exact⟨(o7 _).2 ((iR _ _ _).2 (.inr ⟨r,hm,.inl rfl⟩)),fun ho=>(o7 _).2 ((iR _ _ _).2 (.inr ⟨r,hm,.inr ⟨ho,rfl⟩⟩))⟩
theorem je:(gI LL).length<=1+2*mL LL:=by
 have h1:=(ff (Es (my LL))).1.length_eq;have h2:=(fY (LL.flatMap sA) [[]]).2;have h3:=sy (jN (db [[]] (LL.flatMap sA)))
 have h4:=Er LL LL.length;rw[List.take_length]at h4;rw[List.length_singleton]at h2;unfold gI;omega
end
theorem rp{k:List Pc}{x e:List UInt8}(h: ∀r∈k.map (·.r),b_ r x=b_ r e):cL k x=cL k e:=by unfold cL;rw[Pa fun p hp=>h p.r (List.mem_map.2 ⟨p,hp,rfl⟩)]
theorem rq{l:List ax}{x e:List UInt8}(h: ∀r∈l,b_ r x=b_ r e):aj l x=aj l e:=by
 unfold aj;induction l with
 |nil=>rfl
 |cons r l ih=>rw[List.any_cons,List.any_cons,h r (by simp),ih fun q hq=>h q (by simp[hq])]
theorem eQ(k:List Pc)(x:List UInt8):bc (cL k x)=true:=IT _
theorem yh(op:Int)(a b:List ad):bc (RB op a b)=true:=Dg fun n=>ig _
theorem gj{k:List Pc}(h:aR k=true):aT (cL k)=k:=by
 symm;have da:=(dN.1 h).1;refine T3 h fun x l=> ?_;rw[vH da]
 have key: ∀p∈k,b_ p.r x=true->cL k x=p.s:=fun p hp hx=>by
  unfold cL;rw[qP h hp hx]
  have:=da p hp;simp only[dS,Bool.and_eq_true]at this;exact cM this.2
 constructor
 · rintro⟨p,hp,hx,rfl⟩
   refine⟨key p hp hx,fun e=> ?_⟩
   have:=da p hp;simp only[dS,Bool.and_eq_true]at this;rw[e]at this;simp at this
 · rintro⟨h1,h2⟩
   by_cases hex: ∃p∈k,b_ p.r x=true
   · obtain⟨p,hp,hx⟩:=hex
     exact⟨p,hp,hx,by rw[<-key p hp hx];exact h1⟩
   · exfalso
     apply h2;rw[<-h1]
     have:setAt k x=[]:=by unfold setAt;rw[List.filter_eq_nil_iff.2 (fun p hp hx=>hex ⟨p,hp,hx⟩)];rfl
     unfold cL;rw[this]
     exact Ul fun n _=>IU fun c=>rfl
end Go.Proofs.YtihgnfmoafjakaaGreat
namespace Go.Proofs.YtihgnfmoafjakaaGreat
open Go.bo
set_option linter.unusedSimpArgs false
set_option linter.unusedVariables false
set_option maxRecDepth 20000
set_option maxHeartbeats 16000000
theorem caps1(cs:List A):Caps [.dK cs]:=⟨rfl,fun _=>rfl,fun _=>rfl,fun _=>rfl⟩
theorem caps2(cs ds:List A):Caps [.dK cs,.dK ds]:=⟨rfl,fun _=>rfl,fun _=>rfl,fun _=>rfl⟩
theorem stP(l:List Pc):((l.map Pc.enc).isEmpty||cd (l.map Pc.enc)==4)=true:=by cases l<;>rfl
def jf(k:List Pc):List Pc:=k.map fun p=>⟨p.r,dG p.s⟩
theorem G3:ah Tryz.prog ye Tryz.f186.ntmps (Tryz.f186.body.getD .skip)=true:=by kernel_rfl
theorem Le(k:List Pc)(hk:cV k):ay Tryz.prog 186 [.ab (k.map Pc.enc)] (· = .ab ((jf k).map Pc.enc)):=by
 refine aa BJ mixed Tryz.func186 rfl (Nat.le_of_ble_eq_true rfl) G3 ?_;unfold Tryz.f186;obtain⟨⟨k1,k2⟩,k3⟩:=id hk;simp-implicitDefEqProofs (disch:=(first|omega|decide)) only[go_sem,↓reduceIte,seval,List.length_map]
 refine aW 3 4 rfl ?_;refine ar [0,6,7] (ι:={j:Nat//j<=k.length}) (fun p=>[(8,.int .i64 p.1),(3,.row 0 0 4 p.1 false)]) (fun p=>[(0,.row 4 ((jf (k.take p.1)).map Pc.enc))]) (fun p=>k.length-p.1) ⟨0,by omega⟩ (Nat.zero_le _) ?_ ?_
 · simp-implicitDefEqProofs (disch:=(first|omega|decide)) only[go_sem,↓reduceIte,seval]
   simp[jf]
 · rintro⟨j,hj⟩
   simp only;have jV:((jf (k.take j)).map Pc.enc).length=j:=by simp[jf];omega
   have tl:((jf (k.take j)).map Pc.enc).take j=(jf (k.take j)).map Pc.enc:=List.take_of_length_le (Nat.le_of_eq jV)
   by_cases aw:j<k.length
   · have ae:(j:Int)<(k.length:Int):=by omega
     have e1:=gz aw;have wa:=fq hk (List.getElem_mem aw)
     have b9:jf (k.take (j+1))=jf (k.take j)++[⟨k[j].r,dG k[j].s⟩]:=by rw[<-List.take_append_getElem aw];unfold jf;rw[List.map_append];rfl
     generalize hp:k[j]=p at*;obtain⟨⟨lo,hi,op⟩,s⟩:=p;simp only at wa b9;have ho:=sx wa;simp-implicitDefEqProofs (disch:=(first|omega|decide)) only[go_sem,↓reduceIte,seval,ae,e1,ho,tl,jV,wrap_i64,List.length_map]
     exact⟨by omega,⟨j+1,aw⟩,⟨⟨by simp,rfl⟩,by rw[b9,List.map_append];rfl⟩,by show k.length-(j+1)<k.length-j;omega⟩
   · have ae: ¬(j:Int)<(k.length:Int):=by omega
     obtain rfl:j=k.length:=by omega
     rw[List.take_length]at*;simp-implicitDefEqProofs (disch:=(first|omega|decide)) only[go_sem,↓reduceIte,seval,ae,tl,jV,List.length_map]
     try exact Nat.le_refl _
def Sl:an:=ye.add 186 (entry (fun(k:List Pc)=>[.ab (k.map Pc.enc)]) (fun k=>cV k) (fun k=> .ab ((jf k).map Pc.enc)))
theorem P16a_ok:ag Tryz.prog Sl:=BJ.bN Tryz.func186 (by kernel_rfl) (by kernel_rfl) fun k h=>Le k h
@[go_sem] theorem P16a_old{g:FuncId}{xs:List A}(h:g≠186):Sl.f g xs=ye.f g xs:=an.ak h
theorem AO(k:List Pc)(h:cV k):Sl.f 186 [.ab (k.map Pc.enc)]=some (.ab ((jf k).map Pc.enc)):=an.ao (Γ:=ye) (fun i j h=>by simpa[Prod.ext_iff,and_assoc]using h) k h
def Eu:an:=Sl.add 137 (entry (fun(LL:List (List Pc))=>[.ab (LL.map XJ)]) (fun LL=>(LL.length<=1000/\mL LL<=1000000)/\ ∀k∈LL,∀p∈k,p.r.lo.length<=9223372036854775807/\p.r.hi.length<=9223372036854775807) (fun LL=> .ab ((gI LL).map .str)))
theorem Uv:ag Tryz.prog Eu:=P16a_ok.bN Tryz.func137 (by kernel_rfl) (by kernel_rfl) fun LL h=>K' LL h.1.1 h.1.2 h.2
@[go_sem] theorem P16b_old{g:FuncId}{xs:List A}(h:g≠137):Eu.f g xs=Sl.f g xs:=an.ak h
theorem pw(LL:List (List Pc))(h:(LL.length<=1000/\mL LL<=1000000)/\ ∀k∈LL,∀p∈k,p.r.lo.length<=9223372036854775807/\p.r.hi.length<=9223372036854775807):Eu.f 137 [.ab (LL.map XJ)]=some (.ab ((gI LL).map .str)):=an.ao (Γ:=Sl) (fun i j h=>by simpa[Prod.ext_iff,and_assoc]using h) LL h
theorem p_clone{k:List Pc}(h:cV k):Sl.f 186 [.ab (k.map Pc.enc)]=some (.ab ((jf k).map Pc.enc)):=AO k h
theorem p_edges1{k:List Pc}(h:cV k):Eu.f 137 [.ab [.ab (k.map Pc.enc)]]=some (.ab ((gI [k]).map .str)):=pw [k] ⟨⟨by simp,by have:=h.1.1;simp[mL];omega⟩,fun m hm=>by simp only[List.mem_singleton]at hm;subst hm;exact h.2⟩
theorem p_edges2{a b:List Pc}(ha:cV a)(hb:cV b):Eu.f 137 [.ab [.ab (a.map Pc.enc),.ab (b.map Pc.enc)]]=some (.ab ((gI [a,b]).map .str)):=pw [a,b] ⟨⟨by simp,by have:=ha.1.1;have:=hb.1.1;simp[mL];omega⟩,fun m hm=>by
 simp only[List.mem_cons,List.not_mem_nil,or_false]at hm;rcases hm with rfl|rfl
 · exact ha.2
 · exact hb.2⟩
theorem edg1(k:List Pc):Kc (cL k) (gI [k]):=BK yf uu yg uv (eQ k) fun x e h=>rp fun r hr=>h r (by simpa using hr)
theorem Sn{k:List Pc}(h:aR k=true):jf k=k:=by
 have da:=(dN.1 h).1;unfold jf
 conv=>rhs;rw[<-List.map_id k]
 apply List.map_congr_left;intro p hp;have:=da p hp;simp only[dS,Bool.and_eq_true]at this;rw[cM this.2];rfl
def WK:an:=Eu.add 136 (entry (fun(v:List (List UInt8)×List Pc)=>[.ab (v.1.map .str),.fn 187 [.dK [.ab (v.2.map Pc.enc)]]]) (fun v=>(Kc (cL v.2) v.1/\cV v.2)/\v.1.length<=1000000) (fun v=> .ab ((aT (cL v.2)).map Pc.enc)))
theorem Uw:ag Tryz.prog WK:=Uv.bN Tryz.func136 (by kernel_rfl) (by kernel_rfl) fun v h=>wc v.1 _ _ (cL v.2) (caps1 _) h.1.1 h.2 (fun x=>(ri h.1.2 x).2) (fun x hx=>p_Of1 h.1.2 (by have:=h.1.1.len x hx;omega))
@[go_sem] theorem P16c_old{g:FuncId}{xs:List A}(h:g≠136):WK.f g xs=Eu.f g xs:=an.ak h
theorem AP(v:List (List UInt8)×List Pc)(h:(Kc (cL v.2) v.1/\cV v.2)/\v.1.length<=1000000):WK.f 136 [.ab (v.1.map .str),.fn 187 [.dK [.ab (v.2.map Pc.enc)]]]=some (.ab ((aT (cL v.2)).map Pc.enc)):=an.ao (Γ:=Eu) (fun i j h=>by simpa[Prod.ext_iff,and_assoc]using h) v h
theorem WL{es:List (List UInt8)}{k:List Pc}(hE:Kc (cL k) es)(hk:cV k)(hl:es.length<=1000000):WK.f 136 [.ab (es.map .str),.fn 187 [.dK [.ab (k.map Pc.enc)]]]=some (.ab ((aT (cL k)).map Pc.enc)):=AP (es,k) ⟨⟨hE,hk⟩,hl⟩
def O15:an:={WK with mH:=fun f=>f==136,pZ:=fun f=>f==136}
theorem O15_ok:ag Tryz.prog O15:=⟨Uw.f,Uw.hp⟩
@[go_sem] theorem O15_f:O15.f=WK.f:=rfl
@[go_sem] theorem O15_eff{g:FuncId}:O15.mH g=(g==136):=rfl
@[go_sem] theorem O15_frz{g:FuncId}:O15.pZ g=(g==136):=rfl
@[go_sem] theorem O15_fix{n:Nat}:O15.fix n=false:=rfl
@[go_sem] theorem O15_ords{n:Nat}:O15.c6 n=[]:=rfl
theorem Sp:ah Tryz.prog O15 Tryz.f150.ntmps (Tryz.f150.body.getD .skip)=true:=by kernel_rfl
theorem WM(k:List Pc)(hk:cV k):ay Tryz.prog 150 [.ab (k.map Pc.enc)] (· = .ab ((aT (cL k)).map Pc.enc)):=by
 refine aa O15_ok mixed Tryz.func150 rfl (Nat.le_of_ble_eq_true rfl) Sp ?_;unfold Tryz.f150;have h1:=Lc hk;cases hr:aR k with
 |true=>
  rw[hr]at h1;have h2:=p_clone hk;rw[Sn hr]at h2;simp-implicitDefEqProofs (disch:=(first|omega|decide)) only[go_sem,↓reduceIte,seval,h1,h2]
  rw[gj hr]
 |false=>
  rw[hr]at h1;have h2:=p_edges1 hk;have h3:=WL (edg1 k) hk (by have:=je (LL:=[k]);have:=hk.1.1;simp[mL]at*;omega)
  simp-implicitDefEqProofs (disch:=(first|omega|decide)) only[go_sem,↓reduceIte,seval,h1,h2,h3,List.contains_nil,List.contains_cons]
def WN:an:=Eu.add 150 (entry (fun(k:List Pc)=>[.ab (k.map Pc.enc)]) (fun k=>cV k) (fun k=> .ab ((aT (cL k)).map Pc.enc)))
theorem P16e_ok:ag Tryz.prog WN:=Uv.bN Tryz.func150 (by kernel_rfl) (by kernel_rfl) fun k h=>WM k h
@[go_sem] theorem P16e_old{g:FuncId}{xs:List A}(h:g≠150):WN.f g xs=Eu.f g xs:=an.ak h
theorem Lf(k:List Pc)(h:cV k):WN.f 150 [.ab (k.map Pc.enc)]=some (.ab ((aT (cL k)).map Pc.enc)):=an.ao (Γ:=Eu) (fun i j h=>by simpa[Prod.ext_iff,and_assoc]using h) k h
def WO:an:=WN
theorem Lg:ag Tryz.prog WO:=P16e_ok
@[go_sem] theorem P16f_old{g:FuncId}{xs:List A}:WO.f g xs=WN.f g xs:=rfl
theorem p_Of{k:List Pc}(h:cV k):WN.f 150 [.ab (k.map Pc.enc)]=some (.ab ((aT (cL k)).map Pc.enc)):=Lf k h
def J15:an:={WO with mH:=fun f=>f==150,pZ:=fun f=>f==150}
theorem J15_ok:ag Tryz.prog J15:=⟨Lg.f,Lg.hp⟩
@[go_sem] theorem J15_f:J15.f=WO.f:=rfl
@[go_sem] theorem J15_eff{g:FuncId}:J15.mH g=(g==150):=rfl
@[go_sem] theorem J15_frz{g:FuncId}:J15.pZ g=(g==150):=rfl
@[go_sem] theorem J15_fix{n:Nat}:J15.fix n=false:=rfl
@[go_sem] theorem J15_ords{n:Nat}:J15.c6 n=[]:=rfl
theorem WQ{LL:List (List Pc)}{o:Nat}(h:o<LL.length):(LL.take (o+1)).flatten=(LL.take o).flatten++LL[o]:=by rw[<-List.take_append_getElem h,List.flatten_append];simp
theorem flat_len(LL:List (List Pc))(o:Nat):(LL.take o).flatten.length<=LL.flatten.length:=by
 conv=>rhs;rw[<-List.take_append_drop o LL]
 rw[List.flatten_append,List.length_append];omega
theorem Lh:ah Tryz.prog J15 Tryz.f92.ntmps (Tryz.f92.body.getD .skip)=true:=by kernel_rfl
theorem Pb(LL:List (List Pc))(hL:LL.length<=1000000)(hk:cV LL.flatten):ay Tryz.prog 92 [.ab (LL.map XJ)] (· = .ab ((aT (cL LL.flatten)).map Pc.enc)):=by
 refine aa J15_ok mixed Tryz.func92 rfl (Nat.le_of_ble_eq_true rfl) Lh ?_;unfold Tryz.f92;have XE:=hk.1.1;simp-implicitDefEqProofs (disch:=(first|omega|decide)) only[go_sem,↓reduceIte,seval,List.length_map]
 refine aW 3 4 rfl ?_;refine ar [0,6,7] (ι:={o:Nat//o<=LL.length}) (fun p=>[(8,.int .i64 p.1),(3,.row 0 0 4 (LL.take p.1).flatten.length false)]) (fun p=>[(0,.row 4 ((LL.take p.1).flatten.map Pc.enc))]) (fun p=>LL.length-p.1) ⟨0,by omega⟩ (Nat.zero_le _) ?_ ?_
 · simp-implicitDefEqProofs (disch:=(first|omega|decide)) only[go_sem,↓reduceIte,seval]
   simp
 · rintro⟨o,ho⟩
   simp only;have XG:=flat_len LL (o+1)
   by_cases aw:o<LL.length
   · have ae:(o:Int)<(LL.length:Int):=by omega
     have hd:=Uu aw;have b9:=WQ aw;rw[b9,List.length_append]at XG;generalize LL[o]=k at*;have st:=stP k;have tl:((LL.take o).flatten.map Pc.enc).take (LL.take o).flatten.length=(LL.take o).flatten.map Pc.enc:=List.take_of_length_le (by rw[List.length_map];exact Nat.le_refl _)
     simp-implicitDefEqProofs (disch:=(first|omega|decide)) only[go_sem,↓reduceIte,seval,ae,hd,st,tl,wrap_i64,List.length_map]
     exact⟨⟨Nat.le_refl _,by omega⟩,⟨o+1,aw⟩,⟨⟨by simp,by rw[b9,List.length_append]⟩,by rw[b9,List.map_append]⟩,by show LL.length-(o+1)<LL.length-o;omega⟩
   · have ae: ¬(o:Int)<(LL.length:Int):=by omega
     obtain rfl:o=LL.length:=by omega
     rw[List.take_length]at*;have h:=p_Of hk;have tl:(LL.flatten.map Pc.enc).take LL.flatten.length=LL.flatten.map Pc.enc:=List.take_of_length_le (by rw[List.length_map];exact Nat.le_refl _)
     simp-implicitDefEqProofs (disch:=(first|omega|decide)) only[go_sem,↓reduceIte,seval,ae,h,tl,List.length_map,List.contains_nil,List.contains_cons]
     exact Nat.le_refl _
def WR:an:=WO
theorem P16g_ok:ag Tryz.prog WR:=Lg
@[go_sem] theorem P16g_old{g:FuncId}{xs:List A}:WR.f g xs=WO.f g xs:=rfl
def G4:an:=WR.add 92 (entry (fun(LL:List (List Pc))=>[.ab (LL.map XJ)]) (fun LL=>LL.length<=1000000/\cV LL.flatten) (fun LL=> .ab ((aT (cL LL.flatten)).map Pc.enc)))
theorem Ux:ag Tryz.prog G4:=P16g_ok.bN Tryz.func92 (by kernel_rfl) (by kernel_rfl) fun LL h=>Pb LL h.1 h.2
@[go_sem] theorem P16h_old{g:FuncId}{xs:List A}(h:g≠92):G4.f g xs=WR.f g xs:=an.ak h
@[go_sem] theorem P16h_s:G4.pl WR:=⟨fun _=>rfl,fun _=>rfl,rfl,fun _=>rfl,rfl,fun _=>rfl,rfl⟩
theorem Ev(LL:List (List Pc))(h:LL.length<=1000000/\cV LL.flatten):G4.f 92 [.ab (LL.map XJ)]=some (.ab ((aT (cL LL.flatten)).map Pc.enc)):=an.ao (Γ:=WR) (fun i j h=>by simpa[Prod.ext_iff,and_assoc]using h) LL h
theorem Uy{a b:List Pc}(h:cV (a++b)):G4.f 92 [.ab [.ab (a.map Pc.enc),.ab (b.map Pc.enc)]]=some (.ab ((aT (cL (a++b))).map Pc.enc)):=by
 have e: [a,b].flatten=a++b:=by simp
 have:=Ev [a,b] ⟨by simp,by rw[e];exact h⟩
 rw[e]at this;exact this
def cZ(a b:List Pc):Bool:=decide (a=b)
def rEq(lo hi:List UInt8)(op:Bool)(iw fB:List UInt8)(mU:Bool):Bool:=(lo==iw&&hi==fB)&&op==mU
theorem Ew:ah Tryz.prog G4 Tryz.f164.ntmps (Tryz.f164.body.getD .skip)=true:=by kernel_rfl
theorem Li(x y:Pc)(hx:aK x.s/\aK (dG x.s))(hy:aK y.s/\aK (dG y.s)):ay Tryz.prog 164 [.agg [.str x.r.lo,.str x.r.hi,.bool x.r.op,.ab (x.s.map ad.enc)],.agg [.str y.r.lo,.str y.r.hi,.bool y.r.op,.ab (y.s.map ad.enc)]] (· = .bool (rEq x.r.lo x.r.hi x.r.op y.r.lo y.r.hi y.r.op&&bZ (dG x.s) (dG y.s))):=by
 refine aa Ux mixed Tryz.func164 rfl (Nat.le_of_ble_eq_true rfl) Ew ?_;unfold Tryz.f164;have h:=KK hx.1 hy.1 hx.2 hy.2;unfold rEq;cases h1:x.r.lo==y.r.lo with
 |false=>simp-implicitDefEqProofs (disch:=(first|omega|decide)) only[go_sem,↓reduceIte,seval,h1,Bool.false_and]
 |true=>
  cases h2:x.r.hi==y.r.hi with
  |false=>simp-implicitDefEqProofs (disch:=(first|omega|decide)) only[go_sem,↓reduceIte,seval,h1,h2,Bool.false_and,Bool.and_false,Bool.true_and]
  |true=>
   cases h3:x.r.op==y.r.op with
   |false=>simp-implicitDefEqProofs (disch:=(first|omega|decide)) only[go_sem,↓reduceIte,seval,h1,h2,h3,Bool.false_and,Bool.and_false,Bool.true_and]
   |true=>simp-implicitDefEqProofs (disch:=(first|omega|decide)) only[go_sem,↓reduceIte,seval,h1,h2,h3,h,Bool.true_and,Bool.and_true]
def G5:an:=G4.add 164 (entry (fun(v:((List UInt8×List UInt8×Bool)×List ad)×((List UInt8×List UInt8×Bool)×List ad))=>[.agg [.str v.1.1.1,.str v.1.1.2.1,.bool v.1.1.2.2,.ab (v.1.2.map ad.enc)],.agg [.str v.2.1.1,.str v.2.1.2.1,.bool v.2.1.2.2,.ab (v.2.2.map ad.enc)]]) (fun v=>(aK v.1.2/\aK (dG v.1.2))/\aK v.2.2/\aK (dG v.2.2)) (fun v=> .bool (rEq v.1.1.1 v.1.1.2.1 v.1.1.2.2 v.2.1.1 v.2.1.2.1 v.2.1.2.2&&bZ (dG v.1.2) (dG v.2.2))))
theorem Uz:ag Tryz.prog G5:=Ux.bN Tryz.func164 (by kernel_rfl) (by kernel_rfl) fun v h=>Li ⟨⟨v.1.1.1,v.1.1.2.1,v.1.1.2.2⟩,v.1.2⟩ ⟨⟨v.2.1.1,v.2.1.2.1,v.2.1.2.2⟩,v.2.2⟩ h.1 h.2
@[go_sem] theorem P16i_old{g:FuncId}{xs:List A}(h:g≠164):G5.f g xs=G4.f g xs:=an.ak h
@[go_sem] theorem P16i_s:G5.pl G4:=⟨fun _=>rfl,fun _=>rfl,rfl,fun _=>rfl,rfl,fun _=>rfl,rfl⟩
theorem yi(v:((List UInt8×List UInt8×Bool)×List ad)×((List UInt8×List UInt8×Bool)×List ad))(h:(aK v.1.2/\aK (dG v.1.2))/\aK v.2.2/\aK (dG v.2.2)):G5.f 164 [.agg [.str v.1.1.1,.str v.1.1.2.1,.bool v.1.1.2.2,.ab (v.1.2.map ad.enc)],.agg [.str v.2.1.1,.str v.2.1.2.1,.bool v.2.1.2.2,.ab (v.2.2.map ad.enc)]]=some (.bool (rEq v.1.1.1 v.1.1.2.1 v.1.1.2.2 v.2.1.1 v.2.1.2.1 v.2.1.2.2&&bZ (dG v.1.2) (dG v.2.2))):=an.ao (Γ:=G4) (fun i j h=>by simpa[Prod.ext_iff,and_assoc]using h) v h
theorem p_Same1{lo hi iw fB:List UInt8}{op mU:Bool}{s s':List ad}(h:aK s/\aK (dG s))(h':aK s'/\aK (dG s')):G5.f 164 [.agg [.str lo,.str hi,.bool op,.ab (s.map ad.enc)],.agg [.str iw,.str fB,.bool mU,.ab (s'.map ad.enc)]]=some (.bool (rEq lo hi op iw fB mU&&bZ (dG s) (dG s'))):=yi (((lo,hi,op),s),((iw,fB,mU),s')) ⟨h,h'⟩
theorem bP:ah Tryz.prog G5 Tryz.f117.ntmps (Tryz.f117.body.getD .skip)=true:=by kernel_rfl
theorem Lj(a b:List Pc)(ha:cV a)(hb:cV b)(ra: ∀p∈a,bc p.s=true)(rb: ∀p∈b,bc p.s=true):ay Tryz.prog 117 [.ab (a.map Pc.enc),.ab (b.map Pc.enc),.fn 164 []] (· = .bool (cZ a b)):=by
 refine aa Uz mixed Tryz.func117 rfl (Nat.le_of_ble_eq_true rfl) bP ?_;unfold Tryz.f117;obtain⟨⟨a1,a2⟩,a3⟩:=id ha;obtain⟨⟨b1,b2⟩,b3⟩:=id hb;cases h0:((a.length:Int)==(b.length:Int))with
 |false=>
  have cg:a.length≠b.length:=by
   have:(a.length:Int)≠(b.length:Int):=by simpa using h0
   omega
  have hh:cZ a b=false:=by unfold cZ;simp;intro e;exact cg (by rw[e])
  simp-implicitDefEqProofs (disch:=(first|omega|decide)) only[go_sem,↓reduceIte,seval,h0,hh,List.length_map]
 |true=>
  have he:a.length=b.length:=by
   have:(a.length:Int)=(b.length:Int):=by simpa using h0
   omega
  simp-implicitDefEqProofs (disch:=(first|omega|decide)) only[go_sem,↓reduceIte,seval,h0,List.length_map]
  refine ar [0,1,2,15,16] (ι:={k:Nat//k<=a.length/\a.take k=b.take k}) (fun p=>[(17,.int .i64 p.1)]) (fun _=>[]) (fun p=>a.length-p.1) ⟨0,by omega,rfl⟩ (Nat.zero_le _) ?_ ?_
  · simp-implicitDefEqProofs (disch:=(first|omega|decide)) only[go_sem,↓reduceIte,seval]
  · rintro⟨k,hk,hd⟩
    simp only;by_cases aw:k<a.length
    · have ae:(k:Int)<(a.length:Int):=by omega
      have oZ:(k:Int)<(b.length:Int):=by omega
      have iH:k<b.length:=by omega
      have e1:=gz aw;have e2:=gz iH;have s1:=fq ha (List.getElem_mem aw)
      have s2:=fq hb (List.getElem_mem iH)
      have r1:=ra _ (List.getElem_mem aw)
      have r2:=rb _ (List.getElem_mem iH)
      have t1:=(List.take_append_getElem aw).symm;have t2:=(List.take_append_getElem iH).symm;have sj:a[k]≠b[k]->cZ a b=false:=fun h=>by unfold cZ;simp;intro e;subst e;exact h rfl
      generalize hx:a[k]=x at*;generalize hy:b[k]=y at*;obtain⟨⟨lo,hi,op⟩,s⟩:=x;obtain⟨⟨iw,fB,mU⟩,s'⟩:=y;simp only at s1 s2 r1 r2;have hs:=p_Same1 (lo:=lo) (hi:=hi) (op:=op) (iw:=iw) (fB:=fB) (mU:=mU) (s:=s) (s':=s') ⟨s1,by rw[cM r1];exact s1⟩ ⟨s2,by rw[cM r2];exact s2⟩
      rw[cM r1,cM r2]at hs;cases h1:(rEq lo hi op iw fB mU&&bZ s s')with
      |false=>
       have hh:=sj (fun e=>by simp only[Pc.mk.injEq,ax.mk.injEq]at e;obtain⟨⟨rfl,rfl,rfl⟩,rfl⟩:=e;simp[rEq,bZ]at h1)
       rw[h1]at hs;simp-implicitDefEqProofs (disch:=(first|omega|decide)) only[go_sem,↓reduceIte,seval,ae,oZ,e1,e2,hs,hh,List.length_map]
      |true=>
       rw[h1]at hs;have e:(⟨⟨lo,hi,op⟩,s⟩:Pc)=⟨⟨iw,fB,mU⟩,s'⟩:=by simp only[rEq,bZ,Bool.and_eq_true,beq_iff_eq,decide_eq_true_iff]at h1;obtain⟨⟨⟨rfl,rfl⟩,rfl⟩,rfl⟩:=h1;rfl
       simp-implicitDefEqProofs (disch:=(first|omega|decide)) only[go_sem,↓reduceIte,seval,ae,oZ,e1,e2,hs,wrap_i64,List.length_map]
       exact⟨⟨k+1,aw,by rw[t1,t2,hd,e]⟩,by simp,by show a.length-(k+1)<a.length-k;omega⟩
    · have ae: ¬(k:Int)<(a.length:Int):=by omega
      have hh:cZ a b=true:=by rw[List.take_of_length_le (by omega),List.take_of_length_le (by omega)]at hd;simp[cZ,hd]
      simp-implicitDefEqProofs (disch:=(first|omega|decide)) only[go_sem,↓reduceIte,seval,ae,hh,List.length_map]
def Lk:an:=G5.add 117 (entry (fun(v:List Pc×List Pc)=>[.ab (v.1.map Pc.enc),.ab (v.2.map Pc.enc),.fn 164 []]) (fun v=>(cV v.1/\cV v.2)/\(∀p∈v.1,bc p.s=true)/\ ∀p∈v.2,bc p.s=true) (fun v=> .bool (cZ v.1 v.2)))
theorem UA:ag Tryz.prog Lk:=Uz.bN Tryz.func117 (by kernel_rfl) (by kernel_rfl) fun v h=>Lj v.1 v.2 h.1.1 h.1.2 h.2.1 h.2.2
@[go_sem] theorem P16j_old{g:FuncId}{xs:List A}(h:g≠117):Lk.f g xs=G5.f g xs:=an.ak h
@[go_sem] theorem P16j_s:Lk.pl G5:=⟨fun _=>rfl,fun _=>rfl,rfl,fun _=>rfl,rfl,fun _=>rfl,rfl⟩
theorem bK(v:List Pc×List Pc)(h:(cV v.1/\cV v.2)/\(∀p∈v.1,bc p.s=true)/\ ∀p∈v.2,bc p.s=true):Lk.f 117 [.ab (v.1.map Pc.enc),.ab (v.2.map Pc.enc),.fn 164 []]=some (.bool (cZ v.1 v.2)):=an.ao (Γ:=G5) (fun i j h=>by simpa[Prod.ext_iff,and_assoc]using h) v h
theorem I4(P:List UInt8->List ad): ∀p∈aT P,bc p.s=true:=fun p hp=>by have:=(dN.1 (fe P)).1 p hp;simp only[dS,Bool.and_eq_true]at this;exact this.2
theorem Pd{P Q:List UInt8->List ad}(ha:cV (aT P))(hb:cV (aT Q)):Lk.f 117 [.ab ((aT P).map Pc.enc),.ab ((aT Q).map Pc.enc),.fn 164 []]=some (.bool (cZ (aT P) (aT Q))):=bK (aT P,aT Q) ⟨⟨ha,hb⟩,I4 P,I4 Q⟩
theorem Ll:ah Tryz.prog Lk Tryz.f110.ntmps (Tryz.f110.body.getD .skip)=true:=by kernel_rfl
theorem Pe(a b:List Pc)(ha:cV a)(hb:cV b)(JG:cV (aT (cL a)))(qi:cV (aT (cL b))):ay Tryz.prog 110 [.ab (a.map Pc.enc),.ab (b.map Pc.enc)] (· = .bool (cZ (aT (cL a)) (aT (cL b)))):=by refine aa UA mixed Tryz.func110 rfl (Nat.le_of_ble_eq_true rfl) Ll ?_;unfold Tryz.f110;have h1:=p_Of ha;have h2:=p_Of hb;have h3:=Pd JG qi;simp-implicitDefEqProofs (disch:=(first|omega|decide)) only[go_sem,↓reduceIte,seval,h1,h2,h3]
def Pf:an:=Lk.add 110 (entry (fun(v:List Pc×List Pc)=>[.ab (v.1.map Pc.enc),.ab (v.2.map Pc.enc)]) (fun v=>(cV v.1/\cV v.2)/\cV (aT (cL v.1))/\cV (aT (cL v.2))) (fun v=> .bool (cZ (aT (cL v.1)) (aT (cL v.2)))))
theorem P16k_ok:ag Tryz.prog Pf:=UA.bN Tryz.func110 (by kernel_rfl) (by kernel_rfl) fun v h=>Pe v.1 v.2 h.1.1 h.1.2 h.2.1 h.2.2
@[go_sem] theorem P16k_old{g:FuncId}{xs:List A}(h:g≠110):Pf.f g xs=Lk.f g xs:=an.ak h
theorem Ey(v:List Pc×List Pc)(h:(cV v.1/\cV v.2)/\cV (aT (cL v.1))/\cV (aT (cL v.2))):Pf.f 110 [.ab (v.1.map Pc.enc),.ab (v.2.map Pc.enc)]=some (.bool (cZ (aT (cL v.1)) (aT (cL v.2)))):=an.ao (Γ:=Lk) (fun i j h=>by simpa[Prod.ext_iff,and_assoc]using h) v h
theorem p_Same{a b:List Pc}(ha:cV a)(hb:cV b)(JG:cV (aT (cL a)))(qi:cV (aT (cL b))):Pf.f 110 [.ab (a.map Pc.enc),.ab (b.map Pc.enc)]=some (.bool (cZ (aT (cL a)) (aT (cL b)))):=Ey (a,b) ⟨⟨ha,hb⟩,JG,qi⟩
def jg(l:List ax)(s:List ad):List Pc:=l.map fun r=>⟨r,s⟩
theorem edg3(k:List Pc)(own:List ax):Kc (bj k own) (gI [k,jg own []]):=BK yf uu yg uv (fun x=>by
 unfold bj;split
 · exact eQ k x
 · rfl) fun x e h=>by
 unfold bj
 rw[rp (k:=k) fun r hr=>h r (by simp only[List.flatMap_cons,List.mem_append];exact .inl hr),rq (l:=own) fun r hr=>h r (by
  simp only[List.flatMap_cons,List.mem_append]
  exact .inr (.inl (List.mem_map.2 ⟨⟨r,[]⟩,List.mem_map.2 ⟨r,hr,rfl⟩,rfl⟩)))]
def Pg:an:=Pf.add 136 (entry (fun(v:List (List UInt8)×List ax×List Pc)=>[.ab (v.1.map .str),.fn 138 [.dK [.ab (v.2.1.map ax.enc)],.dK [.ab (v.2.2.map Pc.enc)]]]) (fun v=>((Kc (bj v.2.2 v.2.1) v.1/\cV v.2.2)/\dB v.2.1/\v.2.1.length<=100000)/\v.1.length<=1000000) (fun v=> .ab ((aT (bj v.2.2 v.2.1)).map Pc.enc)))
theorem Lm:ag Tryz.prog Pg:=P16k_ok.bN Tryz.func136 (by kernel_rfl) (by kernel_rfl) fun v h=>wc v.1 _ _ (bj v.2.2 v.2.1) (caps2 _ _) h.1.1.1 h.2 (fun x=>by unfold bj;split;exact(ri h.1.1.2 x).2;exact⟨by simp,by simp[bA]⟩) (fun x hx=>O' h.1.1.2 h.1.2.2 h.1.2.1 (by have:=h.1.1.1.len x hx;omega))
@[go_sem] theorem P16l_old{g:FuncId}{xs:List A}(h:g≠136):Pg.f g xs=Pf.f g xs:=an.ak h
theorem AQ(v:List (List UInt8)×List ax×List Pc)(h:((Kc (bj v.2.2 v.2.1) v.1/\cV v.2.2)/\dB v.2.1/\v.2.1.length<=100000)/\v.1.length<=1000000):Pg.f 136 [.ab (v.1.map .str),.fn 138 [.dK [.ab (v.2.1.map ax.enc)],.dK [.ab (v.2.2.map Pc.enc)]]]=some (.ab ((aT (bj v.2.2 v.2.1)).map Pc.enc)):=an.ao (Γ:=Pf) (fun i j h=>by simpa[Prod.ext_iff,and_assoc]using h) v h
theorem Ph{es:List (List UInt8)}{own:List ax}{k:List Pc}(hE:Kc (bj k own) es)(hk:cV k)(ho:dB own)(pO:own.length<=100000)(hl:es.length<=1000000):Pg.f 136 [.ab (es.map .str),.fn 138 [.dK [.ab (own.map ax.enc)],.dK [.ab (k.map Pc.enc)]]]=some (.ab ((aT (bj k own)).map Pc.enc)):=AQ (es,own,k) ⟨⟨⟨hE,hk⟩,ho,pO⟩,hl⟩
def R15:an:={Pg with mH:=fun f=>f==136,pZ:=fun f=>f==136,c6:=fun n=>if n=8 then [[999999,2]]else []}
theorem R15_ok:ag Tryz.prog R15:=⟨Lm.f,Lm.hp⟩
@[go_sem] theorem R15_f:R15.f=Pg.f:=rfl
@[go_sem] theorem R15_eff{g:FuncId}:R15.mH g=(g==136):=rfl
@[go_sem] theorem R15_frz{g:FuncId}:R15.pZ g=(g==136):=rfl
@[go_sem] theorem R15_fix{n:Nat}:R15.fix n=false:=rfl
@[go_sem] theorem R15_ords8:R15.c6 8=[[999999,2]]:=rfl
@[go_sem] theorem R15_ords{n:Nat}(h:n≠8):R15.c6 n=[]:=if_neg h
theorem setS_okL(l:List ax):dB (dv (aj l))/\(dv (aj l)).length<=l.length:=⟨vY _,rh l⟩
theorem yj:ah Tryz.prog R15 Tryz.f83.ntmps (Tryz.f83.body.getD .skip)=true:=by kernel_rfl
theorem AR(k:List Pc)(l:List ax)(hk:cV k)(hl:l.length<=1000)(pO:dB l):ay Tryz.prog 83 [.ab (k.map Pc.enc),.ab (l.map ax.enc)] (· = .ab ((aT (bj k (dv (aj l)))).map Pc.enc)):=by
 refine aa R15_ok mixed Tryz.func83 rfl (Nat.le_of_ble_eq_true rfl) yj ?_;unfold Tryz.f83;have h0:=O6 (l:=l) (by omega) pO;obtain⟨o1,o2⟩:=setS_okL l;generalize dv (aj l)=own at*;simp-implicitDefEqProofs (disch:=(first|omega|decide)) only[go_sem,↓reduceIte,seval,h0,List.length_map]
 refine aW 6 4 rfl ?_;refine ar [0,1,2,4,5,11,12] (ι:={j:Nat//j<=own.length}) (fun p=>[(13,.int .i64 p.1),(6,.row 2 0 4 p.1 false)]) (fun p=>[(2,.row 4 ((jg (own.take p.1) []).map Pc.enc))]) (fun p=>own.length-p.1) ⟨0,by omega⟩ (Nat.zero_le _) ?_ ?_
 · simp-implicitDefEqProofs (disch:=(first|omega|decide)) only[go_sem,↓reduceIte,seval]
   simp[jg]
 · rintro⟨j,hj⟩
   simp only;have jV:((jg (own.take j) []).map Pc.enc).length=j:=by simp[jg];omega
   have tl:((jg (own.take j) []).map Pc.enc).take j=(jg (own.take j) []).map Pc.enc:=List.take_of_length_le (Nat.le_of_eq jV)
   by_cases aw:j<own.length
   · have ae:(j:Int)<(own.length:Int):=by omega
     have e1:=dJ aw;have b9:jg (own.take (j+1)) []=jg (own.take j) []++[⟨own[j],[]⟩]:=by rw[<-List.take_append_getElem aw];unfold jg;rw[List.map_append];rfl
     generalize hp:own[j]=p at*;obtain⟨lo,hi,op⟩:=p;simp-implicitDefEqProofs (disch:=(first|omega|decide)) only[go_sem,↓reduceIte,seval,ae,e1,tl,jV,wrap_i64,List.length_map]
     exact⟨by omega,⟨j+1,aw⟩,⟨⟨by simp,rfl⟩,by rw[b9,List.map_append];rfl⟩,by show own.length-(j+1)<own.length-j;omega⟩
   · have ae: ¬(j:Int)<(own.length:Int):=by omega
     obtain rfl:j=own.length:=by omega
     rw[List.take_length]at*
     have oc:cV (jg own []):=⟨⟨by simp[jg];omega,by
      have: ∀m:List ax,wP (jg m [])=0:=fun m=>by
       induction m with
       |nil=>rfl
       |cons r m ih=>show wP (⟨r,[]⟩::jg m [])=0;rw[o5,ih];rfl
      rw[this];omega⟩,fun p hp=>by
      obtain⟨r,hr,rfl⟩:=List.mem_map.1 hp;exact o1 r hr⟩
     have h2:=p_edges2 hk oc;have h3:=Ph (edg3 k own) hk o1 (by omega) (by have:=je (LL:=[k,jg own []]);have:=hk.1.1;simp[mL,jg]at*;omega)
     have hle:(own.length<=own.length)=True:=by simp
     simp-implicitDefEqProofs (disch:=(first|omega|decide)) only[go_sem,↓reduceIte,seval,ae,h2,h3,tl,jV,hle,List.length_map,List.contains_nil,List.contains_cons]
def WS:an:=Pg
theorem P17a_ok:ag Tryz.prog WS:=Lm
@[go_sem] theorem P17a_old{g:FuncId}{xs:List A}:WS.f g xs=Pg.f g xs:=rfl
def wg:an:=WS.add 83 (entry (fun(v:List Pc×List ax)=>[.ab (v.1.map Pc.enc),.ab (v.2.map ax.enc)]) (fun v=>(cV v.1/\dB v.2)/\v.2.length<=1000) (fun v=> .ab ((aT (bj v.1 (dv (aj v.2)))).map Pc.enc)))
theorem o8:ag Tryz.prog wg:=P17a_ok.bN Tryz.func83 (by kernel_rfl) (by kernel_rfl) fun v h=>AR v.1 v.2 h.1.1 h.2 h.1.2
@[go_sem] theorem P17b_old{g:FuncId}{xs:List A}(h:g≠83):wg.f g xs=WS.f g xs:=an.ak h
@[go_sem] theorem P17b_s:wg.pl WS:=⟨fun _=>rfl,fun _=>rfl,rfl,fun _=>rfl,rfl,fun _=>rfl,rfl⟩
theorem uw(v:List Pc×List ax)(h:(cV v.1/\dB v.2)/\v.2.length<=1000):wg.f 83 [.ab (v.1.map Pc.enc),.ab (v.2.map ax.enc)]=some (.ab ((aT (bj v.1 (dv (aj v.2)))).map Pc.enc)):=an.ao (Γ:=WS) (fun i j h=>by simpa[Prod.ext_iff,and_assoc]using h) v h
theorem ux{k:List Pc}{l:List ax}(hk:cV k)(hl:l.length<=1000)(pO:dB l):wg.f 83 [.ab (k.map Pc.enc),.ab (l.map ax.enc)]=some (.ab ((aT (bj k (dv (aj l)))).map Pc.enc)):=uw (k,l) ⟨⟨hk,pO⟩,hl⟩
theorem I5(p:Pc)(k:List Pc)(x:List UInt8)(n c:Int):bG (p::k) x n c=((b_ p.r x&&oS p.s n c)||bG k x n c):=rfl
theorem Pj:ah Tryz.prog wg Tryz.f71.ntmps (Tryz.f71.body.getD .skip)=true:=by kernel_rfl
theorem Sq(k:List Pc)(x:List UInt8)(n c:Int)(hk:cV k)(hx:x.length<=9223372036854775807):ay Tryz.prog 71 [.ab (k.map Pc.enc),.str x,.agg [.int .i64 n,.int .i64 c]] (· = .bool (bG k x n c)):=by
 refine aa o8 mixed Tryz.func71 rfl (Nat.le_of_ble_eq_true rfl) Pj ?_;unfold Tryz.f71;obtain⟨⟨k1,k2⟩,k3⟩:=id hk;simp-implicitDefEqProofs (disch:=(first|omega|decide)) only[go_sem,↓reduceIte,seval,List.length_map]
 refine ar [0,1,5,9,10] (ι:={j:Nat//j<=k.length/\bG k x n c=bG (k.drop j) x n c}) (fun p=>[(11,.int .i64 p.1)]) (fun _=>[]) (fun p=>k.length-p.1) ⟨0,by omega,rfl⟩ (Nat.zero_le _) ?_ ?_
 · simp-implicitDefEqProofs (disch:=(first|omega|decide)) only[go_sem,↓reduceIte,seval]
 · rintro⟨j,hj,hd⟩
   simp only at hj hd⊢;by_cases aw:j<k.length
   · have ae:(j:Int)<(k.length:Int):=by omega
     have e1:=gz aw;have g_:=k3 _ (List.getElem_mem aw)
     have wa:=fq hk (List.getElem_mem aw)
     rw[List.drop_eq_getElem_cons aw,I5]at hd;generalize hp:k[j]=p at*;obtain⟨⟨lo,hi,op⟩,s⟩:=p;simp only at hd g_ wa;have hh:=Rx (n:=n) (c:=c) wa;have next:bG k x n c=bG (k.drop (j+1)) x n c-> ∃i:{j:Nat//j<=k.length/\bG k x n c=bG (k.drop j) x n c},(j:Int)+1=(i.1:Int)/\k.length-i.1<k.length-j:=fun h=>⟨⟨j+1,aw,h⟩,by simp,by show k.length-(j+1)<k.length-j;omega⟩
     cases h1:b_ ⟨lo,hi,op⟩ x with
     |false=>
      rw[h1,Bool.false_and,Bool.false_or]at hd;simp-implicitDefEqProofs (disch:=(first|omega|decide)) only[go_sem,↓reduceIte,seval,ae,e1,h1,wrap_i64,List.length_map]
      exact next hd
     |true=>
      cases h2:oS s n c with
      |false=>
       rw[h1,h2,Bool.and_false,Bool.false_or]at hd;rw[h2]at hh;simp-implicitDefEqProofs (disch:=(first|omega|decide)) only[go_sem,↓reduceIte,seval,ae,e1,h1,hh,wrap_i64,List.length_map]
       exact next hd
      |true=>
       rw[h1,h2]at hd;have hh2:bG k x n c=true:=by rw[hd];rfl
       rw[h2]at hh;simp-implicitDefEqProofs (disch:=(first|omega|decide)) only[go_sem,↓reduceIte,seval,ae,e1,h1,hh,hh2,wrap_i64,List.length_map]
   · have ae: ¬(j:Int)<(k.length:Int):=by omega
     have hh:bG k x n c=false:=by rw[hd,List.drop_of_length_le (by omega)];rfl
     simp-implicitDefEqProofs (disch:=(first|omega|decide)) only[go_sem,↓reduceIte,seval,ae,hh,List.length_map]
theorem Ln:ah Tryz.prog wg Tryz.f74.ntmps (Tryz.f74.body.getD .skip)=true:=by kernel_rfl
theorem Pk(k:List Pc)(x:List UInt8)(n c:Int)(hk:cV k)(hx:x.length<=9223372036854775807):ay Tryz.prog 74 [.ab (k.map Pc.enc),.str x,.agg [.int .i64 n,.int .i64 c]] (· = .bool (bG k x n c)):=by
 refine aa o8 mixed Tryz.func74 rfl (Nat.le_of_ble_eq_true rfl) Ln ?_;unfold Tryz.f74;obtain⟨⟨k1,k2⟩,k3⟩:=id hk;simp-implicitDefEqProofs (disch:=(first|omega|decide)) only[go_sem,↓reduceIte,seval,List.length_map]
 refine ar [0,1,5] (ι:={j:Nat//j<=k.length/\bG k x n c=bG (k.drop j) x n c}) (fun p=>[(7,.int .i64 p.1)]) (fun _=>[]) (fun p=>k.length-p.1) ⟨0,by omega,rfl⟩ (Nat.zero_le _) ?_ ?_
 · simp-implicitDefEqProofs (disch:=(first|omega|decide)) only[go_sem,↓reduceIte,seval]
 · rintro⟨j,hj,hd⟩
   simp only at hj hd⊢;by_cases aw:j<k.length
   · have ae:(j:Int)<(k.length:Int):=by omega
     have e1:=gz aw;have g_:=k3 _ (List.getElem_mem aw)
     have wa:=fq hk (List.getElem_mem aw)
     rw[List.drop_eq_getElem_cons aw,I5]at hd;generalize hp:k[j]=p at*;obtain⟨⟨lo,hi,op⟩,s⟩:=p;simp only at hd g_ wa;have hh:=Oo (n:=n) (c:=c) wa;have next:bG k x n c=bG (k.drop (j+1)) x n c-> ∃i:{j:Nat//j<=k.length/\bG k x n c=bG (k.drop j) x n c},(j:Int)+1=(i.1:Int)/\k.length-i.1<k.length-j:=fun h=>⟨⟨j+1,aw,h⟩,by simp,by show k.length-(j+1)<k.length-j;omega⟩
     cases h1:b_ ⟨lo,hi,op⟩ x with
     |false=>
      rw[h1,Bool.false_and,Bool.false_or]at hd;simp-implicitDefEqProofs (disch:=(first|omega|decide)) only[go_sem,↓reduceIte,seval,ae,e1,h1,wrap_i64,List.length_map]
      exact next hd
     |true=>
      cases h2:oS s n c with
      |false=>
       rw[h1,h2,Bool.and_false,Bool.false_or]at hd;rw[h2]at hh;simp-implicitDefEqProofs (disch:=(first|omega|decide)) only[go_sem,↓reduceIte,seval,ae,e1,h1,hh,wrap_i64,List.length_map]
       exact next hd
      |true=>
       rw[h1,h2]at hd;have hh2:bG k x n c=true:=by rw[hd];rfl
       rw[h2]at hh;simp-implicitDefEqProofs (disch:=(first|omega|decide)) only[go_sem,↓reduceIte,seval,ae,e1,h1,hh,hh2,wrap_i64,List.length_map]
   · have ae: ¬(j:Int)<(k.length:Int):=by omega
     have hh:bG k x n c=false:=by rw[hd,List.drop_of_length_le (by omega)];rfl
     simp-implicitDefEqProofs (disch:=(first|omega|decide)) only[go_sem,↓reduceIte,seval,ae,hh,List.length_map]
def Ez(p:Pc):Bool:=decide ((40:Int)<(p.r.lo.length:Int))||(decide ((40:Int)<(p.r.hi.length:Int))||mY p.s 16)
def lx(k:List Pc)(m:Int):Bool:=decide (m<(k.length:Int))||k.any Ez
theorem G6:ah Tryz.prog wg Tryz.f63.ntmps (Tryz.f63.body.getD .skip)=true:=by kernel_rfl
theorem Lo(k:List Pc)(m:Int)(hk:k.length<=9223372036854775807)(hs: ∀p∈k,p.s.length<=9223372036854775807):ay Tryz.prog 63 [.ab (k.map Pc.enc),.int .i64 m] (· = .bool (lx k m)):=by
 refine aa o8 mixed Tryz.func63 rfl (Nat.le_of_ble_eq_true rfl) G6 ?_;unfold Tryz.f63;by_cases h0:m<(k.length:Int)
 · have hh:lx k m=true:=by unfold lx;rw[decide_eq_true h0];rfl
   simp-implicitDefEqProofs (disch:=(first|omega|decide)) only[go_sem,↓reduceIte,seval,h0,hh,List.length_map]
 · simp-implicitDefEqProofs (disch:=(first|omega|decide)) only[go_sem,↓reduceIte,seval,h0,List.length_map]
   refine ar [0,1] (ι:={j:Nat//j<=k.length/\lx k m=(k.drop j).any Ez}) (fun p=>[(5,.int .i64 p.1)]) (fun _=>[]) (fun p=>k.length-p.1) ⟨0,by omega,by unfold lx;rw[decide_eq_false h0,Bool.false_or];rfl⟩ (Nat.zero_le _) ?_ ?_
   · simp-implicitDefEqProofs (disch:=(first|omega|decide)) only[go_sem,↓reduceIte,seval]
   · rintro⟨j,hj,hd⟩
     simp only at hj hd⊢;by_cases aw:j<k.length
     · have ae:(j:Int)<(k.length:Int):=by omega
       have e1:=gz aw;have pW:=hs _ (List.getElem_mem aw)
       rw[List.drop_eq_getElem_cons aw,List.any_cons]at hd;generalize hp:k[j]=p at*;obtain⟨⟨lo,hi,op⟩,s⟩:=p;simp only[Ez]at hd pW;have hL:=KA (m:=16) pW;by_cases h1:(40:Int)<(lo.length:Int)
       · have hh:lx k m=true:=by rw[hd,decide_eq_true h1];rfl
         simp-implicitDefEqProofs (disch:=(first|omega|decide)) only[go_sem,↓reduceIte,seval,ae,e1,h1,hh,List.length_map]
       · by_cases h2:(40:Int)<(hi.length:Int)
         · have hh:lx k m=true:=by rw[hd,decide_eq_true h2];simp
           simp-implicitDefEqProofs (disch:=(first|omega|decide)) only[go_sem,↓reduceIte,seval,ae,e1,h1,h2,hh,List.length_map]
         · cases h3:mY s 16 with
           |true=>
            have hh:lx k m=true:=by rw[hd,h3];simp
            rw[h3]at hL;simp-implicitDefEqProofs (disch:=(first|omega|decide)) only[go_sem,↓reduceIte,seval,ae,e1,h1,h2,hL,hh,List.length_map]
           |false=>
            rw[decide_eq_false h1,decide_eq_false h2,h3]at hd;simp only[Bool.or_self,Bool.false_or]at hd;rw[h3]at hL;simp-implicitDefEqProofs (disch:=(first|omega|decide)) only[go_sem,↓reduceIte,seval,ae,e1,h1,h2,hL,wrap_i64,List.length_map]
            exact⟨⟨j+1,aw,hd⟩,by simp,by show k.length-(j+1)<k.length-j;omega⟩
     · have ae: ¬(j:Int)<(k.length:Int):=by omega
       have hh:lx k m=false:=by rw[hd,List.drop_of_length_le (by omega)];rfl
       simp-implicitDefEqProofs (disch:=(first|omega|decide)) only[go_sem,↓reduceIte,seval,ae,hh,List.length_map]
theorem G7:ah Tryz.prog wg Tryz.f26.ntmps (Tryz.f26.body.getD .skip)=true:=by kernel_rfl
theorem Lp(a b:List Pc)(ha:cV a)(hb:cV b):ay Tryz.prog 26 [.ab (a.map Pc.enc),.ab (b.map Pc.enc)] (· = .bool (cZ a b)):=by
 refine aa o8 mixed Tryz.func26 rfl (Nat.le_of_ble_eq_true rfl) G7 ?_;unfold Tryz.f26;obtain⟨⟨a1,a2⟩,a3⟩:=id ha;obtain⟨⟨b1,b2⟩,b3⟩:=id hb;cases h0:((a.length:Int)==(b.length:Int))with
 |false=>
  have cg:a.length≠b.length:=by
   have:(a.length:Int)≠(b.length:Int):=by simpa using h0
   omega
  have hh:cZ a b=false:=by unfold cZ;simp;intro e;exact cg (by rw[e])
  simp-implicitDefEqProofs (disch:=(first|omega|decide)) only[go_sem,↓reduceIte,seval,h0,hh,List.length_map]
 |true=>
  have he:a.length=b.length:=by
   have:(a.length:Int)=(b.length:Int):=by simpa using h0
   omega
  simp-implicitDefEqProofs (disch:=(first|omega|decide)) only[go_sem,↓reduceIte,seval,h0,List.length_map]
  refine ar [0,1] (ι:={k:Nat//k<=a.length/\a.take k=b.take k}) (fun p=>[(5,.int .i64 p.1)]) (fun _=>[]) (fun p=>a.length-p.1) ⟨0,by omega,rfl⟩ (Nat.zero_le _) ?_ ?_
  · simp-implicitDefEqProofs (disch:=(first|omega|decide)) only[go_sem,↓reduceIte,seval]
  · rintro⟨k,hk,hd⟩
    simp only;by_cases aw:k<a.length
    · have ae:(k:Int)<(a.length:Int):=by omega
      have oZ:(k:Int)<(b.length:Int):=by omega
      have iH:k<b.length:=by omega
      have e1:=gz aw;have e2:=gz iH;have s1:=fq ha (List.getElem_mem aw)
      have s2:=fq hb (List.getElem_mem iH)
      have t1:=(List.take_append_getElem aw).symm;have t2:=(List.take_append_getElem iH).symm;have sj:a[k]≠b[k]->cZ a b=false:=fun h=>by unfold cZ;simp;intro e;subst e;exact h rfl
      generalize hx:a[k]=x at*;generalize hy:b[k]=y at*;obtain⟨⟨lo,hi,op⟩,s⟩:=x;obtain⟨⟨iw,fB,mU⟩,s'⟩:=y;simp only at s1 s2;have hs:=lN s1 s2;cases h1:lo==iw with
      |false=>
       have hh:=sj (fun e=>by injection e with e _;injection e with e _ _;simp[e]at h1)
       simp-implicitDefEqProofs (disch:=(first|omega|decide)) only[go_sem,↓reduceIte,seval,ae,oZ,e1,e2,h1,hh,Bool.false_and,Bool.not_false,List.length_map]
      |true=>
       cases h2:hi==fB with
       |false=>
        have hh:=sj (fun e=>by injection e with e _;injection e with _ e _;simp[e]at h2)
        simp-implicitDefEqProofs (disch:=(first|omega|decide)) only[go_sem,↓reduceIte,seval,ae,oZ,e1,e2,h1,h2,hh,Bool.false_and,Bool.true_and,Bool.not_false,List.length_map]
       |true=>
        cases h3:op==mU with
        |false=>
           have hh:=sj (fun e=>by injection e with e _;injection e with _ _ e;simp[e]at h3)
           simp-implicitDefEqProofs (disch:=(first|omega|decide)) only[go_sem,↓reduceIte,seval,ae,oZ,e1,e2,h1,h2,h3,hh,Bool.false_and,Bool.true_and,Bool.not_false,List.length_map]
        |true=>
           cases h4:bZ s s' with
           |false=>
            have hh:=sj (fun e=>by injection e with _ e;simp[bZ,e]at h4)
            rw[h4]at hs;simp-implicitDefEqProofs (disch:=(first|omega|decide)) only[go_sem,↓reduceIte,seval,ae,oZ,e1,e2,h1,h2,h3,hs,hh,Bool.true_and,Bool.not_true,List.length_map]
           |true=>
            obtain rfl:lo=iw:=by simpa using h1
            obtain rfl:hi=fB:=by simpa using h2
            obtain rfl:op=mU:=by simpa using h3
            obtain rfl:s=s':=by simpa[bZ]using h4
            rw[h4]at hs;simp-implicitDefEqProofs (disch:=(first|omega|decide)) only[go_sem,↓reduceIte,seval,ae,oZ,e1,e2,h1,h2,h3,hs,Bool.true_and,Bool.not_true,wrap_i64,List.length_map]
            exact⟨⟨k+1,aw,by rw[t1,t2,hd]⟩,by simp,by show a.length-(k+1)<a.length-k;omega⟩
    · have ae: ¬(k:Int)<(a.length:Int):=by omega
      have hh:cZ a b=true:=by rw[List.take_of_length_le (by omega),List.take_of_length_le (by omega)]at hd;simp[cZ,hd]
      simp-implicitDefEqProofs (disch:=(first|omega|decide)) only[go_sem,↓reduceIte,seval,ae,hh,List.length_map]
def cv(k:List Pc):List ax:=k.map (·.r)
theorem EA:ah Tryz.prog wg Tryz.f155.ntmps (Tryz.f155.body.getD .skip)=true:=by kernel_rfl
theorem G8(k:List Pc)(hk:cV k):ay Tryz.prog 155 [.ab (k.map Pc.enc)] (· = .ab ((cv k).map ax.enc)):=by
 refine aa o8 mixed Tryz.func155 rfl (Nat.le_of_ble_eq_true rfl) EA ?_;unfold Tryz.f155;obtain⟨⟨k1,k2⟩,k3⟩:=id hk;simp-implicitDefEqProofs (disch:=(first|omega|decide)) only[go_sem,↓reduceIte,seval,List.length_map]
 refine aW 3 3 rfl ?_;refine ar [0] (ι:={j:Nat//j<=k.length}) (fun p=>[(4,.int .i64 p.1),(3,.row 0 0 3 p.1 false)]) (fun p=>[(0,.row 3 ((cv (k.take p.1)).map ax.enc))]) (fun p=>k.length-p.1) ⟨0,by omega⟩ (Nat.zero_le _) ?_ ?_
 · simp-implicitDefEqProofs (disch:=(first|omega|decide)) only[go_sem,↓reduceIte,seval]
   simp[cv]
 · rintro⟨j,hj⟩
   simp only;have jV:((cv (k.take j)).map ax.enc).length=j:=by simp[cv];omega
   have tl:((cv (k.take j)).map ax.enc).take j=(cv (k.take j)).map ax.enc:=List.take_of_length_le (Nat.le_of_eq jV)
   by_cases aw:j<k.length
   · have ae:(j:Int)<(k.length:Int):=by omega
     have e1:=gz aw;have b9:cv (k.take (j+1))=cv (k.take j)++[k[j].r]:=by rw[<-List.take_append_getElem aw];unfold cv;rw[List.map_append];rfl
     generalize hp:k[j]=p at*;obtain⟨⟨lo,hi,op⟩,s⟩:=p;simp only at b9;simp-implicitDefEqProofs (disch:=(first|omega|decide)) only[go_sem,↓reduceIte,seval,ae,e1,tl,jV,wrap_i64,List.length_map]
     exact⟨by omega,⟨j+1,aw⟩,⟨⟨by simp,rfl⟩,by rw[b9,List.map_append];rfl⟩,by show k.length-(j+1)<k.length-j;omega⟩
   · have ae: ¬(j:Int)<(k.length:Int):=by omega
     obtain rfl:j=k.length:=by omega
     rw[List.take_length]at*;simp-implicitDefEqProofs (disch:=(first|omega|decide)) only[go_sem,↓reduceIte,seval,ae,tl,jV,List.length_map]
     try exact Nat.le_refl _
def fw(op:Int)(a b:List Pc)(l:List ax)(x:List UInt8):List ad:=if op=1 then RB 1 (cL a x) (cL b x)else if op=2 then RB 3 (cL a x) (cL b x)else bj a l x
theorem G9:ah Tryz.prog wg Tryz.f156.ntmps (Tryz.f156.body.getD .skip)=true:=by kernel_rfl
theorem Lq(op:Int)(a b:List Pc)(l:List ax)(x:List UInt8)(ha:iI a)(hb:iI b)(hl:l.length<=100000)(pO:dB l)(hx:x.length<=9223372036854775807):ay Tryz.prog 156 [.int .i64 op,.ab (a.map Pc.enc),.ab (b.map Pc.enc),.ab (l.map ax.enc),.str x] (· = .ab ((fw op a b l x).map ad.enc)):=by
 refine aa o8 mixed Tryz.func156 rfl (Nat.le_of_ble_eq_true rfl) G9 ?_;unfold Tryz.f156;have h1:=p_rAt ha hx;have h2:=p_rAt hb hx;have h3:=lP (a:=cL a x) (b:=cL b x) ZM (nV ha x).2 (nV hb x).2;have h4:=lP (a:=cL a x) (b:=cL b x) opOK3 (nV ha x).2 (nV hb x).2;have h5:=fE hl pO hx;unfold fw;cases e1:op==1 with
 |true=>
  have e1':op=1:=by simpa using e1
  rw[if_pos e1']
  simp-implicitDefEqProofs (disch:=(first|omega|decide)) only[go_sem,↓reduceIte,seval,h1,h2,h3,e1]
 |false=>
  have e1':op≠1:=by simpa using e1
  rw[if_neg e1']
  cases e2:op==2 with
  |true=>
   have e2':op=2:=by simpa using e2
   rw[if_pos e2']
   simp-implicitDefEqProofs (disch:=(first|omega|decide)) only[go_sem,↓reduceIte,seval,h1,h2,h4,e1,e2]
  |false=>
   have e2':op≠2:=by simpa using e2
   rw[if_neg e2']
   unfold bj;cases e3:aj l x with
   |true=>
    rw[e3]at h5;simp-implicitDefEqProofs (disch:=(first|omega|decide)) only[go_sem,↓reduceIte,seval,h1,h5,e1,e2]
   |false=>
    rw[e3]at h5;simp-implicitDefEqProofs (disch:=(first|omega|decide)) only[go_sem,↓reduceIte,seval,h5,e1,e2,List.map_nil,Bool.false_eq_true]
def AS:an:=wg.add 71 (entry (fun(v:List Pc×List UInt8×Int×Int)=>[.ab (v.1.map Pc.enc),.str v.2.1,.agg [.int .i64 v.2.2.1,.int .i64 v.2.2.2]]) (fun v=>cV v.1/\v.2.1.length<=9223372036854775807) (fun v=> .bool (bG v.1 v.2.1 v.2.2.1 v.2.2.2)))
theorem P17c_ok:ag Tryz.prog AS:=o8.bN Tryz.func71 (by kernel_rfl) (by kernel_rfl) fun v h=>Sq v.1 v.2.1 v.2.2.1 v.2.2.2 h.1 h.2
@[go_sem] theorem P17c_old{g:FuncId}{xs:List A}(h:g≠71):AS.f g xs=wg.f g xs:=an.ak h
theorem G_(v:List Pc×List UInt8×Int×Int)(h:cV v.1/\v.2.1.length<=9223372036854775807):AS.f 71 [.ab (v.1.map Pc.enc),.str v.2.1,.agg [.int .i64 v.2.2.1,.int .i64 v.2.2.2]]=some (.bool (bG v.1 v.2.1 v.2.2.1 v.2.2.2)):=an.ao (Γ:=wg) (fun i j h=>by simpa[Prod.ext_iff,and_assoc]using h) v h
def AT:an:=AS.add 74 (entry (fun(v:List Pc×List UInt8×Int×Int)=>[.ab (v.1.map Pc.enc),.str v.2.1,.agg [.int .i64 v.2.2.1,.int .i64 v.2.2.2]]) (fun v=>cV v.1/\v.2.1.length<=9223372036854775807) (fun v=> .bool (bG v.1 v.2.1 v.2.2.1 v.2.2.2)))
theorem P17d_ok:ag Tryz.prog AT:=P17c_ok.bN Tryz.func74 (by kernel_rfl) (by kernel_rfl) fun v h=>Pk v.1 v.2.1 v.2.2.1 v.2.2.2 h.1 h.2
@[go_sem] theorem P17d_old{g:FuncId}{xs:List A}(h:g≠74):AT.f g xs=AS.f g xs:=an.ak h
theorem EB(v:List Pc×List UInt8×Int×Int)(h:cV v.1/\v.2.1.length<=9223372036854775807):AT.f 74 [.ab (v.1.map Pc.enc),.str v.2.1,.agg [.int .i64 v.2.2.1,.int .i64 v.2.2.2]]=some (.bool (bG v.1 v.2.1 v.2.2.1 v.2.2.2)):=an.ao (Γ:=AS) (fun i j h=>by simpa[Prod.ext_iff,and_assoc]using h) v h
def Sr:an:=AT.add 63 (entry (fun(v:List Pc×Int)=>[.ab (v.1.map Pc.enc),.int .i64 v.2]) (fun v=>v.1.length<=9223372036854775807/\ ∀p∈v.1,p.s.length<=9223372036854775807) (fun v=> .bool (lx v.1 v.2)))
theorem P17e_ok:ag Tryz.prog Sr:=P17d_ok.bN Tryz.func63 (by kernel_rfl) (by kernel_rfl) fun v h=>Lo v.1 v.2 h.1 h.2
@[go_sem] theorem P17e_old{g:FuncId}{xs:List A}(h:g≠63):Sr.f g xs=AT.f g xs:=an.ak h
theorem AU(v:List Pc×Int)(h:v.1.length<=9223372036854775807/\ ∀p∈v.1,p.s.length<=9223372036854775807):Sr.f 63 [.ab (v.1.map Pc.enc),.int .i64 v.2]=some (.bool (lx v.1 v.2)):=an.ao (Γ:=AT) (fun i j h=>by simpa[Prod.ext_iff,and_assoc]using h) v h
def Pm:an:=Sr.add 26 (entry (fun(v:List Pc×List Pc)=>[.ab (v.1.map Pc.enc),.ab (v.2.map Pc.enc)]) (fun v=>cV v.1/\cV v.2) (fun v=> .bool (cZ v.1 v.2)))
theorem P17f_ok:ag Tryz.prog Pm:=P17e_ok.bN Tryz.func26 (by kernel_rfl) (by kernel_rfl) fun v h=>Lp v.1 v.2 h.1 h.2
@[go_sem] theorem P17f_old{g:FuncId}{xs:List A}(h:g≠26):Pm.f g xs=Sr.f g xs:=an.ak h
theorem AV(v:List Pc×List Pc)(h:cV v.1/\cV v.2):Pm.f 26 [.ab (v.1.map Pc.enc),.ab (v.2.map Pc.enc)]=some (.bool (cZ v.1 v.2)):=an.ao (Γ:=Sr) (fun i j h=>by simpa[Prod.ext_iff,and_assoc]using h) v h
def Ss:an:=Pm.add 155 (entry (fun(k:List Pc)=>[.ab (k.map Pc.enc)]) (fun k=>cV k) (fun k=> .ab ((cv k).map ax.enc)))
theorem P17g_ok:ag Tryz.prog Ss:=P17f_ok.bN Tryz.func155 (by kernel_rfl) (by kernel_rfl) fun k h=>G8 k h
@[go_sem] theorem P17g_old{g:FuncId}{xs:List A}(h:g≠155):Ss.f g xs=Pm.f g xs:=an.ak h
theorem yk(k:List Pc)(h:cV k):Ss.f 155 [.ab (k.map Pc.enc)]=some (.ab ((cv k).map ax.enc)):=an.ao (Γ:=Pm) (fun i j h=>by simpa[Prod.ext_iff,and_assoc]using h) k h
def G':an:=Ss.add 156 (entry (fun(v:(Int×List Pc×List Pc)×List ax×List UInt8)=>[.int .i64 v.1.1,.ab (v.1.2.1.map Pc.enc),.ab (v.1.2.2.map Pc.enc),.ab (v.2.1.map ax.enc),.str v.2.2]) (fun v=>(iI v.1.2.1/\iI v.1.2.2)/\(v.2.1.length<=100000/\dB v.2.1)/\v.2.2.length<=9223372036854775807) (fun v=> .ab ((fw v.1.1 v.1.2.1 v.1.2.2 v.2.1 v.2.2).map ad.enc)))
theorem Lr:ag Tryz.prog G':=P17g_ok.bN Tryz.func156 (by kernel_rfl) (by kernel_rfl) fun v h=>Lq v.1.1 v.1.2.1 v.1.2.2 v.2.1 v.2.2 h.1.1 h.1.2 h.2.1.1 h.2.1.2 h.2.2
@[go_sem] theorem P17h_old{g:FuncId}{xs:List A}(h:g≠156):G'.f g xs=Ss.f g xs:=an.ak h
theorem AW(v:(Int×List Pc×List Pc)×List ax×List UInt8)(h:(iI v.1.2.1/\iI v.1.2.2)/\(v.2.1.length<=100000/\dB v.2.1)/\v.2.2.length<=9223372036854775807):G'.f 156 [.int .i64 v.1.1,.ab (v.1.2.1.map Pc.enc),.ab (v.1.2.2.map Pc.enc),.ab (v.2.1.map ax.enc),.str v.2.2]=some (.ab ((fw v.1.1 v.1.2.1 v.1.2.2 v.2.1 v.2.2).map ad.enc)):=an.ao (Γ:=Ss) (fun i j h=>by simpa[Prod.ext_iff,and_assoc]using h) v h
theorem Pn{k:List Pc}{x:List UInt8}{n c:Int}(h:cV k)(hx:x.length<=9223372036854775807):AS.f 71 [.ab (k.map Pc.enc),.str x,.agg [.int .i64 n,.int .i64 c]]=some (.bool (bG k x n c)):=G_ (k,x,n,c) ⟨h,hx⟩
theorem EC{k:List Pc}{x:List UInt8}{n c:Int}(h:cV k)(hx:x.length<=9223372036854775807):AT.f 74 [.ab (k.map Pc.enc),.str x,.agg [.int .i64 n,.int .i64 c]]=some (.bool (bG k x n c)):=EB (k,x,n,c) ⟨h,hx⟩
theorem p_rLong{k:List Pc}{m:Int}(h:k.length<=9223372036854775807)(h': ∀p∈k,p.s.length<=9223372036854775807):Sr.f 63 [.ab (k.map Pc.enc),.int .i64 m]=some (.bool (lx k m)):=AU (k,m) ⟨h,h'⟩
theorem Ls{a b:List Pc}(ha:cV a)(hb:cV b):Pm.f 26 [.ab (a.map Pc.enc),.ab (b.map Pc.enc)]=some (.bool (cZ a b)):=AV (a,b) ⟨ha,hb⟩
theorem UB{k:List Pc}(h:cV k):Ss.f 155 [.ab (k.map Pc.enc)]=some (.ab ((cv k).map ax.enc)):=yk k h
theorem p_What{op:Int}{a b:List Pc}{l:List ax}{x:List UInt8}(ha:iI a)(hb:iI b)(hl:l.length<=100000)(pO:dB l)(hx:x.length<=9223372036854775807):G'.f 156 [.int .i64 op,.ab (a.map Pc.enc),.ab (b.map Pc.enc),.ab (l.map ax.enc),.str x]=some (.ab ((fw op a b l x).map ad.enc)):=AW ((op,a,b),l,x) ⟨⟨ha,hb⟩,⟨hl,pO⟩,hx⟩
theorem edg4(op:Int)(a b:List Pc)(l:List ax):Kc (fw op a b l) (ja (cv a) (cv b++l)):=BK (m:=cv a++(cv b++l)) (IA _ _) (C_ _ _) (vB _ _) (fun r hr h=>tY _ _ r hr h) (fun x=>by
 unfold fw;split
 · exact yh _ _ _
 · split
   · exact yh _ _ _
   · unfold bj;split
     · exact eQ _ _
     · rfl) fun x e h=>by
 have h1:=rp (k:=a) (x:=x) (e:=e) fun r hr=>h r (by simp only[List.mem_append];exact .inl hr)
 have h2:=rp (k:=b) (x:=x) (e:=e) fun r hr=>h r (by simp only[List.mem_append];exact .inr (.inl hr))
 have h3:=rq (l:=l) (x:=x) (e:=e) fun r hr=>h r (by simp only[List.mem_append];exact .inr (.inr hr))
 unfold fw bj;rw[h1,h2,h3]
theorem Su{op:Int}{a b:List Pc}{l:List ax}(ha:iI a)(hb:iI b)(x:List UInt8):aK (fw op a b l x):=by
 have h1:=En (setAt a x)
 have h2:=En (setAt b x)
 have h3:=ha.2.1 x;have h4:=hb.2.1 x;unfold fw;split
 · have:=opK_w 1 (cL a x) (cL b x);unfold cL at*;exact⟨by omega,by omega⟩
 · split
   · have:=opK_w 3 (cL a x) (cL b x);unfold cL at*;exact⟨by omega,by omega⟩
   · unfold bj;split
     · unfold cL;exact⟨by omega,by omega⟩
     · exact⟨by simp,by simp[bA]⟩
def M15:an:={G' with mH:=fun f=>f==107,pZ:=fun f=>f==107}
theorem M15_ok:ag Tryz.prog M15:=⟨Lr.f,Lr.hp⟩
@[go_sem] theorem M15_f:M15.f=G'.f:=rfl
@[go_sem] theorem M15_eff{g:FuncId}:M15.mH g=(g==107):=rfl
@[go_sem] theorem M15_frz{g:FuncId}:M15.pZ g=(g==107):=rfl
@[go_sem] theorem M15_fix{n:Nat}:M15.fix n=false:=rfl
@[go_sem] theorem M15_ords{n:Nat}:M15.c6 n=[]:=rfl
theorem Po{k:List Pc}(h:cV k):dB (cv k)/\(cv k).length=k.length:=⟨fun r hr=>by obtain⟨p,hp,rfl⟩:=List.mem_map.1 hr;exact h.2 p hp,by simp[cv]⟩
theorem stG(l:List ax):((l.map ax.enc).isEmpty||cd (l.map ax.enc)==3)=true:=by cases l<;>rfl
theorem Ha:ah Tryz.prog M15 Tryz.f102.ntmps (Tryz.f102.body.getD .skip)=true:=by kernel_rfl
theorem Lt(op:Int)(a b:List Pc)(l:List ax)(ha:iI a)(hb:iI b)(Yw:a.length<=500)(hbl:b.length<=500)(hl:l.length<=500)(pO:dB l):
 ay Tryz.prog 102 [.int .i64 op,.ab (a.map Pc.enc),.ab (b.map Pc.enc),.ab (l.map ax.enc)] (· = .ab ((aT (fw op a b l)).map Pc.enc)):=by
 refine aa M15_ok mixed Tryz.func102 rfl (Nat.le_of_ble_eq_true rfl) Ha ?_;unfold Tryz.f102;have hE:=edg4 op a b l;have wa:=fun x=>Su (op:=op) (l:=l) ha hb x;have s1:=UB ha.1;have s2:=UB hb.1;obtain⟨oa,la⟩:=Po ha.1;obtain⟨ob,lb⟩:=Po hb.1
 have ocut:dB (cv b++l):=fun r hr=>by
  rcases List.mem_append.1 hr with hr|hr
  · exact ob r hr
  · exact pO r hr
 have he:=GW (a:=cv a) (b:=cv b++l) ⟨by omega,by rw[List.length_append];omega⟩ oa ocut;have hel:=Rc (cv a) (cv b++l)
 rw[List.length_append]at hel;have hWh:=fun x (hx:x∈ja (cv a) (cv b++l))=>p_What (op:=op) (x:=x) ha hb (l:=l) (by omega) pO (by have:=hE.len x hx;omega)
 generalize ja (cv a) (cv b++l)=es at*;generalize fw op a b l=P at*;have st2:=stG (cv b)
 have st3:=stG l;have tl0:List.take (cv b).length ((cv b).map ax.enc)=(cv b).map ax.enc:=List.take_of_length_le (by simp)
 have tl1:List.take ((cv b).length+l.length) ((cv b).map ax.enc++l.map ax.enc)=(cv b).map ax.enc++l.map ax.enc:=List.take_of_length_le (by simp)
 rw[List.map_append]at he;simp-implicitDefEqProofs (disch:=(first|omega|decide)) only[go_sem,↓reduceIte,seval,s1,s2,st2,st3,tl0,tl1,he,List.length_map,List.contains_nil,List.contains_cons]
 refine⟨by omega,⟨Nat.le_refl _,by omega⟩,by simp, ?_⟩
 refine aW 11 4 rfl ?_;refine ar [0,1,2,3,10] (ι:={k:Nat//k<=es.length}) (fun p=>[(12,.int .i64 p.1),(11,.row 2 0 4 (lL P es p.1).length false)]) (fun p=>[(2,.row 4 (dz (lL P es p.1)))]) (fun p=>es.length-p.1) ⟨0,by omega⟩ (Nat.zero_le _) ?_ ?_
 · simp-implicitDefEqProofs (disch:=(first|omega|decide)) only[go_sem,↓reduceIte,seval]
   simp[lL,dz]
 · rintro⟨k,hk⟩
   simp only;have rX:=vI P es k;by_cases aw:k<es.length
   · have ae:(k:Int)<(es.length:Int):=by omega
     have e1:=wb aw;have Rl:es[k]! ∈es:=by rw[getElem!_pos es k aw];exact List.getElem_mem _
     have AN:=hWh _ Rl;have Dp:=(qQ hE k (by omega)).1;have we:=rm P es k;have Si:=wa (es[k]!)
     have I3:=hE.right (es[k]!)
     have next: ∀m',lL P es (k+1)=m'-> ∃i:{k:Nat//k<=es.length},(((k:Int)+1=(i.1:Int)/\m'.length=(lL P es i.1).length)/\dz m'=dz (lL P es i.1))/\es.length-i.1<es.length-k:=fun m' h=>⟨⟨k+1,aw⟩,⟨⟨by simp,by rw[h]⟩,by rw[h]⟩,by show es.length-(k+1)<es.length-k;omega⟩
     have b9:lL P es (k+1)=if P (es[k]!)=[]then lL P es k else cq (lL P es k) ⟨kI es k,P (es[k]!)⟩:=rfl
     generalize lL P es k=m at*;generalize hs:es[k]! =s at*;generalize hS:P s=S at*;by_cases hn:k+1<es.length
     · have ka:(k:Int)+1<(es.length:Int):=by omega
       have e2:=wb hn;have c9:((k:Int)+1).toNat=k+1:=by omega
       have c8:(0:Int)<=(k:Int)+1:=by omega
       have hr:kI es k=⟨s,es[k+1]!,false⟩:=by unfold kI;rw[if_pos hn,hs]
       rw[hr]at b9;cases o6:((S.length:Int)==0)with
       |true=>
        have hS00:(S.length:Int)=0:=by simpa using o6
        have Sj:S=[]:=List.length_eq_zero_iff.1 (by omega)
        rw[if_pos Sj]at b9;have fin:=next _ b9
        simp-implicitDefEqProofs (disch:=(first|omega|decide)) only[go_sem,↓reduceIte,seval,ae,e1,AN,ka,e2,c9,c8,o6,wrap_i64,List.length_map]
        exact fin
       |false=>
        have Sj:S≠ []:=fun e=>by rw[e]at o6;simp at o6
        rw[if_neg Sj]at b9;cases m with
        |nil=>
          have fin:=next _ b9
          simp only[cq,aZ,kJ,List.nil_append,List.length_cons,List.length_nil]at fin;rw[kJ]
          simp-implicitDefEqProofs (maxSteps:=600000) (disch:=(first|omega|decide)) only[go_sem,↓reduceIte,seval,ae,e1,AN,ka,e2,c9,c8,o6,wrap_i64,List.length_map,List.length_nil]
          exact fin
        |cons q qs=>
          have TZ:bc q.s=true:=by have:=Dp q (by simp);simp only[dS,Bool.and_eq_true]at this;exact this.2
          have WJ:aK q.s:=by obtain⟨e,he⟩:=we q (by simp);rw[he];exact wa e
          obtain⟨⟨iw,fB,mU⟩,s'⟩:=q;simp only at TZ WJ;have d_:=lN WJ Si;have hml':qs.length+1<=k:=rX;have b0:(0:Int)<((qs.length+1:Nat):Int):=by omega
          have b1:(((qs.length+1:Nat):Int)-1).toNat=qs.length:=by omega
          have b2:(0:Int)<=((qs.length+1:Nat):Int)-1:=by omega
          have b3:((qs.length+1:Nat):Int)-1<((qs.length+1:Nat):Int):=by omega
          have g1: ∀x:A,(dz qs++[x])[qs.length]? =some x:=fun x=>by
           have:=Go.bo.ij (x:=x) (l:=dz qs)
           rwa [dT]at this
          have g2: ∀x v:A,cC (dz qs++[x]) qs.length v=dz qs++[v]:=fun x v=>by
           have:=Go.bo.ik (x:=x) (v:=v) (l:=dz qs)
           rwa [dT]at this
          have gl: ∀x:A,(dz qs++[x]).length=qs.length+1:=fun x=>by rw[List.length_append,dT];rfl
          have gt: ∀x:A,(dz qs++[x]).take (qs.length+1)=dz qs++[x]:=fun x=>List.take_of_length_le (Nat.le_of_eq (gl x))
          rw[aZ]
          cases mU with
          |true=>
           have ew:cq (⟨⟨iw,fB,true⟩,s'⟩::qs) ⟨⟨s,es[k+1]!,false⟩,S⟩=⟨⟨s,es[k+1]!,false⟩,S⟩::⟨⟨iw,fB,true⟩,s'⟩::qs:=by simp[cq]
           have fin:=next _ b9
           rw[ew,aZ,aZ]at fin;simp-implicitDefEqProofs (maxSteps:=600000) (disch:=(first|omega|decide)) only[go_sem,↓reduceIte,seval,ae,e1,AN,ka,e2,c9,c8,o6,b0,b1,b2,b3,g1,g2,gl,gt,wrap_i64,List.length_map,List.length_cons,Bool.not_true,Bool.false_and]
           exact⟨⟨Nat.le_refl _,by omega⟩,fin⟩
          |false=>
           cases h1:fB==s with
           |false=>
            have ew:cq (⟨⟨iw,fB,false⟩,s'⟩::qs) ⟨⟨s,es[k+1]!,false⟩,S⟩=⟨⟨s,es[k+1]!,false⟩,S⟩::⟨⟨iw,fB,false⟩,s'⟩::qs:=by simp only[cq];rw[if_neg (by rw[h1];simp)]
            have fin:=next _ b9
            rw[ew,aZ,aZ]at fin;simp-implicitDefEqProofs (maxSteps:=600000) (disch:=(first|omega|decide)) only[go_sem,↓reduceIte,seval,ae,e1,AN,ka,e2,c9,c8,o6,b0,b1,b2,b3,g1,g2,gl,gt,h1,wrap_i64,List.length_map,List.length_cons,Bool.not_false,Bool.true_and]
            exact⟨⟨Nat.le_refl _,by omega⟩,fin⟩
           |true=>
            cases h2:bZ s' S with
            |false=>
             have nI:s'≠S:=by simpa[bZ]using h2
             rw[h2]at d_;have ew:cq (⟨⟨iw,fB,false⟩,s'⟩::qs) ⟨⟨s,es[k+1]!,false⟩,S⟩=⟨⟨s,es[k+1]!,false⟩,S⟩::⟨⟨iw,fB,false⟩,s'⟩::qs:=by simp only[cq];rw[if_neg (by simp[nI])]
             have fin:=next _ b9
             rw[ew,aZ,aZ]at fin;simp-implicitDefEqProofs (maxSteps:=600000) (disch:=(first|omega|decide)) only[go_sem,↓reduceIte,seval,ae,e1,AN,ka,e2,c9,c8,o6,b0,b1,b2,b3,g1,g2,gl,gt,h1,d_,wrap_i64,List.length_map,List.length_cons,Bool.not_false,Bool.true_and]
             exact⟨⟨Nat.le_refl _,by omega⟩,fin⟩
            |true=>
             have nI:s'=S:=by simpa[bZ]using h2
             rw[h2]at d_;have ew:cq (⟨⟨iw,fB,false⟩,s'⟩::qs) ⟨⟨s,es[k+1]!,false⟩,S⟩=⟨⟨iw,es[k+1]!,false⟩,s'⟩::qs:=by simp only[cq];rw[if_pos (by simp[h1,nI])]
             have fin:=next _ b9
             rw[ew,aZ]at fin;simp-implicitDefEqProofs (maxSteps:=600000) (disch:=(first|omega|decide)) only[go_sem,↓reduceIte,seval,ae,e1,AN,ka,e2,c9,c8,o6,b0,b1,b2,b3,g1,g2,gl,gt,h1,d_,wrap_i64,List.length_map,List.length_cons,Bool.not_false,Bool.true_and]
             exact fin
     · have ka: ¬(k:Int)+1<(es.length:Int):=by omega
       have hr:kI es k=⟨s,[],true⟩:=by unfold kI;rw[if_neg hn,hs]
       rw[hr]at b9;cases o6:((S.length:Int)==0)with
       |true=>
        have hS00:(S.length:Int)=0:=by simpa using o6
        have Sj:S=[]:=List.length_eq_zero_iff.1 (by omega)
        rw[if_pos Sj]at b9;have fin:=next _ b9
        simp-implicitDefEqProofs (disch:=(first|omega|decide)) only[go_sem,↓reduceIte,seval,ae,e1,AN,ka,o6,wrap_i64,List.length_map]
        exact fin
       |false=>
        have Sj:S≠ []:=fun e=>by rw[e]at o6;simp at o6
        rw[if_neg Sj]at b9;cases m with
        |nil=>
          have fin:=next _ b9
          simp only[cq,aZ,kJ,List.nil_append,List.length_cons,List.length_nil]at fin;rw[kJ]
          simp-implicitDefEqProofs (maxSteps:=600000) (disch:=(first|omega|decide)) only[go_sem,↓reduceIte,seval,ae,e1,AN,ka,o6,wrap_i64,List.length_map,List.length_nil]
          exact fin
        |cons q qs=>
          have TZ:bc q.s=true:=by have:=Dp q (by simp);simp only[dS,Bool.and_eq_true]at this;exact this.2
          have WJ:aK q.s:=by obtain⟨e,he⟩:=we q (by simp);rw[he];exact wa e
          obtain⟨⟨iw,fB,mU⟩,s'⟩:=q;simp only at TZ WJ;have d_:=lN WJ Si;have hml':qs.length+1<=k:=rX;have b0:(0:Int)<((qs.length+1:Nat):Int):=by omega
          have b1:(((qs.length+1:Nat):Int)-1).toNat=qs.length:=by omega
          have b2:(0:Int)<=((qs.length+1:Nat):Int)-1:=by omega
          have b3:((qs.length+1:Nat):Int)-1<((qs.length+1:Nat):Int):=by omega
          have g1: ∀x:A,(dz qs++[x])[qs.length]? =some x:=fun x=>by
           have:=Go.bo.ij (x:=x) (l:=dz qs)
           rwa [dT]at this
          have g2: ∀x v:A,cC (dz qs++[x]) qs.length v=dz qs++[v]:=fun x v=>by
           have:=Go.bo.ik (x:=x) (v:=v) (l:=dz qs)
           rwa [dT]at this
          have gl: ∀x:A,(dz qs++[x]).length=qs.length+1:=fun x=>by rw[List.length_append,dT];rfl
          have gt: ∀x:A,(dz qs++[x]).take (qs.length+1)=dz qs++[x]:=fun x=>List.take_of_length_le (Nat.le_of_eq (gl x))
          rw[aZ]
          cases mU with
          |true=>
           have ew:cq (⟨⟨iw,fB,true⟩,s'⟩::qs) ⟨⟨s,[],true⟩,S⟩=⟨⟨s,[],true⟩,S⟩::⟨⟨iw,fB,true⟩,s'⟩::qs:=by simp[cq]
           have fin:=next _ b9
           rw[ew,aZ,aZ]at fin;simp-implicitDefEqProofs (maxSteps:=600000) (disch:=(first|omega|decide)) only[go_sem,↓reduceIte,seval,ae,e1,AN,ka,o6,b0,b1,b2,b3,g1,g2,gl,gt,wrap_i64,List.length_map,List.length_cons,Bool.not_true,Bool.false_and]
           exact⟨⟨Nat.le_refl _,by omega⟩,fin⟩
          |false=>
           cases h1:fB==s with
           |false=>
            have ew:cq (⟨⟨iw,fB,false⟩,s'⟩::qs) ⟨⟨s,[],true⟩,S⟩=⟨⟨s,[],true⟩,S⟩::⟨⟨iw,fB,false⟩,s'⟩::qs:=by simp only[cq];rw[if_neg (by rw[h1];simp)]
            have fin:=next _ b9
            rw[ew,aZ,aZ]at fin;simp-implicitDefEqProofs (maxSteps:=600000) (disch:=(first|omega|decide)) only[go_sem,↓reduceIte,seval,ae,e1,AN,ka,o6,b0,b1,b2,b3,g1,g2,gl,gt,h1,wrap_i64,List.length_map,List.length_cons,Bool.not_false,Bool.true_and]
            exact⟨⟨Nat.le_refl _,by omega⟩,fin⟩
           |true=>
            cases h2:bZ s' S with
            |false=>
             have nI:s'≠S:=by simpa[bZ]using h2
             rw[h2]at d_;have ew:cq (⟨⟨iw,fB,false⟩,s'⟩::qs) ⟨⟨s,[],true⟩,S⟩=⟨⟨s,[],true⟩,S⟩::⟨⟨iw,fB,false⟩,s'⟩::qs:=by simp only[cq];rw[if_neg (by simp[nI])]
             have fin:=next _ b9
             rw[ew,aZ,aZ]at fin;simp-implicitDefEqProofs (maxSteps:=600000) (disch:=(first|omega|decide)) only[go_sem,↓reduceIte,seval,ae,e1,AN,ka,o6,b0,b1,b2,b3,g1,g2,gl,gt,h1,d_,wrap_i64,List.length_map,List.length_cons,Bool.not_false,Bool.true_and]
             exact⟨⟨Nat.le_refl _,by omega⟩,fin⟩
            |true=>
             have nI:s'=S:=by simpa[bZ]using h2
             rw[h2]at d_;have ew:cq (⟨⟨iw,fB,false⟩,s'⟩::qs) ⟨⟨s,[],true⟩,S⟩=⟨⟨iw,[],true⟩,s'⟩::qs:=by simp only[cq];rw[if_pos (by simp[h1,nI])]
             have fin:=next _ b9
             rw[ew,aZ]at fin;simp-implicitDefEqProofs (maxSteps:=600000) (disch:=(first|omega|decide)) only[go_sem,↓reduceIte,seval,ae,e1,AN,ka,o6,b0,b1,b2,b3,g1,g2,gl,gt,h1,d_,wrap_i64,List.length_map,List.length_cons,Bool.not_false,Bool.true_and]
             exact fin
   · have ae: ¬(k:Int)<(es.length:Int):=by omega
     obtain rfl:k=es.length:=by omega
     have iO:=(mW hE).1;have iB:dz (lL P es es.length)=(aT P).map Pc.enc:=by unfold dz;rw[iO]
     have tk:List.take (lL P es es.length).length (dz (lL P es es.length))=dz (lL P es es.length):=List.take_of_length_le (by rw[dT];exact Nat.le_refl _)
     have Rn:=dT (lL P es es.length)
     simp-implicitDefEqProofs (disch:=(first|omega|decide)) only[go_sem,↓reduceIte,seval,ae,tk,Rn,wrap_i64,List.length_map]
     rw[<-iB]
     exact⟨Nat.le_refl _,rfl⟩
def ym:an:=G'.add 102 (entry (fun(v:(Int×List Pc×List Pc)×List ax)=>[.int .i64 v.1.1,.ab (v.1.2.1.map Pc.enc),.ab (v.1.2.2.map Pc.enc),.ab (v.2.map ax.enc)]) (fun v=>(iI v.1.2.1/\iI v.1.2.2)/\(v.1.2.1.length<=500/\v.1.2.2.length<=500/\v.2.length<=500)/\dB v.2) (fun v=> .ab ((aT (fw v.1.1 v.1.2.1 v.1.2.2 v.2)).map Pc.enc)))
theorem o9:ag Tryz.prog ym:=Lr.bN Tryz.func102 (by kernel_rfl) (by kernel_rfl) fun v h=>Lt v.1.1 v.1.2.1 v.1.2.2 v.2 h.1.1 h.1.2 h.2.1.1 h.2.1.2.1 h.2.1.2.2 h.2.2
@[go_sem] theorem P17i_old{g:FuncId}{xs:List A}(h:g≠102):ym.f g xs=G'.f g xs:=an.ak h
@[go_sem] theorem P17i_s:ym.pl G':=⟨fun _=>rfl,fun _=>rfl,rfl,fun _=>rfl,rfl,fun _=>rfl,rfl⟩
theorem AX(v:(Int×List Pc×List Pc)×List ax)(h:(iI v.1.2.1/\iI v.1.2.2)/\(v.1.2.1.length<=500/\v.1.2.2.length<=500/\v.2.length<=500)/\dB v.2):ym.f 102 [.int .i64 v.1.1,.ab (v.1.2.1.map Pc.enc),.ab (v.1.2.2.map Pc.enc),.ab (v.2.map ax.enc)]=some (.ab ((aT (fw v.1.1 v.1.2.1 v.1.2.2 v.2)).map Pc.enc)):=an.ao (Γ:=G') (fun i j h=>by simpa[Prod.ext_iff,and_assoc]using h) v h
theorem Sv{op:Int}{a b:List Pc}{l:List ax}(ha:iI a)(hb:iI b)(hl:a.length<=500/\b.length<=500/\l.length<=500)(pO:dB l):ym.f 102 [.int .i64 op,.ab (a.map Pc.enc),.ab (b.map Pc.enc),.ab (l.map ax.enc)]=some (.ab ((aT (fw op a b l)).map Pc.enc)):=AX ((op,a,b),l) ⟨⟨ha,hb⟩,hl,pO⟩
theorem okR_nil:iI []:=okR_w ⟨⟨by simp,by simp[wP]⟩,fun p hp=>by cases hp⟩ (by simp[wP])
theorem Hb:ah Tryz.prog ym Tryz.f49.ntmps (Tryz.f49.body.getD .skip)=true:=by kernel_rfl
theorem Lu(a b:List Pc)(ha:iI a)(hb:iI b)(Yw:a.length<=500)(hbl:b.length<=500):ay Tryz.prog 49 [.ab (a.map Pc.enc),.ab (b.map Pc.enc)] (· = .ab ((aT (fw 1 a b [])).map Pc.enc)):=by refine aa o9 mixed Tryz.func49 rfl (Nat.le_of_ble_eq_true rfl) Hb ?_;unfold Tryz.f49;have h:=Sv (op:=1) ha hb ⟨Yw,hbl,by simp⟩ KU;simp only[List.map_nil]at h;simp-implicitDefEqProofs (disch:=(first|omega|decide)) only[go_sem,↓reduceIte,seval,h]
theorem Hc:ah Tryz.prog ym Tryz.f65.ntmps (Tryz.f65.body.getD .skip)=true:=by kernel_rfl
theorem Lv(a b:List Pc)(ha:iI a)(hb:iI b)(Yw:a.length<=500)(hbl:b.length<=500):ay Tryz.prog 65 [.ab (a.map Pc.enc),.ab (b.map Pc.enc)] (· = .ab ((aT (fw 2 a b [])).map Pc.enc)):=by refine aa o9 mixed Tryz.func65 rfl (Nat.le_of_ble_eq_true rfl) Hc ?_;unfold Tryz.f65;have h:=Sv (op:=2) ha hb ⟨Yw,hbl,by simp⟩ KU;simp only[List.map_nil]at h;simp-implicitDefEqProofs (disch:=(first|omega|decide)) only[go_sem,↓reduceIte,seval,h]
theorem wh:ah Tryz.prog ym Tryz.f79.ntmps (Tryz.f79.body.getD .skip)=true:=by kernel_rfl
theorem yn(a:List Pc)(l:List ax)(ha:iI a)(Yw:a.length<=500)(hl:l.length<=500)(pO:dB l):ay Tryz.prog 79 [.ab (a.map Pc.enc),.ab (l.map ax.enc)] (· = .ab ((aT (fw 3 a [] l)).map Pc.enc)):=by refine aa o9 mixed Tryz.func79 rfl (Nat.le_of_ble_eq_true rfl) wh ?_;unfold Tryz.f79;have h:=Sv (op:=3) ha okR_nil ⟨Yw,by simp,hl⟩ pO;simp only[List.map_nil]at h;simp-implicitDefEqProofs (disch:=(first|omega|decide)) only[go_sem,↓reduceIte,seval,h]
def cB(x:List UInt8)(l:List ca):List Pc:=if decide (1<=x.length/\x.length<=16)=true/\dG (cT l)≠ []then [⟨nq x,dG (cT l)⟩]else []
theorem Lw:ah Tryz.prog ym Tryz.f95.ntmps (Tryz.f95.body.getD .skip)=true:=by kernel_rfl
theorem Pp(x:List UInt8)(l:List ca)(hx:x.length<=9223372036854775807)(hl:l.length<=50000):ay Tryz.prog 95 [.str x,.ab (l.map ca.enc)] (· = .ab ((cB x l).map Pc.enc)):=by
 refine aa o9 mixed Tryz.func95 rfl (Nat.le_of_ble_eq_true rfl) Lw ?_;unfold Tryz.f95;have h:=l_rAdd (s:=[]) (l:=l) KF (by have:bA []=0:=rfl;omega)
 simp only[List.nil_append,List.map_nil]at h;unfold cB;cases h1:decide (1<=x.length/\x.length<=16)with
 |false=>simp-implicitDefEqProofs (disch:=(first|omega|decide)) only[go_sem,↓reduceIte,seval,h,h1,Bool.false_eq_true,false_and,List.map_nil]
 |true=>
  cases h2:(((dG (cT l)).length:Int)==0)with
  |true=>
   have h20:((dG (cT l)).length:Int)=0:=by simpa using h2
   have nI:dG (cT l)=[]:=List.length_eq_zero_iff.1 (by omega)
   simp-implicitDefEqProofs (disch:=(first|omega|decide)) only[go_sem,↓reduceIte,seval,h,h1,h2,nI,List.length_map,ne_eq,not_true_eq_false,and_false,List.map_nil]
  |false=>
   have nI:dG (cT l)≠ []:=fun e=>by rw[e]at h2;simp at h2
   have hre:(nq x).enc= .agg [.str (nq x).lo,.str (nq x).hi,.bool (nq x).op]:=rfl;have Qc:([⟨nq x,dG (cT l)⟩]:List Pc).map Pc.enc=[.agg [.str (nq x).lo,.str (nq x).hi,.bool (nq x).op,.ab ((dG (cT l)).map ad.enc)]]:=rfl;rw[if_pos ⟨rfl,nI⟩,Qc]
   simp-implicitDefEqProofs (disch:=(first|omega|decide)) only[go_sem,↓reduceIte,seval,h,h1,h2,hre,List.length_map]
theorem Lx{l:List ca}{n c:Int}:ai (aD (cT l) n) c=true ↔ ⟨n,c⟩∈l/\aN ⟨n,c⟩=true:=by
 induction l with
 |nil=>simp[cT,aD,ai]
 |cons v l ih=>
  have e:cT (v::l)=cT [v]++cT l:=by rw[<-qU];rfl
  rw[e,dw,fL,Bool.or_eq_true,ih]
  obtain⟨r,d⟩:=v
  have h1:ai (aD (cT [⟨r,d⟩]) n) c=true ↔ (⟨n,c⟩:ca)=⟨r,d⟩/\aN ⟨n,c⟩=true:=by
   cases hv:aN ⟨r,d⟩with
   |false=>
    have:cT [⟨r,d⟩]=[]:=by unfold cT;simp[hv]
    rw[this]
    simp only[aD,sm,Bool.false_eq_true,false_iff,not_and]
    intro e;rw[e,hv];simp
   |true=>
    have:cT [⟨r,d⟩]=[⟨r,[⟨d,d⟩]⟩]:=by unfold cT;simp[hv]
    rw[this]
    simp only[aD,List.append_nil]
    have hd:1<=d/\d<=1099511627776:=by simp only[aN,Bool.and_eq_true,decide_eq_true_iff]at hv;omega
    by_cases hr:r=n
    · subst hr
      rw[if_pos rfl,dV]
      constructor
      · rintro⟨q,hq,_,h2,h3⟩
        simp only[List.mem_singleton]at hq;subst hq;simp only at h2 h3;obtain rfl:c=d:=by omega
        exact⟨rfl,hv⟩
      · rintro⟨e,_⟩
        injection e with _ e
        subst e;exact⟨⟨c,c⟩,by simp,cG.2 ⟨hd.1,Int.le_refl _,hd.2⟩,Int.le_refl _,Int.le_refl _⟩
    · rw[if_neg hr,sm]
      simp only[Bool.false_eq_true,ca.mk.injEq,false_iff,not_and]
      intro⟨e,_⟩;exact absurd e.symm hr
  rw[h1,List.mem_cons]
  constructor
  · rintro(⟨a,b⟩|⟨a,b⟩)
    · exact⟨.inl a,b⟩
    · exact⟨.inr a,b⟩
  · rintro⟨a|a,b⟩
    · exact .inl ⟨a,b⟩
    · exact .inr ⟨a,b⟩
theorem Sw{l:List ca}{v:ca}:v∈eE l ↔ v∈l/\aN v=true:=by
 unfold eE;rw[l0]
 rw[(dO Wz (l.filter aN)).1.mem_iff,List.mem_filter]
theorem Sx(l:List ca):dG (cT (eE l))=dG (cT l):=uh.2 fun n hn c=>by
 unfold hk;rw[Bool.eq_iff_iff,Lx,Lx,Sw]
 exact⟨fun⟨⟨a,b⟩,_⟩=>⟨a,b⟩,fun⟨a,b⟩=>⟨⟨a,b⟩,b⟩⟩
theorem Sy(l:List ca):(eE l).length<=l.length:=by
 unfold eE;have h1:=sy (df fX (l.filter aN))
 have h2:=(dO Wz (l.filter aN)).1.length_eq;have h3:=List.length_filter_le aN l;omega
def D15:an:={ym with c6:=fun n=>if n=5 then [[999999,0]]else []}
theorem D15_ok:ag Tryz.prog D15:=⟨o9.f,o9.hp⟩
@[go_sem] theorem D15_f:D15.f=ym.f:=rfl
@[go_sem] theorem D15_eff{g:FuncId}:D15.mH g=false:=rfl
@[go_sem] theorem D15_ords5:D15.c6 5=[[999999,0]]:=rfl
@[go_sem] theorem D15_ords{n:Nat}(h:n≠5):D15.c6 n=[]:=if_neg h
theorem Pq:ah Tryz.prog D15 Tryz.f98.ntmps (Tryz.f98.body.getD .skip)=true:=by kernel_rfl
theorem Sz(k:List Pc)(x:List UInt8)(l:List ca)(hk:cV k)(hx:x.length<=9223372036854775807)(hl:l.length<=50000)(FY:cV (k++cB x l)):ay Tryz.prog 98 [.ab (k.map Pc.enc),.str x,.ab (l.map ca.enc)] (· = .ab ((aT (cL (k++cB x l))).map Pc.enc)):=by
 refine aa D15_ok mixed Tryz.func98 rfl (Nat.le_of_ble_eq_true rfl) Pq ?_;unfold Tryz.f98;have pW:=Sy l;have h0:=O7 (l:=l) (by omega)
 have h:=l_Add (s:=[]) (l:=eE l) KF.1 (by have:bA []=0:=rfl;omega)
 rw[List.nil_append,Sx]at h;simp only[List.map_nil]at h;have hJ:=Uy FY;unfold cB at hJ⊢;cases h1:decide (1<=x.length/\x.length<=16)with
 |false=>
  rw[h1]at hJ;simp only[Bool.false_eq_true,false_and,if_false,List.map_nil]at hJ;simp-implicitDefEqProofs (disch:=(first|omega|decide)) only[go_sem,↓reduceIte,seval,h0,h,h1,hJ,Bool.false_eq_true,false_and,List.length_map]
 |true=>
  rw[h1]at hJ;by_cases h2:(0:Int)<((dG (cT l)).length:Int)
  · have nI:dG (cT l)≠ []:=fun e=>by rw[e]at h2;simp at h2
    rw[if_pos ⟨rfl,nI⟩]at hJ⊢;have hre:(nq x).enc= .agg [.str (nq x).lo,.str (nq x).hi,.bool (nq x).op]:=rfl;have Qc:([⟨nq x,dG (cT l)⟩]:List Pc).map Pc.enc=[.agg [.str (nq x).lo,.str (nq x).hi,.bool (nq x).op,.ab ((dG (cT l)).map ad.enc)]]:=rfl;rw[Qc]at hJ;simp-implicitDefEqProofs (disch:=(first|omega|decide)) only[go_sem,↓reduceIte,seval,h0,h,h1,h2,hre,hJ,List.length_map]
  · have nI:dG (cT l)=[]:=List.length_eq_zero_iff.1 (by omega)
    rw[if_neg (fun e=>e.2 nI)]at hJ⊢;simp only[List.map_nil]at hJ;simp-implicitDefEqProofs (disch:=(first|omega|decide)) only[go_sem,↓reduceIte,seval,h0,h,h1,h2,hJ,List.length_map]
theorem sB{s t:List ad}(h:bc s=true)(h':bc t=true)(e: ∀n,bE n=true-> ∀c,hk s n c=hk t n c):s=t:=by rw[<-cM h,<-cM h'];exact uh.2 e
theorem kq(s t:List ad)(n c:Int):hk (s++t) n c=(hk s n c||hk t n c):=by unfold hk;rw[dw,fL]
theorem mz{k:List Pc}{x:List UInt8}{n:Int}(h:bE n=true)(c:Int):hk (cL k x) n c=hk (setAt k x) n c:=DW h c
theorem wi{k:List Pc}{l:List ax}{x:List UInt8}{n:Int}(h:bE n=true)(c:Int):hk (bj k l x) n c=(aj l x&&hk (setAt k x) n c):=by
 unfold bj;cases aj l x with
 |true=>rw[if_pos rfl,mz h];rfl
 |false=>rw[if_neg (by simp)];rfl
theorem ez{P:List UInt8->List ad}(h:IsP P)(x:List UInt8):setAt (aT P) x=P x:=by
 have hr:=fe P;have da:=(dN.1 hr).1;have hs:=II h x;by_cases hP:P x=[]
 · rw[hP]
   unfold setAt
   rw[List.filter_eq_nil_iff.2 (fun p hp hx=>by
    have:=(hs p.s).1 ((vH da).2 ⟨p,hp,hx,rfl⟩)
    exact this.2 (by rw[<-this.1];exact hP))];rfl
 · obtain⟨p,hp,hx,VG⟩:=(vH da).1 ((hs (P x)).2 ⟨rfl,hP⟩)
   rw[qP hr hp hx];exact VG
theorem ED{P:List UInt8->List ad}(h:IsP P)(hr: ∀x,bc (P x)=true):cL (aT P)=P:=by
 funext x
 unfold cL;rw[ez h];exact cM (hr x)
theorem Pr{P Q:List UInt8->List ad}(h:IsP P)(h':IsP Q):aT P=aT Q ↔ P=Q:=by
 constructor
 · intro e
   funext x
   rw[<-ez h,<-ez h',e]
 · intro e;rw[e]
theorem yo(k:List Pc):IsP (cL k):=(mW (edg1 k)).2
theorem kK(k:List Pc)(l:List ax):IsP (bj k l):=(mW (edg3 k l)).2
theorem uy(k:List Pc)(l:List ax)(x:List UInt8):bc (bj k l x)=true:=by
 unfold bj;split
 · exact eQ _ _
 · rfl
theorem at_ext{a b:List Pc}(h: ∀x n,bE n=true-> ∀c,hk (setAt a x) n c=hk (setAt b x) n c):cL a=cL b:=by
 funext x
 exact uh.2 (h x)
theorem WT(a b:List Pc):fw 1 a b []=cL (a++b):=by
 funext x
 unfold fw;rw[if_pos rfl]
 refine sB (yh _ _ _) (eQ _ _) fun n hn c=> ?_;rw[hk_op hn,mz hn,mz hn,mz hn,iA,kq];rfl
theorem WU(a:List Pc)(l:List ax):fw 3 a [] l=bj a l:=by
 funext x;unfold fw;rw[if_neg (by decide),if_neg (by decide)]
theorem EE(a:List Pc)(l:List ax):bj a (dv (aj l))=bj a l:=by
 funext x;unfold bj;rw[vC]
theorem EF{P:List UInt8->List ad}{es:List (List UInt8)}(hE:Kc P es){B:Nat}(hB: ∀x,(P x).length+bA (P x)<=B){N:Nat}(hN:es.length<=N)(hm:N*B<=900000)(Ro:N<=10000):
 cV (aT P)/\(aT P).length<=N/\wP (aT P)<=N*B:=by
 have iO:=(mW hE).1;have hlen:=vI P es es.length;have da:=(qQ hE es.length (Nat.le_refl _)).1;have we:=rm P es es.length;rw[<-iO]
 generalize lL P es es.length=m at*
 have hw: ∀m:List Pc,(∀p∈m,∃e,p.s=P e)->wP m<=m.length*B:=fun m=>by
  induction m with
  |nil=>intro _;simp[wP]
  |cons p m ih=>
   intro h;have h1:=ih fun q hq=>h q (by simp[hq])
   obtain⟨e,he⟩:=h p (by simp)
   have h2:=hB e;rw[<-he]at h2;rw[o5,List.length_cons,Nat.succ_mul];omega
 have h1:=hw m.reverse fun p hp=>we p (List.mem_reverse.1 hp)
 rw[List.length_reverse]at h1;have h2:m.length*B<=N*B:=Nat.mul_le_mul_right B (by omega)
 refine⟨⟨⟨by rw[List.length_reverse];omega,by omega⟩,fun p hp=> ?_⟩,by rw[List.length_reverse];omega,by omega⟩
 have:=da p (List.mem_reverse.1 hp)
 simp only[dS,Bool.and_eq_true]at this;obtain⟨k1,k2,_,_⟩:=cw this.1.1;omega
theorem at_w{k:List Pc}(x:List UInt8):(cL k x).length+bA (cL k x)<=16+wP k:=by
 have h1:=En (setAt k x)
 have h2:=na k x;unfold cL;omega
theorem rest_w{k:List Pc}{l:List ax}(x:List UInt8):(bj k l x).length+bA (bj k l x)<=16+wP k:=by
 unfold bj;split
 · exact at_w x
 · simp[bA]
theorem okP_rest{a:List Pc}{l:List ax}{N M W:Nat}(h1:a.length<=N)(h2:l.length<=M)(h3:wP a<=W)(hm:(1+2*(N+M))*(16+W)<=900000)(hN:N+M<=1000):
 cV (aT (bj a l))/\(aT (bj a l)).length<=1+2*(N+M)/\wP (aT (bj a l))<=(1+2*(N+M))*(16+W):=by
 have hl:=je (LL:=[a,jg l []])
 simp only[mL,List.map_cons,List.map_nil,List.sum_cons,List.sum_nil]at hl;have e:(jg l []).length=l.length:=by simp[jg]
 exact EF (edg3 a l) (B:=16+W) (fun x=>by have:=rest_w (k:=a) (l:=l) x;omega) (N:=1+2*(N+M)) (by omega) hm (by omega)
theorem o_{a b:List Pc}(ha:cV a)(hb:cV b)(h1:a.length+b.length<=10000)(h2:wP a+wP b<=900000):cV (a++b):=⟨⟨by rw[List.length_append];exact h1,by rw[I2];exact h2⟩,fun p hp=>by
 rcases List.mem_append.1 hp with h|h
 · exact ha.2 p h
 · exact hb.2 p h⟩
theorem Ps{k:List Pc}{m:Nat}(h:lx k m=false):k.length<=m/\wP k<=m*272/\ ∀p∈k,p.r.lo.length<=40/\p.r.hi.length<=40:=by
 unfold lx at h;rw[Bool.or_eq_false_iff,List.any_eq_false]at h;obtain⟨h1,h2⟩:=h;have nj:k.length<=m:=by have:=of_decide_eq_false h1;omega
 have h3: ∀p∈k,(p.r.lo.length<=40/\p.r.hi.length<=40)/\p.s.length+bA p.s<=272:=fun p hp=>by have:=h2 p hp;simp only[Ez,Bool.not_eq_true,Bool.or_eq_false_iff,decide_eq_false_iff_not]at this;obtain⟨a,b,c⟩:=this;have:=DV (m:=16) c;omega
 have hw: ∀k:List Pc,(∀p∈k,p.s.length+bA p.s<=272)->wP k<=k.length*272:=fun k=>by
  induction k with
  |nil=>intro _;simp[wP]
  |cons p k ih=>
   intro h;have a:=ih fun q hq=>h q (by simp[hq])
   have b:=h p (by simp)
   rw[o5,List.length_cons,Nat.succ_mul];omega
 have:=hw k fun p hp=>(h3 p hp).2;have h4:k.length*272<=m*272:=Nat.mul_le_mul_right _ nj;exact⟨nj,by omega,fun p hp=>(h3 p hp).1⟩
theorem okR_of{k:List Pc}{m:Nat}(h:k.length<=m/\wP k<=m*272/\ ∀p∈k,p.r.lo.length<=40/\p.r.hi.length<=40)(hm:m<=100):iI k:=by obtain⟨h1,h2,h3⟩:=h;exact okR_w ⟨⟨by omega,by omega⟩,fun p hp=>by have:=h3 p hp;omega⟩ (by omega)
def L15a:an:=ym
theorem L15a_ok:ag Tryz.prog L15a:=o9
@[go_sem] theorem L15a_old{g:FuncId}{xs:List A}:L15a.f g xs=ym.f g xs:=rfl
def WV:an:=L15a.add 49 (entry (fun(v:List Pc×List Pc)=>[.ab (v.1.map Pc.enc),.ab (v.2.map Pc.enc)]) (fun v=>(iI v.1/\iI v.2)/\v.1.length<=500/\v.2.length<=500) (fun v=> .ab ((aT (fw 1 v.1 v.2 [])).map Pc.enc)))
theorem L15b_ok:ag Tryz.prog WV:=L15a_ok.bN Tryz.func49 (by kernel_rfl) (by kernel_rfl) fun v h=>Lu v.1 v.2 h.1.1 h.1.2 h.2.1 h.2.2
@[go_sem] theorem L15b_old{g:FuncId}{xs:List A}(h:g≠49):WV.f g xs=L15a.f g xs:=an.ak h
theorem AY(v:List Pc×List Pc)(h:(iI v.1/\iI v.2)/\v.1.length<=500/\v.2.length<=500):WV.f 49 [.ab (v.1.map Pc.enc),.ab (v.2.map Pc.enc)]=some (.ab ((aT (fw 1 v.1 v.2 [])).map Pc.enc)):=an.ao (Γ:=L15a) (fun i j h=>by simpa[Prod.ext_iff,and_assoc]using h) v h
def L15c:an:=WV.add 65 (entry (fun(v:List Pc×List Pc)=>[.ab (v.1.map Pc.enc),.ab (v.2.map Pc.enc)]) (fun v=>(iI v.1/\iI v.2)/\v.1.length<=500/\v.2.length<=500) (fun v=> .ab ((aT (fw 2 v.1 v.2 [])).map Pc.enc)))
theorem L15c_ok:ag Tryz.prog L15c:=L15b_ok.bN Tryz.func65 (by kernel_rfl) (by kernel_rfl) fun v h=>Lv v.1 v.2 h.1.1 h.1.2 h.2.1 h.2.2
@[go_sem] theorem L15c_old{g:FuncId}{xs:List A}(h:g≠65):L15c.f g xs=WV.f g xs:=an.ak h
def SA:an:=L15c.add 79 (entry (fun(v:List Pc×List ax)=>[.ab (v.1.map Pc.enc),.ab (v.2.map ax.enc)]) (fun v=>(iI v.1/\dB v.2)/\v.1.length<=500/\v.2.length<=500) (fun v=> .ab ((aT (fw 3 v.1 [] v.2)).map Pc.enc)))
theorem L15d_ok:ag Tryz.prog SA:=L15c_ok.bN Tryz.func79 (by kernel_rfl) (by kernel_rfl) fun v h=>yn v.1 v.2 h.1.1 h.2.1 h.2.2 h.1.2
@[go_sem] theorem L15d_old{g:FuncId}{xs:List A}(h:g≠79):SA.f g xs=L15c.f g xs:=an.ak h
theorem sQ(v:List Pc×List ax)(h:(iI v.1/\dB v.2)/\v.1.length<=500/\v.2.length<=500):SA.f 79 [.ab (v.1.map Pc.enc),.ab (v.2.map ax.enc)]=some (.ab ((aT (fw 3 v.1 [] v.2)).map Pc.enc)):=an.ao (Γ:=L15c) (fun i j h=>by simpa[Prod.ext_iff,and_assoc]using h) v h
def SB:an:=SA.add 95 (entry (fun(v:List UInt8×List ca)=>[.str v.1,.ab (v.2.map ca.enc)]) (fun v=>v.1.length<=9223372036854775807/\v.2.length<=50000) (fun v=> .ab ((cB v.1 v.2).map Pc.enc)))
theorem L15e_ok:ag Tryz.prog SB:=L15d_ok.bN Tryz.func95 (by kernel_rfl) (by kernel_rfl) fun v h=>Pp v.1 v.2 h.1 h.2
@[go_sem] theorem L15e_old{g:FuncId}{xs:List A}(h:g≠95):SB.f g xs=SA.f g xs:=an.ak h
theorem EG(v:List UInt8×List ca)(h:v.1.length<=9223372036854775807/\v.2.length<=50000):SB.f 95 [.str v.1,.ab (v.2.map ca.enc)]=some (.ab ((cB v.1 v.2).map Pc.enc)):=an.ao (Γ:=SA) (fun i j h=>by simpa[Prod.ext_iff,and_assoc]using h) v h
def WW:an:=SB.add 98 (entry (fun(v:List Pc×List UInt8×List ca)=>[.ab (v.1.map Pc.enc),.str v.2.1,.ab (v.2.2.map ca.enc)]) (fun v=>(cV v.1/\cV (v.1++cB v.2.1 v.2.2))/\v.2.1.length<=9223372036854775807/\v.2.2.length<=50000) (fun v=> .ab ((aT (cL (v.1++cB v.2.1 v.2.2))).map Pc.enc)))
theorem L15f_ok:ag Tryz.prog WW:=L15e_ok.bN Tryz.func98 (by kernel_rfl) (by kernel_rfl) fun v h=>Sz v.1 v.2.1 v.2.2 h.1.1 h.2.1 h.2.2 h.1.2
@[go_sem] theorem L15f_old{g:FuncId}{xs:List A}(h:g≠98):WW.f g xs=SB.f g xs:=an.ak h
theorem Hd(v:List Pc×List UInt8×List ca)(h:(cV v.1/\cV (v.1++cB v.2.1 v.2.2))/\v.2.1.length<=9223372036854775807/\v.2.2.length<=50000):WW.f 98 [.ab (v.1.map Pc.enc),.str v.2.1,.ab (v.2.2.map ca.enc)]=some (.ab ((aT (cL (v.1++cB v.2.1 v.2.2))).map Pc.enc)):=an.ao (Γ:=SB) (fun i j h=>by simpa[Prod.ext_iff,and_assoc]using h) v h
theorem q_Join{a b:List Pc}(ha:iI a)(hb:iI b)(hl:a.length<=500/\b.length<=500):WV.f 49 [.ab (a.map Pc.enc),.ab (b.map Pc.enc)]=some (.ab ((aT (cL (a++b))).map Pc.enc)):=by
 have:=AY (a,b) ⟨⟨ha,hb⟩,hl⟩
 simp only[WT]at this;exact this
theorem uz{a:List Pc}{l:List ax}(ha:iI a)(ho:dB l)(hl:a.length<=500/\l.length<=500):SA.f 79 [.ab (a.map Pc.enc),.ab (l.map ax.enc)]=some (.ab ((aT (bj a l)).map Pc.enc)):=by
 have:=sQ (a,l) ⟨⟨ha,ho⟩,hl⟩
 simp only[WU]at this;exact this
theorem q_One{x:List UInt8}{l:List ca}(hx:x.length<=9223372036854775807)(hl:l.length<=50000):SB.f 95 [.str x,.ab (l.map ca.enc)]=some (.ab ((cB x l).map Pc.enc)):=EG (x,l) ⟨hx,hl⟩
theorem q_Add{k:List Pc}{x:List UInt8}{l:List ca}(hk:cV k)(FY:cV (k++cB x l))(hx:x.length<=9223372036854775807)(hl:l.length<=50000):WW.f 98 [.ab (k.map Pc.enc),.str x,.ab (l.map ca.enc)]=some (.ab ((aT (cL (k++cB x l))).map Pc.enc)):=Hd (k,x,l) ⟨⟨hk,FY⟩,hx,hl⟩
def L15g:an:=WW
theorem L15g_ok:ag Tryz.prog L15g:=L15f_ok
@[go_sem] theorem L15g_old{g:FuncId}{xs:List A}:L15g.f g xs=WW.f g xs:=rfl
set_option maxHeartbeats 8000000
theorem He(l:List ax)(m:Int)(hl:l.length<=9223372036854775807):ay Tryz.prog 66 [.ab (l.map ax.enc),.int .i64 m] (· = .bool (gw l m)):=by
 refine aa fK mixed Tryz.func66 rfl (Nat.le_of_ble_eq_true rfl) tp ?_;unfold Tryz.f66;by_cases h0:m<(l.length:Int)
 · have hh:gw l m=true:=by simp[gw,h0]
   simp-implicitDefEqProofs (disch:=(first|omega|decide)) only[go_sem,↓reduceIte,seval,h0,hh,List.length_map]
 · have hh:gw l m=l.any fun r=>decide (40<r.lo.length)||decide (40<r.hi.length):=by simp[gw,h0]
   simp-implicitDefEqProofs (disch:=(first|omega|decide)) only[go_sem,↓reduceIte,seval,h0,List.length_map]
   rw[hh]
   refine ar [0] (ι:={k:Nat//k<=l.length/\(l.any fun r=>decide (40<r.lo.length)||decide (40<r.hi.length))=((l.drop k).any fun r=>decide (40<r.lo.length)||decide (40<r.hi.length))}) (fun p=>[(5,.int .i64 p.1),(4,.bool false)]) (fun _=>[]) (fun p=>l.length-p.1) ⟨0,by omega,rfl⟩ (Nat.zero_le _) ?_ ?_
   · simp-implicitDefEqProofs (disch:=(first|omega|decide)) only[go_sem,↓reduceIte,seval]
   · rintro⟨k,hk,hd⟩
     simp only;by_cases aw:k<l.length
     · have ae:(k:Int)<(l.length:Int):=by omega
       have e1:=dJ aw;rw[List.drop_eq_getElem_cons aw,List.any_cons]at hd;generalize hx:l[k]=x at*;obtain⟨lo,hi,op⟩:=x;simp only at hd;by_cases h1:40<lo.length
       · have nj:(40:Int)<(lo.length:Int):=by omega
         rw[decide_eq_true h1,Bool.true_or,Bool.true_or]at hd;simp-implicitDefEqProofs (disch:=(first|omega|decide)) only[go_sem,↓reduceIte,seval,ae,e1,nj,hd,wrap_i64,List.length_map]
       · have nj: ¬(40:Int)<(lo.length:Int):=by omega
         by_cases h2:40<hi.length
         · have nI:(40:Int)<(hi.length:Int):=by omega
           rw[decide_eq_true h2,Bool.or_true,Bool.true_or]at hd;simp-implicitDefEqProofs (disch:=(first|omega|decide)) only[go_sem,↓reduceIte,seval,ae,e1,nj,nI,hd,wrap_i64,List.length_map]
         · have nI: ¬(40:Int)<(hi.length:Int):=by omega
           rw[decide_eq_false h1,decide_eq_false h2,Bool.or_false,Bool.false_or]at hd;simp-implicitDefEqProofs (disch:=(first|omega|decide)) only[go_sem,↓reduceIte,seval,ae,e1,nj,nI,wrap_i64,List.length_map]
           exact⟨⟨k+1,aw,hd⟩,by simp,by show l.length-(k+1)<l.length-k;omega⟩
     · have ae: ¬(k:Int)<(l.length:Int):=by omega
       rw[List.drop_of_length_le (by omega)]at hd;simp-implicitDefEqProofs (disch:=(first|omega|decide)) only[go_sem,↓reduceIte,seval,ae,hd,List.length_map]
theorem long_len{l:List ax}{m:Int}(h:gw l m=false): ¬m<(l.length:Int):=by unfold gw at h;simp only[Bool.or_eq_false_iff,decide_eq_false_iff_not]at h;exact h.1
theorem WX{x:List A}(h:cI [.str,.str,.bool] x): ∃r:ax,x=[.str r.lo,.str r.hi,.bool r.op]/\r.ok:=by have ml:=kg;simp only[cI,fits]at h;obtain⟨y1,z1,rfl,⟨s1,rfl,h1⟩,y2,z2,rfl,⟨s2,rfl,h2⟩,y3,z3,rfl,⟨b,rfl⟩,rfl⟩:=h;exact⟨⟨s1,s2,b⟩,rfl,Nat.le_trans h1 ml,Nat.le_trans h2 ml⟩
theorem WY{x:A}(h:fits (.rows [.str,.str,.bool]) x): ∃l:List ax,x= .ab (l.map ax.enc)/\l.length<=maxLen/\dB l:=by
 simp only[fits]at h;obtain⟨es,rfl,hl,he⟩:=h
 obtain⟨l,rfl,hk⟩:=sh (f:=ax.enc) (P:=fun r=>r.ok) (es:=es) (fun e hx=>by
  obtain⟨ys,rfl,hy⟩:=he e hx;obtain⟨r,rfl,hr⟩:=WX (by simpa only[cI,fits]using hy)
  exact⟨r,rfl,hr⟩)
 exact⟨l,rfl,by simpa using hl,hk⟩
set_option maxHeartbeats 16000000
def Hf:an:=L15g.add 66 (entry (fun(v:List ax×Int)=>[.ab (v.1.map ax.enc),.int .i64 v.2]) (fun v=>v.1.length<=9223372036854775807) (fun v=> .bool (gw v.1 v.2)))
theorem Ly:ag Tryz.prog Hf:=L15g_ok.bN Tryz.func66 (by kernel_rfl) (by kernel_rfl) fun v h=>He v.1 v.2 h
@[go_sem] theorem L15h_old{g:FuncId}{xs:List A}(h:g≠66):Hf.f g xs=L15g.f g xs:=an.ak h
theorem AZ(v:List ax×Int)(h:v.1.length<=9223372036854775807):Hf.f 66 [.ab (v.1.map ax.enc),.int .i64 v.2]=some (.bool (gw v.1 v.2)):=an.ao (Γ:=L15g) (fun i j h=>by simpa[Prod.ext_iff,and_assoc]using h) v h
theorem q_rLong{l:List ax}{m:Int}(h:l.length<=9223372036854775807):Hf.f 66 [.ab (l.map ax.enc),.int .i64 m]=some (.bool (gw l m)):=AZ (l,m) h
theorem dA{a b:List Pc}{x:List UInt8}{n:Int}(hn:bE n=true)(c:Int):hk (setAt (aT (cL (a++b))) x) n c=(hk (setAt a x) n c||hk (setAt b x) n c):=by rw[ez (yo _),mz hn,iA,kq]
theorem fits_pcs{x:A}(h:fits (.rows [.str,.str,.bool,.rows [.int .i64,.rows [.int .i64,.int .i64]]]) x): ∃l:List Pc,x= .ab (l.map Pc.enc)/\l.length<=maxLen/\ ∀p∈l,p.s.length<=maxLen:=by
 simp only[fits]at h;obtain⟨es,rfl,hl,he⟩:=h;obtain⟨l,rfl,hk⟩:=sh (f:=Pc.enc) (P:=fun p=>p.s.length<=maxLen) (es:=es) (fun e hx=>by obtain⟨ys,rfl,hy⟩:=he e hx;simp only[cI]at hy;obtain⟨y1,z1,rfl,h1,y2,z2,rfl,h2,y3,z3,rfl,h3,y4,z4,rfl,h4,rfl⟩:=hy;simp only[fits]at h1 h2 h3;obtain⟨s1,rfl,_⟩:=h1;obtain⟨s2,rfl,_⟩:=h2;obtain⟨b,rfl⟩:=h3;obtain⟨ks,rfl,hks,_⟩:=OO h4;exact⟨⟨⟨s1,s2,b⟩,ks⟩,rfl,hks⟩)
 exact⟨l,rfl,by simpa using hl,hk⟩
def G15:an:={Hf with c6:=fun n=>if n=7 then
 [[0,1,2,3,4,5,6,7,8,9,10,11,12,13,14],[0,1,2,3,4,5,6,7,8,9,10,12,11,13,14],[0,1,2,3,4,5,6,7,8,9,11,10,12,13,14],[0,1,2,3,4,5,6,7,8,9,11,12,10,13,14],
  [0,1,2,3,4,5,6,7,8,9,11,12,13,10,14],[0,1,2,3,4,5,6,7,8,9,12,10,11,13,14],[0,1,2,3,4,5,6,7,8,9,12,11,10,13,14],[0,1,2,3,4,5,6,7,8,9,12,11,13,10,14]]else []}
theorem G15_ok:ag Tryz.prog G15:=⟨Ly.f,Ly.hp⟩
@[go_sem] theorem G15_f:G15.f=Hf.f:=rfl
@[go_sem] theorem G15_eff{g:FuncId}:G15.mH g=false:=rfl
@[go_sem] theorem G15_ords7:G15.c6 7=
 [[0,1,2,3,4,5,6,7,8,9,10,11,12,13,14],[0,1,2,3,4,5,6,7,8,9,10,12,11,13,14],[0,1,2,3,4,5,6,7,8,9,11,10,12,13,14],[0,1,2,3,4,5,6,7,8,9,11,12,10,13,14],
  [0,1,2,3,4,5,6,7,8,9,11,12,13,10,14],[0,1,2,3,4,5,6,7,8,9,12,10,11,13,14],[0,1,2,3,4,5,6,7,8,9,12,11,10,13,14],[0,1,2,3,4,5,6,7,8,9,12,11,13,10,14]]:=rfl
@[go_sem] theorem G15_ords{n:Nat}(h:n≠7):G15.c6 n=[]:=if_neg h
theorem EH:ah Tryz.prog G15 Tryz.f78.ntmps (Tryz.f78.body.getD .skip)=true:=by kernel_rfl
theorem Hg(k:List Pc)(hk:cV k):ay Tryz.prog 78 [.ab (k.map Pc.enc)] (· = .bool (aR k)):=by
 refine aa G15_ok mixed Tryz.func78 rfl (Nat.le_of_ble_eq_true rfl) EH ?_;unfold Tryz.f78;obtain⟨⟨k1,k2⟩,k3⟩:=id hk;simp-implicitDefEqProofs (disch:=(first|omega|decide)) only[go_sem,↓reduceIte,seval,List.length_map]
 refine ar [0] (ι:={j:Nat//j<=k.length/\aR k=Kb (lq k j) (k.drop j)}) (fun p=>[(3,.int .i64 p.1)]) (fun _=>[]) (fun p=>k.length-p.1) ⟨0,by omega,rfl⟩ (Nat.zero_le _) ?_ ?_
 · simp-implicitDefEqProofs (disch:=(first|omega|decide)) only[go_sem,↓reduceIte,seval]
 · rintro⟨j,hj,hd⟩
   simp only at hj hd⊢;by_cases aw:j<k.length
   · have ae:(j:Int)<(k.length:Int):=by omega
     have e1:=gz aw;have g_:=k3 _ (List.getElem_mem aw)
     have wa:=fq hk (List.getElem_mem aw)
     have tb:lq k (j+1)=some k[j]:=by unfold lq;rw[if_neg (by omega),Nat.add_sub_cancel,getElem!_pos k j aw]
     rw[List.drop_eq_getElem_cons aw]at hd;generalize hx:k[j]=x at*;obtain⟨⟨lo,hi,op⟩,s⟩:=x;simp only[Kb,dS]at hd g_ wa;have next:aR k=Kb (some ⟨⟨lo,hi,op⟩,s⟩) (k.drop (j+1))-> ∃i:{j:Nat//j<=k.length/\aR k=Kb (lq k j) (k.drop j)},(j:Int)+1=(i.1:Int)/\k.length-i.1<k.length-j:=fun h=>⟨⟨j+1,aw,by rw[tb];exact h⟩,by simp,by show k.length-(j+1)<k.length-j;omega⟩
     cases h1:aA ⟨lo,hi,op⟩with
     |false=>
      have hh:aR k=false:=by rw[hd,h1];simp
      simp-implicitDefEqProofs (disch:=(first|omega|decide)) only[go_sem,↓reduceIte,seval,ae,e1,h1,hh,List.length_map]
     |true=>
      cases h2:((s.length:Int)==0)with
      |true=>
       have h20:(s.length:Int)=0:=by simpa using h2
       have:s=[]:=List.length_eq_zero_iff.1 (by omega)
       have hh:aR k=false:=by rw[hd,this];simp
       simp-implicitDefEqProofs (disch:=(first|omega|decide)) only[go_sem,↓reduceIte,seval,ae,e1,h1,h2,hh,List.length_map]
      |false=>
       have cg:s.isEmpty=false:=by
          cases s with
          |nil=>simp at h2
          |cons _ _=>rfl
       have td:=Gz wa;cases h3:bc s with
       |false=>
          have hh:aR k=false:=by rw[hd,h3];simp
          rw[h3]at td;simp-implicitDefEqProofs (disch:=(first|omega|decide)) only[go_sem,↓reduceIte,seval,ae,e1,h1,h2,td,hh,List.length_map]
       |true=>
          rw[h3]at td;rw[h1,cg,h3]at hd;simp only[Bool.not_false,Bool.and_self,Bool.true_and]at hd;by_cases hj0:j=0
          · have hz:((j:Int)==0)=true:=by simp[hj0]
            have hh:aR k=Kb (some ⟨⟨lo,hi,op⟩,s⟩) (k.drop (j+1)):=by rw[hd];unfold lq;rw[if_pos hj0,Bool.true_and]
            simp-implicitDefEqProofs (disch:=(first|omega|decide)) only[go_sem,↓reduceIte,seval,ae,e1,h1,h2,td,hz,wrap_i64,List.length_map]
            exact next hh
          · have hz:((j:Int)==0)=false:=by simp;omega
            have lF:j-1<k.length:=by omega
            have e2:=gz lF;have F7:=k3 _ (List.getElem_mem lF)
            have WD:=fq hk (List.getElem_mem lF)
            have Qg:lq k j=some k[j-1]:=by unfold lq;rw[if_neg hj0,getElem!_pos k (j-1) lF]
            rw[Qg]at hd;generalize hy:k[j-1]=y at*;obtain⟨⟨iw,fB,mU⟩,s'⟩:=y;simp only at F7 WD;have c1:((j:Int)-1).toNat=j-1:=by omega
            have c2:(0:Int)<=(j:Int)-1:=by omega
            have d_:=lN WD wa;simp only[xB]at hd;cases h4:mU with
            |true=>
             have hh:aR k=false:=by rw[hd,h4];simp
             subst h4;simp-implicitDefEqProofs (maxSteps:=6000000) (disch:=(first|omega|decide)) only[go_sem,↓reduceIte,seval,ae,e1,h1,h2,td,hz,e2,c1,c2,hh,wrap_i64,List.length_map]
            |false=>
             subst h4;cases h5:aV lo fB with
             |true=>
              have hh:aR k=false:=by rw[hd,h5];simp
              simp-implicitDefEqProofs (maxSteps:=6000000) (disch:=(first|omega|decide)) only[go_sem,↓reduceIte,seval,ae,e1,h1,h2,td,hz,e2,c1,c2,h5,hh,wrap_i64,List.length_map]
             |false=>
              cases h6:fB==lo with
              |false=>
               have hh:aR k=Kb (some ⟨⟨lo,hi,op⟩,s⟩) (k.drop (j+1)):=by rw[hd,h5,h6];simp
               simp-implicitDefEqProofs (maxSteps:=6000000) (disch:=(first|omega|decide)) only[go_sem,↓reduceIte,seval,ae,e1,h1,h2,td,hz,e2,c1,c2,h5,h6,wrap_i64,List.length_map]
               exact next hh
              |true=>
               cases h7:bZ s' s with
               |true=>
                have h7':s'=s:=by simpa[bZ]using h7
                rw[h7]at d_;have hh:aR k=false:=by rw[hd,h6,h7'];simp
                simp-implicitDefEqProofs (maxSteps:=6000000) (disch:=(first|omega|decide)) only[go_sem,↓reduceIte,seval,ae,e1,h1,h2,td,hz,e2,c1,c2,h5,h6,d_,hh,wrap_i64,List.length_map]
               |false=>
                have h7':s'≠s:=by simpa[bZ]using h7
                rw[h7]at d_;have hh:aR k=Kb (some ⟨⟨lo,hi,op⟩,s⟩) (k.drop (j+1)):=by rw[hd,h5,h6,decide_eq_false h7'];simp
                simp-implicitDefEqProofs (maxSteps:=6000000) (disch:=(first|omega|decide)) only[go_sem,↓reduceIte,seval,ae,e1,h1,h2,td,hz,e2,c1,c2,h5,h6,d_,wrap_i64,List.length_map]
                exact next hh
   · have ae: ¬(j:Int)<(k.length:Int):=by omega
     have hh:aR k=true:=by rw[hd,List.drop_of_length_le (by omega)];rfl
     simp-implicitDefEqProofs (disch:=(first|omega|decide)) only[go_sem,↓reduceIte,seval,ae,hh,List.length_map]
def yp:an:=Hf.add 78 (entry (fun(k:List Pc)=>[.ab (k.map Pc.enc)]) (fun k=>cV k) (fun k=> .bool (aR k)))
theorem wj:ag Tryz.prog yp:=Ly.bN Tryz.func78 (by kernel_rfl) (by kernel_rfl) fun k h=>Hg k h
@[go_sem] theorem L15i_old{g:FuncId}{xs:List A}(h:g≠78):yp.f g xs=Hf.f g xs:=an.ak h
@[go_sem] theorem L15i_s:yp.pl Hf:=⟨fun _=>rfl,fun _=>rfl,rfl,fun _=>rfl,rfl,fun _=>rfl,rfl⟩
theorem yq(k:List Pc)(h:cV k):yp.f 78 [.ab (k.map Pc.enc)]=some (.bool (aR k)):=an.ao (Γ:=Hf) (fun i j h=>by simpa[Prod.ext_iff,and_assoc]using h) k h
theorem Pt{k:List Pc}(h:cV k):yp.f 78 [.ab (k.map Pc.enc)]=some (.bool (aR k)):=yq k h
structure It where
 key:List UInt8
 rep:Int
 bu:Int
 bk:Int
 prio:Int
 dead:Bool
 body:List UInt8
 deriving DecidableEq
def It.enc(x:It):A:= .agg [.str x.key,.int .i64 x.rep,.int .i64 x.bu,.int .i64 x.bk,.int .i64 x.prio,.bool x.dead,.str x.body]
theorem It.eD(r s:It)(h:r.enc=s.enc):r=s:=by obtain⟨a,b,c,d,e,f,g⟩:=r;obtain⟨a',b',c',d',e',f',g'⟩:=s;simpa[It.enc]using h
@[simp] theorem It.UC{r s:It}:(r.enc=s.enc)=(r=s):=propext ⟨It.eD r s,fun h=>by rw[h]⟩
@[simp] theorem map_It_inj{l m:List It}:(l.map It.enc=m.map It.enc)=(l=m):=map_inj It.eD
def It.ok(x:It):Prop:=x.key.length<=9223372036854775807/\x.body.length<=9223372036854775807
def mM(l:List It):Prop:= ∀x∈l,x.ok
theorem cN{l:List It}{k:Nat}(h:k<l.length):(l.map It.enc)[k]? =some (.agg [.str l[k].key,.int .i64 l[k].rep,.int .i64 l[k].bu,.int .i64 l[k].bk,.int .i64 l[k].prio,.bool l[k].dead,.str l[k].body]):=by rw[List.getElem?_map,List.getElem?_eq_getElem h];rfl
def aH(x:It):Bool:=decide (1<=x.key.length/\x.key.length<=16)&&aN ⟨x.rep,x.bu⟩&&decide (1<=x.bk)&&decide (x.bk<=1099511627776)&&decide (0<=x.prio)&&decide (x.prio<=255)&&decide (x.body.length<=64)&&(!x.dead||x.body==[])
def goI:Option (List UInt8)->List It->Bool
 |_,[]=>true
 |p,x::l=>aH x&&(match p with|none=>true|some k=>aV k x.key)&&goI (some x.key) l
def ch(l:List It):Bool:=goI none l
def pa(l:List It)(i:Nat):Bool:=(l.take i).any fun y=>match l[i]? with|some x=>decide (y.rep=x.rep/\y.bu=x.bu)|none=>false
structure aI where
 id:Int
 fl:List ax
 az:List It
 kn:List Pc
 ct:Int
def aI.cells(s:aI):List A:=[.int .i64 s.id,.ab (s.fl.map ax.enc),.ab (s.az.map It.enc),.ab (s.kn.map Pc.enc),.int .i64 s.ct]
def aI.enc(s:aI):A:= .agg s.cells
theorem aI.eD(r s:aI)(h:r.enc=s.enc):r=s:=by obtain⟨a,b,c,d,e⟩:=r;obtain⟨a',b',c',d',e'⟩:=s;simpa[aI.enc,aI.cells]using h
@[simp] theorem aI.UC{r s:aI}:(r.enc=s.enc)=(r=s):=propext ⟨aI.eD r s,fun h=>by rw[h]⟩
def nc(l:List It)(m:Int):Bool:=decide (m<(l.length:Int))||l.any fun x=>decide (60<x.key.length)||decide (200<x.body.length)
theorem yr{l:List It}{m:Int}(h:nc l m=false): ¬m<(l.length:Int):=by unfold nc at h;simp only[Bool.or_eq_false_iff,decide_eq_false_iff_not]at h;exact h.1
structure Fd where
 code:Int
 at_:Int
 deriving DecidableEq
def Fd.enc(x:Fd):A:= .agg [.int .i64 x.code,.int .i64 x.at_]
theorem Fd.eD(r s:Fd)(h:r.enc=s.enc):r=s:=by obtain⟨a,b⟩:=r;obtain⟨a',b'⟩:=s;simpa[Fd.enc]using h
@[simp] theorem Fd.UC{r s:Fd}:(r.enc=s.enc)=(r=s):=propext ⟨Fd.eD r s,fun h=>by rw[h]⟩
def px(p:Pc)(id:Int):Int:=if bE id=true then eV (cJ (ai (aD p.s id)))else 0
def EI(s:aI)(c:Int):Bool:=
 if c==1 then decide (s.id<1)||decide (16<s.id)
 else if c==2 then decide (s.ct<0)||decide (1099511627776<s.ct)
 else if c==3 then !aP s.fl
 else if c==9 then !aR s.kn
 else if c==12 then decide (4096<s.az.length)
 else false
theorem rr{k:List Pc}{F:List ax}:bj k F=cL k ↔∀x n,bE n=true-> ∀c,hk (setAt k x) n c=true->aj F x=true:=by
 constructor
 · intro h x n hn c hc
   have h1:=wi (k:=k) (l:=F) (x:=x) hn c;rw[h,mz hn,hc,Bool.and_true]at h1;exact h1.symm
 · intro h
   funext x
   unfold bj;split
   · rfl
   · rename_i hx
     have: ∀n,bE n=true-> ∀c,hk (setAt k x) n c=false:=fun n hn c=>by
      cases h1:hk (setAt k x) n c with
      |false=>rfl
      |true=>exact absurd (h x n hn c h1) hx
     unfold cL dG;exact(Ul fun n hn=>IU fun c=>this n hn c).symm
theorem WZ{k:List Pc}{x:List UInt8}{n c:Int}:hk (setAt k x) n c=true ↔∃p∈k,hk (setAt [p] x) n c=true:=by
 induction k with
 |nil=>simp[setAt,hk,aD,ai]
 |cons p k ih=>
  have e:setAt (p::k) x=setAt [p] x++setAt k x:=iA [p] k x;rw[e,kq,Bool.or_eq_true,ih]
  simp
def dg(k:List Pc)(id:Int):Int:=k.foldl (fun n p=>max n (px p id)) 0
theorem ry{id b:Int}: ∀{k:List Pc} {n:Int},k.foldl (fun n p=>max n (px p id)) n<=b ↔ n<=b/\ ∀p∈k,px p id<=b
 | [],n=>by simp
 |p::k,n=>by simp only[List.foldl_cons,ry (k:=k),List.mem_cons,forall_eq_or_imp,Int.max_le,and_assoc]
def c_(l:List It):Bool:=(List.range l.length).all fun i=> !pa l i
def aU(s:aI):Bool:=
 !EI s 1&& !EI s 2&&decide (s.az.length<=4096)&&aP s.fl&&ch s.az&&aR s.kn&&cZ (aT (bj s.kn s.fl)) s.kn&&decide (dg s.kn s.id<=s.ct)&&c_ s.az&&s.az.all fun x=>aj s.fl x.key&&bG s.kn x.key x.rep x.bu
set_option maxHeartbeats 8000000
theorem Hh:ah Tryz.prog yp Tryz.f69.ntmps (Tryz.f69.body.getD .skip)=true:=by kernel_rfl
theorem Lz(x:It)(h:x.ok):ay Tryz.prog 69 [x.enc] (· = .bool (aH x)):=by
 refine aa wj mixed Tryz.func69 rfl (Nat.le_of_ble_eq_true rfl) Hh ?_;unfold Tryz.f69;obtain⟨key,rep,bu,bk,prio,dead,body⟩:=x;obtain⟨h1,h2⟩:=h;simp only[It.enc]at h1 h2⊢;have g1:=zR h1;simp only[aH]
 cases e1:decide (1<=key.length/\key.length<=16)with
 |false=>rw[e1]at g1;simp-implicitDefEqProofs (disch:=(first|omega|decide)) only[go_sem,↓reduceIte,seval,g1]
 |true=>
  rw[e1]at g1;cases e2:aN ⟨rep,bu⟩with
  |false=>simp-implicitDefEqProofs (disch:=(first|omega|decide)) only[go_sem,↓reduceIte,seval,g1,e2]
  |true=>
   by_cases e3:1<=bk
   · have SC: ¬bk<1:=by omega
     by_cases e4:bk<=1099511627776
     · have W0: ¬1099511627776<bk:=by omega
       by_cases e5:0<=prio
       · have e5': ¬prio<0:=by omega
         by_cases e6:prio<=255
         · have e6': ¬255<prio:=by omega
           by_cases e7:body.length<=64
           · have e7':(body.length:Int)<=64:=by omega
             cases dead<;>cases e8:body==[]<;>simp-implicitDefEqProofs (disch:=(first|omega|decide)) only[go_sem,↓reduceIte,seval,g1,e2,e3,e4,e5,e6,e7,SC,W0,e5',e6',e7',e8]
           · have e7': ¬(body.length:Int)<=64:=by omega
             simp-implicitDefEqProofs (disch:=(first|omega|decide)) only[go_sem,↓reduceIte,seval,g1,e2,e3,e4,e5,e6,e7,SC,W0,e5',e6',e7']
         · have e6':255<prio:=by omega
           simp-implicitDefEqProofs (disch:=(first|omega|decide)) only[go_sem,↓reduceIte,seval,g1,e2,e3,e4,e5,e6,SC,W0,e5',e6']
       · have e5':prio<0:=by omega
         simp-implicitDefEqProofs (disch:=(first|omega|decide)) only[go_sem,↓reduceIte,seval,g1,e2,e3,e4,e5,SC,W0,e5']
     · have W0:1099511627776<bk:=by omega
       simp-implicitDefEqProofs (disch:=(first|omega|decide)) only[go_sem,↓reduceIte,seval,g1,e2,e3,e4,SC,W0]
   · have SC:bk<1:=by omega
     simp-implicitDefEqProofs (disch:=(first|omega|decide)) only[go_sem,↓reduceIte,seval,g1,e2,e3,SC]
theorem EJ:ah Tryz.prog yp Tryz.f73.ntmps (Tryz.f73.body.getD .skip)=true:=by kernel_rfl
theorem Hi(x:It)(h:x.ok):ay Tryz.prog 73 [x.enc] (· = .bool (aH x)):=by
 refine aa wj mixed Tryz.func73 rfl (Nat.le_of_ble_eq_true rfl) EJ ?_;unfold Tryz.f73;obtain⟨key,rep,bu,bk,prio,dead,body⟩:=x;obtain⟨h1,h2⟩:=h;simp only[It.enc]at h1 h2⊢;have g1:=tt h1;simp only[aH]
 cases e1:decide (1<=key.length/\key.length<=16)with
 |false=>rw[e1]at g1;simp-implicitDefEqProofs (disch:=(first|omega|decide)) only[go_sem,↓reduceIte,seval,g1]
 |true=>
  rw[e1]at g1;cases e2:aN ⟨rep,bu⟩with
  |false=>simp-implicitDefEqProofs (disch:=(first|omega|decide)) only[go_sem,↓reduceIte,seval,g1,e2]
  |true=>
   by_cases e3:1<=bk
   · have SC: ¬bk<1:=by omega
     by_cases e4:bk<=1099511627776
     · have W0: ¬1099511627776<bk:=by omega
       by_cases e5:0<=prio
       · have e5': ¬prio<0:=by omega
         by_cases e6:prio<=255
         · have e6': ¬255<prio:=by omega
           have e8':decide ((0:Int)<(body.length:Int))= !(body==[]):=by
            cases body with
            |nil=>rfl
            |cons a b=>simp
           by_cases e7:body.length<=64
           · have e7':(body.length:Int)<=64:=by omega
             cases dead<;>cases e8:body==[]<;>rw[e8]at e8'<;>simp-implicitDefEqProofs (disch:=(first|omega|decide)) only[go_sem,↓reduceIte,seval,g1,e2,e3,e4,e5,e6,e7,SC,W0,e5',e6',e7',e8,e8']
           · have e7': ¬(body.length:Int)<=64:=by omega
             simp-implicitDefEqProofs (disch:=(first|omega|decide)) only[go_sem,↓reduceIte,seval,g1,e2,e3,e4,e5,e6,e7,SC,W0,e5',e6',e7']
         · have e6':255<prio:=by omega
           simp-implicitDefEqProofs (disch:=(first|omega|decide)) only[go_sem,↓reduceIte,seval,g1,e2,e3,e4,e5,e6,SC,W0,e5',e6']
       · have e5':prio<0:=by omega
         simp-implicitDefEqProofs (disch:=(first|omega|decide)) only[go_sem,↓reduceIte,seval,g1,e2,e3,e4,e5,SC,W0,e5']
     · have W0:1099511627776<bk:=by omega
       simp-implicitDefEqProofs (disch:=(first|omega|decide)) only[go_sem,↓reduceIte,seval,g1,e2,e3,e4,SC,W0]
   · have SC:bk<1:=by omega
     simp-implicitDefEqProofs (disch:=(first|omega|decide)) only[go_sem,↓reduceIte,seval,g1,e2,e3,SC]
def LA:an:=yp.add 69 (entry (fun(x:It)=>[x.enc]) (fun x=>x.ok) (fun x=> .bool (aH x)))
theorem T18a_ok:ag Tryz.prog LA:=wj.bN Tryz.func69 (by kernel_rfl) (by kernel_rfl) fun x h=>Lz x h
@[go_sem] theorem T18a_old{g:FuncId}{xs:List A}(h:g≠69):LA.f g xs=yp.f g xs:=an.ak h
theorem A0(x:It)(h:x.ok):LA.f 69 [x.enc]=some (.bool (aH x)):=an.ao (Γ:=yp) (fun i j h=>by simpa[Prod.ext_iff,and_assoc]using h) x h
def EK:an:=LA.add 73 (entry (fun(x:It)=>[x.enc]) (fun x=>x.ok) (fun x=> .bool (aH x)))
theorem LB:ag Tryz.prog EK:=T18a_ok.bN Tryz.func73 (by kernel_rfl) (by kernel_rfl) fun x h=>Hi x h
@[go_sem] theorem T18b_old{g:FuncId}{xs:List A}(h:g≠73):EK.f g xs=LA.f g xs:=an.ak h
@[go_sem] theorem T18b_s:EK.pl LA:=⟨fun _=>rfl,fun _=>rfl,rfl,fun _=>rfl,rfl,fun _=>rfl,rfl⟩
theorem nW(x:It)(h:x.ok):EK.f 73 [x.enc]=some (.bool (aH x)):=an.ao (Γ:=LA) (fun i j h=>by simpa[Prod.ext_iff,and_assoc]using h) x h
theorem UD{key body:List UInt8}{rep bu bk prio:Int}{dead:Bool}(h:It.ok ⟨key,rep,bu,bk,prio,dead,body⟩):LA.f 69 [.agg [.str key,.int .i64 rep,.int .i64 bu,.int .i64 bk,.int .i64 prio,.bool dead,.str body]]=some (.bool (aH ⟨key,rep,bu,bk,prio,dead,body⟩)):=A0 _ h
theorem i_rRight{key body:List UInt8}{rep bu bk prio:Int}{dead:Bool}(h:It.ok ⟨key,rep,bu,bk,prio,dead,body⟩):EK.f 73 [.agg [.str key,.int .i64 rep,.int .i64 bu,.int .i64 bk,.int .i64 prio,.bool dead,.str body]]=some (.bool (aH ⟨key,rep,bu,bk,prio,dead,body⟩)):=nW _ h
theorem Hj:ah Tryz.prog EK Tryz.f15.ntmps (Tryz.f15.body.getD .skip)=true:=by kernel_rfl
theorem LC(l:List It)(m:Int)(hl:l.length<=9223372036854775807):ay Tryz.prog 15 [.ab (l.map It.enc),.int .i64 m] (· = .bool (nc l m)):=by
 refine aa LB mixed Tryz.func15 rfl (Nat.le_of_ble_eq_true rfl) Hj ?_;unfold Tryz.f15;by_cases h0:m<(l.length:Int)
 · have hh:nc l m=true:=by simp[nc,h0]
   simp-implicitDefEqProofs (disch:=(first|omega|decide)) only[go_sem,↓reduceIte,seval,h0,hh,List.length_map]
 · have hh:nc l m=l.any fun x=>decide (60<x.key.length)||decide (200<x.body.length):=by simp[nc,h0]
   simp-implicitDefEqProofs (disch:=(first|omega|decide)) only[go_sem,↓reduceIte,seval,h0,List.length_map]
   rw[hh]
   refine ar [0] (ι:={k:Nat//k<=l.length/\(l.any fun x=>decide (60<x.key.length)||decide (200<x.body.length))=((l.drop k).any fun x=>decide (60<x.key.length)||decide (200<x.body.length))}) (fun p=>[(5,.int .i64 p.1),(4,.bool false)]) (fun _=>[]) (fun p=>l.length-p.1) ⟨0,by omega,rfl⟩ (Nat.zero_le _) ?_ ?_
   · simp-implicitDefEqProofs (disch:=(first|omega|decide)) only[go_sem,↓reduceIte,seval]
   · rintro⟨k,hk,hd⟩
     simp only;by_cases aw:k<l.length
     · have ae:(k:Int)<(l.length:Int):=by omega
       have e1:=cN aw;rw[List.drop_eq_getElem_cons aw,List.any_cons]at hd;generalize hx:l[k]=x at*;obtain⟨key,rep,bu,bk,prio,dead,body⟩:=x;simp only at hd e1;by_cases h1:60<key.length
       · have nj:(60:Int)<(key.length:Int):=by omega
         rw[decide_eq_true h1,Bool.true_or,Bool.true_or]at hd;simp-implicitDefEqProofs (disch:=(first|omega|decide)) only[go_sem,↓reduceIte,seval,ae,e1,nj,hd,wrap_i64,List.length_map]
       · have nj: ¬(60:Int)<(key.length:Int):=by omega
         by_cases h2:200<body.length
         · have nI:(200:Int)<(body.length:Int):=by omega
           rw[decide_eq_true h2,Bool.or_true,Bool.true_or]at hd;simp-implicitDefEqProofs (disch:=(first|omega|decide)) only[go_sem,↓reduceIte,seval,ae,e1,nj,nI,hd,wrap_i64,List.length_map]
         · have nI: ¬(200:Int)<(body.length:Int):=by omega
           rw[decide_eq_false h1,decide_eq_false h2,Bool.or_false,Bool.false_or]at hd;simp-implicitDefEqProofs (disch:=(first|omega|decide)) only[go_sem,↓reduceIte,seval,ae,e1,nj,nI,wrap_i64,List.length_map]
           exact⟨⟨k+1,aw,hd⟩,by simp,by show l.length-(k+1)<l.length-k;omega⟩
     · have ae: ¬(k:Int)<(l.length:Int):=by omega
       rw[List.drop_of_length_le (by omega)]at hd;simp-implicitDefEqProofs (disch:=(first|omega|decide)) only[go_sem,↓reduceIte,seval,ae,hd,List.length_map]
def py(l:List It)(k:Nat):Option (List UInt8):=match k with|0=>none|j+1=>(l[j]?).map (·.key)
theorem Hk:ah Tryz.prog EK Tryz.f77.ntmps (Tryz.f77.body.getD .skip)=true:=by kernel_rfl
theorem LD(l:List It)(hl:l.length<=4611686018427387904)(ho:mM l):ay Tryz.prog 77 [.ab (l.map It.enc)] (· = .bool (ch l)):=by
 refine aa LB mixed Tryz.func77 rfl (Nat.le_of_ble_eq_true rfl) Hk ?_;unfold Tryz.f77;simp-implicitDefEqProofs (disch:=(first|omega|decide)) only[go_sem,↓reduceIte,seval,List.length_map]
 refine ar [0] (ι:={k:Nat//k<=l.length/\ch l=goI (py l k) (l.drop k)}) (fun p=>[(3,.int .i64 p.1)]) (fun _=>[]) (fun p=>l.length-p.1) ⟨0,by omega,rfl⟩ (Nat.zero_le _) ?_ ?_
 · simp-implicitDefEqProofs (disch:=(first|omega|decide)) only[go_sem,↓reduceIte,seval]
 · rintro⟨k,hk,hd⟩
   simp only;by_cases aw:k<l.length
   · have ae:(k:Int)<(l.length:Int):=by omega
     have e1:=cN aw;have sS:=ho _ (List.getElem_mem aw)
     have Qg:py l (k+1)=some l[k].key:=by simp[py,aw]
     rw[List.drop_eq_getElem_cons aw]at hd;simp only[goI]at hd;rw[<-Qg]at hd;generalize hx:l[k]=x at*;obtain⟨key,rep,bu,bk,prio,dead,body⟩:=x;have g1:=i_rRight sS;simp only at hd e1 sS;cases hr:aH ⟨key,rep,bu,bk,prio,dead,body⟩with
     |false=>
      rw[hr]at g1 hd;rw[Bool.false_and,Bool.false_and]at hd;simp-implicitDefEqProofs (disch:=(first|omega|decide)) only[go_sem,↓reduceIte,seval,ae,e1,g1,hd,List.length_map]
     |true=>
      rw[hr]at g1 hd;cases k with
      |zero=>
       rw[show py l 0=none from rfl,Bool.true_and,Bool.true_and]at hd;have hlt0:(0:Int)<(l.length:Int):=by omega
       simp-implicitDefEqProofs (disch:=(first|omega|decide)) only[go_sem,↓reduceIte,seval,ae,hlt0,e1,g1,wrap_i64,List.length_map]
       exact⟨⟨1,aw,hd⟩,by simp,by show l.length-1<l.length-0;omega⟩
      |succ j=>
       have hj:j<l.length:=by omega
       have e2:=cN hj;have hoy:=ho _ (List.getElem_mem hj)
       have Ki:py l (j+1)=some l[j].key:=by simp[py,hj]
       rw[Ki]at hd;generalize hy:l[j]=y at*;obtain⟨Pu,Hl,LF,rank',prio',dead',body'⟩:=y;simp only at hd e2 hoy;have c0:(0:Int)<((j+1:Nat):Int):=by omega
       have c1:(((j+1:Nat):Int)-1).toNat=j:=by omega
       have c2:(0:Int)<=((j+1:Nat):Int)-1:=by omega
       have c3:((j+1:Nat):Int)-1<(l.length:Int):=by omega
       have g2:=jQ (a:=Pu) (b:=key) ⟨hoy.1,sS.1⟩
       have e3:(cA Pu key== -1)=aV Pu key:=rfl;rw[e3]at g2;cases hb:aV Pu key with
       |false=>
          rw[hb]at g2 hd;rw[Bool.and_false,Bool.false_and]at hd;simp-implicitDefEqProofs (disch:=(first|omega|decide)) only[go_sem,↓reduceIte,seval,ae,e1,e2,g1,g2,c0,c1,c2,c3,hd,wrap_i64,List.length_map]
       |true=>
          rw[hb]at g2 hd;rw[Bool.and_true,Bool.true_and]at hd;simp-implicitDefEqProofs (disch:=(first|omega|decide)) only[go_sem,↓reduceIte,seval,ae,e1,e2,g1,g2,c0,c1,c2,c3,wrap_i64,List.length_map]
          exact⟨⟨j+1+1,aw,hd⟩,by simp,by show l.length-(j+1+1)<l.length-(j+1);omega⟩
   · have ae: ¬(k:Int)<(l.length:Int):=by omega
     rw[List.drop_of_length_le (by omega)]at hd;have hd:ch l=true:=hd;simp-implicitDefEqProofs (disch:=(first|omega|decide)) only[go_sem,↓reduceIte,seval,ae,hd,List.length_map]
def Pv:an:=EK.add 15 (entry (fun(v:List It×Int)=>[.ab (v.1.map It.enc),.int .i64 v.2]) (fun v=>v.1.length<=9223372036854775807) (fun v=> .bool (nc v.1 v.2)))
theorem T18c_ok:ag Tryz.prog Pv:=LB.bN Tryz.func15 (by kernel_rfl) (by kernel_rfl) fun v h=>LC v.1 v.2 h
@[go_sem] theorem T18c_old{g:FuncId}{xs:List A}(h:g≠15):Pv.f g xs=EK.f g xs:=an.ak h
theorem k9(v:List It×Int)(h:v.1.length<=9223372036854775807):Pv.f 15 [.ab (v.1.map It.enc),.int .i64 v.2]=some (.bool (nc v.1 v.2)):=an.ao (Γ:=EK) (fun i j h=>by simpa[Prod.ext_iff,and_assoc]using h) v h
def uA:an:=Pv.add 77 (entry (fun(l:List It)=>[.ab (l.map It.enc)]) (fun l=>l.length<=4611686018427387904/\mM l) (fun l=> .bool (ch l)))
theorem wm:ag Tryz.prog uA:=T18c_ok.bN Tryz.func77 (by kernel_rfl) (by kernel_rfl) fun l h=>LD l h.1 h.2
@[go_sem] theorem T18d_old{g:FuncId}{xs:List A}(h:g≠77):uA.f g xs=Pv.f g xs:=an.ak h
@[go_sem] theorem T18d_s:uA.pl Pv:=⟨fun _=>rfl,fun _=>rfl,rfl,fun _=>rfl,rfl,fun _=>rfl,rfl⟩
theorem pz(l:List It)(h:l.length<=4611686018427387904/\mM l):uA.f 77 [.ab (l.map It.enc)]=some (.bool (ch l)):=an.ao (Γ:=Pv) (fun i j h=>by simpa[Prod.ext_iff,and_assoc]using h) l h
theorem i_rLong{l:List It}{m:Int}(h:l.length<=9223372036854775807):Pv.f 15 [.ab (l.map It.enc),.int .i64 m]=some (.bool (nc l m)):=k9 (l,m) h
theorem i_rList{l:List It}(h:l.length<=4611686018427387904/\mM l):uA.f 77 [.ab (l.map It.enc)]=some (.bool (ch l)):=pz l h
def kL(s:aI):Bool:=gw s.fl 8||nc s.az 24||lx s.kn 24
theorem Hm:ah Tryz.prog uA Tryz.f14.ntmps (Tryz.f14.body.getD .skip)=true:=by kernel_rfl
theorem wo(s:aI)(h1:s.fl.length<=9223372036854775807)(h2:s.az.length<=9223372036854775807)(h3:s.kn.length<=9223372036854775807)(h4: ∀p∈s.kn,p.s.length<=9223372036854775807):ay Tryz.prog 14 [s.enc] (· = .bool (kL s)):=by
 refine aa wm mixed Tryz.func14 rfl (Nat.le_of_ble_eq_true rfl) Hm ?_;unfold Tryz.f14;obtain⟨id,F,I,K,ct⟩:=s;simp only at h1 h2 h3 h4;have g1:=q_rLong (l:=F) (m:=8) h1;have g2:=i_rLong (l:=I) (m:=24) h2;have g3:=p_rLong (k:=K) (m:=24) h3 h4;simp only[aI.enc,aI.cells,kL]
 cases e1:gw F 8<;>rw[e1]at g1
 · cases e2:nc I 24<;>rw[e2]at g2<;>simp-implicitDefEqProofs (disch:=(first|omega|decide)) only[go_sem,↓reduceIte,seval,g1,g2,g3]
 · simp-implicitDefEqProofs (disch:=(first|omega|decide)) only[go_sem,↓reduceIte,seval,g1]
def uB(id:Int)(n:Int)(k:ad):Int:=if k.n=id then max n (eV k.rs)else n
theorem wq{t:Int->List aF}{id n:Int}: ∀k:Nat,(mV t k).foldl (uB id) n=if 1<=id/\id<=k/\(t id).isEmpty=false then max n (eV (t id))else n
 |0=>by rw[if_neg (by omega)];rfl
 |k+1=>by
  simp only[mV]
  by_cases e:id=(k:Int)+1
  · have h0:(mV t k).foldl (uB id) n=n:=by rw[wq k,if_neg (by omega)]
    subst e;split
    · rename_i h1
      rw[h0,if_neg (by rw[h1];simp)]
    · rename_i h1
      rw[List.foldl_append,h0,if_pos ⟨by omega,by push_cast;omega,by simpa using h1⟩]
      simp[uB]
  · have hc:(1<=id/\id<=((k+1:Nat):Int)/\(t id).isEmpty=false) ↔ (1<=id/\id<=(k:Int)/\(t id).isEmpty=false):=by
     constructor
     · rintro⟨h1,h2,h3⟩;exact⟨h1,by omega,h3⟩
     · rintro⟨h1,h2,h3⟩;exact⟨h1,by omega,h3⟩
    split
    · rw[wq k];simp only[hc]
    · rw[List.foldl_append,wq k]
      have: ∀m:Int,List.foldl (uB id) m [⟨(k:Int)+1,t ((k:Int)+1)⟩]=m:=fun m=>by simp[uB];intro h;exact absurd h.symm e
      rw[this];simp only[hc]
theorem fold_of{p:Pc}{id n:Int}(hn:0<=n):(dG p.s).foldl (uB id) n=max n (px p id):=by
 unfold dG mJ px;rw[wq]
 cases hr:bE id with
 |false=>
  rw[if_neg,if_neg (by simp)]
  · omega
  · rintro⟨h1,h2,_⟩
    have:=bL (n:=id)
    rw[hr]at this;simp at this;omega
 |true=>
  have h:=bL.1 hr;rw[if_pos rfl]
  cases he:(cJ (ai (aD p.s id))).isEmpty with
  |false=>rw[if_pos ⟨by omega,by omega,by rfl⟩]
  |true=>
   have e0:cJ (ai (aD p.s id))=[]:=by simpa using he
   rw[if_neg (by simp),e0]
   have:eV []=0:=rfl;rw[this];omega
theorem max_if(a b:Int):(if b>a then b else a)=max a b:=by rw[Int.max_def];split<;>split<;>omega
theorem last_run{rs:List aF}(h:rs≠ []): ∃f,(rs.map aF.enc)[rs.length-1]? =some (.agg [.int .i64 f,.int .i64 (eV rs)]):=by
 have e:rs.getLast? =some (rs.getLast h):=List.getLast?_eq_some_getLast h;refine⟨(rs.getLast h).f, ?_⟩
 rw[List.getElem?_map,<-List.getLast?_eq_getElem?,e]
 unfold eV;rw[e];rfl
theorem ofK_ne{s:List ad}{k:ad}(h:k∈dG s):k.rs≠ []:=(vG h).2.2.2
theorem ofK_rl{s:List ad}{k:ad}(h:k∈dG s):k.rs.length<=1099511627776:=of_len (by have:=(vG h).2.2.1;rw[this];exact ig _)
theorem mostK_nn(k:List Pc)(id:Int):0<=dg k id:=by
 unfold dg
 have: ∀(l:List Pc) (n:Int),0<=n->0<=l.foldl (fun n p=>max n (px p id)) n:=fun l=>by
  induction l with
  |nil=>intro n h;exact h
  |cons p l ih=>intro n h;exact ih _ (by show 0<=max n (px p id);omega)
 exact this k 0 (Int.le_refl _)
theorem EL{k:List Pc}{id:Int}{i:Nat}(h:i<k.length):dg (k.take (i+1)) id=max (dg (k.take i) id) (px k[i] id):=by unfold dg;rw[<-List.take_append_getElem h,List.foldl_append];rfl
theorem UE{k:List Pc}(hk:iI k){p:Pc}(hp:p∈k):mr p.s:=by
 have h1:=hk.2.2 p hp;refine⟨⟨by omega,by omega⟩,fun n=> ?_⟩
 have:=gh p.s n;omega
theorem Hn:ah Tryz.prog uA Tryz.f80.ntmps (Tryz.f80.body.getD .skip)=true:=by kernel_rfl
theorem wu(k:List Pc)(id:Int)(hk:iI k):ay Tryz.prog 80 [.ab (k.map Pc.enc),.int .i64 id] (· = .int .i64 (dg k id)):=by
 refine aa wm mixed Tryz.func80 rfl (Nat.le_of_ble_eq_true rfl) Hn ?_;unfold Tryz.f80;have XE:=hk.1.1.1;simp-implicitDefEqProofs (disch:=(first|omega|decide)) only[go_sem,↓reduceIte,seval,List.length_map]
 have m0:dg (k.take 0) id=0:=rfl;refine ar [0,1] (ι:={i:Nat//i<=k.length}) (fun p=>[(6,.int .i64 p.1),(5,.int .i64 (dg (k.take p.1) id))]) (fun _=>[]) (fun p=>k.length-p.1) ⟨0,by omega⟩ (Nat.zero_le _) ?_ ?_
 · simp-implicitDefEqProofs (disch:=(first|omega|decide)) only[go_sem,↓reduceIte,seval,m0]
   rfl
 · rintro⟨i,hi⟩
   simp only;by_cases aw:i<k.length
   · have ae:(i:Int)<(k.length:Int):=by omega
     have e1:=gz aw;have hm:=UE hk (List.getElem_mem aw)
     have go:=tn k[i].s hm;have hn:=mostK_nn (k.take i) id;have hs:=EL (id:=id) aw;have hf:=fold_of (p:=k[i]) (id:=id) hn;have pO:(dG k[i].s).length<=16:=by unfold dG mJ;exact oT _ 16
     have cg: ∀x∈dG k[i].s,x.rs≠ []:=fun x hx=>ofK_ne hx;have hrl: ∀x∈dG k[i].s,x.rs.length<=1099511627776:=fun x hx=>ofK_rl hx;generalize dG k[i].s=o at*;generalize dg (k.take i) id=n at*;simp-implicitDefEqProofs (disch:=(first|omega|decide)) only[go_sem,↓reduceIte,seval,ae,e1,go,List.length_map]
     refine ar [0,1,6,7] (ι:={j:Nat//j<=o.length}) (fun q=>[(8,.int .i64 q.1),(5,.int .i64 ((o.take q.1).foldl (uB id) n))]) (fun _=>[]) (fun q=>o.length-q.1) ⟨0,by omega⟩ (Nat.zero_le _) ?_ ?_
     · simp-implicitDefEqProofs (disch:=(first|omega|decide)) only[go_sem,↓reduceIte,seval]
       rfl
     · rintro⟨j,hj⟩
       simp only;by_cases hlj:j<o.length
       · have hlj':(j:Int)<(o.length:Int):=by omega
         have e2:=eP hlj;have b9:(o.take (j+1)).foldl (uB id) n=uB id ((o.take j).foldl (uB id) n) o[j]:=by rw[<-List.take_append_getElem hlj,List.foldl_append];rfl
         have hnj:=cg _ (List.getElem_mem hlj)
         have hrj:=hrl _ (List.getElem_mem hlj)
         obtain⟨f,e3⟩:=last_run hnj;have hpos:0<o[j].rs.length:=List.length_pos_iff.2 hnj;generalize(o.take j).foldl (uB id) n=m at*;generalize o[j]=x at*;obtain⟨xn,rs⟩:=x;simp only at e2 e3 hpos b9 hrj;cases h1:xn==id with
         |false=>
          have hne': ¬xn=id:=by simpa using h1
          have ht:uB id m ⟨xn,rs⟩=m:=by unfold uB;rw[if_neg hne']
          rw[ht]at b9;simp-implicitDefEqProofs (disch:=(first|omega|decide)) only[go_sem,↓reduceIte,seval,hlj',e2,h1,wrap_i64,List.length_map]
          exact⟨⟨j+1,hlj⟩,⟨by simp,by rw[b9]⟩,by show o.length-(j+1)<o.length-j;omega⟩
         |true=>
          have he:xn=id:=by simpa using h1
          have ht:uB id m ⟨xn,rs⟩=max m (eV rs):=by unfold uB;rw[if_pos he]
          rw[ht]at b9;have c0:((rs.length:Int)-1).toNat=rs.length-1:=by omega
          have c1:(0:Int)<=(rs.length:Int)-1:=by omega
          have c2:(rs.length:Int)-1<(rs.length:Int):=by omega
          simp-implicitDefEqProofs (disch:=(first|omega|decide)) only[go_sem,↓reduceIte,seval,hlj',e2,e3,h1,c0,c1,c2,max_if,wrap_i64,List.length_map]
          exact⟨⟨j+1,hlj⟩,⟨by simp,by rw[b9]⟩,by show o.length-(j+1)<o.length-j;omega⟩
       · have hlj': ¬(j:Int)<(o.length:Int):=by omega
         obtain rfl:j=o.length:=by omega
         rw[List.take_length,hf,<-hs]
         simp-implicitDefEqProofs (disch:=(first|omega|decide)) only[go_sem,↓reduceIte,seval,hlj',wrap_i64,List.length_map]
         exact⟨⟨i+1,aw⟩,⟨by simp,rfl⟩,by show k.length-(i+1)<k.length-i;omega⟩
   · have ae: ¬(i:Int)<(k.length:Int):=by omega
     rw[List.take_of_length_le (by omega)]
     simp-implicitDefEqProofs (disch:=(first|omega|decide)) only[go_sem,↓reduceIte,seval,ae,List.length_map]
theorem EM:ah Tryz.prog uA Tryz.f81.ntmps (Tryz.f81.body.getD .skip)=true:=by kernel_rfl
theorem tu(l:List It)(hl:l.length<=1000000):ay Tryz.prog 81 [.ab (l.map It.enc)] (· = .bool (c_ l)):=by
 refine aa wm mixed Tryz.func81 rfl (Nat.le_of_ble_eq_true rfl) EM ?_;unfold Tryz.f81;simp-implicitDefEqProofs (disch:=(first|omega|decide)) only[go_sem,↓reduceIte,seval,List.length_map]
 refine ar [0] (ι:={i:Nat//i<=l.length/\ ∀j,j<i->pa l j=false}) (fun p=>[(3,.int .i64 p.1)]) (fun _=>[]) (fun p=>l.length-p.1) ⟨0,by omega,fun j h=>absurd h (Nat.not_lt_zero _)⟩ (Nat.zero_le _) ?_ ?_
 · simp-implicitDefEqProofs (disch:=(first|omega|decide)) only[go_sem,↓reduceIte,seval]
 · rintro⟨i,hi,hd⟩
   simp only;by_cases aw:i<l.length
   · have ae:(i:Int)<(l.length:Int):=by omega
     have ei:=cN aw;have hP:pa l i=(l.take i).any fun y=>decide (y.rep=l[i].rep/\y.bu=l[i].bu):=by unfold pa;rw[List.getElem?_eq_getElem aw]
     have sj:pa l i=true->c_ l=false:=fun h=>by
      unfold c_;rw[List.all_eq_false]
      exact⟨i,List.mem_range.2 aw,by rw[h];simp⟩
     have Rn:(l.take i).length=i:=by rw[List.length_take];omega
     have nk: ∀q (hq:q<i),(l.take i)[q]'(by omega)=l[q]'(by omega):=fun q hq=>List.getElem_take;simp-implicitDefEqProofs (disch:=(first|omega|decide)) only[go_sem,↓reduceIte,seval,ae,List.length_map]
     refine ar [0,3] (ι:={q:Nat//q<=i/\pa l i=(((l.take i).drop q).any fun y=>decide (y.rep=l[i].rep/\y.bu=l[i].bu))}) (fun q=>[(4,.int .i64 q.1)]) (fun _=>[]) (fun q=>i-q.1) ⟨0,by omega,by rw[hP];rfl⟩ (Nat.zero_le _) ?_ ?_
     · simp-implicitDefEqProofs (disch:=(first|omega|decide)) only[go_sem,↓reduceIte,seval]
     · rintro⟨q,hq,zS⟩
       simp only;by_cases hlq:q<i
       · have wv:(q:Int)<(i:Int):=by omega
         have eq':=cN (show q<l.length by omega)
         rw[List.drop_eq_getElem_cons (by omega),List.any_cons,nk q hlq]at zS;have b1:(q:Int)<(l.length:Int):=by omega
         generalize l[q]=y at*;generalize l[i]=z at*;obtain⟨key,rep,bu,bk,prio,dead,body⟩:=y;obtain⟨Pu,Hl,LF,rank',prio',dead',body'⟩:=z;simp only at ei eq' zS;cases h1:Hl==rep with
         |false=>
          have cg:decide (rep=Hl/\bu=LF)=false:=by
           have:Hl≠rep:=by simpa using h1
           simp[Ne.symm this]
          rw[cg,Bool.false_or]at zS;simp-implicitDefEqProofs (disch:=(first|omega|decide)) only[go_sem,↓reduceIte,seval,ae,wv,b1,ei,eq',h1,wrap_i64,List.length_map]
          exact⟨⟨q+1,hlq,zS⟩,by simp,by show i-(q+1)<i-q;omega⟩
         |true=>
          obtain rfl:Hl=rep:=by simpa using h1
          cases h2:LF==bu with
          |false=>
           have cg:decide (Hl=Hl/\bu=LF)=false:=by
              have:LF≠bu:=by simpa using h2
              simp[Ne.symm this]
           rw[cg,Bool.false_or]at zS;simp-implicitDefEqProofs (disch:=(first|omega|decide)) only[go_sem,↓reduceIte,seval,ae,wv,b1,ei,eq',h1,h2,wrap_i64,List.length_map]
           exact⟨⟨q+1,hlq,zS⟩,by simp,by show i-(q+1)<i-q;omega⟩
          |true=>
           obtain rfl:LF=bu:=by simpa using h2
           have he:decide (Hl=Hl/\LF=LF)=true:=by simp
           rw[he,Bool.true_or]at zS;have hh:=sj zS;simp-implicitDefEqProofs (disch:=(first|omega|decide)) only[go_sem,↓reduceIte,seval,ae,wv,b1,ei,eq',h1,h2,hh,wrap_i64,List.length_map]
       · have wv: ¬(q:Int)<(i:Int):=by omega
         rw[List.drop_of_length_le (by omega)]at zS;have zS:pa l i=false:=zS;simp-implicitDefEqProofs (disch:=(first|omega|decide)) only[go_sem,↓reduceIte,seval,wv,wrap_i64,List.length_map]
         exact⟨⟨i+1,aw,fun j hj=>by
          by_cases e:j=i
          · subst e;exact zS
          · exact hd j (by omega)⟩,by simp,by show l.length-(i+1)<l.length-i;omega⟩
   · have ae: ¬(i:Int)<(l.length:Int):=by omega
     have hh:c_ l=true:=by
      unfold c_;rw[List.all_eq_true]
      intro j hj;rw[hd j (by have:=List.mem_range.1 hj;omega)];rfl
     simp-implicitDefEqProofs (disch:=(first|omega|decide)) only[go_sem,↓reduceIte,seval,ae,hh,List.length_map]
def W1:an:=uA.add 14 (entry (fun(s:aI)=>[s.enc]) (fun s=>(s.fl.length<=9223372036854775807/\s.az.length<=9223372036854775807)/\s.kn.length<=9223372036854775807/\ ∀p∈s.kn,p.s.length<=9223372036854775807) (fun s=> .bool (kL s)))
theorem T23a_ok:ag Tryz.prog W1:=wm.bN Tryz.func14 (by kernel_rfl) (by kernel_rfl) fun s h=>wo s h.1.1 h.1.2 h.2.1 h.2.2
@[go_sem] theorem T23a_old{g:FuncId}{xs:List A}(h:g≠14):W1.f g xs=uA.f g xs:=an.ak h
theorem XM(s:aI)(h:(s.fl.length<=9223372036854775807/\s.az.length<=9223372036854775807)/\s.kn.length<=9223372036854775807/\ ∀p∈s.kn,p.s.length<=9223372036854775807):W1.f 14 [s.enc]=some (.bool (kL s)):=an.ao (Γ:=uA) (fun i j h=>by simpa[Prod.ext_iff,and_assoc]using h) s h
def SD:an:=W1.add 80 (entry (fun(v:List Pc×Int)=>[.ab (v.1.map Pc.enc),.int .i64 v.2]) (fun v=>iI v.1) (fun v=> .int .i64 (dg v.1 v.2)))
theorem T23b_ok:ag Tryz.prog SD:=T23a_ok.bN Tryz.func80 (by kernel_rfl) (by kernel_rfl) fun v h=>wu v.1 v.2 h
@[go_sem] theorem T23b_old{g:FuncId}{xs:List A}(h:g≠80):SD.f g xs=W1.f g xs:=an.ak h
theorem A1(v:List Pc×Int)(h:iI v.1):SD.f 80 [.ab (v.1.map Pc.enc),.int .i64 v.2]=some (.int .i64 (dg v.1 v.2)):=an.ao (Γ:=W1) (fun i j h=>by simpa[Prod.ext_iff,and_assoc]using h) v h
def Pw:an:=SD.add 81 (entry (fun(l:List It)=>[.ab (l.map It.enc)]) (fun l=>l.length<=1000000) (fun l=> .bool (c_ l)))
theorem T23c_ok:ag Tryz.prog Pw:=T23b_ok.bN Tryz.func81 (by kernel_rfl) (by kernel_rfl) fun l h=>tu l h
@[go_sem] theorem T23c_old{g:FuncId}{xs:List A}(h:g≠81):Pw.f g xs=SD.f g xs:=an.ak h
theorem yt(l:List It)(h:l.length<=1000000):Pw.f 81 [.ab (l.map It.enc)]=some (.bool (c_ l)):=an.ao (Γ:=SD) (fun i j h=>by simpa[Prod.ext_iff,and_assoc]using h) l h
def W2:an:=Pw.add 76 (entry (fun(l:List ax)=>[.ab (l.map ax.enc)]) (fun l=>l.length<=100000/\dB l) (fun l=> .bool (aP l)))
theorem T23d_ok:ag Tryz.prog W2:=T23c_ok.bN Tryz.func76 (by kernel_rfl) (by kernel_rfl) fun l h=>GI l (Nat.le_trans h.1 (by decide)) h.2
@[go_sem] theorem T23d_old{g:FuncId}{xs:List A}(h:g≠76):W2.f g xs=Pw.f g xs:=an.ak h
@[go_sem] theorem T23d_s:W2.pl Pw:=⟨fun _=>rfl,fun _=>rfl,rfl,fun _=>rfl,rfl,fun _=>rfl,rfl⟩
theorem yu(l:List ax)(h:l.length<=100000/\dB l):W2.f 76 [.ab (l.map ax.enc)]=some (.bool (aP l)):=an.ao (Γ:=Pw) (fun i j h=>by simpa[Prod.ext_iff,and_assoc]using h) l h
theorem s_rMost{k:List Pc}{id:Int}(h:iI k):SD.f 80 [.ab (k.map Pc.enc),.int .i64 id]=some (.int .i64 (dg k id)):=A1 (k,id) h
theorem s_rApart{l:List It}(h:l.length<=1000000):Pw.f 81 [.ab (l.map It.enc)]=some (.bool (c_ l)):=yt l h
theorem Px{l:List ax}(h:l.length<=100000/\dB l):W2.f 76 [.ab (l.map ax.enc)]=some (.bool (aP l)):=yu l h
structure OkS(s:aI):Prop where
 fl:s.fl.length<=8/\dB s.fl
 az:s.az.length<=24/\mM s.az
 kn:s.kn.length<=24/\wP s.kn<=24*272/\ ∀p∈s.kn,p.r.lo.length<=40/\p.r.hi.length<=40
theorem OkS.iI{s:aI}(h:OkS s):iI s.kn:=okR_of (m:=24) h.kn (by omega)
structure il(s:aI):Prop where
 fl:s.fl.length<=500/\dB s.fl
 az:s.az.length<=1000000/\mM s.az
 kn:iI s.kn/\s.kn.length<=500
 rest:cV (aT (bj s.kn s.fl))
theorem OkS.toR{s:aI}(h:OkS s):il s:=by
 have o:=okP_rest (a:=s.kn) (l:=s.fl) (N:=24) (M:=8) (W:=24*272) h.kn.1 h.fl.1 h.kn.2.1 (by omega) (by omega)
 exact⟨⟨by have:=h.fl.1;omega,h.fl.2⟩,⟨by have:=h.az.1;omega,h.az.2⟩,⟨h.iI,by have:=h.kn.1;omega⟩,o.1⟩
theorem EN:ah Tryz.prog W2 Tryz.f21.ntmps (Tryz.f21.body.getD .skip)=true:=by kernel_rfl
theorem Ho(s:aI)(h:il s):ay Tryz.prog 21 [s.enc] (· = .bool (aU s)):=by
 refine aa T23d_ok mixed Tryz.func21 rfl (Nat.le_of_ble_eq_true rfl) EN ?_;unfold Tryz.f21;obtain⟨⟨hf1,Xw⟩,⟨hi1,hi2⟩,⟨lC,VP⟩,hr⟩:=h;have g1:=Px (l:=s.fl) ⟨by omega,Xw⟩
 have g2:=i_rList (l:=s.az) ⟨by omega,hi2⟩
 have g3:=Pt lC.1;have g4:=uz lC Xw ⟨VP,hf1⟩
 have g5:=Ls hr lC.1;have g6:=s_rMost (id:=s.id) lC;have g7:=s_rApart hi1;have g8: ∀x:List UInt8,x.length<=9223372036854775807->Ej.f 36 [.ab (s.fl.map ax.enc),.str x]=some (.bool (aj s.fl x)):=fun x hx=>fE (by omega) Xw hx;have g9: ∀(x:List UInt8) (n c:Int),x.length<=9223372036854775807->AT.f 74 [.ab (s.kn.map Pc.enc),.str x,.agg [.int .i64 n,.int .i64 c]]=some (.bool (bG s.kn x n c)):=fun x n c hx=>EC lC.1 hx;have hR:aU s=(!(decide (s.id<1)||decide (16<s.id))&& !(decide (s.ct<0)||decide (1099511627776<s.ct))&&decide (s.az.length<=4096)&&aP s.fl&&ch s.az&&aR s.kn&&cZ (aT (bj s.kn s.fl)) s.kn&&decide (dg s.kn s.id<=s.ct)&&c_ s.az&&s.az.all fun x=>aj s.fl x.key&&bG s.kn x.key x.rep x.bu):=rfl;rw[hR]
 obtain⟨id,F,I,K,ct⟩:=s;simp only[aI.enc,aI.cells]at*;generalize aT (bj K F)=Q at*;generalize dg K id=m at*;by_cases c1:id<1
 · simp-implicitDefEqProofs (disch:=(first|omega|decide)) only[go_sem,↓reduceIte,seval,c1]
 · by_cases c2:16<id
   · simp-implicitDefEqProofs (disch:=(first|omega|decide)) only[go_sem,↓reduceIte,seval,c1,c2]
   · by_cases c3:ct<0
     · simp-implicitDefEqProofs (disch:=(first|omega|decide)) only[go_sem,↓reduceIte,seval,c1,c2,c3]
     · by_cases c4:1099511627776<ct
       · simp-implicitDefEqProofs (disch:=(first|omega|decide)) only[go_sem,↓reduceIte,seval,c1,c2,c3,c4]
       · by_cases c5:I.length<=4096
         · have MG: ¬(4096:Int)<(I.length:Int):=by omega
           cases d1:aP F with
           |false=>rw[d1]at g1;simp-implicitDefEqProofs (maxSteps:=600000) (disch:=(first|omega|decide)) only[go_sem,↓reduceIte,seval,c1,c2,c3,c4,c5,MG,g1,List.length_map]
           |true=>
            rw[d1]at g1;cases d2:ch I with
            |false=>rw[d2]at g2;simp-implicitDefEqProofs (maxSteps:=600000) (disch:=(first|omega|decide)) only[go_sem,↓reduceIte,seval,c1,c2,c3,c4,c5,MG,g1,g2,List.length_map]
            |true=>
             rw[d2]at g2;cases d3:aR K with
             |false=>rw[d3]at g3;simp-implicitDefEqProofs (maxSteps:=600000) (disch:=(first|omega|decide)) only[go_sem,↓reduceIte,seval,c1,c2,c3,c4,c5,MG,g1,g2,g3,List.length_map]
             |true=>
              rw[d3]at g3;cases d4:cZ Q K with
              |false=>rw[d4]at g5;simp-implicitDefEqProofs (maxSteps:=600000) (disch:=(first|omega|decide)) only[go_sem,↓reduceIte,seval,c1,c2,c3,c4,c5,MG,g1,g2,g3,g4,g5,List.length_map]
              |true=>
               rw[d4]at g5;by_cases d5:m<=ct
               · have d5': ¬ct<m:=by omega
                 cases d6:c_ I with
                 |false=>rw[d6]at g7;simp-implicitDefEqProofs (maxSteps:=600000) (disch:=(first|omega|decide)) only[go_sem,↓reduceIte,seval,c1,c2,c3,c4,c5,MG,g1,g2,g3,g4,g5,g6,g7,d5,d5',List.length_map]
                 |true=>
                  rw[d6]at g7;simp-implicitDefEqProofs (maxSteps:=600000) (disch:=(first|omega|decide)) only[go_sem,↓reduceIte,seval,c1,c2,c3,c4,c5,MG,g1,g2,g3,g4,g5,g6,g7,d5,d5',List.length_map]
                  refine ar [1] (ι:={i:Nat//i<=I.length/\(I.all fun x=>aj F x.key&&bG K x.key x.rep x.bu)=((I.drop i).all fun x=>aj F x.key&&bG K x.key x.rep x.bu)}) (fun p=>[(3,.int .i64 p.1),(2,.bool false)]) (fun p=>[(0,.box [.int .i64 id,.ab (F.map ax.enc),.ab (I.map It.enc),.ab (K.map Pc.enc),.int .i64 ct])]) (fun p=>I.length-p.1) ⟨0,by omega,rfl⟩ (Nat.zero_le _) ?_ ?_
                  · simp-implicitDefEqProofs (disch:=(first|omega|decide)) only[go_sem,↓reduceIte,seval]
                  · rintro⟨i,hi,hd⟩
                    simp only;by_cases aw:i<I.length
                    · have ae:(i:Int)<(I.length:Int):=by omega
                      have ei:=cN aw;have sS:=hi2 _ (List.getElem_mem aw)
                      rw[List.drop_eq_getElem_cons aw,List.all_cons]at hd;generalize I[i]=x at*;obtain⟨key,rep,bu,bk,prio,dead,body⟩:=x;simp only at ei hd;have g8:=g8 key sS.1;have g9:=g9 key rep bu sS.1;cases k1:aj F key with
                      |false=>
                       rw[k1]at g8 hd;rw[Bool.false_and,Bool.false_and]at hd;simp-implicitDefEqProofs (disch:=(first|omega|decide)) only[go_sem,↓reduceIte,seval,ae,ei,g8,hd,List.length_map]
                      |true=>
                       rw[k1]at g8 hd;cases k2:bG K key rep bu with
                       |false=>
                        rw[k2]at g9 hd;rw[Bool.and_false,Bool.false_and]at hd;simp-implicitDefEqProofs (disch:=(first|omega|decide)) only[go_sem,↓reduceIte,seval,ae,ei,g8,g9,hd,List.length_map]
                       |true=>
                        rw[k2]at g9 hd;rw[Bool.and_true,Bool.true_and]at hd;simp-implicitDefEqProofs (disch:=(first|omega|decide)) only[go_sem,↓reduceIte,seval,ae,ei,g8,g9,wrap_i64,List.length_map]
                        exact⟨⟨i+1,aw,hd⟩,by simp,by show I.length-(i+1)<I.length-i;omega⟩
                    · have ae: ¬(i:Int)<(I.length:Int):=by omega
                      rw[List.drop_of_length_le (by omega)]at hd;have hd:(I.all fun x=>aj F x.key&&bG K x.key x.rep x.bu)=true:=hd;simp-implicitDefEqProofs (disch:=(first|omega|decide)) only[go_sem,↓reduceIte,seval,ae,hd,List.length_map]
               · have d5':ct<m:=by omega
                 simp-implicitDefEqProofs (maxSteps:=600000) (disch:=(first|omega|decide)) only[go_sem,↓reduceIte,seval,c1,c2,c3,c4,c5,MG,g1,g2,g3,g4,g5,g6,d5,d5',List.length_map]
         · have MG:(4096:Int)<(I.length:Int):=by omega
           simp-implicitDefEqProofs (disch:=(first|omega|decide)) only[go_sem,↓reduceIte,seval,c1,c2,c3,c4,c5,MG,List.length_map]
end Go.Proofs.YtihgnfmoafjakaaGreat
namespace Go.bo
end Go.bo
namespace Go.Proofs.YtihgnfmoafjakaaGreat
open Go.bo
set_option linter.unusedSimpArgs false
set_option linter.unusedVariables false
set_option maxRecDepth 20000
set_option maxHeartbeats 8000000
end Go.Proofs.YtihgnfmoafjakaaGreat
