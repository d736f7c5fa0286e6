/- What the laws of this claim rest on: the abstract executor, its soundness, and what the functions compute on pure data. No condition. -/
import Derived.Test.YtfnohjheonlnmaaGreatU11
noncomputable section
set_option linter.unusedVariables false
set_option linter.unusedSimpArgs false
namespace Go.Proofs.YtfnohjheonlnmaaGreat
open Go.dF Go.zK
set_option linter.unusedSimpArgs false
set_option linter.unusedVariables false
set_option maxRecDepth 20000
set_option maxHeartbeats 8000000
theorem Om{L:List It}{j:Nat}(h:j<L.length):eA [] (L.take (j+1))=cF (fF (eA [] (L.take j)++eR L[j].key [⟨L[j].rep,L[j].da⟩])):=by
 rw[<-ar h]
 unfold eA;rw[cp];rfl
theorem On(L:List It): ∀j,j<=L.length->cD (eA [] (L.take j))=true/\ ∀x,(setAt (eA [] (L.take j)) x).length+dt (setAt (eA [] (L.take j)) x)<=48*j
 |0,_=>⟨rfl,fun x=>by simp[eA,setAt,dt]⟩
 |j+1,h=>by
  obtain⟨h1,h2⟩:=On L j (by omega)
  rw[Om (by omega)]
  refine⟨km _,fun x=> ?_⟩
  rw[g_ (zD _)]
  have q1:=Of (a:=eA [] (L.take j)) (b:=eR L[j].key [⟨L[j].rep,L[j].da⟩]) (x:=x) (h2 x) (aL (qT _ x) (Ep _ _).2)
  have:=Vj q1;omega
theorem Gz{L:List It}(hr: ∀y∈L,bQ y=true)(hl:L.length<=24):mH (eA [] L)/\(eA [] L).length<=49/\(∀x,(setAt (eA [] L) x).length+dt (setAt (eA [] L) x)<=1152)/\wP (eA [] L)<=49*1168:=by
 obtain⟨h1,h2⟩:=On L L.length (ai _)
 rw[ca]at h1 h2;have h3: ∀x,(setAt (eA [] L) x).length+dt (setAt (eA [] L) x)<=1152:=fun x=>by have:=h2 x;omega
 obtain⟨es,hE,hle⟩:=Ke (P:=fF (eA [] L)) (B:=L.map fun y=>sj y.key) (fun x=>ic _ _) (fun x e hx=>by
  refine rp (ic _ _) (ic _ _) fun n hn c=> ?_;rw[oV hn,oV hn,bS,Gx hn hr,Gx hn hr]
  refine or_congr (by rfl) (exists_congr fun y=>and_congr_right fun hy=> ?_)
  obtain⟨_,k2,_⟩:=nO (hr y hy)
  have:=hx (sj y.key) (bZ.2 ⟨y,hy,rfl⟩)
  rw[Cj k2.2,Cj k2.2]at this;have e1:(x=y.key) ↔ (e=y.key):=by rw[bS]at this;simpa using this
  rw[e1])
 rw[aa]at hle;obtain⟨a,b,_,d⟩:=BB hE (B:=1168) (N:=49) (fun x=>Vj (h3 x)) (by omega) (by decide) (by decide) (by decide)
 rw[jY h1]at a b d;exact⟨a,b,h3,d⟩
theorem has_sub(s t u:bA): ∀x∈eW s t u,x∈cQ s t:=fun x hx=>(aP.1 hx).1
theorem has_len(s t u:bA):(eW s t u).length<=s.bq.length:=aL (aO _ _) (aO _ _)
theorem Kr{s t:bA}{L:List It}(h:Dx s t)(hL:L.length<=24)(hm: ∀x∈L,x∈cQ s t):Vn t L (eA [] L)/\(kM t L (eA [] L)=e9\/mW (kM t L (eA [] L)) 279 1456 48):=by
 have hr: ∀x∈L,bQ x=true:=fun x hx=>(kN h.fs.right (hm x hx)).1;have ho:sS L:=fun x hx=>h.fs.bq.2 x (eS.1 (hm x hx)).1;obtain⟨a,b,c,d⟩:=Gz hr hL;have ht:=h.ft.okR' (by decide) (by decide) (by decide)
 obtain⟨q1,q2,q3⟩:=okT_of (N:=49) (W:=1152) (k:=eA [] L) ht h.ft.fl.1 ⟨by omega,ho⟩ (by have:=h.ft.bq.1;omega) ⟨a,b⟩ c (by omega) (by omega) (by decide) (aL (Vk h.ft.kn.2) (aL (cB _ h.ft.kn.1) (by decide)))
 refine⟨q1, ?_⟩
 by_cases h0:jt t L (eA [] L)=0
 · right
   have e:kM t L (eA [] L)=yJ t (ku t.fl L) (lz t (eA [] L)):=by unfold kM;rw[if_pos h0]
   rw[e]
   exact take_fin (N:=24) (w:=272) (n:=24) (No:=115) (wo:=1168) (nl:=24) h.ft (xe h0) q2 (fun x=>by
    unfold lz;rw[g_ (ny _ _)]
    exact Rc (c x)) ⟨aL (mi _ _) hL,fun x hx=>ho x (aP.1 hx).1⟩ (by decide) (by decide)
 · left;unfold kM;rw[if_neg h0]
def Ks(s t u:bA):Int:=jt t (eW s t u) (eA [] (eW s t u))
def sc(s t u:bA):bA:=kM t (eW s t u) (eA [] (eW s t u))
def sd(s t u:bA):Bool:=(cq s&&cq t)&&(Ks s t u==0&&m_ (sc s t u) u)
structure OkQ(s t u:bA):Prop where
 hx:Yz s t
 hu:(u.fl.length<=100000/\u.bq.length<=1000000)/\eK u.kn
 hp:cq s=true->cq t=true->Dx s t
theorem q_Join1{k:List Pc}{x:It}(h:mH k)(hl:k.length<=500):QF.f 48 [.ay (k.map Pc.enc),.ay ((eR x.key [⟨x.rep,x.da⟩]).map Pc.enc)]=some (.ay ((cF (fF (k++eR x.key [⟨x.rep,x.da⟩]))).map Pc.enc)):=by
 have h1:=Ep x.key ⟨x.rep,x.da⟩
 exact X0 h (ZU ⟨⟨by omega,by omega⟩,Gu _ _⟩ (by omega)) ⟨hl,by omega⟩
theorem q_Add1{k:List Pc}{x:It}(h:mH k)(hl:k.length<=500)(hw:wP k<=100000)(hx:x.key.length<=9223372036854775807):UL.f 85 [.ay (k.map Pc.enc),.str x.key,.ay [.agg [.int .i64 x.rep,.int .i64 x.da]]]=some (.ay ((cF (fF (k++eR x.key [⟨x.rep,x.da⟩]))).map Pc.enc)):=by
 have h1:=Ep x.key ⟨x.rep,x.da⟩
 exact q_Add (l:=[⟨x.rep,x.da⟩]) h.1 (rY h.1 ⟨⟨by omega,by omega⟩,Gu _ _⟩ (by omega) (by omega)) hx (by simp)
theorem MY:aQ Tryz.prog zX Tryz.f33.ntmps (Tryz.f33.body.getD .skip)=true:=by kernel_rfl
theorem Rz(s t u:bA)(h:OkQ s t u):bp Tryz.prog 33 [s.enc,t.enc,u.enc] (· = .bool (sd s t u)):=by
 refine ah u6 mixed Tryz.func33 rfl (ab rfl) MY ?_;unfold Tryz.f33;obtain⟨hX,hu,hp⟩:=h;have g1:=iA s hX.hs;have g2:=iA t hX.ht;have g3:=VA (s:=s) (t:=t) (u:=u) ⟨hX.hs,hX.ht,hu.2⟩
 unfold sd;simp only[bA.enc,bA.cells]at g1 g2⊢;cases c1:cq s with
 |false=>rw[c1]at g1;simp-implicitDefEqProofs (disch:=(first|omega|decide)) only[go_sem,↓reduceIte,seval,g1,aI]
 |true=>
  rw[c1]at g1;cases c2:cq t with
  |false=>rw[c2]at g2;simp-implicitDefEqProofs (disch:=(first|omega|decide)) only[go_sem,↓reduceIte,seval,g1,g2,aI,bN]
  |true=>
   rw[c2]at g2;have hP:=hp c1 c2;have e:hasB s t u=eW s t u:=by unfold hasB eW yf;rw[c1,c2,dO,if_pos rfl]
   rw[e]at g3;have hHl:=has_len s t u;have hHm:=has_sub s t u;have hHr: ∀x∈eW s t u,bQ x=true:=fun x hx=>(kN hP.fs.right (hHm x hx)).1;obtain⟨hT,YQ⟩:=Kr hP (L:=eW s t u) (by have:=hP.fs.bq.1;omega) hHm;have hHo:=hT.hl.2;have gT:=e_Take hT
   have gS:=m_Same (s:=sc s t u) (t:=u) (by
    rcases YQ with h0|h0
    · unfold sc;rw[h0];exact⟨⟨by decide,hu.1.1⟩,⟨by decide,hu.1.2⟩,⟨⟨by decide,by decide⟩,fun p hp=>absurd hp cN⟩,hu.2⟩
    · have f1:=h0.fl.1;have f2:=h0.bq.1
      exact⟨⟨by unfold sc;omega,hu.1.1⟩,⟨by unfold sc;omega,hu.1.2⟩,(h0.eK (by decide) (by decide)).1,hu.2⟩)
   unfold kv at gT
   have gA: ∀j (hj:j<(eW s t u).length),UL.f 85 [.ay ((eA [] ((eW s t u).take j)).map Pc.enc),.str (eW s t u)[j].key,.ay [.agg [.int .i64 (eW s t u)[j].rep,.int .i64 (eW s t u)[j].da]]]=some (.ay ((eA [] ((eW s t u).take (j+1))).map Pc.enc)):=fun j hj=>by
    obtain⟨a,b,_,d⟩:=Gz (L:=(eW s t u).take j) (fun y hy=>hHr y (b_ hy)) (by rw[aK];have:=hP.fs.bq.1;omega)
    rw[Om hj]
    exact q_Add1 a (by omega) (by omega) (hHo _ (ao hj)).1
   have hlen:(eW s t u).length<=24:=by have:=hP.fs.bq.1;omega
   rw[show kM t (eW s t u) (eA [] (eW s t u))=sc s t u from rfl,show jt t (eW s t u) (eA [] (eW s t u))=Ks s t u from rfl]at gT;simp only[bA.enc,bA.cells]at gT;clear hT YQ hHr hHm hHl hP hX hp e;generalize eW s t u=H at*;generalize pr s t u=H2 at*;generalize sc s t u=v at*;generalize Ks s t u=c at*;simp-implicitDefEqProofs (disch:=(first|omega|decide)) only[go_sem,↓reduceIte,seval,g1,g2,g3,aa,aB,dO]
   refine ch 9 4 rfl ?_;refine ui [3] (by simp) (fun n _=>aw n) ?_;simp-implicitDefEqProofs (disch:=(first|omega|decide)) only[go_sem,↓reduceIte,seval]
   refine a_ [4,5,7,30,31] (ι:={j:Nat//j<=H.length}) (fun j=>[(32,.int .i64 j.1),(9,.ay ((eA [] (H.take j.1)).map Pc.enc))]) (fun _=>[]) (fun j=>H.length-j.1) ⟨0,by omega⟩ (aw _) ?_ ?_
   · simp-implicitDefEqProofs (disch:=(first|omega|decide)) only[go_sem,↓reduceIte,seval]
     first|done|(simp[eA];done)|exact⟨rfl,rfl⟩
   · rintro⟨j,hj⟩
     simp only;by_cases mP:j<H.length
     · have ie:(j:Int)<(H.length:Int):=by omega
       have ej:=eG mP;have ga:=gA j mP;generalize H[j]=x at*;simp-implicitDefEqProofs (disch:=(first|omega|decide)) only[go_sem,↓reduceIte,seval,ie,ej,ga,wrap_i64,aa]
       exact⟨⟨j+1,mP⟩,⟨by simp,rfl⟩,by show H.length-(j+1)<H.length-j;omega⟩
     · have ie: ¬(j:Int)<(H.length:Int):=by omega
       rw[ad (by omega)]
       generalize m_ v u=b at*;cases hc:c==0 with
       |false=>simp-implicitDefEqProofs (disch:=(first|omega|decide)) only[go_sem,↓reduceIte,seval,ie,gT,hc,aI,aa]
       |true=>simp-implicitDefEqProofs (disch:=(first|omega|decide)) only[go_sem,↓reduceIte,seval,ie,gT,gS,hc,aB,aa]
def YR:aW:={zX with fS:=fun n=>if n=12 then [[999999,3]]else []}
theorem M42z_ok:aN Tryz.prog YR:=⟨u6.f,u6.hp⟩
@[go_sem] theorem M42z_f:YR.f=zX.f:=rfl
@[go_sem] theorem M42z_eff{g:FuncId}:YR.sg g=false:=rfl
@[go_sem] theorem M42z_fix{n:Nat}:YR.fix n=false:=rfl
@[go_sem] theorem M42z_ords12:YR.fS 12=[[999999,3]]:=rfl
@[go_sem] theorem M42z_ords{n:Nat}(h:n≠12):YR.fS n=[]:=if_neg h
theorem MZ:aQ Tryz.prog YR Tryz.f34.ntmps (Tryz.f34.body.getD .skip)=true:=by kernel_rfl
theorem RA(s t u:bA)(h:OkQ s t u):bp Tryz.prog 34 [s.enc,t.enc,u.enc] (· = .bool (sd s t u)):=by
 refine ah M42z_ok mixed Tryz.func34 rfl (ab rfl) MZ ?_;unfold Tryz.f34;obtain⟨hX,hu,hp⟩:=h;have g1:=dP s hX.hs;have g2:=dP t hX.ht;have g3:=sa ⟨hX.hs,hX.ht⟩
 unfold sd;simp only[bA.enc,bA.cells]at g1 g2⊢;cases c1:cq s with
 |false=>rw[c1]at g1;simp-implicitDefEqProofs (disch:=(first|omega|decide)) only[go_sem,↓reduceIte,seval,g1,aI]
 |true=>
  rw[c1]at g1;cases c2:cq t with
  |false=>rw[c2]at g2;simp-implicitDefEqProofs (disch:=(first|omega|decide)) only[go_sem,↓reduceIte,seval,g1,g2,aI,bN]
  |true=>
   rw[c2]at g2;have hP:=hp c1 c2;have hHl:=has_len s t u;have hHm:=has_sub s t u;obtain⟨hT,YQ⟩:=Kr hP (L:=eW s t u) (by have:=hP.fs.bq.1;omega) hHm;have gT:=Gv hT
   have gS:=e_Same (s:=sc s t u) (t:=u) (by
    rcases YQ with h0|h0
    · unfold sc;rw[h0];exact⟨⟨by decide,by omega⟩,⟨by decide,hu.1.2⟩,⟨⟨by decide,by decide⟩,fun p hp=>absurd hp cN⟩,hu.2⟩
    · have f1:=h0.fl.1;have f2:=h0.bq.1
      exact⟨⟨by unfold sc;omega,by omega⟩,⟨by unfold sc;omega,hu.1.2⟩,(h0.eK (by decide) (by decide)).1,hu.2⟩)
   unfold kv at gT;rw[show kM t (eW s t u) (eA [] (eW s t u))=sc s t u from rfl,show jt t (eW s t u) (eA [] (eW s t u))=Ks s t u from rfl]at gT;have hru: ∀x∈cQ s t,bQ x=true:=fun x hx=>(kN hP.fs.right hx).1;have hou:sS (cQ s t):=fun x hx=>hP.fs.bq.2 x (eS.1 hx).1;have hlu:(cQ s t).length<=24:=aL (aO _ _) hP.fs.bq.1;have gH: ∀(x:List UInt8) (n c:Int),x.length<=9223372036854775807->Bh.f 74 [.ay (u.kn.map Pc.enc),.str x,.agg [.int .i64 n,.int .i64 c]]=some (.bool (dq u.kn x n c)):=fun x n c hx=>zC hu.2 hx;unfold eW at gT;simp only[bA.enc,bA.cells]at gT;have tk: ∀m:List It,(m.map It.enc).take m.length=m.map It.enc:=fun m=>ad (by simp)
   clear hT YQ hHm hHl hP hX hp;generalize sc s t u=v at*;generalize Ks s t u=c at*;generalize cQ s t=U at*;generalize hQ:(fun x:It=>dq u.kn x.key x.rep x.da)=q at*;have hq: ∀x:It,q x=dq u.kn x.key x.rep x.da:=fun x=>by rw[<-hQ]
   have gA: ∀(L:List It) (x:It),L.length<=23->(∀y∈L,bQ y=true)->bQ x=true->QF.f 48 [.ay ((eA [] L).map Pc.enc),.ay ((eR x.key [⟨x.rep,x.da⟩]).map Pc.enc)]=some (.ay ((eA [] (L++[x])).map Pc.enc)):=fun L x hl hr hx=>by
    obtain⟨a,b,_,d⟩:=Gz (L:=L) hr (by omega)
    have:=q_Join1 (x:=x) a (by omega)
    rw[this]
    congr 3
    unfold eA;rw[cp];rfl
   simp-implicitDefEqProofs (disch:=(first|omega|decide)) only[go_sem,↓reduceIte,seval,g1,g2,g3,aa,aB,dO]
   refine ch 7 7 rfl ?_;refine ch 8 4 rfl ?_;refine ui [4] (by simp) (fun n _=>aw n) ?_;simp-implicitDefEqProofs (disch:=(first|omega|decide)) only[go_sem,↓reduceIte,seval]
   refine a_ [4,5,9] (ι:={j:Nat//j<=U.length}) (fun j=>[(10,.int .i64 j.1),(7,.row 3 0 7 ((U.take j.1).filter q).length false),(8,.ay ((eA [] ((U.take j.1).filter q)).map Pc.enc))]) (fun j=>[(3,.row 7 (((U.take j.1).filter q).map It.enc))]) (fun j=>U.length-j.1) ⟨0,by omega⟩ (aw _) ?_ ?_
   · simp-implicitDefEqProofs (disch:=(first|omega|decide)) only[go_sem,↓reduceIte,seval]
     first|done|(simp[eA];done)|exact⟨⟨rfl,rfl,rfl⟩,rfl⟩
   · rintro⟨j,hj⟩
     simp only;by_cases mP:j<U.length
     · have ie:(j:Int)<(U.length:Int):=by omega
       have p1:(0:Int)<=(j:Int):=by omega
       have t1:((j:Nat):Int).toNat=j:=bg _;have ej:=eG mP;have RM:=hou _ (ao mP)
       have hxr:=hru _ (ao mP)
       have fe:(U.take (j+1)).filter q=(U.take j).filter q++(if q U[j]then [U[j]]else []):=jr (f:=q) mP
       have VP:((U.take j).filter q).length<=23:=by
        have:=aO q (U.take j)
        rw[aK]at this;omega
       have VJ: ∀y∈(U.take j).filter q,bQ y=true:=fun y hy=>hru y (b_ (aP.1 hy).1)
       rw[hq U[j]]at fe;generalize U[j]=x at*;have gr:=gH x.key x.rep x.da RM.1;obtain⟨_,_,hv⟩:=nO hxr;have gV:=aao (k:=x.key) (r:=x.rep) (c:=x.da) ⟨RM.1,hv⟩
       obtain⟨G,hG⟩: ∃G,(U.take j).filter q=G:=⟨_,rfl⟩
       have Ya:=tk G;rw[hG]at fe VP VJ⊢;have gJ:=gA G x VP VJ hxr;cases hh:dq u.kn x.key x.rep x.da with
       |true=>
        rw[hh,if_pos rfl]at fe;rw[hh]at gr;simp-implicitDefEqProofs (maxSteps:=600000) (disch:=(first|omega|decide)) only[go_sem,↓reduceIte,seval,ie,p1,t1,ej,gr,gV,gJ,Ya,wrap_i64,aa]
        refine⟨⟨ai _,by omega⟩,⟨j+1,mP⟩,⟨⟨by simp,by rw[fe];simp,by rw[fe]⟩,by rw[fe,<-jG]⟩,by show U.length-(j+1)<U.length-j;omega⟩
       |false=>
        rw[hh]at fe gr;simp only[az,if_false,bj]at fe;simp-implicitDefEqProofs (maxSteps:=600000) (disch:=(first|omega|decide)) only[go_sem,↓reduceIte,seval,ie,p1,t1,ej,gr,wrap_i64,aa]
        exact⟨⟨j+1,mP⟩,⟨⟨by simp,by rw[fe],by rw[fe]⟩,by rw[fe]⟩,by show U.length-(j+1)<U.length-j;omega⟩
     · have ie: ¬(j:Int)<(U.length:Int):=by omega
       rw[ad (by omega)]
       generalize m_ v u=b at*;generalize U.filter q=H at*;have tkH:=tk H;cases hc:c==0 with
       |false=>simp-implicitDefEqProofs (maxSteps:=600000) (disch:=(first|omega|decide)) only[go_sem,↓reduceIte,seval,ie,gT,hc,tkH,ai,aI,aa]
       |true=>simp-implicitDefEqProofs (maxSteps:=600000) (disch:=(first|omega|decide)) only[go_sem,↓reduceIte,seval,ie,gT,gS,hc,tkH,ai,aB,aa]
theorem M0:aQ Tryz.prog zX Tryz.f97.ntmps (Tryz.f97.body.getD .skip)=true:=by kernel_rfl
theorem RB(s:bA)(x:It)(hx:x.key.length<=9223372036854775807/\cm ⟨x.rep,x.da⟩=true)(h:Vn s [x] (eR x.key [⟨x.rep,x.da⟩])):bp Tryz.prog 97 [s.enc,x.enc] (· =kv s [x] (eR x.key [⟨x.rep,x.da⟩])):=by
 refine ah u6 mixed Tryz.func97 rfl (ab rfl) M0 ?_;unfold Tryz.f97;have g1:=aao hx;have g2:=Gv h;obtain⟨u,c,hu⟩: ∃(u:bA) (c:Int),kv s [x] (eR x.key [⟨x.rep,x.da⟩])= .fq [u.enc,.int .i64 c]:=⟨_,_,rfl⟩
 rw[hu]at g2⊢;simp only[bA.enc,bA.cells,It.enc,aS,bD]at*;generalize(eR x.key [⟨x.rep,x.da⟩]).map Pc.enc=O at*;simp-implicitDefEqProofs (disch:=(first|omega|decide)) only[go_sem,↓reduceIte,seval,g1,g2]
def M1:aW:=zX.add 97 (entry (fun(v:bA×It)=>[v.1.enc,v.2.enc]) (fun v=>(v.2.key.length<=9223372036854775807/\cm ⟨v.2.rep,v.2.da⟩=true)/\Vn v.1 [v.2] (eR v.2.key [⟨v.2.rep,v.2.da⟩])) (fun v=>kv v.1 [v.2] (eR v.2.key [⟨v.2.rep,v.2.da⟩])))
theorem M42g_ok:aN Tryz.prog M1:=u6.dH Tryz.func97 (by kernel_rfl) (by kernel_rfl) fun v h=>RB v.1 v.2 h.1 h.2
@[go_sem] theorem M42g_old{g:FuncId}{xs:List A}(h:g≠97):M1.f g xs=zX.f g xs:=aW.aU h
@[go_sem] theorem M42g_s:M1.pl zX:=⟨fun _=>rfl,fun _=>rfl,rfl,fun _=>rfl,rfl,fun _=>rfl,rfl⟩
theorem F5(v:bA×It)(h:(v.2.key.length<=9223372036854775807/\cm ⟨v.2.rep,v.2.da⟩=true)/\Vn v.1 [v.2] (eR v.2.key [⟨v.2.rep,v.2.da⟩])):M1.f 97 [v.1.enc,v.2.enc]=some (kv v.1 [v.2] (eR v.2.key [⟨v.2.rep,v.2.da⟩])):=aW.aZ (Γ:=zX) (fun i j h=>by simpa[ag,and_assoc]using h) v h
theorem m_lone{s:bA}{x:It}(h:(x.key.length<=9223372036854775807/\cm ⟨x.rep,x.da⟩=true)/\Vn s [x] (eR x.key [⟨x.rep,x.da⟩])):M1.f 97 [.agg [.int .i64 s.id,.ay (s.fl.map bk.enc),.ay (s.bq.map It.enc),.ay (s.kn.map Pc.enc),.int .i64 s.ct],.agg [.str x.key,.int .i64 x.rep,.int .i64 x.da,.int .i64 x.du,.int .i64 x.prio,.bool x.dead,.str x.body]]=some (kv s [x] (eR x.key [⟨x.rep,x.da⟩])):=F5 (s,x) h
def bitZ(pick:Int)(i:Nat):Bool:=IntKind.u32.wrap ((BitVec.ofInt 32 (pick.fdiv (2^min ((i:Int).tmod 32).toNat 32))&&&1#32).toNat:Int)==0
def od(pick:Int):Nat->List It->bA->bA×Int
 |_,[],p=>(p,0)
 |i,x::U,p=>if bitZ pick i=true then od pick (i+1) U p else if jt p [x] (eR x.key [⟨x.rep,x.da⟩])=0 then od pick (i+1) U (kM p [x] (eR x.key [⟨x.rep,x.da⟩]))else(p,jt p [x] (eR x.key [⟨x.rep,x.da⟩]))
structure OkM(s t:bA):Prop where
 hs:fV s
 ht:fV t
 rs:dg s
 rt:dg t
 step: ∀p L,mj s t p L-> ∀x∈cQ s t,Vn p [x] (eR x.key [⟨x.rep,x.da⟩])
theorem u7{s t:bA}(pick:Int)(hs:dg s): ∀(n i:Nat) (p:bA) (L:List It),n+i=(cQ s t).length->mj s t p L->L.Sublist ((cQ s t).take i)-> ∃L',mj s t (od pick i ((cQ s t).drop i) p).1 L'
 |0,i,p,L,hn,h,hL=>by
  rw[aC (by omega)]
  exact⟨L,h⟩
 |n+1,i,p,L,hn,h,hL=>by
  have hi:i<(cQ s t).length:=by omega
  rw[ax hi]
  unfold od;split
  · exact u7 pick hs n (i+1) p L (by omega) h (hL.trans (kO (rG i)))
  · split
    · rename_i h0
      obtain⟨a,b⟩:=Kp hs h hi rfl hL h0;exact u7 pick hs n (i+1) _ _ (by omega) a b
    · exact⟨L,h⟩
theorem M3:aQ Tryz.prog M1 Tryz.f45.ntmps (Tryz.f45.body.getD .skip)=true:=by kernel_rfl
theorem RC(s t:bA)(pick:Int)(h:OkM s t):bp Tryz.prog 45 [s.enc,t.enc,.int .u32 pick] (· = .fq [(od pick 0 (cQ s t) t).1.enc,.int .i64 (od pick 0 (cQ s t) t).2]):=by
 refine ah M42g_ok mixed Tryz.func45 rfl (ab rfl) M3 ?_;unfold Tryz.f45;obtain⟨hs,ht,rs,rt,eO⟩:=h;have g1:=sa ⟨hs,ht⟩
 have hln:(cQ s t).length<=1000000:=aL (aO _ _) hs.bq.1;have hA0:=Dv (s:=s) rt
 have iB: ∀{p:bA} {L:List It} {i:Nat} (h:mj s t p L) (hi:i<(cQ s t).length) (hL:L.Sublist ((cQ s t).take i)),∃(q:bA) (c:Int),
  M1.f 97 [.agg [.int .i64 p.id,.ay (p.fl.map bk.enc),.ay (p.bq.map It.enc),.ay (p.kn.map Pc.enc),.int .i64 p.ct],(cQ s t)[i].enc]=some (.fq [.agg [.int .i64 q.id,.ay (q.fl.map bk.enc),.ay (q.bq.map It.enc),.ay (q.kn.map Pc.enc),.int .i64 q.ct],.int .i64 c])/\
  (c=0->mj s t q (L++[(cQ s t)[i]])/\(L++[(cQ s t)[i]]).Sublist ((cQ s t).take (i+1)))/\
  (od pick i ((cQ s t).drop i) p=if bitZ pick i=true then od pick (i+1) ((cQ s t).drop (i+1)) p else if c=0 then od pick (i+1) ((cQ s t).drop (i+1)) q else(p,c)):=fun{p L i} h hi hL=>by
  have hxm:(cQ s t)[i]∈cQ s t:=ao _;obtain⟨hr,_⟩:=kN rs hxm;obtain⟨_,k2,k3⟩:=nO hr;have RM:=hs.bq.2 _ (eS.1 hxm).1;have e1:=m_lone ⟨⟨RM.1,k3⟩,eO p L h _ hxm⟩
  unfold kv at e1;refine⟨_,_,e1,fun h0=>Kp rs h hi rfl hL h0, ?_⟩
  rw[ax hi]
  rfl
 simp only[bA.enc,bA.cells]
 clear eO hs ht rs rt;generalize cQ s t=U at*;obtain⟨Z,hZ⟩: ∃Z,od pick 0 U t=Z:=⟨_,rfl⟩
 rw[hZ]
 simp-implicitDefEqProofs (disch:=(first|omega|decide)) only[go_sem,↓reduceIte,seval,g1,aa]
 refine a_ [2,3,4,6,7,14,15] (ι:={p:Nat×List It×bA//p.1<=U.length/\(mj s t p.2.2 p.2.1/\p.2.1.Sublist (U.take p.1))/\od pick p.1 (U.drop p.1) p.2.2=Z}) (fun p=>[(16,.int .i64 p.1.1)]) (fun p=>[(1,.box [.int .i64 p.1.2.2.id,.ay (p.1.2.2.fl.map bk.enc),.ay (p.1.2.2.bq.map It.enc),.ay (p.1.2.2.kn.map Pc.enc),.int .i64 p.1.2.2.ct])]) (fun p=>U.length-p.1.1) ⟨(0,[],t),by omega,⟨hA0,nj _⟩,hZ⟩ (aw _) ?_ ?_
 · simp-implicitDefEqProofs (disch:=(first|omega|decide)) only[go_sem,↓reduceIte,seval]
   try rfl
 · rintro⟨⟨i,L,p⟩,hi,⟨hA,hL⟩,hE⟩
   simp only at hi hA hL hE⊢;by_cases bo:i<U.length
   · have aH:(i:Int)<(U.length:Int):=by omega
     have ei:=eG bo;obtain⟨q,c,s1,s2,s3⟩:=iB hA bo hL;rw[hE]at s3;generalize U[i]=x at*;simp only[It.enc]at s1;have hrem: ¬(i:Int).tmod 32<0:=by have:=Int.tmod_nonneg 32 (show(0:Int)<=(i:Int) by omega);omega
     simp-implicitDefEqProofs (maxSteps:=600000) (disch:=(first|omega|decide)) only[go_sem,↓reduceIte,seval,aH,ei,hrem,wrap_i64,aa]
     show(bitZ pick i=true->_)/\(bitZ pick i=false->_)
     refine⟨fun hb=> ?_,fun hb=> ?_⟩
     · rw[hb,if_pos rfl]at s3
       exact⟨⟨(i+1,L,p),bo,⟨hA,hL.trans (kO (rG i))⟩,s3.symm⟩,⟨by simp,rfl,rfl,rfl,rfl,rfl⟩,by show U.length-(i+1)<U.length-i;omega⟩
     · rw[hb,if_neg (by simp)]at s3
       cases hc:c==0 with
       |true=>
        have h0:c=0:=by simpa using hc
        rw[if_pos h0]at s3;obtain⟨t1,t2⟩:=s2 h0;simp-implicitDefEqProofs (maxSteps:=600000) (disch:=(first|omega|decide)) only[go_sem,↓reduceIte,seval,s1,hc,wrap_i64,aa]
        exact⟨⟨(i+1,L++[x],q),bo,⟨t1,t2⟩,s3.symm⟩,⟨by simp,rfl,rfl,rfl,rfl,rfl⟩,by show U.length-(i+1)<U.length-i;omega⟩
       |false=>
        have h0: ¬c=0:=by simpa using hc
        rw[if_neg h0]at s3;subst s3;simp-implicitDefEqProofs (maxSteps:=600000) (disch:=(first|omega|decide)) only[go_sem,↓reduceIte,seval,s1,hc,wrap_i64,aa]
   · have aH: ¬(i:Int)<(U.length:Int):=by omega
     rw[aC (by omega)]at hE;subst hE;simp only[od]
     simp-implicitDefEqProofs (maxSteps:=600000) (disch:=(first|omega|decide)) only[go_sem,↓reduceIte,seval,aH,aa]
def YS:aW:=M1.add 45 (entry (fun(v:bA×bA×Int)=>[v.1.enc,v.2.1.enc,.int .u32 v.2.2]) (fun v=>OkM v.1 v.2.1) (fun v=> .fq [(od v.2.2 0 (cQ v.1 v.2.1) v.2.1).1.enc,.int .i64 (od v.2.2 0 (cQ v.1 v.2.1) v.2.1).2]))
theorem M42h_ok:aN Tryz.prog YS:=M42g_ok.dH Tryz.func45 (by kernel_rfl) (by kernel_rfl) fun v h=>RC v.1 v.2.1 v.2.2 h
@[go_sem] theorem M42h_old{g:FuncId}{xs:List A}(h:g≠45):YS.f g xs=M1.f g xs:=aW.aU h
theorem F6(v:bA×bA×Int)(h:OkM v.1 v.2.1):YS.f 45 [v.1.enc,v.2.1.enc,.int .u32 v.2.2]=some (.fq [(od v.2.2 0 (cQ v.1 v.2.1) v.2.1).1.enc,.int .i64 (od v.2.2 0 (cQ v.1 v.2.1) v.2.1).2]):=aW.aZ (Γ:=M1) (fun i j h=>by simpa[ag,and_assoc]using h) v h
theorem m_some{s t:bA}{pick:Int}(h:OkM s t):YS.f 45 [.agg [.int .i64 s.id,.ay (s.fl.map bk.enc),.ay (s.bq.map It.enc),.ay (s.kn.map Pc.enc),.int .i64 s.ct],.agg [.int .i64 t.id,.ay (t.fl.map bk.enc),.ay (t.bq.map It.enc),.ay (t.kn.map Pc.enc),.int .i64 t.ct],.int .u32 pick]=some (.fq [(od pick 0 (cQ s t) t).1.enc,.int .i64 (od pick 0 (cQ s t) t).2]):=F6 (s,t,pick) h
theorem Oo{s t:bA}(hs:dg s):mn s t (lQ s t)=[]:=by unfold mn;refine cy.2 fun x hx=> ?_;obtain⟨m1,m2,_⟩:=eS.1 hx;obtain⟨k1,k2⟩:=oZ hs m1;rw[iq k1,sync_kn k1,m2,k2];simp
theorem Oq(s t:bA):mn s t t=cQ s t:=dv.2 fun x hx=>by rw[(eS.1 hx).2.2];rfl
theorem has_self(s t:bA):eW s t t=[]:=cy.2 fun x hx=>by rw[(eS.1 hx).2.2];simp
theorem atP_nil(x:List UInt8):fF [] x=[]:=rp (ic _ _) rfl fun n hn c=>by rw[oV hn];rfl
theorem own_nil(t:bA):lz t []=[]:=setP_none fun x=>by
 unfold c7;split
 · exact atP_nil x
 · rfl
theorem Ot{t:bA}(ht:dg t):jt t [] []=0/\kM t [] []=t:=by
 have hm:bM (t.bq++ku t.fl [])=t.bq:=by show bM (t.bq++[])=_;rw[bj];exact zN ht.right ht.up
 have h0:jt t [] []=0:=by have hct:=ht.ct;have hlen:=ht.len;unfold jt;rw[hm,own_nil,(dN t).2 ht,rq.2 ht.apart,if_neg (by simp),if_neg (by decide),if_neg (by show¬false=true;simp),if_neg (by show¬t.ct<0;omega),if_neg (by simp),if_neg (by omega)]
 refine⟨h0, ?_⟩
 unfold kM yJ;rw[if_pos h0,hm,own_nil,bj,jY ht.kn]
theorem part_self{s t:bA}(hs:dg s)(ht:dg t):sd s t t=true:=by unfold sd Ks sc;rw[has_self,show eA [] []=[]from rfl,(Ot ht).1,(Ot ht).2,(dN s).2 hs,(dN t).2 ht,pL.2 rfl];rfl
def qn:bA:=⟨2,[YF],[],[],0⟩
theorem xU:mW qn 0 0 0:=st0_fin (by decide) (by decide) ⟨by decide,fun r hr=>by obtain rfl:=bc.1 hr;simp[YF,bk.ok]⟩
theorem RD:cQ ti qn=[⟨[97],1,1,1,0,false,[120]⟩]:=by
 unfold cQ;rw[ax1_its]
 rfl
theorem Kt:bM ([]++[⟨[97],1,1,1,0,false,[120]⟩])=[⟨[97],1,1,1,0,false,[120]⟩]:=zN (fun x hx=>by obtain rfl:=bc.1 hx;decide) (by simp)
theorem at_ok:zO ti qn:=by
 refine⟨fun x c hc=> ?_, ?_, ?_⟩
 · have hn:dJ (2:Int)=true:=by decide
   have hc:hk (setAt (dL ti qn) x) 2 c=true:=hc;rw[t_ hn,ak]at hc;have h1:hk (setAt (cF (fF ([]++eR [97] [⟨1,1⟩]))) x) 2 c=true:=hc.2;rw[iF hn,bE]at h1;rcases h1 with h1|h1
   · obtain⟨p,hp,_⟩:=te.1 h1;cases hp
   · have:=((JK (by decide) (by decide) hn).1 h1).2.1
     cases this
 · rw[RD]
   show(bM ([]++_)).Pairwise _;rw[Kt];simp
 · rw[RD]
   show(bM ([]++_)).length<=4096;rw[Kt];decide
theorem at_its:(lQ ti qn).bq=[⟨[97],1,1,1,0,false,[120]⟩]:=by show bM ([]++cQ ti qn)=_;rw[RD];exact Kt
theorem xV:qb ti qn=0/\lR ti qn=lQ ti qn:=by
 obtain⟨e1,e2⟩:=xg o4.right xU.right;have h0:qb ti qn=0:=by rw[e1];exact(xS o4.right xU.right).2 at_ok
 exact⟨h0,e2 h0⟩
theorem at_sm:Sm ti (pq ti qn) 48 1/\Sm qn (pq ti qn) 0 0/\Sm (lQ ti qn) (pq ti qn) 80 1/\(∀r∈qn.fl,r∈pq ti qn)/\(pq ti qn).length<=64:=by obtain⟨b1,b2,_,b4⟩:=BC o4 xU;exact⟨b1,b2,sm_sync b1 b2 b4 at_ok,b4,xT ⟨by have:=o4.kn.1;omega,by decide⟩ ⟨by decide,by decide⟩⟩
theorem VD:qm ti qn (lQ ti qn)=true/\qm ti qn qn=false:=by
 unfold qm;rw[xV.1,xV.2,pL.2 rfl]
 refine⟨rfl, ?_⟩
 cases h:m_ (lQ ti qn) qn with
 |false=>rfl
 |true=>
  have e:=pL.1 h;have:=at_its;rw[e]at this;cases this
theorem at_bound:ma ti qn=4:=by
 have e:ku qn.fl ti.bq=[⟨[97],1,1,1,0,false,[120]⟩]:=by rw[ax1_its];rfl
 unfold ma;rw[e]
 simp[o5]
theorem YT{s t:bA}{L:List It}(hs:dg s)(hL:L.Sublist (cQ s t))(h0:jt t L (eA [] L)=0):mj s t (kM t L (eA [] L)) L:=by
 have hm: ∀x∈L,x∈cQ s t:=fun x hx=>hL.subset hx;have hr: ∀x∈L,bQ x=true:=fun x hx=>(kN hs (hm x hx)).1;have hi:ku t.fl L=L:=dv.2 fun x hx=>(kN hs (hm x hx)).2;have hR:=xe h0;have e:kM t L (eA [] L)=yJ t (ku t.fl L) (lz t (eA [] L)):=by unfold kM;rw[if_pos h0]
 rw[e]
 refine⟨hR,rfl,rfl,rfl,by show bM (t.bq++ku t.fl L)=_;rw[hi],hL,fun z n hn c=> ?_⟩
 show hk (setAt (cF (fF (t.kn++lz t (eA [] L)))) z) n c=true ↔ _;rw[iF hn,bE]
 refine or_congr Iff.rfl ?_;unfold lz;rw[g_ (ny _ _),wY hn,ak,Gx hn hr]
 constructor
 · rintro⟨_,g|g⟩
   · obtain⟨p,hp,_⟩:=te.1 g;cases hp
   · exact g
 · rintro⟨y,hy,g1,g2,g3⟩
   exact⟨by rw[g1];exact(kN hs (hm y hy)).2,.inr ⟨y,hy,g1,g2,g3⟩⟩
theorem Dx.ahead{s t p:bA}{L:List It}(h:Dx s t)(hA:mj s t p L):Sm p (Kq s t (cQ s t)) 1056 48/\Sm s (Kq s t (cQ s t)) 272 24/\(∀r∈p.fl,r∈Kq s t (cQ s t))/\(Kq s t (cQ s t)).length<=88:=by obtain⟨b1,b2,b3,b4,b5⟩:=h.base;exact⟨ahead_sm h.fs h.ft (by decide) (by decide) (by decide) hA,b1.mono (fun r hr=>aJ.2 (.inl hr)) (by decide) (by decide),fun r hr=>aJ.2 (.inl (b4 r (by rw[<-hA.fl];exact hr))),base3_len h.fs h.ft (by decide)⟩
theorem Dx.YU{s t p:bA}{L:List It}(h:Dx s t)(hA:mj s t p L):Yz s p:=by obtain⟨a,b,c,d⟩:=h.ahead hA;exact okX_of b a c (by omega) (by decide) (by decide) (by decide) (by decide)
theorem Dx.someM{s t p:bA}{L:List It}(h:Dx s t)(hA:mj s t p L):OkM s p:=by
 have hX:=h.YU hA;refine⟨hX.hs,hX.ht,h.fs.right,hA.right,fun q M hq x hx=> ?_⟩
 obtain⟨L',h',_⟩:=Ki h.fs.right hA hq;obtain⟨a,_,_,d⟩:=h.ahead h';exact okT_one a (by omega) (h.fs.bq.2 x (eS.1 hx).1)
theorem bound_le{s b t:bA}(hf:b.fl=t.fl)(hd:om s b<=om s t):ma s b<=ma s t:=by
 unfold ma;rw[hf]
 have h1:(2*(om s b:Int))<=2*(om s t:Int):=by omega
 have h2:=Int.mul_le_mul_of_nonneg_right h1 (show(0:Int)<=(o5 (ku t.fl s.bq).length:Int) by omega)
 omega
def RE:aW:=YS.add 38 (entry (fun(v:bA×bA×bA)=>[v.1.enc,v.2.1.enc,v.2.2.enc]) (fun v=>fV v.1/\fV v.2.1/\eK v.2.2.kn) (fun v=> .ay ((pr v.1 v.2.1 v.2.2).map It.enc)))
theorem M42i_ok:aN Tryz.prog RE:=M42h_ok.dH Tryz.func38 (by kernel_rfl) (by kernel_rfl) fun v h=>Rr v.1 v.2.1 v.2.2 h.1 h.2.1 h.2.2
@[go_sem] theorem M42i_old{g:FuncId}{xs:List A}(h:g≠38):RE.f g xs=YS.f g xs:=aW.aU h
theorem F7(v:bA×bA×bA)(h:fV v.1/\fV v.2.1/\eK v.2.2.kn):RE.f 38 [v.1.enc,v.2.1.enc,v.2.2.enc]=some (.ay ((pr v.1 v.2.1 v.2.2).map It.enc)):=aW.aZ (Γ:=YS) (fun i j h=>by simpa[ag,and_assoc]using h) v h
def VE:aW:=RE.add 35 (entry (fun(v:bA×bA×bA)=>[v.1.enc,v.2.1.enc,v.2.2.enc]) (fun v=>OkW v.1 v.2.1 v.2.2) (fun v=> .bool (qm v.1 v.2.1 v.2.2)))
theorem M42j_ok:aN Tryz.prog VE:=M42i_ok.dH Tryz.func35 (by kernel_rfl) (by kernel_rfl) fun v h=>MU v.1 v.2.1 v.2.2 h
@[go_sem] theorem M42j_old{g:FuncId}{xs:List A}(h:g≠35):VE.f g xs=RE.f g xs:=aW.aU h
theorem Dy(v:bA×bA×bA)(h:OkW v.1 v.2.1 v.2.2):VE.f 35 [v.1.enc,v.2.1.enc,v.2.2.enc]=some (.bool (qm v.1 v.2.1 v.2.2)):=aW.aZ (Γ:=RE) (fun i j h=>by simpa[ag,and_assoc]using h) v h
def VF:aW:=VE.add 33 (entry (fun(v:bA×bA×bA)=>[v.1.enc,v.2.1.enc,v.2.2.enc]) (fun v=>OkQ v.1 v.2.1 v.2.2) (fun v=> .bool (sd v.1 v.2.1 v.2.2)))
theorem M42k_ok:aN Tryz.prog VF:=M42j_ok.dH Tryz.func33 (by kernel_rfl) (by kernel_rfl) fun v h=>Rz v.1 v.2.1 v.2.2 h
@[go_sem] theorem M42k_old{g:FuncId}{xs:List A}(h:g≠33):VF.f g xs=VE.f g xs:=aW.aU h
theorem F8(v:bA×bA×bA)(h:OkQ v.1 v.2.1 v.2.2):VF.f 33 [v.1.enc,v.2.1.enc,v.2.2.enc]=some (.bool (sd v.1 v.2.1 v.2.2)):=aW.aZ (Γ:=VE) (fun i j h=>by simpa[ag,and_assoc]using h) v h
def YV:aW:=VF.add 34 (entry (fun(v:bA×bA×bA)=>[v.1.enc,v.2.1.enc,v.2.2.enc]) (fun v=>OkQ v.1 v.2.1 v.2.2) (fun v=> .bool (sd v.1 v.2.1 v.2.2)))
theorem M42l_ok:aN Tryz.prog YV:=M42k_ok.dH Tryz.func34 (by kernel_rfl) (by kernel_rfl) fun v h=>RA v.1 v.2.1 v.2.2 h
@[go_sem] theorem M42l_old{g:FuncId}{xs:List A}(h:g≠34):YV.f g xs=VF.f g xs:=aW.aU h
theorem F9(v:bA×bA×bA)(h:OkQ v.1 v.2.1 v.2.2):YV.f 34 [v.1.enc,v.2.1.enc,v.2.2.enc]=some (.bool (sd v.1 v.2.1 v.2.2)):=aW.aZ (Γ:=VF) (fun i j h=>by simpa[ag,and_assoc]using h) v h
def YW:aW:=YV.add 44 (entry (fun(v:bA×bA×bA)=>[v.1.enc,v.2.1.enc,v.2.2.enc]) (fun v=>fV v.1/\fV v.2.1/\eK v.2.2.kn) (fun v=> .ay ((mn v.1 v.2.1 v.2.2).map It.enc)))
theorem M42m_ok:aN Tryz.prog YW:=M42l_ok.dH Tryz.func44 (by kernel_rfl) (by kernel_rfl) fun v h=>Rs v.1 v.2.1 v.2.2 h.1 h.2.1 h.2.2
@[go_sem] theorem M42m_old{g:FuncId}{xs:List A}(h:g≠44):YW.f g xs=YV.f g xs:=aW.aU h
theorem F_(v:bA×bA×bA)(h:fV v.1/\fV v.2.1/\eK v.2.2.kn):YW.f 44 [v.1.enc,v.2.1.enc,v.2.2.enc]=some (.ay ((mn v.1 v.2.1 v.2.2).map It.enc)):=aW.aZ (Γ:=YV) (fun i j h=>by simpa[ag,and_assoc]using h) v h
def VG:aW:=YW.add 41 (entry (fun(v:bA×bA)=>[v.1.enc,v.2.enc]) (fun v=>(fV v.1/\fV v.2)/\v.1.bq.length<=64/\v.2.bq.length<=100) (fun v=> .int .i64 (ma v.1 v.2)))
theorem M42n_ok:aN Tryz.prog VG:=M42m_ok.dH Tryz.func41 (by kernel_rfl) (by kernel_rfl) fun v h=>MW v.1 v.2 h.1.1 h.1.2 h.2.1 h.2.2
@[go_sem] theorem M42n_old{g:FuncId}{xs:List A}(h:g≠41):VG.f g xs=YW.f g xs:=aW.aU h
theorem Dz(v:bA×bA)(h:(fV v.1/\fV v.2)/\v.1.bq.length<=64/\v.2.bq.length<=100):VG.f 41 [v.1.enc,v.2.enc]=some (.int .i64 (ma v.1 v.2)):=aW.aZ (Γ:=YW) (fun i j h=>by simpa[ag,and_assoc]using h) v h
def M4:aW:=VG.add 42 (entry (fun(v:bA×bA)=>[v.1.enc,v.2.enc]) (fun v=>(fV v.1/\fV v.2)/\v.1.bq.length<=64/\v.2.bq.length<=100) (fun v=> .int .i64 (ma v.1 v.2)))
theorem M42o_ok:aN Tryz.prog M4:=M42n_ok.dH Tryz.func42 (by kernel_rfl) (by kernel_rfl) fun v h=>MX v.1 v.2 h.1.1 h.1.2 h.2.1 h.2.2
@[go_sem] theorem M42o_old{g:FuncId}{xs:List A}(h:g≠42):M4.f g xs=VG.f g xs:=aW.aU h
@[go_sem] theorem M42o_s:M4.pl VG:=⟨fun _=>rfl,fun _=>rfl,rfl,fun _=>rfl,rfl,fun _=>rfl,rfl⟩
theorem DA(v:bA×bA)(h:(fV v.1/\fV v.2)/\v.1.bq.length<=64/\v.2.bq.length<=100):M4.f 42 [v.1.enc,v.2.enc]=some (.int .i64 (ma v.1 v.2)):=aW.aZ (Γ:=VG) (fun i j h=>by simpa[ag,and_assoc]using h) v h
theorem xi{s t u:bA}(h:fV s/\fV t/\eK u.kn):RE.f 38 [.agg [.int .i64 s.id,.ay (s.fl.map bk.enc),.ay (s.bq.map It.enc),.ay (s.kn.map Pc.enc),.int .i64 s.ct],.agg [.int .i64 t.id,.ay (t.fl.map bk.enc),.ay (t.bq.map It.enc),.ay (t.kn.map Pc.enc),.int .i64 t.ct],.agg [.int .i64 u.id,.ay (u.fl.map bk.enc),.ay (u.bq.map It.enc),.ay (u.kn.map Pc.enc),.int .i64 u.ct]]=some (.ay ((pr s t u).map It.enc)):=F7 (s,t,u) h
theorem GA{s t u:bA}(h:OkW s t u):VE.f 35 [.agg [.int .i64 s.id,.ay (s.fl.map bk.enc),.ay (s.bq.map It.enc),.ay (s.kn.map Pc.enc),.int .i64 s.ct],.agg [.int .i64 t.id,.ay (t.fl.map bk.enc),.ay (t.bq.map It.enc),.ay (t.kn.map Pc.enc),.int .i64 t.ct],.agg [.int .i64 u.id,.ay (u.fl.map bk.enc),.ay (u.bq.map It.enc),.ay (u.kn.map Pc.enc),.int .i64 u.ct]]=some (.bool (qm s t u)):=Dy (s,t,u) h
theorem YX{s t u:bA}(h:OkQ s t u):VF.f 33 [.agg [.int .i64 s.id,.ay (s.fl.map bk.enc),.ay (s.bq.map It.enc),.ay (s.kn.map Pc.enc),.int .i64 s.ct],.agg [.int .i64 t.id,.ay (t.fl.map bk.enc),.ay (t.bq.map It.enc),.ay (t.kn.map Pc.enc),.int .i64 t.ct],.agg [.int .i64 u.id,.ay (u.fl.map bk.enc),.ay (u.bq.map It.enc),.ay (u.kn.map Pc.enc),.int .i64 u.ct]]=some (.bool (sd s t u)):=F8 (s,t,u) h
theorem m_rPart{s t u:bA}(h:OkQ s t u):YV.f 34 [.agg [.int .i64 s.id,.ay (s.fl.map bk.enc),.ay (s.bq.map It.enc),.ay (s.kn.map Pc.enc),.int .i64 s.ct],.agg [.int .i64 t.id,.ay (t.fl.map bk.enc),.ay (t.bq.map It.enc),.ay (t.kn.map Pc.enc),.int .i64 t.ct],.agg [.int .i64 u.id,.ay (u.fl.map bk.enc),.ay (u.bq.map It.enc),.ay (u.kn.map Pc.enc),.int .i64 u.ct]]=some (.bool (sd s t u)):=F9 (s,t,u) h
theorem m_rLeft{s t u:bA}(h:fV s/\fV t/\eK u.kn):YW.f 44 [.agg [.int .i64 s.id,.ay (s.fl.map bk.enc),.ay (s.bq.map It.enc),.ay (s.kn.map Pc.enc),.int .i64 s.ct],.agg [.int .i64 t.id,.ay (t.fl.map bk.enc),.ay (t.bq.map It.enc),.ay (t.kn.map Pc.enc),.int .i64 t.ct],.agg [.int .i64 u.id,.ay (u.fl.map bk.enc),.ay (u.bq.map It.enc),.ay (u.kn.map Pc.enc),.int .i64 u.ct]]=some (.ay ((mn s t u).map It.enc)):=F_ (s,t,u) h
theorem GB{s t:bA}(h:(fV s/\fV t)/\s.bq.length<=64/\t.bq.length<=100):VG.f 41 [.agg [.int .i64 s.id,.ay (s.fl.map bk.enc),.ay (s.bq.map It.enc),.ay (s.kn.map Pc.enc),.int .i64 s.ct],.agg [.int .i64 t.id,.ay (t.fl.map bk.enc),.ay (t.bq.map It.enc),.ay (t.kn.map Pc.enc),.int .i64 t.ct]]=some (.int .i64 (ma s t)):=Dz (s,t) h
theorem m_rBound{s t:bA}(h:(fV s/\fV t)/\s.bq.length<=64/\t.bq.length<=100):M4.f 42 [.agg [.int .i64 s.id,.ay (s.fl.map bk.enc),.ay (s.bq.map It.enc),.ay (s.kn.map Pc.enc),.int .i64 s.ct],.agg [.int .i64 t.id,.ay (t.fl.map bk.enc),.ay (t.bq.map It.enc),.ay (t.kn.map Pc.enc),.int .i64 t.ct]]=some (.int .i64 (ma s t)):=DA (s,t) h
theorem mN{s t:bA}(u:bA)(hs:dg s)(ht:dg t):pr s t u=mn s t u:=by unfold pr mn yf;rw[(dN s).2 hs,(dN t).2 ht,dO,if_pos rfl]
theorem okQ_of{s t u:bA}(hP:Dx s t)(hu:(u.fl.length<=100000/\u.bq.length<=1000000)/\eK u.kn):OkQ s t u:=⟨hP.fx,hu,fun _ _=>hP⟩
theorem Ku:aQ Tryz.prog M4 Tryz.f31.ntmps (Tryz.f31.body.getD .skip)=true:=by kernel_rfl
theorem M5:bp Tryz.prog 31 [] (· = .bool true):=by
 refine ah M42o_ok mixed Tryz.func31 rfl (ab rfl) Ku ?_;unfold Tryz.f31;have w1:tf ax0 [97] 0 [120]= .fq [ti.enc,.int .i64 0]:=by unfold tf Q5;rw[ax0_C,if_pos rfl];rfl
 have g1:Q6.f 62 [.agg [.int .i64 1,.ay [.agg [.str [],.str [],.bool true]],.ay [],.ay [],.int .i64 0],.str [97],.int .i64 0,.str [120]]=some (.fq [ti.enc,.int .i64 0]):=by
  have:=y_Write (s:=ax0) (k:=[97]) (prio:=0) (body:=[120]) ⟨⟨Gw.okR' (by decide) (by decide) (by decide),fun _=>Gw.okPut (by decide) (by decide) (by decide) ⟨by decide,by decide⟩⟩,by decide,by decide⟩
  rw[w1]at this;exact this
 obtain⟨b1,b2,b3,b4,hB⟩:=at_sm;have hX:Yz ti qn:=okX_of b1 b2 b4 (by omega) (by decide) (by decide) (by decide) (by decide)
 have hf:=b3.fin (m:=64) hB;have hp:=(hf.eK (by decide) (by decide)).1;have r1:=o4.right;have r2:=xU.right;have hu1:(qn.fl.length<=100000/\qn.bq.length<=1000000)/\eK qn.kn:=⟨⟨by decide,by decide⟩,hX.ht.kn.1.1⟩
 have hu2:((lQ ti qn).fl.length<=100000/\(lQ ti qn).bq.length<=1000000)/\eK (lQ ti qn).kn:=⟨⟨by have:=hf.fl.1;omega,by have:=hf.bq.1;omega⟩,hp⟩
 have f1:mW ti 24 272 24:=⟨r1,o4.fl,⟨by have:=o4.bq.1;omega,o4.bq.2⟩,by have:=o4.kn.1;omega,fun p hp=>by have:=o4.kn.2 p hp;omega⟩
 have f2:mW qn 24 272 24:=⟨r2,xU.fl,⟨by decide,xU.bq.2⟩,by decide,fun p hp=>absurd hp cN⟩
 have hP:Dx ti qn:=⟨f1,f2,hX⟩
 have T0:(qn).enc= .agg [.int .i64 2,.ay [.agg [.str [],.str [],.bool true]],.ay [],.ay [],.int .i64 0]:=rfl;have g2:=YB hX;rw[xf,xV.1,xV.2]at g2;have g3:=xi (s:=ti) (t:=qn) (u:=lQ ti qn) ⟨hX.hs,hX.ht,hp⟩
 rw[mN _ r1 r2,Oo r1]at g3;have g4:=xi (s:=ti) (t:=qn) (u:=qn) ⟨hX.hs,hX.ht,hX.ht.kn.1.1⟩
 rw[mN _ r1 r2,Oq,RD]at g4;have g5:=GA (s:=ti) (t:=qn) (u:=lQ ti qn) ⟨hX,hu2,by rw[xV.2];exact hu2⟩
 rw[VD.1]at g5;have g6:=GA (s:=ti) (t:=qn) (u:=qn) ⟨hX,hu1,by rw[xV.2];exact hu2⟩
 rw[VD.2]at g6;have g7:=YX (okQ_of hP hu1)
 rw[part_self r1 r2]at g7;have g8:=GB (s:=ti) (t:=qn) ⟨⟨hX.hs,hX.ht⟩,by have:=o4.bq.1;omega,by decide⟩
 rw[at_bound]at g8;have e0:(A.agg [.int .i64 qn.id,.ay (qn.fl.map bk.enc),.ay (qn.bq.map It.enc),.ay (qn.kn.map Pc.enc),.int .i64 qn.ct])= .agg [.int .i64 2,.ay [.agg [.str [],.str [],.bool true]],.ay [],.ay [],.int .i64 0]:=rfl;rw[e0]at g2 g3 g4 g5 g6 g7 g8;clear hX hf hp r1 r2 hu1 hu2 f1 f2 hP T0 b1 b2 b3 b4 hB w1 e0;simp only[bA.enc,bA.cells,It.enc,aS,bD]at g1 g2 g3 g4 g5 g6 g7 g8;generalize lQ ti qn=u at*;generalize ti=a1 at*;simp-implicitDefEqProofs (maxSteps:=600000) (disch:=(first|omega|decide)) only[go_sem,↓reduceIte,seval,g1,g2,g3,g4,g5,g6,g7,g8]
def RG:aW:=M4.add 31 (entry (fun(u:Unit)=>[]) (fun u=>True) (fun u=> .bool true))
theorem GC:aN Tryz.prog RG:=M42o_ok.dH Tryz.func31 (by kernel_rfl) (by kernel_rfl) fun u h=>M5
@[go_sem] theorem M42p_old{g:FuncId}{xs:List A}(h:g≠31):RG.f g xs=M4.f g xs:=aW.aU h
@[go_sem] theorem M42p_s:RG.pl M4:=⟨fun _=>rfl,fun _=>rfl,rfl,fun _=>rfl,rfl,fun _=>rfl,rfl⟩
theorem DB(u:Unit)(h:True):RG.f 31 []=some (.bool true):=aW.aZ (Γ:=M4) (fun i j h=>by first|(cases i;cases j;rfl;done)|simpa[ag,and_assoc]using h|(simp at h;omega)|(simp at h;exact jm h.1 (jm h.2.1 (by omega)))) u h
theorem RH:RG.f 31 []=some (.bool true):=DB () trivial
theorem fits_u32s{x:List A}(h:fD [.int .u32,.int .u32] x): ∃a b:Int,x=[.int .u32 a,.int .u32 b]/\True:=by simp only[fD,fits]at h;obtain⟨y,zs,rfl,⟨n,rfl,_⟩,y2,zs2,rfl,⟨m,rfl,_⟩,rfl⟩:=h;exact⟨n,m,rfl,trivial⟩
theorem zY:aQ Tryz.prog RG Tryz.f6.ntmps (Tryz.f6.body.getD .skip)=true:=by kernel_rfl
theorem BJ(s t:bA)(p0 p1:Int)(hs:Rx s)(ht:Rx t):bp Tryz.prog 6 [s.enc,t.enc,.agg [.int .u32 p0,.int .u32 p1]] (· = .bool true):=by
 refine ah GC mixed Tryz.func6 rfl (ab rfl) zY ?_;unfold Tryz.f6;have g0:=RH;have g1:=u3 (s:=s) ⟨⟨hs.fl.1,hs.bq.1⟩,hs.kn⟩
 have g2:=u3 (s:=t) ⟨⟨ht.fl.1,ht.bq.1⟩,ht.kn⟩
 simp only[bA.enc,bA.cells]
 cases c1:qA s with
 |true=>rw[c1]at g1;simp-implicitDefEqProofs (disch:=(first|omega|decide)) only[go_sem,↓reduceIte,seval,g0,g1]
 |false=>
  rw[c1]at g1;cases c2:qA t with
  |true=>rw[c2]at g2;simp-implicitDefEqProofs (disch:=(first|omega|decide)) only[go_sem,↓reduceIte,seval,g0,g1,g2]
  |false=>
   rw[c2]at g2;obtain⟨os,ws⟩:=pN hs c1;obtain⟨ot,wt⟩:=pN ht c2;have hX:=BD os ot;have g4:=dP s hX.hs;have g5:=dP t hX.ht;have g6:=Vv (t:=t) (l:=s.bq) ⟨hX.ht,by have:=os.bq.1;omega,os.bq.2⟩
   simp only[bA.enc,bA.cells]at g4 g5;cases d1:cq s with
   |false=>rw[d1]at g4;simp-implicitDefEqProofs (maxSteps:=600000) (disch:=(first|omega|decide)) only[go_sem,↓reduceIte,seval,g0,g1,g2,g4]
   |true=>
    rw[d1]at g4;cases d2:cq t with
    |false=>rw[d2]at g5;simp-implicitDefEqProofs (maxSteps:=600000) (disch:=(first|omega|decide)) only[go_sem,↓reduceIte,seval,g0,g1,g2,g4,g5]
    |true=>
     rw[d2]at g5;cases d3:fR t s.bq with
     |false=>rw[d3]at g6;simp-implicitDefEqProofs (maxSteps:=600000) (disch:=(first|omega|decide)) only[go_sem,↓reduceIte,seval,g0,g1,g2,g4,g5,g6]
     |true=>
      rw[d3]at g6;have hP:=Ry os ot ws wt d1 d2;have hS:=hP.fs.right;have hT:=hP.ft.right;have hA0:=Dv (s:=s) hT;have g7:=m_some (pick:=p0) (hP.someM hA0)
      obtain⟨La,hAa⟩:=u7 p0 hS (cQ s t).length 0 t [] (by omega) hA0 (nj _)
      rw[me]at hAa;generalize hra:od p0 0 (cQ s t) t=ra at*;obtain⟨a,ea⟩:=ra;simp only at hAa g7;have hMa:=hP.someM hAa;have g8:=m_some (pick:=p1) hMa;obtain⟨Mb,hAb⟩:=u7 p1 hS (cQ s a).length 0 a [] (by omega) (Dv hAa.right) (nj _)
      rw[me]at hAb;generalize hrb:od p1 0 (cQ s a) a=rb at*;obtain⟨b,eb⟩:=rb;simp only at hAb g8;obtain⟨Lb,hAtb,_⟩:=Ki hS hAa hAb;have hXb:=hP.YU hAtb;have g9:=xi (s:=s) (t:=t) (u:=t) ⟨hX.hs,hX.ht,hX.ht.kn.1.1⟩
      have g10:=xi (s:=s) (t:=t) (u:=a) ⟨hX.hs,hX.ht,hMa.ht.kn.1.1⟩
      have g11:=xi (s:=s) (t:=t) (u:=b) ⟨hX.hs,hX.ht,hXb.ht.kn.1.1⟩
      rw[mN _ hS hT]at g9 g10 g11;rw[Oq]at g9;have g12:=Ds ⟨hX.hs,hX.ht⟩
      unfold yf at g12;rw[d1,d2,dO,if_pos rfl]at g12;have n1:((mn s t b).length:Int)<=((mn s t a).length:Int):=by have:=left_more (t:=t) (p:=a) (q:=b) (fun x n hn c hc=>(hAb.kn x n hn c).2 (.inl hc)) hS;omega
      have n2:((mn s t a).length:Int)<=((cQ s t).length:Int):=by
       have:=left_le (s:=s) (t:=t) (p:=a)
       omega
      have g13:=xh (s:=s) (t:=b) ⟨hX.hs,hXb.ht⟩
      have g14:=xh (s:=s) (t:=a) ⟨hX.hs,hMa.ht⟩
      have g15:=xh (s:=s) (t:=t) ⟨hX.hs,hX.ht⟩
      have n3:=BG hS hAa.right hAb;have n4:=BG hS hT hAa;have n3':(om s b:Int)<=(om s a:Int):=by omega
      have n4':(om s a:Int)<=(om s t:Int):=by omega
      have lb:=(hP.ahead hAtb).1.bq.1;have ls:=os.bq.1;have lt:=ot.bq.1;have g16:=GB (s:=s) (t:=b) ⟨⟨hX.hs,hXb.ht⟩,by omega,by omega⟩
      have g17:=GB (s:=s) (t:=t) ⟨⟨hX.hs,hX.ht⟩,by omega,by omega⟩
      have n5:=bound_le (s:=s) (b:=b) (t:=t) hAtb.fl (by omega)
      simp only[bA.enc,bA.cells]at g7 g8;clear hP hS hT hA0 hX hXb hMa hAa hAb hAtb hra hrb n3 n4 os ot ws wt;generalize om s b=d1 at*;generalize om s a=d2 at*;generalize om s t=d3 at*;generalize ma s b=b1 at*;generalize ma s t=b2 at*;generalize mn s t a=l1 at*;generalize mn s t b=l2 at*;generalize cQ s t=l0 at*;cases h1:ea==0 with
      |false=>simp-implicitDefEqProofs (maxSteps:=600000) (disch:=(first|omega|decide)) only[go_sem,↓reduceIte,seval,g0,g1,g2,g4,g5,g6,g7,g8,h1]
      |true=>
       cases h2:eb==0 with
       |false=>simp-implicitDefEqProofs (maxSteps:=600000) (disch:=(first|omega|decide)) only[go_sem,↓reduceIte,seval,g0,g1,g2,g4,g5,g6,g7,g8,h1,h2]
       |true=>simp-implicitDefEqProofs (maxSteps:=600000) (disch:=(first|omega|decide)) only[go_sem,↓reduceIte,seval,g0,g1,g2,g4,g5,g6,g7,g8,g9,g10,g11,g12,g13,g14,g15,g16,g17,h1,h2,n1,n2,n3',n4',n5,aa,beq_self_eq_true]
theorem YY(s t:bA):m_ s t=m_ t s:=by rw[bS,pL,pL];exact eq_comm
theorem YZ{u:bA}{N w n:Nat}(h:u=e9\/mW u N w n)(hN:N<=400)(hw:w<=2200)(hn:n<=1000):(u.fl.length<=100000/\u.bq.length<=1000000)/\eK u.kn:=by
 rcases h with rfl|h
 · exact⟨⟨by decide,by decide⟩,⟨⟨by decide,by decide⟩,fun p hp=>absurd hp cN⟩⟩
 · exact⟨⟨by have:=h.fl.1;omega,by have:=h.bq.1;omega⟩,(h.eK hN hw).1⟩
theorem ym:aQ Tryz.prog RG Tryz.f5.ntmps (Tryz.f5.body.getD .skip)=true:=by kernel_rfl
theorem zZ(s t u:bA)(hs:Rx s)(ht:Rx t)(hu:Rx u):bp Tryz.prog 5 [s.enc,t.enc,u.enc] (· = .bool true):=by
 refine ah GC mixed Tryz.func5 rfl (ab rfl) ym ?_;unfold Tryz.f5;have g0:=RH;have g1:=u3 (s:=s) ⟨⟨hs.fl.1,hs.bq.1⟩,hs.kn⟩
 have g2:=u3 (s:=t) ⟨⟨ht.fl.1,ht.bq.1⟩,ht.kn⟩
 have g3:=u3 (s:=u) ⟨⟨hu.fl.1,hu.bq.1⟩,hu.kn⟩
 simp only[bA.enc,bA.cells]
 cases c1:qA s with
 |true=>rw[c1]at g1;simp-implicitDefEqProofs (disch:=(first|omega|decide)) only[go_sem,↓reduceIte,seval,g0,g1]
 |false=>
  rw[c1]at g1;cases c2:qA t with
  |true=>rw[c2]at g2;simp-implicitDefEqProofs (disch:=(first|omega|decide)) only[go_sem,↓reduceIte,seval,g0,g1,g2]
  |false=>
   rw[c2]at g2;cases c3:qA u with
   |true=>rw[c3]at g3;simp-implicitDefEqProofs (disch:=(first|omega|decide)) only[go_sem,↓reduceIte,seval,g0,g1,g2,g3]
   |false=>
    rw[c3]at g3;obtain⟨os,ws⟩:=pN hs c1;obtain⟨ot,wt⟩:=pN ht c2;obtain⟨ou,wu⟩:=pN hu c3;have hX:=BD os ot;have hU:(u.fl.length<=100000/\u.bq.length<=1000000)/\eK u.kn:=⟨⟨by have:=ou.fl.1;omega,by have:=ou.bq.1;omega⟩,ou.mH.1⟩
    have hV:=YZ (Vw os ot ws wt) (by decide) (by decide) (by decide)
    have hQ:OkQ s t u:=⟨hX,hU,fun a b=>Ry os ot ws wt a b⟩
    have g4:=e_rSync hX;rw[xf]at g4;have g5:=YX hQ;have g6:=m_rPart hQ;have g7:=GA (s:=s) (t:=t) (u:=u) ⟨hX,hU,hV⟩
    have g8:=e_Same (s:=u) (t:=lR s t) ⟨⟨by omega,by have:=hV.1.1;omega⟩,⟨hU.1.2,hV.1.2⟩,hU.2,hV.2⟩
    have hW:qm s t u=(qb s t==0&&m_ u (lR s t)):=by unfold qm;rw[YY]
    rw[hW]at g7;have g9:=dP s hX.hs;have g10:=dP t hX.ht;have g11:=xi (s:=s) (t:=t) (u:=u) ⟨hX.hs,hX.ht,hU.2⟩
    have g12:=m_rLeft (s:=s) (t:=t) (u:=u) ⟨hX.hs,hX.ht,hU.2⟩
    have g13:=xh (s:=s) (t:=t) ⟨hX.hs,hX.ht⟩
    have g14:=Ol (s:=s) (t:=t) ⟨hX.hs,hX.ht⟩
    have ls:=os.bq.1;have lt:=ot.bq.1;have g15:=GB (s:=s) (t:=t) ⟨⟨hX.hs,hX.ht⟩,by omega,by omega⟩
    have g16:=m_rBound (s:=s) (t:=t) ⟨⟨hX.hs,hX.ht⟩,by omega,by omega⟩
    have RT:(mn s t u).length<=1000000:=aL (aO _ _) (aL (aO _ _) (by omega))
    have g17:cq s=true->cq t=true->_:=fun a b=>Vm (a:=pr s t u) (b:=mn s t u) ⟨by rw[mN u ((dN s).1 a) ((dN t).1 b)];exact RT,RT⟩
    have g18:cq s=true->cq t=true->pr s t u=mn s t u:=fun a b=>mN u ((dN s).1 a) ((dN t).1 b)
    have g19:(cq s&&cq t)=false->pr s t u=[]:=fun h=>by unfold pr yf;rw[h,if_neg (by simp)];rfl
    simp only[bA.enc,bA.cells]at g9 g10;clear hQ hV hU hX hW os ot ou ws wt wu;generalize sd s t u=pb at*;generalize m_ u (lR s t)=sb at*;generalize lR s t=v at*;generalize qb s t=c at*;generalize om s t=d at*;generalize ma s t=bn at*;generalize pr s t u=l1 at*;generalize mn s t u=l2 at*;cases b1:cq s with
    |false=>
     have e:=g19 (by rw[b1];rfl)
     subst e;rw[b1]at g9;simp only[bD]at g11;cases hc:c==0<;>rw[hc]at g7<;>(try rw[aI]at g7)<;>(try rw[aB]at g7)<;>simp-implicitDefEqProofs (maxSteps:=600000) (disch:=(first|omega|decide)) only[go_sem,↓reduceIte,seval,g0,g1,g2,g3,g4,g5,g6,g7,g8,g9,g11,hc,beq_self_eq_true]
    |true=>
     rw[b1]at g9;cases b2:cq t with
     |false=>
      have e:=g19 (by rw[b1,b2];rfl)
      subst e;rw[b2]at g10;simp only[bD]at g11;cases hc:c==0<;>rw[hc]at g7<;>(try rw[aI]at g7)<;>(try rw[aB]at g7)<;>simp-implicitDefEqProofs (maxSteps:=600000) (disch:=(first|omega|decide)) only[go_sem,↓reduceIte,seval,g0,g1,g2,g3,g4,g5,g6,g7,g8,g9,g10,g11,hc,beq_self_eq_true]
     |true=>
      rw[b2]at g10;have g17:=g17 b1 b2;have e:=g18 b1 b2;subst e;rw[Yp]at g17;cases hc:c==0<;>rw[hc]at g7<;>(try rw[aI]at g7)<;>(try rw[aB]at g7)<;>simp-implicitDefEqProofs (maxSteps:=600000) (disch:=(first|omega|decide)) only[go_sem,↓reduceIte,seval,g0,g1,g2,g3,g4,g5,g6,g7,g8,g9,g10,g11,g12,g13,g14,g15,g16,g17,hc,beq_self_eq_true]
def Y0:aW:={RG with fS:=fun n=>if n=14 then [[999999,2]]else []}
theorem M42q_ok:aN Tryz.prog Y0:=⟨GC.f,GC.hp⟩
@[go_sem] theorem M42q_f:Y0.f=RG.f:=rfl
@[go_sem] theorem M42q_eff{g:FuncId}:Y0.sg g=false:=rfl
@[go_sem] theorem M42q_fix{n:Nat}:Y0.fix n=false:=rfl
@[go_sem] theorem M42q_ords14:Y0.fS 14=[[999999,2]]:=rfl
@[go_sem] theorem M42q_ords{n:Nat}(h:n≠14):Y0.fS n=[]:=if_neg h
theorem part_take{s t:bA}{L:List It}(hs:dg s)(ht:dg t)(hA:mj s t (kM t L (eA [] L)) L)(h0:jt t L (eA [] L)=0):sd s t (kM t L (eA [] L))=true:=by unfold sd Ks sc;rw[ahead_has hs hA,h0,(dN s).2 hs,(dN t).2 ht,pL.2 rfl];rfl
theorem yn:aQ Tryz.prog Y0 Tryz.f7.ntmps (Tryz.f7.body.getD .skip)=true:=by kernel_rfl
theorem z8(s t:bA)(pick:Int)(hs:Rx s)(ht:Rx t):bp Tryz.prog 7 [s.enc,t.enc,.int .u32 pick] (· = .bool true):=by
 refine ah M42q_ok mixed Tryz.func7 rfl (ab rfl) yn ?_;unfold Tryz.f7;have g0:=RH;have g1:=u3 (s:=s) ⟨⟨hs.fl.1,hs.bq.1⟩,hs.kn⟩
 have g2:=u3 (s:=t) ⟨⟨ht.fl.1,ht.bq.1⟩,ht.kn⟩
 simp only[bA.enc,bA.cells]
 cases c1:qA s with
 |true=>rw[c1]at g1;simp-implicitDefEqProofs (disch:=(first|omega|decide)) only[go_sem,↓reduceIte,seval,g0,g1]
 |false=>
  rw[c1]at g1;cases c2:qA t with
  |true=>rw[c2]at g2;simp-implicitDefEqProofs (disch:=(first|omega|decide)) only[go_sem,↓reduceIte,seval,g0,g1,g2]
  |false=>
   rw[c2]at g2;obtain⟨os,ws⟩:=pN hs c1;obtain⟨ot,wt⟩:=pN ht c2;have hX:=BD os ot;have g4:=dP s hX.hs;have g5:=dP t hX.ht;have g6:=Vv (t:=t) (l:=s.bq) ⟨hX.ht,by have:=os.bq.1;omega,os.bq.2⟩
   simp only[bA.enc,bA.cells]at g4 g5;cases d1:cq s with
   |false=>rw[d1]at g4;simp-implicitDefEqProofs (maxSteps:=600000) (disch:=(first|omega|decide)) only[go_sem,↓reduceIte,seval,g0,g1,g2,g4]
   |true=>
    rw[d1]at g4;cases d2:cq t with
    |false=>rw[d2]at g5;simp-implicitDefEqProofs (maxSteps:=600000) (disch:=(first|omega|decide)) only[go_sem,↓reduceIte,seval,g0,g1,g2,g4,g5]
    |true=>
     rw[d2]at g5;cases d3:fR t s.bq with
     |false=>rw[d3]at g6;simp-implicitDefEqProofs (maxSteps:=600000) (disch:=(first|omega|decide)) only[go_sem,↓reduceIte,seval,g0,g1,g2,g4,g5,g6]
     |true=>
      rw[d3]at g6;have hP:=Ry os ot ws wt d1 d2;have hS:=hP.fs.right;have hT:=hP.ft.right;have hSo:=(Kd hT).1 d3;have g7:=sa ⟨hX.hs,hX.ht⟩
      have hlu:(cQ s t).length<=24:=aL (aO _ _) os.bq.1;have hru: ∀x∈cQ s t,bQ x=true:=fun x hx=>(kN hS hx).1;have hou:sS (cQ s t):=fun x hx=>os.bq.2 x (eS.1 hx).1
      have gA: ∀(L:List It) (x:It),L.length<=23->(∀y∈L,bQ y=true)->QF.f 48 [.ay ((eA [] L).map Pc.enc),.ay ((eR x.key [⟨x.rep,x.da⟩]).map Pc.enc)]=some (.ay ((eA [] (L++[x])).map Pc.enc)):=fun L x hl hr=>by
       obtain⟨a,b,_,d⟩:=Gz (L:=L) hr (by omega)
       have:=q_Join1 (x:=x) a (by omega)
       rw[this]
       congr 3
       unfold eA;rw[cp];rfl
      have gS1:=e_rSync hX;rw[xf]at gS1
      have hfinal: ∀L:List It,L.Sublist (cQ s t)-> ∃(u:bA) (e:Int),L.length<=24/\
       TKb.f 50 []=TKb.f 50 []/\
       J'.f 50 [.agg [.int .i64 t.id,.ay (t.fl.map bk.enc),.ay (t.bq.map It.enc),.ay (t.kn.map Pc.enc),.int .i64 t.ct],.ay (L.map It.enc),.ay ((eA [] L).map Pc.enc)]=some (.fq [.agg [.int .i64 u.id,.ay (u.fl.map bk.enc),.ay (u.bq.map It.enc),.ay (u.kn.map Pc.enc),.int .i64 u.ct],.int .i64 e])/\
       (e=0-> ∃(v:bA) (f g:Int) (n1 n2:List It) (w:Bool),
        VF.f 33 [.agg [.int .i64 s.id,.ay (s.fl.map bk.enc),.ay (s.bq.map It.enc),.ay (s.kn.map Pc.enc),.int .i64 s.ct],.agg [.int .i64 t.id,.ay (t.fl.map bk.enc),.ay (t.bq.map It.enc),.ay (t.kn.map Pc.enc),.int .i64 t.ct],.agg [.int .i64 u.id,.ay (u.fl.map bk.enc),.ay (u.bq.map It.enc),.ay (u.kn.map Pc.enc),.int .i64 u.ct]]=some (.bool true)/\
        Vt.f 51 [.agg [.int .i64 u.id,.ay (u.fl.map bk.enc),.ay (u.bq.map It.enc),.ay (u.kn.map Pc.enc),.int .i64 u.ct],.ay (s.bq.map It.enc)]=some (.bool true)/\
        RE.f 38 [.agg [.int .i64 s.id,.ay (s.fl.map bk.enc),.ay (s.bq.map It.enc),.ay (s.kn.map Pc.enc),.int .i64 s.ct],.agg [.int .i64 t.id,.ay (t.fl.map bk.enc),.ay (t.bq.map It.enc),.ay (t.kn.map Pc.enc),.int .i64 t.ct],.agg [.int .i64 u.id,.ay (u.fl.map bk.enc),.ay (u.bq.map It.enc),.ay (u.kn.map Pc.enc),.int .i64 u.ct]]=some (.ay (n1.map It.enc))/\
        ¬((cQ s t).length:Int)<(n1.length:Int)/\
        Vq.f 52 [.agg [.int .i64 s.id,.ay (s.fl.map bk.enc),.ay (s.bq.map It.enc),.ay (s.kn.map Pc.enc),.int .i64 s.ct],.agg [.int .i64 u.id,.ay (u.fl.map bk.enc),.ay (u.bq.map It.enc),.ay (u.kn.map Pc.enc),.int .i64 u.ct]]=some (.fq [.agg [.int .i64 v.id,.ay (v.fl.map bk.enc),.ay (v.bq.map It.enc),.ay (v.kn.map Pc.enc),.int .i64 v.ct],.int .i64 g])/\
        ((qb s t==0)=true->g=0/\
          VE.f 35 [.agg [.int .i64 s.id,.ay (s.fl.map bk.enc),.ay (s.bq.map It.enc),.ay (s.kn.map Pc.enc),.int .i64 s.ct],.agg [.int .i64 t.id,.ay (t.fl.map bk.enc),.ay (t.bq.map It.enc),.ay (t.kn.map Pc.enc),.int .i64 t.ct],.agg [.int .i64 v.id,.ay (v.fl.map bk.enc),.ay (v.bq.map It.enc),.ay (v.kn.map Pc.enc),.int .i64 v.ct]]=some (.bool true)/\
          RE.f 38 [.agg [.int .i64 s.id,.ay (s.fl.map bk.enc),.ay (s.bq.map It.enc),.ay (s.kn.map Pc.enc),.int .i64 s.ct],.agg [.int .i64 t.id,.ay (t.fl.map bk.enc),.ay (t.bq.map It.enc),.ay (t.kn.map Pc.enc),.int .i64 t.ct],.agg [.int .i64 v.id,.ay (v.fl.map bk.enc),.ay (v.bq.map It.enc),.ay (v.kn.map Pc.enc),.int .i64 v.ct]]=some (.ay []))):=fun L hL=>by
       have hLl:L.length<=24:=aL hL.length_le hlu;obtain⟨hT1,YQ⟩:=Kr hP hLl fun x hx=>hL.subset hx;have gT:=Gv hT1;unfold kv at gT;refine⟨_,_,hLl,rfl,gT,fun h0=> ?_⟩
       have hA:=YT hS hL h0;have hpt:=part_take hS hT hA h0;have hu:=YZ YQ (by decide) (by decide) (by decide)
       generalize kM t L (eA [] L)=u at*;have hXu:=hP.YU hA;have q1:=YX (okQ_of hP hu)
       rw[hpt]at q1;have q2:=e_Sound (t:=u) (l:=s.bq) ⟨hXu.ht,by have:=os.bq.1;omega,os.bq.2⟩
       rw[(Kd hA.right).2 (Vz hS hT hA hSo)]at q2;have q3:=xi (s:=s) (t:=t) (u:=u) ⟨hX.hs,hX.ht,hu.2⟩
       rw[mN _ hS hT]at q3;have q4:=YB hXu;rw[xf]at q4;refine⟨lR s u,0,qb s u,mn s t u,[],true,q1,q2,q3,by have:=left_le (s:=s) (t:=t) (p:=u);omega,q4,fun hc=> ?_⟩
       obtain⟨e1,e2⟩:=xg hS hT;have h1:qb s t=0:=by simpa using hc
       have ok:=(xS hS hT).1 (by rw[<-e1];exact h1)
       obtain⟨a1,a2⟩:=YD hS hT hA;obtain⟨f1,f2⟩:=sync_at hS hA.right (a2 ok)
       have hv:=YZ (Vw os ot ws wt) (by decide) (by decide) (by decide)
       have e3:=e2 h1;rw[f2,a1]
       refine⟨f1, ?_, ?_⟩
       · have:=GA (s:=s) (t:=t) (u:=lQ s t) ⟨hX,by rw[<-e3];exact hv,hv⟩
         rwa [show qm s t (lQ s t)=true by unfold qm;rw[h1,e3,pL.2 rfl];rfl]at this
       · have:=xi (s:=s) (t:=t) (u:=lQ s t) ⟨hX.hs,hX.ht,by rw[<-e3];exact hv.2⟩
         rwa [mN _ hS hT,Oo hS]at this
      have tk: ∀m:List It,(m.map It.enc).take m.length=m.map It.enc:=fun m=>ad (by simp)
      clear hP hS hT hSo hX os ot ws wt;generalize cQ s t=U at*;generalize qb s t=c at*;generalize lR s t=w0 at*;simp-implicitDefEqProofs (maxSteps:=600000) (disch:=(first|omega|decide)) only[go_sem,↓reduceIte,seval,g0,g1,g2,g4,g5,g6,g7,aa]
      refine ch 7 7 rfl ?_;refine ch 8 4 rfl ?_;refine ui [3] (by simp) (fun n _=>aw n) ?_;simp-implicitDefEqProofs (disch:=(first|omega|decide)) only[go_sem,↓reduceIte,seval]
      refine a_ [2,3,4,44,45] (ι:={p:Nat×List It//p.1<=U.length/\p.2.Sublist (U.take p.1)}) (fun p=>[(46,.int .i64 p.1.1),(7,.row 2 0 7 p.1.2.length false),(8,.ay ((eA [] p.1.2).map Pc.enc))]) (fun p=>[(2,.row 7 (p.1.2.map It.enc))]) (fun p=>U.length-p.1.1) ⟨(0,[]),by omega,nj _⟩ (aw _) ?_ ?_
      · simp-implicitDefEqProofs (disch:=(first|omega|decide)) only[go_sem,↓reduceIte,seval]
        first|done|(simp[eA];done)|exact⟨⟨rfl,rfl,rfl⟩,rfl⟩
      · rintro⟨⟨i,L⟩,hi,hL⟩
        simp only at hi hL⊢;have hLl:L.length<=i:=by have:=hL.length_le;rw[aK]at this;omega
        by_cases bo:i<U.length
        · have aH:(i:Int)<(U.length:Int):=by omega
          have ei:=eG bo;have hxm:U[i]∈U:=ao _;have RM:=hou _ hxm;obtain⟨_,_,hv⟩:=nO (hru _ hxm)
          have gV:=aao (k:=U[i].key) (r:=U[i].rep) (c:=U[i].da) ⟨RM.1,hv⟩
          have gJ:=gA L U[i] (by omega) (fun y hy=>hru y (b_ (hL.subset hy)))
          have hL2:(L++[U[i]]).Sublist (U.take (i+1)):=by
           rw[<-ar bo]
           exact hL.append (List.Sublist.refl _)
          have tkL:=tk L;generalize U[i]=x at*;have hrem: ¬(i:Int).tmod 32<0:=by have:=Int.tmod_nonneg 32 (show(0:Int)<=(i:Int) by omega);omega
          simp-implicitDefEqProofs (maxSteps:=600000) (disch:=(first|omega|decide)) only[go_sem,↓reduceIte,seval,aH,ei,hrem,wrap_i64,aa]
          refine⟨fun _=> ?_,fun _=>⟨⟨(i+1,L),bo,hL.trans (kO (rG i))⟩,⟨⟨by simp,rfl,rfl⟩,rfl⟩,by show U.length-(i+1)<U.length-i;omega⟩⟩
          simp-implicitDefEqProofs (maxSteps:=600000) (disch:=(first|omega|decide)) only[go_sem,↓reduceIte,seval,gV,gJ,tkL,wrap_i64,aa]
          refine⟨⟨ai _,by omega⟩,⟨(i+1,L++[x]),bo,hL2⟩,⟨⟨by simp,by simp,rfl⟩,by simp only[<-jG]⟩,by show U.length-(i+1)<U.length-i;omega⟩
        · have aH: ¬(i:Int)<(U.length:Int):=by omega
          obtain⟨u,e,_,_,gT,hz⟩:=hfinal L (hL.trans (j8 _ _))
          have tkL:=tk L;cases he:e==0 with
          |false=>simp-implicitDefEqProofs (maxSteps:=600000) (disch:=(first|omega|decide)) only[go_sem,↓reduceIte,seval,aH,gT,he,tkL,ai,aa]
          |true=>
           obtain⟨v,f,g,n1,n2,w,q1,q2,q3,q4,q5,q6⟩:=hz (by simpa using he)
           cases hc:c==0 with
           |false=>simp-implicitDefEqProofs (maxSteps:=600000) (disch:=(first|omega|decide)) only[go_sem,↓reduceIte,seval,aH,gT,he,tkL,ai,q1,q2,q3,q4,q5,g7,gS1,hc,aa]
           |true=>
            obtain⟨r1,r2,r3⟩:=q6 hc;subst r1;simp-implicitDefEqProofs (maxSteps:=600000) (disch:=(first|omega|decide)) only[go_sem,↓reduceIte,seval,aH,gT,he,tkL,ai,q1,q2,q3,q4,q5,r2,r3,g7,gS1,hc,aa]
theorem fits_u32{x:A}(h:fits (.int .u32) x): ∃n:Int,x= .int .u32 n/\True:=by simp only[fits]at h;obtain⟨n,rfl,_⟩:=h;exact⟨n,rfl,trivial⟩
end Go.Proofs.YtfnohjheonlnmaaGreat
namespace Go.Proofs.YtfnohjheonlnmaaGreat
end Go.Proofs.YtfnohjheonlnmaaGreat
