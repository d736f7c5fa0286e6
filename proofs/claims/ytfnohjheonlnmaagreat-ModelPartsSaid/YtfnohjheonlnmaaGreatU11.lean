/- What the laws of this claim rest on: the abstract executor, its soundness, and what the functions compute on pure data. No condition. -/
import Derived.Test.YtfnohjheonlnmaaGreatU10
noncomputable section
set_option linter.unusedVariables false
set_option linter.unusedSimpArgs false
namespace Go.Proofs.YtfnohjheonlnmaaGreat
open Go.dF Go.zK
set_option linter.unusedSimpArgs false
set_option linter.unusedVariables false
set_option maxRecDepth 20000
set_option maxHeartbeats 8000000
def TKa:aW:=Yr.add 91 (entry (fun(v:List Pc×Int)=>[.ay (v.1.map Pc.enc),.int .i64 v.2]) (fun v=>mH v.1) (fun v=> .int .i64 (hI v.1 v.2)))
theorem TKa_ok:aN Tryz.prog TKa:=Y23y_ok.dH Tryz.func91 (by kernel_rfl) (by kernel_rfl) fun v h=>Bn v.1 v.2 h
@[go_sem] theorem TKa_old{g:FuncId}{xs:List A}(h:g≠91):TKa.f g xs=Yr.f g xs:=aW.aU h
theorem J_(v:List Pc×Int)(h:mH v.1):TKa.f 91 [.ay (v.1.map Pc.enc),.int .i64 v.2]=some (.int .i64 (hI v.1 v.2)):=aW.aZ (Γ:=Yr) (fun i j h=>by simpa[ag,and_assoc]using h) v h
def TKb:aW:=TKa.add 92 (entry (fun(l:List It)=>[.ay (l.map It.enc)]) (fun l=>l.length<=1000000) (fun l=> .bool (gq l)))
theorem Ys:aN Tryz.prog TKb:=TKa_ok.dH Tryz.func92 (by kernel_rfl) (by kernel_rfl) fun l h=>yH l h
@[go_sem] theorem TKb_old{g:FuncId}{xs:List A}(h:g≠92):TKb.f g xs=TKa.f g xs:=aW.aU h
theorem FJ(l:List It)(h:l.length<=1000000):TKb.f 92 [.ay (l.map It.enc)]=some (.bool (gq l)):=aW.aZ (Γ:=TKa) (fun i j h=>by simpa[ag,and_assoc]using h) l h
theorem k_rMost{k:List Pc}{id:Int}(h:mH k):TKa.f 91 [.ay (k.map Pc.enc),.int .i64 id]=some (.int .i64 (hI k id)):=J_ (k,id) h
theorem k_rApart{l:List It}(h:l.length<=1000000):TKb.f 92 [.ay (l.map It.enc)]=some (.bool (gq l)):=FJ l h
def TKm:aW:={TKb with sg:=fun f=>f==103,xk:=fun f=>f==103}
theorem TKm_ok:aN Tryz.prog TKm:=⟨Ys.f,Ys.hp⟩
@[go_sem] theorem TKm_f:TKm.f=TKb.f:=rfl
@[go_sem] theorem TKm_eff{g:FuncId}:TKm.sg g=(g==103):=rfl
@[go_sem] theorem TKm_frz{g:FuncId}:TKm.xk g=(g==103):=rfl
@[go_sem] theorem TKm_fix{n:Nat}:TKm.fix n=false:=rfl
@[go_sem] theorem TKm_ords{n:Nat}:TKm.fS n=[]:=rfl
theorem stIt(l:List It):((l.map It.enc).isEmpty||eV (l.map It.enc)==7)=true:=by cases l<;>rfl
theorem MJ:aQ Tryz.prog TKm Tryz.f50.ntmps (Tryz.f50.body.getD .skip)=true:=by kernel_rfl
theorem Rj(s:bA)(l:List It)(k:List Pc)(h:Vn s l k):bp Tryz.prog 50 [s.enc,.ay (l.map It.enc),.ay (k.map Pc.enc)] (· =kv s l k):=by
 refine ah TKm_ok mixed Tryz.func50 rfl (ab rfl) MJ ?_;unfold Tryz.f50;obtain⟨hs,⟨hl1,hl2⟩,hi,⟨qD,hk2⟩,⟨ho1,ho2⟩,nn⟩:=h;have hfl:=hs.fl;have hln:=mi s.fl l;have vM:sS (ku s.fl l):=fun x hx=>hl2 x (aP.1 hx).1;have xw:=mK (s.bq++ku s.fl l)
 rw[aj]at xw;have g0:=dP s hs;have g1:=vh l ⟨by omega,hl2⟩
 have g2:=UM qD.1;have g3:=y_rIn (l:=l) (F:=s.fl) ⟨⟨by omega,hl2⟩,by omega,hfl.2⟩
 have g4:=zG (a:=k) (l:=s.fl) qD hfl.2 ⟨hk2,by omega⟩
 rw[show cF (c7 k s.fl)=lz s k from rfl]at g4;have g5: ∀(x:List UInt8) (n c:Int),x.length<=9223372036854775807->Bh.f 74 [.ay (s.kn.map Pc.enc),.str x,.agg [.int .i64 n,.int .i64 c]]=some (.bool (dq s.kn x n c)):=fun x n c hx=>zC hs.kn.1.1 hx;have g6: ∀(x:List UInt8) (n c:Int),x.length<=9223372036854775807->Bh.f 74 [.ay ((lz s k).map Pc.enc),.str x,.agg [.int .i64 n,.int .i64 c]]=some (.bool (dq (lz s k) x n c)):=fun x n c hx=>zC ho1.1 hx;have g7:=k_rMost (id:=s.id) ho1
 have g8:=y_rMerge (l:=s.bq++ku s.fl l) ⟨by rw[aj];omega,fun x hx=>by
  rcases aJ.1 hx with hx|hx
  · exact hs.bq.2 x hx
  · exact vM x hx⟩
 rw[bz]at g8;have g9:=k_rApart (l:=bM (s.bq++ku s.fl l)) (by omega)
 have g10:=X0 (a:=s.kn) (b:=lz s k) hs.kn.1 ho1 ⟨hs.kn.2,ho2⟩
 have hC:jt s l k=if cq s=false then 41 else if(eZ l&&cD k)=false then 2 else if((ku s.fl l).any fun x=> !dq s.kn x.key x.rep x.da&& !dq (lz s k) x.key x.rep x.da)=true then 2 else if s.ct<hI (lz s k) s.id then 2
  else if gq (bM (s.bq++ku s.fl l))=false then 2 else if 4096<(bM (s.bq++ku s.fl l)).length then 32 else 0:=rfl
 have fail: ∀e:Int,e≠0->jt s l k=e->A.fq [.agg [.int .i64 0,.ay [],.ay [],.ay [],.int .i64 0],.int .i64 e]=kv s l k:=fun e he hc=>Oc he hc;have ye:=Od (s:=s) (l:=l) (k:=k)
 have hi2:=hs.bq.1;generalize kv s l k=Z at*;generalize jt s l k=C at*;generalize hLL:ku s.fl l=L at*;generalize lz s k=O at*;generalize cF (fF (s.kn++O))=J at*;generalize hI O s.id=m at*;generalize gq (bM (s.bq++L))=ap at*;generalize bM (s.bq++L)=M at*;generalize cq s=b0 at*;generalize eZ l=b1 at*;generalize cD k=b2 at*;obtain⟨id,F,I,K,ct⟩:=s;simp only[bA.enc,bA.cells]at*;have stI:=stIt I;have stL:=stIt L;have tk1:(I.map It.enc).take I.length=I.map It.enc:=ad (by simp)
 have tk2:(I.map It.enc++L.map It.enc).take (I.length+L.length)=I.map It.enc++L.map It.enc:=ad (by simp)
 cases b0 with
 |false=>
  have fl:=fail 41 (by decide) (by rw[hC];rfl)
  simp-implicitDefEqProofs (disch:=(first|omega|decide)) only[go_sem,↓reduceIte,seval,g0,fl]
 |true=>
  cases b1 with
  |false=>
   have fl:=fail 2 (by decide) (by rw[hC];rfl)
   simp-implicitDefEqProofs (disch:=(first|omega|decide)) only[go_sem,↓reduceIte,seval,g0,g1,fl]
  |true=>
   cases b2 with
   |false=>
    have fl:=fail 2 (by decide) (by rw[hC];rfl)
    simp-implicitDefEqProofs (disch:=(first|omega|decide)) only[go_sem,↓reduceIte,seval,g0,g1,g2,fl]
   |true=>
    simp only[l_,if_false,dO]at hC;simp-implicitDefEqProofs (maxSteps:=600000) (disch:=(first|omega|decide)) only[go_sem,↓reduceIte,seval,g0,g1,g2,g3,g4,aa]
    refine a_ [3,6,7,8,9] (ι:={i:Nat//i<=L.length/\(L.any fun x=> !dq K x.key x.rep x.da&& !dq O x.key x.rep x.da)=((L.drop i).any fun x=> !dq K x.key x.rep x.da&& !dq O x.key x.rep x.da)}) (fun p=>[(10,.int .i64 p.1)]) (fun _=>[]) (fun p=>L.length-p.1) ⟨0,by omega,rfl⟩ (aw _) ?_ ?_
    · simp-implicitDefEqProofs (disch:=(first|omega|decide)) only[go_sem,↓reduceIte,seval]
      try rfl
    · rintro⟨i,hi,hd⟩
      simp only;by_cases bo:i<L.length
      · have aH:(i:Int)<(L.length:Int):=by omega
        have p1:(0:Int)<=(i:Int):=by omega
        have t1:((i:Nat):Int).toNat=i:=bg _;have ei:=eG bo;have zH:=vM _ (ao bo)
        rw[ax bo,cI]at hd;generalize L[i]=x at*;have g5:=g5 x.key x.rep x.da zH.1;have g6:=g6 x.key x.rep x.da zH.1;cases k1:dq K x.key x.rep x.da with
        |true=>
         rw[k1]at g5 hd;rw[bG,aI,bu]at hd;simp-implicitDefEqProofs (maxSteps:=600000) (disch:=(first|omega|decide)) only[go_sem,↓reduceIte,seval,aH,p1,t1,ei,g5,wrap_i64,aa]
         exact⟨⟨i+1,bo,hd⟩,by simp,by show L.length-(i+1)<L.length-i;omega⟩
        |false=>
         rw[k1]at g5 hd;cases k2:dq O x.key x.rep x.da with
         |true=>
          rw[k2]at g6 hd;rw[bG,bN,bu]at hd;simp-implicitDefEqProofs (maxSteps:=600000) (disch:=(first|omega|decide)) only[go_sem,↓reduceIte,seval,aH,p1,t1,ei,g5,g6,wrap_i64,aa]
          exact⟨⟨i+1,bo,hd⟩,by simp,by show L.length-(i+1)<L.length-i;omega⟩
         |false=>
          rw[k2]at g6 hd;have fl:=fail 2 (by decide) (by rw[hC,hd];rfl)
          simp-implicitDefEqProofs (maxSteps:=600000) (disch:=(first|omega|decide)) only[go_sem,↓reduceIte,seval,aH,p1,t1,ei,g5,g6,fl,aa]
      · have aH: ¬(i:Int)<(L.length:Int):=by omega
        rw[aC (by omega),u']at hd;rw[hd]at hC;simp only[az,if_false]at hC;by_cases d1:ct<m
        · have fl:=fail 2 (by decide) (by rw[hC,if_pos d1])
          simp-implicitDefEqProofs (disch:=(first|omega|decide)) only[go_sem,↓reduceIte,seval,aH,g7,d1,fl,aa]
        · rw[if_neg d1]at hC
          cases ap with
          |false=>
           have fl:=fail 2 (by decide) (by rw[hC];rfl)
           simp-implicitDefEqProofs (maxSteps:=600000) (disch:=(first|omega|decide)) only[go_sem,↓reduceIte,seval,aH,g7,g8,g9,d1,fl,stI,stL,tk1,tk2,aa]
           all_goals exact⟨by omega,by simp;omega⟩
          |true=>
           simp only[l_,if_false]at hC;by_cases d2:4096<M.length
           · have d2':(4096:Int)<(M.length:Int):=by omega
             have fl:=fail 32 (by decide) (by rw[hC,if_pos d2])
             simp-implicitDefEqProofs (maxSteps:=600000) (disch:=(first|omega|decide)) only[go_sem,↓reduceIte,seval,aH,g7,g8,g9,d1,d2',fl,stI,stL,tk1,tk2,aa]
             all_goals exact⟨by omega,by simp;omega⟩
           · have d2': ¬(4096:Int)<(M.length:Int):=by omega
             have ye:=ye (by rw[hC,if_neg d2])
             simp-implicitDefEqProofs (maxSteps:=600000) (disch:=(first|omega|decide)) only[go_sem,↓reduceIte,seval,aH,g7,g8,g9,g10,d1,d2',ye,stI,stL,tk1,tk2,aa]
             all_goals exact⟨by omega,by simp;omega⟩
theorem bt_neg{x y z:It}(h:bt x y=false)(h':bt y z=false):bt x z=false:=by
 cases g:bt x z with
 |false=>rfl
 |true=>
  have e: ∀a b:It,bt a b=false ↔¬(b.du<a.du\/(a.du=b.du/\(b.rep<a.rep\/(b.rep=a.rep/\b.da<a.da)))):=fun a b=>by
   rw[<-dI]
   simp only[bt,bE,ak,decide_eq_true_eq,lp]
  have g': ¬bt x z=false:=by rw[g];simp
  rw[e]at h h' g';omega
theorem Dm{l m:List It}(h: ∀k:List UInt8,kA bt ((l.filter bQ).filter fun x=>k==x.key)=kA bt ((m.filter bQ).filter fun x=>k==x.key)):bM l=bM m:=by obtain⟨h1,h2⟩:=ke l;refine Ju mV h1 fun z=> ?_;have:eqv fA z=fun x=>z.key==x.key:=funext fun x=>eqvI;rw[h2 z,h z.key,this]
theorem zN{l:List It}(h1: ∀x∈l,bQ x=true)(h2:l.Pairwise fun x y=>cL x.key y.key=true):bM l=l:=by
 refine(Ju mV h2 fun z=> ?_).symm;have e:eqv fA z=fun x=>z.key==x.key:=funext fun x=>eqvI;rw[e,dv.2 h1]
 have one: ∀(l:List It) (z:It),l.Pairwise (fun x y=>cL x.key y.key=true)->z∈l->l.filter (fun x=>z.key==x.key)=[z]:=fun l=>by
  induction l with
  |nil=>intro z _ hz;cases hz
  |cons y l ih=>
   intro z hp hz;obtain⟨p1,p2⟩:=aR.1 hp;rcases aD.1 hz with rfl|hz
   · rw[bV (by simp)]
     congr 1
     rw[cy]
     intro w hw e;have:=p1 w hw;rw[show z.key=w.key by simpa using e,lt_irrefl]at this;cases this
   · rw[df,ih z p2 hz]
     intro e;have:=p1 z hz;rw[show z.key=y.key by simpa using e,lt_irrefl]at this;cases this
 constructor
 · intro hz;rw[one l z h2 hz];rfl
 · intro h
   have:=qa h;exact(aP.1 this).1
def cQ(s t:bA):List It:=s.bq.filter fun x=>bh t.fl x.key&& !dq t.kn x.key x.rep x.da
def dL(s t:bA):List Pc:=cF (c7 s.kn t.fl)
def lQ(s t:bA):bA:=yJ t (cQ s t) (dL s t)
structure zO(s t:bA):Prop where
 JI: ∀x c,hk (setAt (dL s t) x) t.id c=true->c<=t.ct
 apart:(bM (t.bq++cQ s t)).Pairwise fun x y=> ¬(x.rep=y.rep/\x.da=y.da)
 len:(bM (t.bq++cQ s t)).length<=4096
theorem t_{s t:bA}{x:List UInt8}{n:Int}(hn:dJ n=true)(c:Int):hk (setAt (dL s t) x) n c=(bh t.fl x&&hk (setAt s.kn x) n c):=by unfold dL;rw[g_ (ny _ _),wY hn]
theorem eS{s t:bA}{x:It}:x∈cQ s t ↔ x∈s.bq/\bh t.fl x.key=true/\dq t.kn x.key x.rep x.da=false:=by
 unfold cQ;rw[aP]
 simp
theorem oZ{s:bA}(hs:dg s){x:It}(hx:x∈s.bq):dJ x.rep=true/\hk (setAt s.kn x.key) x.rep x.da=true:=by
 obtain⟨h1,_,_⟩:=nO (hs.right x hx)
 exact⟨h1,by rw[<-iq h1];exact(hs.bq x hx).2⟩
theorem Yt{s t:bA}(hs:dg s)(ht:dg t)(h:zO s t):dg (lQ s t):=by
 refine JM ht (fun x hx=>(eS.1 hx).2.1) (fun x n hn c hc=> ?_) h.JI (fun x hx=> ?_) h.apart h.len
 · rw[t_ hn,ak]at hc;exact hc.1
 · obtain⟨h1,h2,_⟩:=eS.1 hx
   obtain⟨k1,k2⟩:=oZ hs h1;right;rw[iq k1,t_ k1,h2,k2];rfl
def effS(t:bA)(x:It):Prop:= ∃y∈t.bq,y.key=x.key/\bt x y=false
def Rk(t:bA)(l:List It):Prop:= ∀x∈l,bQ x=true->bh t.fl x.key=true->dq t.kn x.key x.rep x.da=true->effS t x
theorem sync_kn{s t:bA}{x:List UInt8}{n:Int}(hn:dJ n=true)(c:Int):hk (setAt (lQ s t).kn x) n c=(hk (setAt t.kn x) n c||(bh t.fl x&&hk (setAt s.kn x) n c)):=by show hk (setAt (cF (fF (t.kn++dL s t))) x) n c=_;rw[iF hn,t_ hn]
theorem Yu{a b:List Pc}(ha:cD a=true)(hb:cD b=true)(h: ∀x n,dJ n=true-> ∀c,hk (setAt a x) n c=hk (setAt b x) n c):a=b:=by rw[<-jY ha,<-jY hb,at_ext h]
def Vo:aW:=TKb.add 65 (entry (fun(v:bA×List It×List Pc)=>[v.1.enc,.ay (v.2.1.map It.enc),.ay (v.2.2.map Pc.enc)]) (fun v=>Vn v.1 v.2.1 v.2.2) (fun v=>kv v.1 v.2.1 v.2.2))
theorem X25a_ok:aN Tryz.prog Vo:=Ys.dH Tryz.func65 (by kernel_rfl) (by kernel_rfl) fun v h=>Ri v.1 v.2.1 v.2.2 h
@[go_sem] theorem X25a_old{g:FuncId}{xs:List A}(h:g≠65):Vo.f g xs=TKb.f g xs:=aW.aU h
theorem FK(v:bA×List It×List Pc)(h:Vn v.1 v.2.1 v.2.2):Vo.f 65 [v.1.enc,.ay (v.2.1.map It.enc),.ay (v.2.2.map Pc.enc)]=some (kv v.1 v.2.1 v.2.2):=aW.aZ (Γ:=TKb) (fun i j h=>by simpa[ag,and_assoc]using h) v h
def J':aW:=Vo.add 50 (entry (fun(v:bA×List It×List Pc)=>[v.1.enc,.ay (v.2.1.map It.enc),.ay (v.2.2.map Pc.enc)]) (fun v=>Vn v.1 v.2.1 v.2.2) (fun v=>kv v.1 v.2.1 v.2.2))
theorem X25b_ok:aN Tryz.prog J':=X25a_ok.dH Tryz.func50 (by kernel_rfl) (by kernel_rfl) fun v h=>Rj v.1 v.2.1 v.2.2 h
@[go_sem] theorem X25b_old{g:FuncId}{xs:List A}(h:g≠50):J'.f g xs=Vo.f g xs:=aW.aU h
@[go_sem] theorem X25b_s:J'.pl Vo:=⟨fun _=>rfl,fun _=>rfl,rfl,fun _=>rfl,rfl,fun _=>rfl,rfl⟩
theorem FL(v:bA×List It×List Pc)(h:Vn v.1 v.2.1 v.2.2):J'.f 50 [v.1.enc,.ay (v.2.1.map It.enc),.ay (v.2.2.map Pc.enc)]=some (kv v.1 v.2.1 v.2.2):=aW.aZ (Γ:=Vo) (fun i j h=>by simpa[ag,and_assoc]using h) v h
theorem e_Take{s:bA}{l:List It}{k:List Pc}(h:Vn s l k):Vo.f 65 [.agg [.int .i64 s.id,.ay (s.fl.map bk.enc),.ay (s.bq.map It.enc),.ay (s.kn.map Pc.enc),.int .i64 s.ct],.ay (l.map It.enc),.ay (k.map Pc.enc)]=some (kv s l k):=FK (s,l,k) h
theorem Gv{s:bA}{l:List It}{k:List Pc}(h:Vn s l k):J'.f 50 [.agg [.int .i64 s.id,.ay (s.fl.map bk.enc),.ay (s.bq.map It.enc),.ay (s.kn.map Pc.enc),.int .i64 s.ct],.ay (l.map It.enc),.ay (k.map Pc.enc)]=some (kv s l k):=FL (s,l,k) h
theorem Dn:aQ Tryz.prog J' Tryz.f98.ntmps (Tryz.f98.body.getD .skip)=true:=by kernel_rfl
theorem FM(s t:bA)(hs:fV s)(ht:fV t):bp Tryz.prog 98 [s.enc,t.enc] (· = .bool (cq s&&cq t)):=by
 refine ah X25b_ok mixed Tryz.func98 rfl (ab rfl) Dn ?_;unfold Tryz.f98;have g1:=iA s hs;have g2:=iA t ht;simp only[bA.enc,bA.cells]at*;cases h:cq s with
 |false=>
  rw[h]at g1;simp-implicitDefEqProofs (disch:=(first|omega|decide)) only[go_sem,↓reduceIte,seval,g1,aI]
 |true=>
  rw[h]at g1;simp-implicitDefEqProofs (disch:=(first|omega|decide)) only[go_sem,↓reduceIte,seval,g1,g2,aB]
def FN:aW:=J'.add 98 (entry (fun(v:bA×bA)=>[v.1.enc,v.2.enc]) (fun v=>fV v.1/\fV v.2) (fun v=> .bool (cq v.1&&cq v.2)))
theorem Bw:aN Tryz.prog FN:=X25b_ok.dH Tryz.func98 (by kernel_rfl) (by kernel_rfl) fun v h=>FM v.1 v.2 h.1 h.2
@[go_sem] theorem X25c_old{g:FuncId}{xs:List A}(h:g≠98):FN.f g xs=J'.f g xs:=aW.aU h
@[go_sem] theorem X25c_s:FN.pl J':=⟨fun _=>rfl,fun _=>rfl,rfl,fun _=>rfl,rfl,fun _=>rfl,rfl⟩
theorem zP(v:bA×bA)(h:fV v.1/\fV v.2):FN.f 98 [v.1.enc,v.2.enc]=some (.bool (cq v.1&&cq v.2)):=aW.aZ (Γ:=J') (fun i j h=>by simpa[ag,and_assoc]using h) v h
theorem Yv{s t:bA}(h:fV s/\fV t):FN.f 98 [.agg [.int .i64 s.id,.ay (s.fl.map bk.enc),.ay (s.bq.map It.enc),.ay (s.kn.map Pc.enc),.int .i64 s.ct],.agg [.int .i64 t.id,.ay (t.fl.map bk.enc),.ay (t.bq.map It.enc),.ay (t.kn.map Pc.enc),.int .i64 t.ct]]=some (.bool (cq s&&cq t)):=zP (s,t) h
theorem unk_in(s t:bA):(ku t.fl s.bq).filter (fun x=> !dq t.kn x.key x.rep x.da)=cQ s t:=by
 unfold ku cQ;rw[pn]
 congr 1
 funext x
 exact Bool.and_comm _ _
def yf(s t:bA):List It:=if(cq s&&cq t)=true then cQ s t else []
def Dp(s t:bA):List Pc:=if(cq s&&cq t)=true then dL s t else []
theorem yg:aQ Tryz.prog FN Tryz.f46.ntmps (Tryz.f46.body.getD .skip)=true:=by kernel_rfl
theorem zQ(s t:bA)(hs:fV s)(ht:fV t):bp Tryz.prog 46 [s.enc,t.enc] (· = .ay ((yf s t).map It.enc)):=by
 refine ah Bw mixed Tryz.func46 rfl (ab rfl) yg ?_;unfold Tryz.f46;have g0:=Yv ⟨hs,ht⟩
 have g1:=y_In (l:=s.bq) (F:=t.fl) ⟨hs.bq,by have:=ht.fl.1;omega,ht.fl.2⟩
 have gH: ∀(x:List UInt8) (n c:Int),x.length<=9223372036854775807->C1.f 99 [.ay (t.kn.map Pc.enc),.str x,.agg [.int .i64 n,.int .i64 c]]=some (.bool (dq t.kn x n c)):=fun x n c hx=>N3 ht.kn.1.1 hx;have tk: ∀m:List It,(m.map It.enc).take m.length=m.map It.enc:=fun m=>ad (by simp)
 simp only[bA.enc,bA.cells]
 unfold yf;cases hb:cq s&&cq t with
 |false=>
  rw[hb]at g0;rw[if_neg (by simp)]
  simp-implicitDefEqProofs (disch:=(first|omega|decide)) only[go_sem,↓reduceIte,seval,g0]
  first|done|rfl
 |true=>
  rw[hb]at g0;rw[if_pos rfl,<-unk_in]
  have vM:sS (ku t.fl s.bq):=fun x hx=>hs.bq.2 x (aP.1 hx).1;have hln:(ku t.fl s.bq).length<=1000000:=aL (mi _ _) hs.bq.1;generalize ku t.fl s.bq=l at*;generalize hQ:(fun x:It=> !dq t.kn x.key x.rep x.da)=q at*;have hq: ∀x:It,q x= !dq t.kn x.key x.rep x.da:=fun x=>by rw[<-hQ]
  simp-implicitDefEqProofs (disch:=(first|omega|decide)) only[go_sem,↓reduceIte,seval,g0,g1,aa]
  refine ch 5 7 rfl ?_;refine a_ [2,3,16,17] (ι:={j:Nat//j<=l.length}) (fun j=>[(18,.int .i64 j.1),(5,.row 2 0 7 ((l.take j.1).filter q).length false)]) (fun j=>[(2,.row 7 (((l.take j.1).filter q).map It.enc))]) (fun j=>l.length-j.1) ⟨0,by omega⟩ (aw _) ?_ ?_
  · simp-implicitDefEqProofs (disch:=(first|omega|decide)) only[go_sem,↓reduceIte,seval]
    first|done|(simp;done)|exact⟨⟨rfl,rfl⟩,rfl⟩
  · rintro⟨j,hj⟩
    simp only;by_cases mP:j<l.length
    · have ie:(j:Int)<(l.length:Int):=by omega
      have ej:=eG mP;have gr:=gH l[j].key l[j].rep l[j].da (vM _ (ao mP)).1;have fe:(l.take (j+1)).filter q=(l.take j).filter q++(if q l[j]then [l[j]]else []):=jr (f:=q) mP
      have VP:((l.take j).filter q).length<=1000000:=by
       have:=aO q (l.take j)
       rw[aK]at this;omega
      rw[hq l[j]]at fe;generalize l[j]=x at*;obtain⟨G,hG⟩: ∃G,(l.take j).filter q=G:=⟨_,rfl⟩
      have Ya:=tk G;rw[hG]at fe VP⊢;cases hr:dq t.kn x.key x.rep x.da with
      |false=>
       rw[hr,bm,if_pos rfl]at fe;rw[hr]at gr;simp-implicitDefEqProofs (disch:=(first|omega|decide)) only[go_sem,↓reduceIte,seval,ie,ej,gr,Ya,wrap_i64,aa]
       refine⟨⟨ai _,by omega⟩,⟨j+1,mP⟩,⟨⟨by simp,by rw[fe];simp⟩,by rw[fe,<-jG]⟩,by show l.length-(j+1)<l.length-j;omega⟩
      |true=>
       rw[hr]at fe gr;simp only[bG,az,if_false,bj]at fe;simp-implicitDefEqProofs (disch:=(first|omega|decide)) only[go_sem,↓reduceIte,seval,ie,ej,gr,wrap_i64,aa]
       exact⟨⟨j+1,mP⟩,⟨⟨by simp,by rw[fe]⟩,by rw[fe]⟩,by show l.length-(j+1)<l.length-j;omega⟩
    · have ie: ¬(j:Int)<(l.length:Int):=by omega
      rw[ad (by omega)]
      have Gr:=tk (l.filter q)
      simp-implicitDefEqProofs (disch:=(first|omega|decide)) only[go_sem,↓reduceIte,seval,ie,Gr,wrap_i64,aa,ai]
theorem Dq:aQ Tryz.prog FN Tryz.f47.ntmps (Tryz.f47.body.getD .skip)=true:=by kernel_rfl
theorem FO(s t:bA)(hs:fV s)(ht:fV t):bp Tryz.prog 47 [s.enc,t.enc] (· = .ay ((cQ s t).map It.enc)):=by
 refine ah Bw mixed Tryz.func47 rfl (ab rfl) Dq ?_;unfold Tryz.f47;have gF: ∀x:List UInt8,x.length<=9223372036854775807->I5.f 73 [.ay (t.fl.map bk.enc),.str x]=some (.bool (bh t.fl x)):=fun x hx=>n9 (by have:=ht.fl.1;omega) ht.fl.2 hx;have gH: ∀(x:List UInt8) (n c:Int),x.length<=9223372036854775807->Bh.f 74 [.ay (t.kn.map Pc.enc),.str x,.agg [.int .i64 n,.int .i64 c]]=some (.bool (dq t.kn x n c)):=fun x n c hx=>zC ht.kn.1.1 hx;have tk: ∀m:List It,(m.map It.enc).take m.length=m.map It.enc:=fun m=>ad (by simp)
 have vM:=hs.bq.2;have hln:=hs.bq.1;simp only[bA.enc,bA.cells]
 unfold cQ;generalize hQ:(fun x:It=>bh t.fl x.key&& !dq t.kn x.key x.rep x.da)=q at*;have hq: ∀x:It,q x=(bh t.fl x.key&& !dq t.kn x.key x.rep x.da):=fun x=>by rw[<-hQ]
 generalize s.bq=l at*;simp-implicitDefEqProofs (disch:=(first|omega|decide)) only[go_sem,↓reduceIte,seval]
 refine ch 5 7 rfl ?_;refine a_ [2,3] (ι:={j:Nat//j<=l.length}) (fun j=>[(6,.int .i64 j.1),(5,.row 2 0 7 ((l.take j.1).filter q).length false)]) (fun j=>[(2,.row 7 (((l.take j.1).filter q).map It.enc))]) (fun j=>l.length-j.1) ⟨0,by omega⟩ (aw _) ?_ ?_
 · simp-implicitDefEqProofs (disch:=(first|omega|decide)) only[go_sem,↓reduceIte,seval]
   first|done|(simp;done)|exact⟨⟨rfl,rfl⟩,rfl⟩
 · rintro⟨j,hj⟩
   simp only;by_cases mP:j<l.length
   · have ie:(j:Int)<(l.length:Int):=by omega
     have ej:=eG mP;have zH:=vM _ (ao mP)
     have gf:=gF l[j].key zH.1;have gr:=gH l[j].key l[j].rep l[j].da zH.1;have fe:(l.take (j+1)).filter q=(l.take j).filter q++(if q l[j]then [l[j]]else []):=jr (f:=q) mP
     have VP:((l.take j).filter q).length<=1000000:=by
      have:=aO q (l.take j)
      rw[aK]at this;omega
     rw[hq l[j]]at fe;generalize l[j]=x at*;obtain⟨G,hG⟩: ∃G,(l.take j).filter q=G:=⟨_,rfl⟩
     have Ya:=tk G;rw[hG]at fe VP⊢;cases hf:bh t.fl x.key with
     |false=>
      rw[hf]at fe gf;simp only[aI,az,if_false,bj]at fe;simp-implicitDefEqProofs (disch:=(first|omega|decide)) only[go_sem,↓reduceIte,seval,ie,ej,gf,wrap_i64,aa]
      exact⟨⟨j+1,mP⟩,⟨⟨by simp,by rw[fe]⟩,by rw[fe]⟩,by show l.length-(j+1)<l.length-j;omega⟩
     |true=>
      rw[hf]at fe gf;cases hr:dq t.kn x.key x.rep x.da with
      |false=>
       rw[hr]at fe gr;simp only[aB,bm,if_true]at fe;simp-implicitDefEqProofs (disch:=(first|omega|decide)) only[go_sem,↓reduceIte,seval,ie,ej,gf,gr,Ya,wrap_i64,aa]
       refine⟨⟨ai _,by omega⟩,⟨j+1,mP⟩,⟨⟨by simp,by rw[fe];simp⟩,by rw[fe,<-jG]⟩,by show l.length-(j+1)<l.length-j;omega⟩
      |true=>
       rw[hr]at fe gr;simp only[aB,bG,az,if_false,bj]at fe;simp-implicitDefEqProofs (disch:=(first|omega|decide)) only[go_sem,↓reduceIte,seval,ie,ej,gf,gr,wrap_i64,aa]
       exact⟨⟨j+1,mP⟩,⟨⟨by simp,by rw[fe]⟩,by rw[fe]⟩,by show l.length-(j+1)<l.length-j;omega⟩
   · have ie: ¬(j:Int)<(l.length:Int):=by omega
     rw[ad (by omega)]
     have Gr:=tk (l.filter q)
     simp-implicitDefEqProofs (disch:=(first|omega|decide)) only[go_sem,↓reduceIte,seval,ie,Gr,wrap_i64,aa,ai]
theorem yh:aQ Tryz.prog FN Tryz.f107.ntmps (Tryz.f107.body.getD .skip)=true:=by kernel_rfl
theorem zR(s t:bA)(hs:fV s)(ht:fV t):bp Tryz.prog 107 [s.enc,t.enc] (· = .ay ((Dp s t).map Pc.enc)):=by
 refine ah Bw mixed Tryz.func107 rfl (ab rfl) yh ?_;unfold Tryz.f107;have g0:=Yv ⟨hs,ht⟩
 have g1:=zB (k:=s.kn) (l:=t.fl) hs.kn.1.1 (by have:=ht.fl.1;omega) ht.fl.2;rw[Jk]at g1;simp only[bA.enc,bA.cells]
 unfold Dp dL;cases hb:cq s&&cq t with
 |false=>
  rw[hb]at g0;rw[if_neg (by simp)]
  simp-implicitDefEqProofs (disch:=(first|omega|decide)) only[go_sem,↓reduceIte,seval,g0]
  first|done|rfl
 |true=>
  rw[hb]at g0;rw[if_pos rfl]
  simp-implicitDefEqProofs (disch:=(first|omega|decide)) only[go_sem,↓reduceIte,seval,g0,g1]
theorem Dr:aQ Tryz.prog FN Tryz.f83.ntmps (Tryz.f83.body.getD .skip)=true:=by kernel_rfl
theorem FP(s t:bA)(hs:fV s)(ht:fV t):bp Tryz.prog 83 [s.enc,t.enc] (· = .ay ((dL s t).map Pc.enc)):=by
 refine ah Bw mixed Tryz.func83 rfl (ab rfl) Dr ?_;unfold Tryz.f83;have g1:=zG (a:=s.kn) (l:=t.fl) hs.kn.1 ht.fl.2 ⟨hs.kn.2,ht.fl.1⟩
 simp only[bA.enc,bA.cells]
 unfold dL;simp-implicitDefEqProofs (disch:=(first|omega|decide)) only[go_sem,↓reduceIte,seval,g1]
def Yw:aW:=FN.add 46 (entry (fun(v:bA×bA)=>[v.1.enc,v.2.enc]) (fun v=>fV v.1/\fV v.2) (fun v=> .ay ((yf v.1 v.2).map It.enc)))
theorem X25d_ok:aN Tryz.prog Yw:=Bw.dH Tryz.func46 (by kernel_rfl) (by kernel_rfl) fun v h=>zQ v.1 v.2 h.1 h.2
@[go_sem] theorem X25d_old{g:FuncId}{xs:List A}(h:g≠46):Yw.f g xs=FN.f g xs:=aW.aU h
theorem vx(v:bA×bA)(h:fV v.1/\fV v.2):Yw.f 46 [v.1.enc,v.2.enc]=some (.ay ((yf v.1 v.2).map It.enc)):=aW.aZ (Γ:=FN) (fun i j h=>by simpa[ag,and_assoc]using h) v h
def Yx:aW:=Yw.add 47 (entry (fun(v:bA×bA)=>[v.1.enc,v.2.enc]) (fun v=>fV v.1/\fV v.2) (fun v=> .ay ((cQ v.1 v.2).map It.enc)))
theorem X25e_ok:aN Tryz.prog Yx:=X25d_ok.dH Tryz.func47 (by kernel_rfl) (by kernel_rfl) fun v h=>FO v.1 v.2 h.1 h.2
@[go_sem] theorem X25e_old{g:FuncId}{xs:List A}(h:g≠47):Yx.f g xs=Yw.f g xs:=aW.aU h
theorem zS(v:bA×bA)(h:fV v.1/\fV v.2):Yx.f 47 [v.1.enc,v.2.enc]=some (.ay ((cQ v.1 v.2).map It.enc)):=aW.aZ (Γ:=Yw) (fun i j h=>by simpa[ag,and_assoc]using h) v h
def Vp:aW:=Yx.add 107 (entry (fun(v:bA×bA)=>[v.1.enc,v.2.enc]) (fun v=>fV v.1/\fV v.2) (fun v=> .ay ((Dp v.1 v.2).map Pc.enc)))
theorem X25f_ok:aN Tryz.prog Vp:=X25e_ok.dH Tryz.func107 (by kernel_rfl) (by kernel_rfl) fun v h=>zR v.1 v.2 h.1 h.2
@[go_sem] theorem X25f_old{g:FuncId}{xs:List A}(h:g≠107):Vp.f g xs=Yx.f g xs:=aW.aU h
theorem vy(v:bA×bA)(h:fV v.1/\fV v.2):Vp.f 107 [v.1.enc,v.2.enc]=some (.ay ((Dp v.1 v.2).map Pc.enc)):=aW.aZ (Γ:=Yx) (fun i j h=>by simpa[ag,and_assoc]using h) v h
def FQ:aW:=Vp.add 83 (entry (fun(v:bA×bA)=>[v.1.enc,v.2.enc]) (fun v=>fV v.1/\fV v.2) (fun v=> .ay ((dL v.1 v.2).map Pc.enc)))
theorem Bx:aN Tryz.prog FQ:=X25f_ok.dH Tryz.func83 (by kernel_rfl) (by kernel_rfl) fun v h=>FP v.1 v.2 h.1 h.2
@[go_sem] theorem X25g_old{g:FuncId}{xs:List A}(h:g≠83):FQ.f g xs=Vp.f g xs:=aW.aU h
@[go_sem] theorem X25g_s:FQ.pl Vp:=⟨fun _=>rfl,fun _=>rfl,rfl,fun _=>rfl,rfl,fun _=>rfl,rfl⟩
theorem zT(v:bA×bA)(h:fV v.1/\fV v.2):FQ.f 83 [v.1.enc,v.2.enc]=some (.ay ((dL v.1 v.2).map Pc.enc)):=aW.aZ (Γ:=Vp) (fun i j h=>by simpa[ag,and_assoc]using h) v h
theorem Ds{s t:bA}(h:fV s/\fV t):Yw.f 46 [.agg [.int .i64 s.id,.ay (s.fl.map bk.enc),.ay (s.bq.map It.enc),.ay (s.kn.map Pc.enc),.int .i64 s.ct],.agg [.int .i64 t.id,.ay (t.fl.map bk.enc),.ay (t.bq.map It.enc),.ay (t.kn.map Pc.enc),.int .i64 t.ct]]=some (.ay ((yf s t).map It.enc)):=vx (s,t) h
theorem sa{s t:bA}(h:fV s/\fV t):Yx.f 47 [.agg [.int .i64 s.id,.ay (s.fl.map bk.enc),.ay (s.bq.map It.enc),.ay (s.kn.map Pc.enc),.int .i64 s.ct],.agg [.int .i64 t.id,.ay (t.fl.map bk.enc),.ay (t.bq.map It.enc),.ay (t.kn.map Pc.enc),.int .i64 t.ct]]=some (.ay ((cQ s t).map It.enc)):=zS (s,t) h
theorem e_Learned{s t:bA}(h:fV s/\fV t):Vp.f 107 [.agg [.int .i64 s.id,.ay (s.fl.map bk.enc),.ay (s.bq.map It.enc),.ay (s.kn.map Pc.enc),.int .i64 s.ct],.agg [.int .i64 t.id,.ay (t.fl.map bk.enc),.ay (t.bq.map It.enc),.ay (t.kn.map Pc.enc),.int .i64 t.ct]]=some (.ay ((Dp s t).map Pc.enc)):=vy (s,t) h
theorem Yy{s t:bA}(h:fV s/\fV t):FQ.f 83 [.agg [.int .i64 s.id,.ay (s.fl.map bk.enc),.ay (s.bq.map It.enc),.ay (s.kn.map Pc.enc),.int .i64 s.ct],.agg [.int .i64 t.id,.ay (t.fl.map bk.enc),.ay (t.bq.map It.enc),.ay (t.kn.map Pc.enc),.int .i64 t.ct]]=some (.ay ((dL s t).map Pc.enc)):=zT (s,t) h
def vk(s t:bA):A:=if(cq s&&cq t)=true then kv t (cQ s t) (dL s t)else .fq [e9.enc,.int .i64 41]
structure Yz(s t:bA):Prop where
 hs:fV s
 ht:fV t
 hx:Vn t (cQ s t) (dL s t)
theorem Dt:aQ Tryz.prog FQ Tryz.f52.ntmps (Tryz.f52.body.getD .skip)=true:=by kernel_rfl
theorem FR(s t:bA)(h:Yz s t):bp Tryz.prog 52 [s.enc,t.enc] (· =vk s t):=by
 refine ah Bx mixed Tryz.func52 rfl (ab rfl) Dt ?_;unfold Tryz.f52;obtain⟨hs,ht,hx⟩:=h;have g0:=Yv ⟨hs,ht⟩
 have g1:=Ds ⟨hs,ht⟩
 have g2:=e_Learned ⟨hs,ht⟩
 have g3:=e_Take hx;unfold yf at g1;unfold Dp at g2;unfold vk;cases hb:cq s&&cq t with
 |false=>
  rw[hb]at g0;rw[if_neg (by simp)]
  simp only[bA.enc,bA.cells,e9]
  simp-implicitDefEqProofs (disch:=(first|omega|decide)) only[go_sem,↓reduceIte,seval,g0]
  try rfl
 |true=>
  rw[hb]at g0 g1 g2;rw[if_pos rfl]at g1 g2⊢;obtain⟨u,c,hu⟩: ∃(u:bA) (c:Int),kv t (cQ s t) (dL s t)= .fq [u.enc,.int .i64 c]:=⟨_,_,rfl⟩
  rw[hu]at g3⊢;simp only[bA.enc,bA.cells]at*;simp-implicitDefEqProofs (disch:=(first|omega|decide)) only[go_sem,↓reduceIte,seval,g0,g1,g2,g3]
theorem MK:aQ Tryz.prog FQ Tryz.f32.ntmps (Tryz.f32.body.getD .skip)=true:=by kernel_rfl
theorem Rl(s t:bA)(h:Yz s t):bp Tryz.prog 32 [s.enc,t.enc] (· =vk s t):=by
 refine ah Bx mixed Tryz.func32 rfl (ab rfl) MK ?_;unfold Tryz.f32;obtain⟨hs,ht,hx⟩:=h;have g0:=dP s hs;have g0':=dP t ht;have g1:=sa ⟨hs,ht⟩
 have g2:=Yy ⟨hs,ht⟩
 have g3:=Gv hx;unfold vk;obtain⟨u,c,hu⟩: ∃(u:bA) (c:Int),kv t (cQ s t) (dL s t)= .fq [u.enc,.int .i64 c]:=⟨_,_,rfl⟩
 rw[hu]at g3⊢;cases h1:cq s with
 |false=>
  rw[h1]at g0;rw[aI,if_neg (by simp)]
  simp only[bA.enc,bA.cells,e9]at*;simp-implicitDefEqProofs (disch:=(first|omega|decide)) only[go_sem,↓reduceIte,seval,g0]
  try rfl
 |true=>
  rw[h1]at g0;cases h2:cq t with
  |false=>
   rw[h2]at g0';rw[bN,if_neg (by simp)]
   simp only[bA.enc,bA.cells,e9]at*;simp-implicitDefEqProofs (disch:=(first|omega|decide)) only[go_sem,↓reduceIte,seval,g0,g0']
   try rfl
  |true=>
   rw[h2]at g0';rw[cv,if_pos rfl]
   simp only[bA.enc,bA.cells]at*;simp-implicitDefEqProofs (disch:=(first|omega|decide)) only[go_sem,↓reduceIte,seval,g0,g0',g1,g2,g3]
def yi(t:bA)(x:It):Bool:=match iu t.bq x.key with|some y=> !bt x y|none=>false
theorem cmp_bt(x y:It):decide (Mj x y<=0)= !bt x y:=by
 rw[<-Z']
 by_cases h:0<Mj x y
 · rw[decide_eq_true h,decide_eq_false (by omega)];rfl
 · rw[decide_eq_false h,decide_eq_true (by omega)];rfl
theorem zU:aQ Tryz.prog FQ Tryz.f106.ntmps (Tryz.f106.body.getD .skip)=true:=by kernel_rfl
theorem By(t:bA)(x:It)(ht:t.bq.length<=1000000):bp Tryz.prog 106 [t.enc,x.enc] (· = .bool (yi t x)):=by
 refine ah Bx mixed Tryz.func106 rfl (ab rfl) zU ?_;unfold Tryz.f106;have g1:=U6 (s:=t) (k:=x.key) ht;unfold yi;simp only[bA.enc,bA.cells,It.enc]at*;cases h:iu t.bq x.key with
 |none=>
  rw[h]at g1;simp only[FA,Oa,It.enc]at g1;simp-implicitDefEqProofs (disch:=(first|omega|decide)) only[go_sem,↓reduceIte,seval,g1]
 |some y=>
  rw[h]at g1;simp only[FA,It.enc]at g1;have g2:=x_Cmp (x:=x) (y:=y)
  have g3:=cmp_bt x y;simp only;rw[<-g3]
  generalize Mj x y=c at*;simp-implicitDefEqProofs (disch:=(first|omega|decide)) only[go_sem,↓reduceIte,seval,g1,g2]
theorem FT:aQ Tryz.prog FQ Tryz.f75.ntmps (Tryz.f75.body.getD .skip)=true:=by kernel_rfl
theorem Ka(t:bA)(x:It)(ht:t.bq.length<=1000000):bp Tryz.prog 75 [t.enc,x.enc] (· = .bool (yi t x)):=by
 refine ah Bx mixed Tryz.func75 rfl (ab rfl) FT ?_;unfold Tryz.f75;have g1:=xQ (s:=t) (k:=x.key) ht;have hp:=rr t.bq x.key;unfold yi;simp only[bA.enc,bA.cells,It.enc]at*;rcases hp with⟨h1,h2⟩|⟨i,hi,h1,h2⟩
 · rw[h1]at g1
   rw[h2]
   simp-implicitDefEqProofs (disch:=(first|omega|decide)) only[go_sem,↓reduceIte,seval,g1]
 · rw[h1]at g1
   rw[h2]
   have e1:=eG hi;have q2:(0:Int)<=(i:Int):=by omega
   have q3:(i:Int)<(t.bq.length:Int):=by omega
   have q4:((i:Nat):Int).toNat=i:=bg _;have gB:=aaf (x:=x) (y:=t.bq[i])
   simp only;generalize t.bq[i]=y at*;simp-implicitDefEqProofs (disch:=(first|omega|decide)) only[go_sem,↓reduceIte,seval,g1,e1,q2,q3,q4,gB,aa]
def Vq:aW:=FQ.add 52 (entry (fun(v:bA×bA)=>[v.1.enc,v.2.enc]) (fun v=>Yz v.1 v.2) (fun v=>vk v.1 v.2))
theorem X25h_ok:aN Tryz.prog Vq:=Bx.dH Tryz.func52 (by kernel_rfl) (by kernel_rfl) fun v h=>FR v.1 v.2 h
@[go_sem] theorem X25h_old{g:FuncId}{xs:List A}(h:g≠52):Vq.f g xs=FQ.f g xs:=aW.aU h
theorem zV(v:bA×bA)(h:Yz v.1 v.2):Vq.f 52 [v.1.enc,v.2.enc]=some (vk v.1 v.2):=aW.aZ (Γ:=FQ) (fun i j h=>by simpa[ag,and_assoc]using h) v h
def YA:aW:=Vq.add 32 (entry (fun(v:bA×bA)=>[v.1.enc,v.2.enc]) (fun v=>Yz v.1 v.2) (fun v=>vk v.1 v.2))
theorem X25i_ok:aN Tryz.prog YA:=X25h_ok.dH Tryz.func32 (by kernel_rfl) (by kernel_rfl) fun v h=>Rl v.1 v.2 h
@[go_sem] theorem X25i_old{g:FuncId}{xs:List A}(h:g≠32):YA.f g xs=Vq.f g xs:=aW.aU h
theorem FU(v:bA×bA)(h:Yz v.1 v.2):YA.f 32 [v.1.enc,v.2.enc]=some (vk v.1 v.2):=aW.aZ (Γ:=Vq) (fun i j h=>by simpa[ag,and_assoc]using h) v h
def Vr:aW:=YA.add 106 (entry (fun(v:bA×It)=>[v.1.enc,v.2.enc]) (fun v=>v.1.bq.length<=1000000) (fun v=> .bool (yi v.1 v.2)))
theorem X25j_ok:aN Tryz.prog Vr:=X25i_ok.dH Tryz.func106 (by kernel_rfl) (by kernel_rfl) fun v h=>By v.1 v.2 h
@[go_sem] theorem X25j_old{g:FuncId}{xs:List A}(h:g≠106):Vr.f g xs=YA.f g xs:=aW.aU h
theorem xb(v:bA×It)(h:v.1.bq.length<=1000000):Vr.f 106 [v.1.enc,v.2.enc]=some (.bool (yi v.1 v.2)):=aW.aZ (Γ:=YA) (fun i j h=>by simpa[ag,and_assoc]using h) v h
def ML:aW:=Vr.add 75 (entry (fun(v:bA×It)=>[v.1.enc,v.2.enc]) (fun v=>v.1.bq.length<=1000000) (fun v=> .bool (yi v.1 v.2)))
theorem Rm:aN Tryz.prog ML:=X25j_ok.dH Tryz.func75 (by kernel_rfl) (by kernel_rfl) fun v h=>Ka v.1 v.2 h
@[go_sem] theorem X25k_old{g:FuncId}{xs:List A}(h:g≠75):ML.f g xs=Vr.f g xs:=aW.aU h
@[go_sem] theorem X25k_s:ML.pl Vr:=⟨fun _=>rfl,fun _=>rfl,rfl,fun _=>rfl,rfl,fun _=>rfl,rfl⟩
theorem Bz(v:bA×It)(h:v.1.bq.length<=1000000):ML.f 75 [v.1.enc,v.2.enc]=some (.bool (yi v.1 v.2)):=aW.aZ (Γ:=Vr) (fun i j h=>by simpa[ag,and_assoc]using h) v h
theorem YB{s t:bA}(h:Yz s t):Vq.f 52 [.agg [.int .i64 s.id,.ay (s.fl.map bk.enc),.ay (s.bq.map It.enc),.ay (s.kn.map Pc.enc),.int .i64 s.ct],.agg [.int .i64 t.id,.ay (t.fl.map bk.enc),.ay (t.bq.map It.enc),.ay (t.kn.map Pc.enc),.int .i64 t.ct]]=some (vk s t):=zV (s,t) h
theorem e_rSync{s t:bA}(h:Yz s t):YA.f 32 [.agg [.int .i64 s.id,.ay (s.fl.map bk.enc),.ay (s.bq.map It.enc),.ay (s.kn.map Pc.enc),.int .i64 s.ct],.agg [.int .i64 t.id,.ay (t.fl.map bk.enc),.ay (t.bq.map It.enc),.ay (t.kn.map Pc.enc),.int .i64 t.ct]]=some (vk s t):=FU (s,t) h
theorem e_effect{t:bA}{x:It}(h:t.bq.length<=1000000):Vr.f 106 [.agg [.int .i64 t.id,.ay (t.fl.map bk.enc),.ay (t.bq.map It.enc),.ay (t.kn.map Pc.enc),.int .i64 t.ct],.agg [.str x.key,.int .i64 x.rep,.int .i64 x.da,.int .i64 x.du,.int .i64 x.prio,.bool x.dead,.str x.body]]=some (.bool (yi t x)):=xb (t,x) h
theorem e_rEffect{t:bA}{x:It}(h:t.bq.length<=1000000):ML.f 75 [.agg [.int .i64 t.id,.ay (t.fl.map bk.enc),.ay (t.bq.map It.enc),.ay (t.kn.map Pc.enc),.int .i64 t.ct],.agg [.str x.key,.int .i64 x.rep,.int .i64 x.da,.int .i64 x.du,.int .i64 x.prio,.bool x.dead,.str x.body]]=some (.bool (yi t x)):=Bz (t,x) h
def Oe(t:bA)(x:It):Bool:=bQ x&&(bh t.fl x.key&&(dq t.kn x.key x.rep x.da&& !yi t x))
def fR(t:bA)(l:List It):Bool:=l.all fun x=> !Oe t x
theorem BA:aQ Tryz.prog ML Tryz.f51.ntmps (Tryz.f51.body.getD .skip)=true:=by kernel_rfl
theorem Du(t:bA)(l:List It)(ht:fV t)(hl:l.length<=4611686018427387904/\sS l):bp Tryz.prog 51 [t.enc,.ay (l.map It.enc)] (· = .bool (fR t l)):=by
 refine ah Rm mixed Tryz.func51 rfl (ab rfl) BA ?_;unfold Tryz.f51;have gF: ∀x:List UInt8,x.length<=9223372036854775807->Qc.f 105 [.ay (t.fl.map bk.enc),.str x]=some (.bool (bh t.fl x)):=fun x hx=>oT (by have:=ht.fl.1;omega) ht.fl.2 hx;have gH: ∀(x:List UInt8) (n c:Int),x.length<=9223372036854775807->C1.f 99 [.ay (t.kn.map Pc.enc),.str x,.agg [.int .i64 n,.int .i64 c]]=some (.bool (dq t.kn x n c)):=fun x n c hx=>N3 ht.kn.1.1 hx;have gE:=fun x:It=>e_effect (t:=t) (x:=x) ht.bq.1;simp only[bA.enc,bA.cells]
 simp-implicitDefEqProofs (disch:=(first|omega|decide)) only[go_sem,↓reduceIte,seval,aa]
 refine a_ [2,7,8] (ι:={i:Nat//i<=l.length/\fR t l=fR t (l.drop i)}) (fun p=>[(9,.int .i64 p.1)]) (fun _=>[]) (fun p=>l.length-p.1) ⟨0,by omega,rfl⟩ (aw _) ?_ ?_
 · simp-implicitDefEqProofs (disch:=(first|omega|decide)) only[go_sem,↓reduceIte,seval]
   try rfl
 · rintro⟨i,hi,hd⟩
   simp only;by_cases bo:i<l.length
   · have aH:(i:Int)<(l.length:Int):=by omega
     have ei:=eG bo;have zH:=hl.2 _ (ao bo)
     rw[ax bo]at hd;have hd:fR t l=(!Oe t l[i]&&fR t (l.drop (i+1))):=hd;generalize l[i]=x at*;have g1:=aac zH;have g2:=gF x.key zH.1;have g3:=gH x.key x.rep x.da zH.1;have g4:=gE x;unfold Oe at hd;have gI:fR t l=fR t (l.drop (i+1))-> ∃j:{i:Nat//i<=l.length/\fR t l=fR t (l.drop i)},(i:Int)+1=(j.1:Int)/\l.length-j.1<l.length-i:=fun h=>⟨⟨i+1,bo,h⟩,by simp,by show l.length-(i+1)<l.length-i;omega⟩
     cases k1:bQ x with
     |false=>
      rw[k1]at g1 hd;have gI:=gI (by rw[hd];rfl)
      simp-implicitDefEqProofs (disch:=(first|omega|decide)) only[go_sem,↓reduceIte,seval,aH,ei,g1,wrap_i64,aa]
      exact gI
     |true=>
      rw[k1]at g1 hd;cases k2:bh t.fl x.key with
      |false=>
       rw[k2]at g2 hd;have gI:=gI (by rw[hd];rfl)
       simp-implicitDefEqProofs (disch:=(first|omega|decide)) only[go_sem,↓reduceIte,seval,aH,ei,g1,g2,wrap_i64,aa]
       exact gI
      |true=>
       rw[k2]at g2 hd;cases k3:dq t.kn x.key x.rep x.da with
       |false=>
          rw[k3]at g3 hd;have gI:=gI (by rw[hd];rfl)
          simp-implicitDefEqProofs (disch:=(first|omega|decide)) only[go_sem,↓reduceIte,seval,aH,ei,g1,g2,g3,wrap_i64,aa]
          exact gI
       |true=>
          rw[k3]at g3 hd;cases k4:yi t x with
          |true=>
           rw[k4]at g4 hd;have gI:=gI (by rw[hd];rfl)
           simp-implicitDefEqProofs (maxSteps:=600000) (disch:=(first|omega|decide)) only[go_sem,↓reduceIte,seval,aH,ei,g1,g2,g3,g4,wrap_i64,aa]
           exact gI
          |false=>
           rw[k4]at g4 hd;have hd:fR t l=false:=by rw[hd];rfl
           rw[hd]
           simp-implicitDefEqProofs (maxSteps:=600000) (disch:=(first|omega|decide)) only[go_sem,↓reduceIte,seval,aH,ei,g1,g2,g3,g4,aa]
   · have aH: ¬(i:Int)<(l.length:Int):=by omega
     rw[aC (by omega)]at hd;have hd:fR t l=true:=hd;rw[hd]
     simp-implicitDefEqProofs (disch:=(first|omega|decide)) only[go_sem,↓reduceIte,seval,aH,aa]
theorem Kb:aQ Tryz.prog ML Tryz.f16.ntmps (Tryz.f16.body.getD .skip)=true:=by kernel_rfl
theorem MM(t:bA)(l:List It)(ht:fV t)(hl:l.length<=4611686018427387904/\sS l):bp Tryz.prog 16 [t.enc,.ay (l.map It.enc)] (· = .bool (fR t l)):=by
 refine ah Rm mixed Tryz.func16 rfl (ab rfl) Kb ?_;unfold Tryz.f16;have gF: ∀x:List UInt8,x.length<=9223372036854775807->I5.f 73 [.ay (t.fl.map bk.enc),.str x]=some (.bool (bh t.fl x)):=fun x hx=>n9 (by have:=ht.fl.1;omega) ht.fl.2 hx;have gH: ∀(x:List UInt8) (n c:Int),x.length<=9223372036854775807->Bh.f 74 [.ay (t.kn.map Pc.enc),.str x,.agg [.int .i64 n,.int .i64 c]]=some (.bool (dq t.kn x n c)):=fun x n c hx=>zC ht.kn.1.1 hx;have gE:=fun x:It=>e_rEffect (t:=t) (x:=x) ht.bq.1;simp only[bA.enc,bA.cells]
 simp-implicitDefEqProofs (disch:=(first|omega|decide)) only[go_sem,↓reduceIte,seval,aa]
 refine a_ [1,2] (ι:={i:Nat//i<=l.length/\fR t l=fR t (l.drop i)}) (fun p=>[(5,.int .i64 p.1)]) (fun _=>[]) (fun p=>l.length-p.1) ⟨0,by omega,rfl⟩ (aw _) ?_ ?_
 · simp-implicitDefEqProofs (disch:=(first|omega|decide)) only[go_sem,↓reduceIte,seval]
   try rfl
 · rintro⟨i,hi,hd⟩
   simp only;by_cases bo:i<l.length
   · have aH:(i:Int)<(l.length:Int):=by omega
     have ei:=eG bo;have p1:(0:Int)<=(i:Int):=by omega
     have t1:((i:Nat):Int).toNat=i:=bg _;have zH:=hl.2 _ (ao bo)
     rw[ax bo]at hd;have hd:fR t l=(!Oe t l[i]&&fR t (l.drop (i+1))):=hd;generalize l[i]=x at*;have g1:=JG zH;have g2:=gF x.key zH.1;have g3:=gH x.key x.rep x.da zH.1;have g4:=gE x;unfold Oe at hd;have gI:fR t l=fR t (l.drop (i+1))-> ∃j:{i:Nat//i<=l.length/\fR t l=fR t (l.drop i)},(i:Int)+1=(j.1:Int)/\l.length-j.1<l.length-i:=fun h=>⟨⟨i+1,bo,h⟩,by simp,by show l.length-(i+1)<l.length-i;omega⟩
     cases k1:bQ x with
     |false=>
      rw[k1]at g1 hd;have gI:=gI (by rw[hd];rfl)
      simp-implicitDefEqProofs (disch:=(first|omega|decide)) only[go_sem,↓reduceIte,seval,aH,p1,t1,ei,g1,wrap_i64,aa]
      exact gI
     |true=>
      rw[k1]at g1 hd;cases k2:bh t.fl x.key with
      |false=>
       rw[k2]at g2 hd;have gI:=gI (by rw[hd];rfl)
       simp-implicitDefEqProofs (disch:=(first|omega|decide)) only[go_sem,↓reduceIte,seval,aH,p1,t1,ei,g1,g2,wrap_i64,aa]
       exact gI
      |true=>
       rw[k2]at g2 hd;cases k3:dq t.kn x.key x.rep x.da with
       |false=>
          rw[k3]at g3 hd;have gI:=gI (by rw[hd];rfl)
          simp-implicitDefEqProofs (disch:=(first|omega|decide)) only[go_sem,↓reduceIte,seval,aH,p1,t1,ei,g1,g2,g3,wrap_i64,aa]
          exact gI
       |true=>
          rw[k3]at g3 hd;cases k4:yi t x with
          |true=>
           rw[k4]at g4 hd;have gI:=gI (by rw[hd];rfl)
           simp-implicitDefEqProofs (maxSteps:=600000) (disch:=(first|omega|decide)) only[go_sem,↓reduceIte,seval,aH,p1,t1,ei,g1,g2,g3,g4,wrap_i64,aa]
           exact gI
          |false=>
           rw[k4]at g4 hd;have hd:fR t l=false:=by rw[hd];rfl
           rw[hd]
           simp-implicitDefEqProofs (maxSteps:=600000) (disch:=(first|omega|decide)) only[go_sem,↓reduceIte,seval,aH,p1,t1,ei,g1,g2,g3,g4,aa]
   · have aH: ¬(i:Int)<(l.length:Int):=by omega
     rw[aC (by omega)]at hd;have hd:fR t l=true:=hd;rw[hd]
     simp-implicitDefEqProofs (disch:=(first|omega|decide)) only[go_sem,↓reduceIte,seval,aH,aa]
def ss(k:List UInt8)(l:List It):List It:=(l.filter bQ).filter fun x=>k==x.key
theorem kf(k:List UInt8)(a b:List It):ss k (a++b)=ss k a++ss k b:=by simp[ss]
theorem Kc(k:List UInt8)(l:List It):ss k (bM l)=(kA bt (ss k l)).toList:=by
 obtain⟨h1,h2⟩:=ke l;have hr:(bM l).filter bQ=bM l:=dv.2 fun x hx=>(fB hx).2;unfold ss;rw[hr]
 have nd:((bM l).filter fun x=>k==x.key).Pairwise fun x y=>False:=by
  refine qV ?_ (h1.filter _)
  intro a b ha hb S7;have e1:=(aP.1 ha).2;have e2:=(aP.1 hb).2;rw[<-show k=a.key by simpa using e1,<-show k=b.key by simpa using e2,lt_irrefl]at S7;cases S7
 have mem: ∀z,z∈(bM l).filter (fun x=>k==x.key) ↔ kA bt ((l.filter bQ).filter fun x=>k==x.key)=some z:=fun z=>by
  rw[aP,h2 z]
  constructor
  · rintro⟨h,e⟩
    rw[show k=z.key by simpa using e];exact h
  · intro h
    have e:=(aP.1 (qa h)).2;have e':k=z.key:=by simpa using e
    exact⟨by rw[<-e'];exact h,e⟩
 generalize(bM l).filter (fun x=>k==x.key)=m at nd mem;cases m with
 |nil=>
  cases hb:kA bt ((l.filter bQ).filter fun x=>k==x.key)with
  |none=>rfl
  |some z=>have:=(mem z).2 hb;cases this
 |cons z m=>
  have e:=(mem z).1 (by simp)
  cases m with
  |nil=>rw[e];rfl
  |cons w m=>exact((aR.1 nd).1 w (by simp)).elim
theorem YC(a b:List It):kA bt ((kA bt a).toList++b)=kA bt (a++b):=by
 cases a with
 |nil=>rfl
 |cons y a=>
  show some (b.foldl (better bt) (a.foldl (better bt) y))=some ((a++b).foldl (better bt) y)
  rw[cp]
theorem xc(l m:List It):bM (bM l++m)=bM (l++m):=Dm fun k=>by
 show kA bt (ss k (bM l++m))=kA bt (ss k (l++m))
 rw[kf,kf,Kc,YC]
theorem get_merge(l:List It)(k:List UInt8):iu (bM l) k=kA bt (ss k l):=by
 have h:=Kc k l;have hr:(bM l).filter bQ=bM l:=dv.2 fun x hx=>(fB hx).2;unfold ss at h;rw[hr]at h;unfold iu;rw[<-List.head?_filter]
 have e:(fun x:It=>x.key==k)=fun x=>k==x.key:=funext fun x=>by rw[bS,beq_iff_eq,beq_iff_eq];exact eq_comm
 rw[e,h]
 show((kA bt (ss k l)).toList).head? =_;cases kA bt (ss k l)<;>rfl
theorem o0{l:List It}(h1: ∀x∈l,bQ x=true)(h2:l.Pairwise fun x y=>cL x.key y.key=true){x:It}(hx:x∈l):ss x.key l=[x]:=by
 unfold ss;rw[dv.2 h1]
 induction l with
 |nil=>cases hx
 |cons y l ih=>
  obtain⟨p1,p2⟩:=aR.1 h2;rcases aD.1 hx with rfl|hx
  · rw[bV (by simp)]
    congr 1
    rw[cy]
    intro w hw e;have:=p1 w hw;rw[show x.key=w.key by simpa using e,lt_irrefl]at this;cases this
  · rw[df,ih (fun z hz=>h1 z (by simp[hz])) p2 hx]
    intro e;have:=p1 x hx;rw[show x.key=y.key by simpa using e,lt_irrefl]at this;cases this
theorem jy{l:List It}{k:List UInt8}(h: ∀x∈l,x.key≠k):ss k l=[]:=by
 unfold ss;rw[cy]
 intro x hx e;exact h x (aP.1 hx).1 (show k=x.key by simpa using e).symm
theorem mM{l:List It}(h2:l.Pairwise fun x y=>cL x.key y.key=true){x y:It}(hx:x∈l)(hy:y∈l)(e:x.key=y.key):x=y:=by
 obtain⟨i,hi,rfl⟩:=bW hx;obtain⟨j,hj,rfl⟩:=bW hy;have hp:=b9.1 h2;rcases j6 i j with r|r|r
 · have:=hp i j hi hj r;rw[e,lt_irrefl]at this;cases this
 · subst r;rfl
 · have:=hp j i hj hi r;rw[e,lt_irrefl]at this;cases this
theorem xd{s t:bA}(hs:dg s):(∀x∈cQ s t,bQ x=true)/\(cQ s t).Pairwise fun x y=>cL x.key y.key=true:=
 ⟨fun x hx=>hs.right x (eS.1 hx).1,hs.up.filter _⟩
structure mj(s t p:bA)(L:List It):Prop where
 right:dg p
 id:p.id=t.id
 fl:p.fl=t.fl
 ct:p.ct=t.ct
 bq:p.bq=bM (t.bq++L)
 sub:L.Sublist (cQ s t)
 kn: ∀x n,dJ n=true-> ∀c,hk (setAt p.kn x) n c=true ↔ hk (setAt t.kn x) n c=true\/ ∃y∈L,x=y.key/\n=y.rep/\c=y.da
theorem Dv{s t:bA}(ht:dg t):mj s t t []:=⟨ht,rfl,rfl,rfl,by rw[bj,zN ht.right ht.up],by simp,fun x n _ c=>by simp⟩
theorem YD{s t p:bA}{L:List It}(hs:dg s)(ht:dg t)(h:mj s t p L):lQ s p=lQ s t/\(zO s t->zO s p):=by
 obtain⟨u1,u2⟩:=xd (t:=t) hs;have hL: ∀y∈L,y∈cQ s t:=fun y hy=>h.sub.subset hy
 have hunk:cQ s p=(cQ s t).filter fun x=> !decide (x∈L):=by
  unfold cQ;rw[pn]
  refine kc fun x hx=> ?_;obtain⟨k1,_⟩:=oZ hs hx;rw[h.fl]
  have e:dq p.kn x.key x.rep x.da=(dq t.kn x.key x.rep x.da||decide (x∈L)):=by
   rw[bS,bE,decide_eq_true_iff,iq k1,iq k1,h.kn _ _ k1]
   refine or_congr Iff.rfl ⟨?_,fun hm=>⟨x,hm,rfl,rfl,rfl⟩⟩
   rintro⟨y,hy,e,_,_⟩
   rw[mM hs.up hx (eS.1 (hL y hy)).1 e];exact hy
  rw[e]
  cases bh t.fl x.key<;>cases dq t.kn x.key x.rep x.da<;>cases decide (x∈L)<;>rfl
 have hits:bM (p.bq++cQ s p)=bM (t.bq++cQ s t):=by
  rw[h.bq,xc]
  refine Dm fun k=> ?_;show kA bt (ss k _)=kA bt (ss k _)
  rw[kf,kf,kf,ba]
  congr 2
  by_cases hx: ∃x∈cQ s t,x.key=k
  · obtain⟨x,hx,rfl⟩:=hx
    rw[o0 u1 u2 hx]
    by_cases hm:x∈L
    · rw[o0 (fun y hy=>u1 y (hL y hy)) (u2.sublist h.sub) hm,jy]
      · rfl
      · intro y hy e
        rw[hunk,aP]at hy;have:=mM u2 hy.1 hx e;subst this;simp[hm]at hy
    · have oo:x∈cQ s p:=by rw[hunk,aP];exact⟨hx,by simp[hm]⟩
      obtain⟨v1,v2⟩:=xd (t:=p) hs;rw[o0 v1 v2 oo,jy]
      · rfl
      · intro y hy e
        exact hm (mM u2 (hL y hy) hx e▸hy)
  · have hn: ∀x∈cQ s t,x.key≠k:=fun x OB e=>hx ⟨x,OB,e⟩
    rw[jy hn,jy (fun y hy=>hn y (hL y hy)),jy (fun y hy=>hn y (by rw[hunk]at hy;exact(aP.1 hy).1))]
    rfl
 have hlearn:dL s p=dL s t:=by unfold dL;rw[h.fl]
 have hkn:cF (fF (p.kn++dL s p))=cF (fF (t.kn++dL s t)):=by
  refine Yu (km _) (km _) fun x n hn c=> ?_;rw[iF hn,iF hn,hlearn,bS,bE,bE,h.kn x n hn c]
  constructor
  · rintro((g|⟨y,hy,rfl,rfl,rfl⟩)|g)
    · exact .inl g
    · obtain⟨m1,m2,_⟩:=eS.1 (hL y hy)
      obtain⟨_,k2⟩:=oZ hs m1;right;rw[t_ hn,m2,k2];rfl
    · exact .inr g
  · rintro(g|g)
    · exact .inl (.inl g)
    · exact .inr g
 refine⟨?_,fun ok=>⟨fun x c hc=> ?_,by rw[hits];exact ok.apart,by rw[hits];exact ok.len⟩⟩
 · show(⟨p.id,p.fl,bM (p.bq++cQ s p),cF (fF (p.kn++dL s p)),p.ct⟩:bA)=⟨t.id,t.fl,bM (t.bq++cQ s t),cF (fF (t.kn++dL s t)),t.ct⟩
   rw[h.id,h.fl,h.ct,hits,hkn]
 · rw[h.ct]
   rw[h.id,hlearn]at hc;exact ok.JI x c hc
theorem has_key{s:bA}{k:List UInt8}(h:dg s)(hn:iu s.bq k≠none\/s.bq.length≠4096):s.bq.length<4096\/k∈s.bq.map (·.key):=by
 have:=h.len;rcases hn with hn|hn
 · right
   cases hg:iu s.bq k with
   |none=>exact absurd hg hn
   |some o=>
    have h1:=dD hg;have h2:(o.key==k)=true:=jH (p:=fun x:It=>x.key==k) hg;exact bZ.2 ⟨o,h1,by simpa using h2⟩
 · left;omega
theorem YE{s:bA}{k:List UInt8}{prio:Int}{body:List UInt8}(h:dz s k prio body=0):
 dg s/\s.ct≠1099511627776/\(fj s (sr s k prio body)).ok/\dg (ig s (fj s (sr s k prio body))):=by
 unfold dz at h;split at h
 · cases h
 rename_i hR;have hR:cq s=true:=by simpa using hR
 have hS:=(dN s).1 hR;have NZ:=nP hR k;split at h
 · cases h
 rename_i hb;split at h
 · cases h
 rename_i hf;split at h
 · cases h
 rename_i hm;split at h
 · cases h
 rename_i hl;have hc:s.ct≠1099511627776:=fun e=>hm (.inl e)
 have hv:=Dk hS hc;unfold ly at hb;simp only[bE,bT,decide_eq_false_iff_not,decide_eq_true_eq,not_or]at hb;obtain⟨⟨⟨b1,b2⟩,b3⟩,b4⟩:=hb;have b1:1<=k.length/\k.length<=16:=Decidable.not_not.1 b1;have hm2:h_ s.bq k≠1099511627776:=fun e=>hm (.inr e)
 have hx:bQ (fj s (sr s k prio body))=true:=by
  unfold bQ;have hver:cm ⟨(fj s (sr s k prio body)).rep,(fj s (sr s k prio body)).da⟩=true:=hv;rw[hver]
  have r0:(fj s (sr s k prio body)).key=k:=rfl;have r1:(fj s (sr s k prio body)).du=h_ s.bq k+1:=rfl;have r2:(fj s (sr s k prio body)).prio=prio:=rfl;have r3:(fj s (sr s k prio body)).body=body:=rfl;have r4:(fj s (sr s k prio body)).dead=false:=rfl;rw[r0,r1,r2,r3,r4]
  simp only[decide_eq_true b1,aB,bm,cM,cv,ak,decide_eq_true_eq]
  omega
 have hct:=hS.ct;refine⟨hS,hc,⟨by show k.length<=_;omega,by show body.length<=_;omega⟩,put_right hS hx rfl rfl (by show bh s.fl k=true;simpa using hf) (by omega) (has_key hS ?_)⟩
 by_cases hg:iu s.bq k=none
 · right;intro e;exact hl ⟨hg,e⟩
 · left;exact hg
theorem write_fin{s:bA}{k:List UInt8}{prio:Int}{body:List UInt8}{N w n:Nat}(h:mW s N w n)(hN:N<=198)(hw:w<=2000)(hC:dz s k prio body=0):mW (ig s (fj s (sr s k prio body))) (1+2*(N+1)) (48+w) (n+1):=by obtain⟨_,_,h3,h4⟩:=YE hC;exact h.put hN hw h4 h3
def YF:bk:=⟨[],[],true⟩
theorem hasAll(x:List UInt8):bh [YF] x=true:=by
 have:bw ⟨[],[],true⟩=true:=by decide
 simp[bh,YF,eT,Pp,this]
theorem BB{P:List UInt8->List aF}{es:List (List UInt8)}(hE:Po P es){B N:Nat}(hB: ∀x,(P x).length+dt (P x)<=B)(hN:es.length<=N)(hm:N*B<=900000)(WV:N<=10000)(hB2:B<=40000):
 mH (cF P)/\(cF P).length<=N/\wtP (cF P) B/\wP (cF P)<=N*B:=by
 obtain⟨a,b,c⟩:=Jl hE hB hN hm WV;have hw:=setP_wt hE hB;exact⟨⟨a,fun x=>by rw[g_ (sI hE).2];exact aL (hB x) hB2,fun p hp=>aL (hw p hp) hB2⟩,b,hw,c⟩
theorem okT_of{s:bA}{l:List It}{k:List Pc}{N W:Nat}(hs:fV s)(hf:s.fl.length<=8)(hl:l.length<=100000/\sS l)(hi:s.bq.length<=100000)(hk:mH k/\k.length<=N)(hW: ∀x,(setAt k x).length+dt (setAt k x)<=W)(hN:N<=240)
 (hw2:W<=30000) (hm:(1+2*(N+8))*(16+W)<=450000) (hs2:wP s.kn<=450000):Vn s l k/\(lz s k).length<=1+2*(N+8)/\wtP (lz s k) (16+W):=by
 have he:=nL (LL:=[k,nN s.fl []])
 simp only[sn,aS,bD,cS,ja]at he;have e:(nN s.fl []).length=s.fl.length:=by simp[nN]
 obtain⟨a,b,c,d⟩:=BB (edg3 k s.fl) (B:=16+W) (N:=1+2*(N+8)) (fun x=>Rc (hW x)) (by omega) (by omega) (by omega) (by omega)
 have hko:=hs.kn.1.1;have h5:wP (lz s k)<=450000:=aL d hm;have h6:(lz s k).length<=1+2*(N+8):=b;exact⟨⟨hs,hl,hi,⟨hk.1,by omega⟩,⟨a,by omega⟩,rY hko a.1 (by have:=hs.kn.2;omega) (by omega)⟩,b,c⟩
theorem YG{s:bA}{l:List It}{k:List Pc}(h:jt s l k=0):dg s/\(eZ l=true/\cD k=true)/\(∀x∈ku s.fl l,dq s.kn x.key x.rep x.da=true\/dq (lz s k) x.key x.rep x.da=true)/\hI (lz s k) s.id<=s.ct/\gq (bM (s.bq++ku s.fl l))=true/\(bM (s.bq++ku s.fl l)).length<=4096:=by
 unfold jt at h;split at h
 · cases h
 rename_i h0;split at h
 · cases h
 rename_i h1;split at h
 · cases h
 rename_i h2;split at h
 · cases h
 rename_i h3;split at h
 · cases h
 rename_i h4;split at h
 · cases h
 rename_i h5;have h0:cq s=true:=by simpa using h0
 refine⟨(dN s).1 h0,by simpa using h1,fun x hx=> ?_,by omega,by simpa using h4,by omega⟩
 unfold loneI at h2;simp only[qv,ak,bT,not_exists,not_and]at h2;have:=h2 x hx;cases g:dq s.kn x.key x.rep x.da with
 |true=>exact .inl rfl
 |false=>right;simpa using this g
theorem xe{s:bA}{l:List It}{k:List Pc}(h:jt s l k=0):dg (yJ s (ku s.fl l) (lz s k)):=by
 obtain⟨hS,_,h2,h3,h4,h5⟩:=YG h;have hid:dJ s.id=true:=eo.2 hS.id;refine JM hS (fun x hx=>(aP.1 hx).2) (fun x n hn c hc=> ?_) (fun x c hc=> ?_) h2 (rq.1 h4) h5
 · unfold lz at hc
   rw[g_ (ny _ _),wY hn,ak]at hc;exact hc.1
 · unfold hI at h3
   rw[w5]at h3;obtain⟨p,hp,_,h⟩:=te.1 hc;exact(w7 hid hS.ct.1).1 (h3.2 p hp) c h
theorem Of{a b:List Pc}{w v:Nat}{x:List UInt8}(ha:(setAt a x).length+dt (setAt a x)<=w)(hb:(setAt b x).length+dt (setAt b x)<=v):(setAt (a++b) x).length+dt (setAt (a++b) x)<=w+v:=by rw[lk,aj,iK];omega
theorem take_fin{s:bA}{L:List It}{O:List Pc}{N w n No wo nl:Nat}(h:mW s N w n)(hR:dg (yJ s L O))(hO:O.length<=No)(hw: ∀x,(setAt O x).length+dt (setAt O x)<=wo)(hL:L.length<=nl/\sS L)(hm:(1+2*(N+No))*(16+(w+wo))<=900000)(hN:N+No<=1000):
 mW (yJ s L O) (1+2*(N+No)) (16+(w+wo)) (n+nl):=by
 have hl:(s.kn++O).length<=N+No:=by rw[aj];have:=h.kn.1;omega
 have hk:=okP_atw (N:=N+No) (W:=w+wo) hl (fun y=>Of (Bt h.right.kn h.kn.2 y) (hw y)) hm hN;refine⟨hR,h.fl,⟨?_,fun y hy=> ?_⟩,⟨hk.2.1,hk.2.2.2⟩⟩
 · have:=mK (s.bq++L)
   rw[aj]at this;show(bM (s.bq++L)).length<=n+nl;have:=h.bq.1;omega
 · rcases aJ.1 (fB hy).1 with hy|hy
   · exact h.bq.2 y hy
   · exact hL.2 y hy
theorem get_key{l:List It}(h2:l.Pairwise fun x y=>cL x.key y.key=true){x:It}(hx:x∈l):iu l x.key=some x:=by
 have:(iu l x.key).isSome=true:=by
  unfold iu;rw[List.find?_isSome]
  exact⟨x,hx,by simp⟩
 obtain⟨y,hy⟩:=dM.1 this;have h1:y∈l:=dD hy;have h3:(y.key==x.key)=true:=jH (p:=fun z:It=>z.key==x.key) hy;have h3:y.key=x.key:=by simpa using h3
 obtain⟨i,hi,rfl⟩:=bW hx;obtain⟨j,hj,rfl⟩:=bW h1;have hp:=b9.1 h2;rcases j6 i j with r|r|r
 · have:=hp i j hi hj r
   rw[h3,lt_irrefl]at this;cases this
 · subst r;exact hy
 · have:=hp j i hj hi r
   rw[h3,lt_irrefl]at this;cases this
theorem YH(s t:bA):ku t.fl (cQ s t)=cQ s t:=dv.2 fun x hx=>(eS.1 hx).2.1
theorem pM(s t:bA):lz t (dL s t)=dL s t:=by
 unfold lz dL
 congr 1
 funext x
 show(if bh t.fl x=true then fF (cF (c7 s.kn t.fl)) x else [])=c7 s.kn t.fl x;rw[Jj (ny _ _) (zF _ _)]
 unfold c7;split<;>rfl
theorem Vs{k:List Pc}{id b:Int}(hid:dJ id=true)(hb:0<=b)(qD:cD k=true):hI k id<=b ↔∀x c,hk (setAt k x) id c=true->c<=b:=by
 unfold hI;rw[w5]
 constructor
 · rintro⟨_,h⟩ x c hc
   obtain⟨p,hp,_,g⟩:=te.1 hc;exact(w7 hid hb).1 (h p hp) c g
 · intro h
   refine⟨hb,fun p hp=>(w7 hid hb).2 fun c hc=> ?_⟩
   have h1:=(iZ.1 qD).1 p hp;unfold jc at h1;simp only[ak]at h1;exact h p.r.lo c (te.2 ⟨p,hp,qK h1.1.1,hc⟩)
theorem sync_code{s t:bA}(hs:dg s)(ht:dg t):jt t (cQ s t) (dL s t)=if t.ct<hI (dL s t) t.id then 2 else if gq (bM (t.bq++cQ s t))=false then 2 else if 4096<(bM (t.bq++cQ s t)).length then 32 else 0:=by
 obtain⟨u1,u2⟩:=xd (t:=t) hs;have h1:eZ (cQ s t)=true:=JJ.2 ⟨u1,u2,fun k hk=>by cases hk⟩
 have h2:cD (dL s t)=true:=km _
 have h3:loneI t (cQ s t) (dL s t)=false:=by
  unfold loneI;rw[iL]
  intro x hx;rw[YH]at hx;obtain⟨m1,m2,_⟩:=eS.1 hx;obtain⟨k1,k2⟩:=oZ hs m1;rw[pM,iq k1,iq k1,t_ k1,m2,k2];simp
 unfold jt;rw[(dN t).2 ht,h1,h2,h3,YH,pM,if_neg (by simp),if_neg (by simp),if_neg (by simp)]
theorem xS{s t:bA}(hs:dg s)(ht:dg t):jt t (cQ s t) (dL s t)=0 ↔ zO s t:=by
 have hid:dJ t.id=true:=eo.2 ht.id;have hm:=Vs (k:=dL s t) hid ht.ct.1 (km _)
 have ha:=rq (l:=bM (t.bq++cQ s t))
 rw[sync_code hs ht]
 constructor
 · intro h
   split at h
   · cases h
   rename_i h1;split at h
   · cases h
   rename_i h2;split at h
   · cases h
   rename_i h3;exact⟨hm.1 (by omega),ha.1 (by simpa using h2),by omega⟩
 · intro h
   have h1:=hm.2 h.JI;have h2:=ha.2 h.apart;have h3:=h.len;rw[if_neg (by omega),h2,if_neg (by simp),if_neg (by omega)]
theorem Og{s t:bA}(h:jt t (cQ s t) (dL s t)=0):kM t (cQ s t) (dL s t)=lQ s t:=by unfold kM;rw[if_pos h,YH,pM];rfl
theorem effB_iff{t:bA}{x:It}(ht:dg t):yi t x=true ↔ effS t x:=by
 unfold yi effS;constructor
 · intro h
   cases hg:iu t.bq x.key with
   |none=>rw[hg]at h;cases h
   |some y=>
    rw[hg]at h;have h1:y∈t.bq:=dD hg;have h2:(y.key==x.key)=true:=jH (p:=fun z:It=>z.key==x.key) hg;exact⟨y,h1,by simpa using h2,by simpa using h⟩
 · rintro⟨y,hy,hk,hb⟩
   rw[<-hk,get_key ht.up hy]
   simp[hb]
theorem Kd{t:bA}{l:List It}(ht:dg t):fR t l=true ↔ Rk t l:=by
 unfold fR Rk;rw[cw]
 refine forall_congr' fun x=>forall_congr' fun _=> ?_;have:=effB_iff (t:=t) (x:=x) ht;unfold Oe;cases h1:bQ x<;>cases h2:bh t.fl x.key<;>cases h3:dq t.kn x.key x.rep x.da<;>cases h4:yi t x<;>simp[h4]at this⊢ <;>assumption
structure Sm(s:bA)(B:List bk)(w n:Nat):Prop where
 right:dg s
 fl:s.fl.length<=8/\iG s.fl
 bq:s.bq.length<=n/\sS s.bq
 base: ∀x e,(∀r∈B,eT r x=eT r e)->fF s.kn x=fF s.kn e
 wt: ∀x,(setAt s.kn x).length+dt (setAt s.kn x)<=w
theorem Ke{P:List UInt8->List aF}{B:List bk}(hr: ∀x,c6 (P x)=true)(h: ∀x e,(∀r∈B,eT r x=eT r e)->P x=P e): ∃es,Po P es/\es.length<=1+2*B.length:=by
 have e:([nN B []].flatMap fun k=>k.map (·.r))=B:=by simp[nN,Function.comp_def]
 refine⟨l9 [nN B []],Gp (m:=B) CW zx CX (fun r hr h=>zy r (by rw[e];exact hr) h) hr h, ?_⟩
 have:=nL (LL:=[nN B []])
 have h2:(nN B []).length=B.length:=by simp[nN]
 simp only[sn,aS,bD,cS,ja,h2]at this;omega
theorem Sm.fin{s:bA}{B:List bk}{w n m:Nat}(h:Sm s B w n)(hB:B.length<=m):mW s (1+2*m) w n:=by
 obtain⟨es,hE,hl⟩:=Ke (P:=fF s.kn) (fun x=>ic _ _) h.base;have hw:wtP s.kn w:=fun p hp=>by have h1:=(iZ.1 h.right.kn).1 p hp;unfold jc at h1;simp only[ak]at h1;have h2:=h.wt p.r.lo;rw[wC h.right.kn hp (qK h1.1.1)]at h2;exact h2
 refine⟨h.right,h.fl,h.bq, ?_,hw⟩
 have h1:=AV (fF s.kn) es es.length;have h2:cF (fF s.kn)=(qN (fF s.kn) es es.length).reverse:=((sI hE).1).symm;rw[jY h.right.kn]at h2;rw[h2,er];omega
theorem Sm.mono{s:bA}{B C:List bk}{w n v m:Nat}(h:Sm s B w n)(hB: ∀r∈B,r∈C)(hw:w<=v)(hn:n<=m):Sm s C v m:=
 ⟨h.right,h.fl,⟨aL h.bq.1 hn,h.bq.2⟩,fun x e hx=>h.base x e fun r hr=>hx r (hB r hr),fun x=>aL (h.wt x) hw⟩
theorem sm_of{s:bA}{N w n:Nat}(h:mW s N w n):Sm s (s.kn.map (·.r)) w n:=⟨h.right,h.fl,h.bq,fun x e hx=>wW hx,fun x=>Bt h.right.kn h.kn.2 x⟩
theorem Kf{s t:bA}{B:List bk}{w n:Nat}(h:Sm s B w n)(hf: ∀r∈t.fl,r∈B):(∀x e,(∀r∈B,eT r x=eT r e)->c7 s.kn t.fl x=c7 s.kn t.fl e)/\ ∀x,(c7 s.kn t.fl x).length+dt (c7 s.kn t.fl x)<=16+w:=by
 refine⟨fun x e hx=> ?_,fun x=>Rc (h.wt x)⟩
 unfold c7;rw[h.base x e hx,wX fun r hr=>hx r (hf r hr)]
theorem learn_ok{s t:bA}{B:List bk}{w n:Nat}(h:Sm s B w n)(hf: ∀r∈t.fl,r∈B)(hB:B.length<=150)(hw:w<=1400):mH (dL s t)/\(dL s t).length<=301/\wP (dL s t)<=301*1416:=by
 obtain⟨h1,h2⟩:=Kf h hf;obtain⟨es,hE,hl⟩:=Ke (P:=c7 s.kn t.fl) (fun x=>zF _ _ _) h1;obtain⟨a,b,_,d⟩:=BB hE (B:=1416) (N:=301) (fun x=>by have:=h2 x;omega) (by omega) (by decide) (by decide) (by decide)
 exact⟨a,b,d⟩
theorem okX_of{s t:bA}{B:List bk}{w v n m:Nat}(hs:Sm s B w n)(ht:Sm t B v m)(hf: ∀r∈t.fl,r∈B)(hB:B.length<=150)(hw:w<=1400)(hv:v<=1400)(hn:n<=500)(hm:m<=500):Yz s t:=by
 have h1:=(hs.fin hB).okR' (by decide) (by omega) (by omega)
 have h2:=(ht.fin hB).okR' (by decide) (by omega) (by omega)
 obtain⟨a,b,c⟩:=learn_ok hs hf hB hw;have hl:(cQ s t).length<=s.bq.length:=aO _ _;have h3:=hs.bq;have h4:=ht.bq;have h5:=(ht.fin hB).kn;have h6:wP t.kn<=301*1400:=aL (Vk h5.2) (oW h5.1 hv)
 refine⟨h1,h2,⟨h2,⟨by omega,fun x hx=>h3.2 x (eS.1 hx).1⟩,by omega,⟨a,by omega⟩, ?_, ?_⟩⟩
 · rw[pM];exact⟨a,by omega⟩
 · rw[pM]
   exact rY h2.kn.1.1 a.1 (by have:=h5.1;omega) (by omega)
theorem sm_sync{s t:bA}{B:List bk}{w v n m:Nat}(hs:Sm s B w n)(ht:Sm t B v m)(hf: ∀r∈t.fl,r∈B)(h:zO s t):Sm (lQ s t) B (16+(v+(16+w))) (m+n):=by
 have hR:=Yt hs.right ht.right h;obtain⟨h1,h2⟩:=Kf hs hf
 have e: ∀x,setAt (t.kn++dL s t) x=setAt t.kn x++c7 s.kn t.fl x:=fun x=>by
  rw[lk]
  unfold dL;rw[g_ (ny _ _)]
 have DS: ∀x,fF (lQ s t).kn x=iO (setAt t.kn x++c7 s.kn t.fl x):=fun x=>by
  show fF (cF (fF (t.kn++dL s t))) x=_;rw[Jj (zD _) (ic _)]
  unfold fF;rw[e]
 have lG: ∀x,setAt (lQ s t).kn x=iO (setAt t.kn x++c7 s.kn t.fl x):=fun x=>by
  show setAt (cF (fF (t.kn++dL s t))) x=_;rw[g_ (zD _)]
  unfold fF;rw[e]
 refine⟨hR,ht.fl,⟨?_,fun y hy=> ?_⟩,fun x e' hx=> ?_,fun x=> ?_⟩
 · have:=mK (t.bq++cQ s t)
   rw[aj]at this;have hl:(cQ s t).length<=s.bq.length:=aO _ _;have:=hs.bq.1;have:=ht.bq.1;show(bM (t.bq++cQ s t)).length<=m+n;omega
 · rcases aJ.1 (fB hy).1 with hy|hy
   · exact ht.bq.2 y hy
   · exact hs.bq.2 y (eS.1 hy).1
 · refine rp (ic _ _) (ic _ _) fun n hn c=> ?_
   have q1:=congrArg (fun z=>hk z n c) (ht.base x e' hx)
   simp only[oV hn]at q1;rw[DS,DS,IF hn,IF hn,pK,pK,q1,h1 x e' hx]
 · rw[lG]
   have q1:=I8 (setAt t.kn x++c7 s.kn t.fl x)
   rw[iK]at q1;have q2:=h2 x;have q3:=ht.wt x;omega
def Vt:aW:=ML.add 51 (entry (fun(v:bA×List It)=>[v.1.enc,.ay (v.2.map It.enc)]) (fun v=>fV v.1/\v.2.length<=1000000/\sS v.2) (fun v=> .bool (fR v.1 v.2)))
theorem X25l_ok:aN Tryz.prog Vt:=Rm.dH Tryz.func51 (by kernel_rfl) (by kernel_rfl) fun v h=>Du v.1 v.2 h.1 ⟨aL h.2.1 (by decide),h.2.2⟩
@[go_sem] theorem X25l_old{g:FuncId}{xs:List A}(h:g≠51):Vt.f g xs=ML.f g xs:=aW.aU h
theorem yj(v:bA×List It)(h:fV v.1/\v.2.length<=1000000/\sS v.2):Vt.f 51 [v.1.enc,.ay (v.2.map It.enc)]=some (.bool (fR v.1 v.2)):=aW.aZ (Γ:=ML) (fun i j h=>by simpa[ag,and_assoc]using h) v h
def YI:aW:=Vt.add 16 (entry (fun(v:bA×List It)=>[v.1.enc,.ay (v.2.map It.enc)]) (fun v=>fV v.1/\v.2.length<=1000000/\sS v.2) (fun v=> .bool (fR v.1 v.2)))
theorem X25m_ok:aN Tryz.prog YI:=X25l_ok.dH Tryz.func16 (by kernel_rfl) (by kernel_rfl) fun v h=>MM v.1 v.2 h.1 ⟨aL h.2.1 (by decide),h.2.2⟩
@[go_sem] theorem X25m_old{g:FuncId}{xs:List A}(h:g≠16):YI.f g xs=Vt.f g xs:=aW.aU h
theorem Dw(v:bA×List It)(h:fV v.1/\v.2.length<=1000000/\sS v.2):YI.f 16 [v.1.enc,.ay (v.2.map It.enc)]=some (.bool (fR v.1 v.2)):=aW.aZ (Γ:=Vt) (fun i j h=>by simpa[ag,and_assoc]using h) v h
def YJ:aW:=YI.add 36 (entry (fun(v:bA×bA)=>[v.1.enc,v.2.enc]) (fun v=>(v.1.fl.length<=1000000/\v.2.fl.length<=1000000)/\(v.1.bq.length<=1000000/\v.2.bq.length<=1000000)/\eK v.1.kn/\eK v.2.kn) (fun v=> .bool (m_ v.1 v.2)))
theorem X25n_ok:aN Tryz.prog YJ:=X25m_ok.dH Tryz.func36 (by kernel_rfl) (by kernel_rfl) fun v h=>Rf v.1 v.2 h
@[go_sem] theorem X25n_old{g:FuncId}{xs:List A}(h:g≠36):YJ.f g xs=YI.f g xs:=aW.aU h
theorem FV(v:bA×bA)(h:(v.1.fl.length<=1000000/\v.2.fl.length<=1000000)/\(v.1.bq.length<=1000000/\v.2.bq.length<=1000000)/\eK v.1.kn/\eK v.2.kn):YJ.f 36 [v.1.enc,v.2.enc]=some (.bool (m_ v.1 v.2)):=aW.aZ (Γ:=YI) (fun i j h=>by simpa[ag,and_assoc]using h) v h
def Vu:aW:=YJ.add 15 (entry (fun(s:bA)=>[s.enc]) (fun s=>(s.fl.length<=9223372036854775807/\s.bq.length<=9223372036854775807)/\s.kn.length<=9223372036854775807/\ ∀p∈s.kn,p.s.length<=9223372036854775807) (fun s=> .bool (qA s)))
theorem X25o_ok:aN Tryz.prog Vu:=X25n_ok.dH Tryz.func15 (by kernel_rfl) (by kernel_rfl) fun s h=>Bl s h.1.1 h.1.2 h.2.1 h.2.2
@[go_sem] theorem X25o_old{g:FuncId}{xs:List A}(h:g≠15):Vu.f g xs=YJ.f g xs:=aW.aU h
theorem FW(s:bA)(h:(s.fl.length<=9223372036854775807/\s.bq.length<=9223372036854775807)/\s.kn.length<=9223372036854775807/\ ∀p∈s.kn,p.s.length<=9223372036854775807):Vu.f 15 [s.enc]=some (.bool (qA s)):=aW.aZ (Γ:=YJ) (fun i j h=>by simpa[ag,and_assoc]using h) s h
theorem e_Sound{t:bA}{l:List It}(h:fV t/\l.length<=1000000/\sS l):Vt.f 51 [.agg [.int .i64 t.id,.ay (t.fl.map bk.enc),.ay (t.bq.map It.enc),.ay (t.kn.map Pc.enc),.int .i64 t.ct],.ay (l.map It.enc)]=some (.bool (fR t l)):=yj (t,l) h
theorem Vv{t:bA}{l:List It}(h:fV t/\l.length<=1000000/\sS l):YI.f 16 [.agg [.int .i64 t.id,.ay (t.fl.map bk.enc),.ay (t.bq.map It.enc),.ay (t.kn.map Pc.enc),.int .i64 t.ct],.ay (l.map It.enc)]=some (.bool (fR t l)):=Dw (t,l) h
theorem u3{s:bA}(h:(s.fl.length<=9223372036854775807/\s.bq.length<=9223372036854775807)/\s.kn.length<=9223372036854775807/\ ∀p∈s.kn,p.s.length<=9223372036854775807):Vu.f 15 [.agg [.int .i64 s.id,.ay (s.fl.map bk.enc),.ay (s.bq.map It.enc),.ay (s.kn.map Pc.enc),.int .i64 s.ct]]=some (.bool (qA s)):=FW s h
theorem e_Same{s t:bA}(h:(s.fl.length<=1000000/\t.fl.length<=1000000)/\(s.bq.length<=1000000/\t.bq.length<=1000000)/\eK s.kn/\eK t.kn):YJ.f 36 [.agg [.int .i64 s.id,.ay (s.fl.map bk.enc),.ay (s.bq.map It.enc),.ay (s.kn.map Pc.enc),.int .i64 s.ct],.agg [.int .i64 t.id,.ay (t.fl.map bk.enc),.ay (t.bq.map It.enc),.ay (t.kn.map Pc.enc),.int .i64 t.ct]]=some (.bool (m_ s t)):=FV (s,t) h
def qb(s t:bA):Int:=if(cq s&&cq t)=true then jt t (cQ s t) (dL s t)else 41
def lR(s t:bA):bA:=if(cq s&&cq t)=true then kM t (cQ s t) (dL s t)else e9
theorem xf(s t:bA):vk s t= .fq [.agg [.int .i64 (lR s t).id,.ay ((lR s t).fl.map bk.enc),.ay ((lR s t).bq.map It.enc),.ay ((lR s t).kn.map Pc.enc),.int .i64 (lR s t).ct],.int .i64 (qb s t)]:=by unfold vk lR qb;split<;>rfl
theorem xg{s t:bA}(hs:dg s)(ht:dg t):qb s t=jt t (cQ s t) (dL s t)/\(qb s t=0->lR s t=lQ s t):=by
 unfold qb lR;rw[(dN s).2 hs,(dN t).2 ht,dO,if_pos rfl,if_pos rfl]
 exact⟨rfl,Og⟩
def pq(s t:bA):List bk:=s.kn.map (·.r)++(t.kn.map (·.r)++(s.fl++t.fl))
theorem xT{s t:bA}(hs:s.kn.length<=24/\s.fl.length<=8)(ht:t.kn.length<=24/\t.fl.length<=8):(pq s t).length<=64:=by unfold pq;simp only[aj,aa];omega
theorem BC{s t:bA}{N w n M v m:Nat}(hs:mW s N w n)(ht:mW t M v m):Sm s (pq s t) w n/\Sm t (pq s t) v m/\(∀r∈s.fl,r∈pq s t)/\ ∀r∈t.fl,r∈pq s t:=by refine⟨(sm_of hs).mono (fun r hr=> ?_) (ai _) (ai _),(sm_of ht).mono (fun r hr=> ?_) (ai _) (ai _),fun r hr=> ?_,fun r hr=> ?_⟩<;>unfold pq<;>simp only[aJ]<;>simp[hr]
theorem BD{s t:bA}(hs:OkS s)(ht:OkS t):Yz s t:=by
 have h1:=hs.toR;have h2:=ht.toR;have he:=nL (LL:=[s.kn,nN t.fl []])
 simp only[sn,aS,bD,cS,ja]at he;have e:(nN t.fl []).length=t.fl.length:=by simp[nN]
 have k1:=hs.kn;have k2:=ht.kn;have f2:=ht.fl;have i1:=hs.bq;have i2:=ht.bq;have hl:(cQ s t).length<=s.bq.length:=aO _ _;obtain⟨a,b,c,d⟩:=BB (edg3 s.kn t.fl) (B:=6544) (N:=65) (fun x=>by have:=rest_w (k:=s.kn) (l:=t.fl) x;omega) (by omega) (by decide) (by decide) (by decide)
 refine⟨h1,h2,⟨h2,⟨by omega,fun x hx=>i1.2 x (eS.1 hx).1⟩,by omega,⟨a,by have:(dL s t).length<=65:=b;omega⟩, ?_, ?_⟩⟩
 · rw[pM];exact⟨a,by have:(dL s t).length<=65:=b;omega⟩
 · rw[pM]
   exact rY h2.kn.1.1 a.1 (by have:(dL s t).length<=65:=b;omega) (by have:wP (dL s t)<=65*6544:=d;omega)
theorem Vw{s t:bA}(hs:OkS s)(ht:OkS t)(ws:wtP s.kn 272)(wt:wtP t.kn 272):lR s t=e9\/mW (lR s t) 129 576 48:=by
 unfold lR;split
 · rename_i hb
   rw[ak]at hb;have hS:=(dN s).1 hb.1;have hT:=(dN t).1 hb.2;by_cases h0:jt t (cQ s t) (dL s t)=0
   · right
     rw[Og h0]
     have fs:mW s 24 272 24:=⟨hS,hs.fl,hs.bq,hs.kn.1,ws⟩
     have ft:mW t 24 272 24:=⟨hT,ht.fl,ht.bq,ht.kn.1,wt⟩
     obtain⟨b1,b2,_,b4⟩:=BC fs ft;have hB:=xT (s:=s) (t:=t) ⟨hs.kn.1,hs.fl.1⟩ ⟨ht.kn.1,ht.fl.1⟩
     exact(sm_sync b1 b2 b4 ((xS hS hT).1 h0)).fin hB
   · left;unfold kM;rw[if_neg h0]
 · exact .inl rfl
def ax0:bA:=⟨1,[YF],[],[],0⟩
def ti:bA:=ig ax0 (fj ax0 (sr ax0 [97] 0 [120]))
theorem st0_fin{id:Int}{F:List bk}(h1:1<=id/\id<=16)(h2:cA F=true)(h3:F.length<=8/\iG F):mW ⟨id,F,[],[],0⟩ 0 0 0:=by
 refine⟨⟨h1,⟨by show(0:Int)<=0;omega,by show(0:Int)<=_;omega⟩,by show(0:Nat)<=_;omega,h2,List.Pairwise.nil,(fun x hx=>absurd hx cN),rfl,(fun x n hn c hc=> ?_),(fun x c hc=> ?_),List.Pairwise.nil,(fun x hx=>absurd hx cN)⟩,h3,⟨ai 0,(fun x hx=>absurd hx cN)⟩,⟨ai 0,(fun p hp=>absurd hp cN)⟩⟩
 · obtain⟨p,hp,_⟩:=te.1 hc
   cases hp
 · obtain⟨p,hp,_⟩:=te.1 hc
   cases hp
theorem Gw:mW ax0 0 0 0:=st0_fin (by decide) (by decide) ⟨by decide,fun r hr=>by obtain rfl:=bc.1 hr;simp[YF,bk.ok]⟩
theorem ax0_C:dz ax0 [97] 0 [120]=0:=by have hR:=(dN ax0).2 Gw.right;unfold dz;rw[if_neg (by rw[hR];simp),if_neg (by decide),if_neg (by show¬bh [YF] [97]=false;rw[hasAll];simp),if_neg (by decide),if_neg (by decide)]
theorem o4:mW ti 3 48 1:=write_fin Gw (by decide) (by decide) ax0_C
theorem ax1_its:ti.bq=[⟨[97],1,1,1,0,false,[120]⟩]:=by
 have h:Ve (fj ax0 (sr ax0 [97] 0 [120])) []=bM [fj ax0 (sr ax0 [97] 0 [120])]:=J4 List.Pairwise.nil (fun y hy=>by cases hy) (by decide) fun y hy=>by cases hy
 have e:ti.bq=bM [fj ax0 (sr ax0 [97] 0 [120])]:=rfl;rw[e,<-h];rfl
theorem jz:aQ Tryz.prog Bu Tryz.f123.ntmps (Tryz.f123.body.getD .skip)=true:=by kernel_rfl
theorem YK(a b:List It)(ha:a.length<=4611686018427387904)(hb:b.length<=4611686018427387904):bp Tryz.prog 123 [.ay (a.map It.enc),.ay (b.map It.enc)] (· = .bool (mh a b)):=by
 refine ah Bv mixed Tryz.func123 rfl (ab rfl) jz ?_;unfold Tryz.f123;cases h0:((a.length:Int)==(b.length:Int))with
 |false=>
  have eH:a.length≠b.length:=fun e=>by rw[e]at h0;simp at h0
  rw[Ob eH]
  simp-implicitDefEqProofs (disch:=(first|omega|decide)) only[go_sem,↓reduceIte,seval,h0,aa]
 |true=>
  have hlen:a.length=b.length:=by simp at h0;omega
  simp-implicitDefEqProofs (disch:=(first|omega|decide)) only[go_sem,↓reduceIte,seval,h0,aa]
  refine a_ [0,1,12] (ι:={k:Nat//k<=a.length/\mh a b=mh (a.drop k) (b.drop k)}) (fun p=>[(13,.int .i64 p.1)]) (fun _=>[]) (fun p=>a.length-p.1) ⟨0,by omega,rfl⟩ (aw _) ?_ ?_
  · simp-implicitDefEqProofs (disch:=(first|omega|decide)) only[go_sem,↓reduceIte,seval]
  · rintro⟨k,hk,hd⟩
    simp only;by_cases bo:k<a.length
    · have aH:(k:Int)<(a.length:Int):=by omega
      have jD:k<b.length:=by omega
      have yB:(k:Int)<(b.length:Int):=by omega
      have p1:(0:Int)<=(k:Int):=by omega
      have t1:((k:Nat):Int).toNat=k:=bg _;have e1:=eG bo;have e2:=eG jD;rw[ax bo,ax jD]at hd;rw[J9,it_eq]at hd;generalize a[k]=x at*;generalize b[k]=y at*;cases k1:(x.key==y.key&&(x.rep==y.rep&&(x.da==y.da&&(x.du==y.du&&(x.prio==y.prio&&(x.dead==y.dead&&x.body==y.body))))))with
      |false=>
       rw[k1,aI]at hd;rw[hd]
       simp-implicitDefEqProofs (disch:=(first|omega|decide)) only[go_sem,↓reduceIte,seval,aH,yB,p1,t1,e1,e2,k1,aa]
      |true=>
       rw[k1,aB]at hd;simp-implicitDefEqProofs (disch:=(first|omega|decide)) only[go_sem,↓reduceIte,seval,aH,yB,p1,t1,e1,e2,k1,wrap_i64,aa]
       exact⟨⟨k+1,bo,hd⟩,by simp,by show a.length-(k+1)<a.length-k;omega⟩
    · have aH: ¬(k:Int)<(a.length:Int):=by omega
      rw[aC (by omega),aC (by omega)]at hd;have hd:mh a b=true:=hd;rw[hd]
      simp-implicitDefEqProofs (disch:=(first|omega|decide)) only[go_sem,↓reduceIte,seval,aH,aa]
theorem BE:aQ Tryz.prog Bu Tryz.f120.ntmps (Tryz.f120.body.getD .skip)=true:=by kernel_rfl
theorem Kg(x y:aF)(hx:x.rs.length<=4398046511104)(hy:y.rs.length<=4398046511104):bp Tryz.prog 120 [.agg [.int .i64 x.n,.ay (x.rs.map bH.enc)],.agg [.int .i64 y.n,.ay (y.rs.map bH.enc)]] (· = .bool (sL x y)):=by
 refine ah Bv mixed Tryz.func120 rfl (ab rfl) BE ?_;unfold Tryz.f120;unfold sL;have g:=TM hx hy;cases h1:x.n==y.n with
 |false=>simp-implicitDefEqProofs (disch:=(first|omega|decide)) only[go_sem,↓reduceIte,seval,h1,aI,aa]
 |true=>simp-implicitDefEqProofs (disch:=(first|omega|decide)) only[go_sem,↓reduceIte,seval,h1,g,aB,aa]
def YL:aW:=Bu.add 123 (entry (fun(v:List It×List It)=>[.ay (v.1.map It.enc),.ay (v.2.map It.enc)]) (fun v=>v.1.length<=1000000/\v.2.length<=1000000) (fun v=> .bool (mh v.1 v.2)))
theorem S24a_ok:aN Tryz.prog YL:=Bv.dH Tryz.func123 (by kernel_rfl) (by kernel_rfl) fun v h=>YK v.1 v.2 (aL h.1 (by decide)) (aL h.2 (by decide))
theorem jf(v:List It×List It)(h:v.1.length<=1000000/\v.2.length<=1000000):YL.f 123 [.ay (v.1.map It.enc),.ay (v.2.map It.enc)]=some (.bool (mh v.1 v.2)):=aW.aZ (Γ:=Bu) (fun i j h=>by simpa[ag,and_assoc]using h) v h
def MN:aW:=YL.add 120 (entry (fun(v:(Int×List bH)×(Int×List bH))=>[.agg [.int .i64 v.1.1,.ay (v.1.2.map bH.enc)],.agg [.int .i64 v.2.1,.ay (v.2.2.map bH.enc)]]) (fun v=>v.1.2.length<=4398046511104/\v.2.2.length<=4398046511104) (fun v=> .bool (sL ⟨v.1.1,v.1.2⟩ ⟨v.2.1,v.2.2⟩)))
theorem S24b_ok:aN Tryz.prog MN:=S24a_ok.dH Tryz.func120 (by kernel_rfl) (by kernel_rfl) fun v h=>Kg ⟨v.1.1,v.1.2⟩ ⟨v.2.1,v.2.2⟩ h.1 h.2
@[go_sem] theorem S24b_old{g:FuncId}{xs:List A}(h:g≠120):MN.f g xs=YL.f g xs:=aW.aU h
@[go_sem] theorem S24b_s:MN.pl YL:=⟨fun _=>rfl,fun _=>rfl,rfl,fun _=>rfl,rfl,fun _=>rfl,rfl⟩
theorem yk(v:(Int×List bH)×(Int×List bH))(h:v.1.2.length<=4398046511104/\v.2.2.length<=4398046511104):MN.f 120 [.agg [.int .i64 v.1.1,.ay (v.1.2.map bH.enc)],.agg [.int .i64 v.2.1,.ay (v.2.2.map bH.enc)]]=some (.bool (sL ⟨v.1.1,v.1.2⟩ ⟨v.2.1,v.2.2⟩)):=aW.aZ (Γ:=YL) (fun i j h=>by simpa[ag,and_assoc]using h) v h
theorem s_EqualI{a b:List It}(h:a.length<=1000000/\b.length<=1000000):YL.f 123 [.ay (a.map It.enc),.ay (b.map It.enc)]=some (.bool (mh a b)):=jf (a,b) h
theorem s_Same11{n m:Int}{rs qs:List bH}(ha:rs.length<=4398046511104)(hb:qs.length<=4398046511104):MN.f 120 [.agg [.int .i64 n,.ay (rs.map bH.enc)],.agg [.int .i64 m,.ay (qs.map bH.enc)]]=some (.bool (sL ⟨n,rs⟩ ⟨m,qs⟩)):=yk ((n,rs),(m,qs)) ⟨ha,hb⟩
theorem ok24_K:aQ Tryz.prog MN Tryz.f119.ntmps (Tryz.f119.body.getD .skip)=true:=by kernel_rfl
theorem MO(a b:List aF)(ha:bI a)(hb:bI b):bp Tryz.prog 119 [.ay (a.map aF.enc),.ay (b.map aF.enc),.fn 120 []] (· = .bool (dA a b)):=by
 refine ah S24b_ok mixed Tryz.func119 rfl (ab rfl) ok24_K ?_;unfold Tryz.f119;obtain⟨ha1,ha2⟩:=ha;obtain⟨hb1,hb2⟩:=hb;cases h0:((a.length:Int)==(b.length:Int))with
 |false=>
  have eH:a.length≠b.length:=by
   have:(a.length:Int)≠(b.length:Int):=by simpa using h0
   omega
  have hh:dA a b=false:=by unfold dA;simp;intro e;exact eH (by rw[e])
  simp-implicitDefEqProofs (disch:=(first|omega|decide)) only[go_sem,↓reduceIte,seval,h0,hh,aa]
 |true=>
  have he:a.length=b.length:=by
   have:(a.length:Int)=(b.length:Int):=by simpa using h0
   omega
  simp-implicitDefEqProofs (disch:=(first|omega|decide)) only[go_sem,↓reduceIte,seval,h0,aa]
  refine a_ [0,1,2,15,16] (ι:={k:Nat//k<=a.length/\a.take k=b.take k}) (fun p=>[(17,.int .i64 p.1)]) (fun _=>[]) (fun p=>a.length-p.1) ⟨0,by omega,rfl⟩ (aw _) ?_ ?_
  · simp-implicitDefEqProofs (disch:=(first|omega|decide)) only[go_sem,↓reduceIte,seval]
  · rintro⟨k,hk,hd⟩
    simp only;by_cases bo:k<a.length
    · have aH:(k:Int)<(a.length:Int):=by omega
      have og:(k:Int)<(b.length:Int):=by omega
      have jD:k<b.length:=by omega
      have e1:=iT bo;have e2:=iT jD;have m1:=oN (ao bo)
      have m2:=oN (ao jD)
      have t1:=(ar bo).symm;have t2:=(ar jD).symm;have th:a[k]≠b[k]->dA a b=false:=fun h=>by unfold dA;simp;intro e;subst e;exact h rfl
      generalize hx:a[k]=x at*;generalize hy:b[k]=y at*;obtain⟨n,rs⟩:=x;obtain⟨n',rs'⟩:=y;simp only at m1 m2;have gS:=s_Same11 (n:=n) (m:=n') (rs:=rs) (qs:=rs') (by omega) (by omega)
      cases h1:sL ⟨n,rs⟩ ⟨n',rs'⟩with
      |false=>
       have hh:=th (fun e=>by rw[xM.2 e]at h1;cases h1)
       rw[h1]at gS;simp-implicitDefEqProofs (disch:=(first|omega|decide)) only[go_sem,↓reduceIte,seval,aH,og,e1,e2,gS,hh,aa]
      |true=>
       have e:=xM.1 h1;rw[h1]at gS;simp-implicitDefEqProofs (disch:=(first|omega|decide)) only[go_sem,↓reduceIte,seval,aH,og,e1,e2,gS,wrap_i64,aa]
       exact⟨⟨k+1,bo,by rw[t1,t2,hd,e]⟩,by simp,by show a.length-(k+1)<a.length-k;omega⟩
    · have aH: ¬(k:Int)<(a.length:Int):=by omega
      have hh:dA a b=true:=by rw[ad (by omega),ad (by omega)]at hd;simp[dA,hd]
      simp-implicitDefEqProofs (disch:=(first|omega|decide)) only[go_sem,↓reduceIte,seval,aH,hh,aa]
def MP:aW:=MN.add 119 (entry (fun(v:List aF×List aF)=>[.ay (v.1.map aF.enc),.ay (v.2.map aF.enc),.fn 120 []]) (fun v=>bI v.1/\bI v.2) (fun v=> .bool (dA v.1 v.2)))
theorem S24c_ok:aN Tryz.prog MP:=S24b_ok.dH Tryz.func119 (by kernel_rfl) (by kernel_rfl) fun v h=>MO v.1 v.2 h.1 h.2
@[go_sem] theorem S24c_old{g:FuncId}{xs:List A}(h:g≠119):MP.f g xs=MN.f g xs:=aW.aU h
@[go_sem] theorem S24c_s:MP.pl MN:=⟨fun _=>rfl,fun _=>rfl,rfl,fun _=>rfl,rfl,fun _=>rfl,rfl⟩
theorem dX(v:List aF×List aF)(h:bI v.1/\bI v.2):MP.f 119 [.ay (v.1.map aF.enc),.ay (v.2.map aF.enc),.fn 120 []]=some (.bool (dA v.1 v.2)):=aW.aZ (Γ:=MN) (fun i j h=>by simpa[ag,and_assoc]using h) v h
theorem Rn{a b:List aF}(ha:bI a)(hb:bI b):MP.f 119 [.ay (a.map aF.enc),.ay (b.map aF.enc),.fn 120 []]=some (.bool (dA a b)):=dX (a,b) ⟨ha,hb⟩
theorem FX:aQ Tryz.prog MP Tryz.f118.ntmps (Tryz.f118.body.getD .skip)=true:=by kernel_rfl
theorem MQ(x y:Pc)(hx:bI x.s)(hy:bI y.s):bp Tryz.prog 118 [.agg [.str x.r.lo,.str x.r.hi,.bool x.r.op,.ay (x.s.map aF.enc)],.agg [.str y.r.lo,.str y.r.hi,.bool y.r.op,.ay (y.s.map aF.enc)]] (· = .bool (VO x.r.lo x.r.hi x.r.op y.r.lo y.r.hi y.r.op&&dA x.s y.s)):=by
 refine ah S24c_ok mixed Tryz.func118 rfl (ab rfl) FX ?_;unfold Tryz.f118;have h:=Rn hx hy;unfold VO;cases h1:x.r.lo==y.r.lo with
 |false=>simp-implicitDefEqProofs (disch:=(first|omega|decide)) only[go_sem,↓reduceIte,seval,h1,aI]
 |true=>
  cases h2:x.r.hi==y.r.hi with
  |false=>simp-implicitDefEqProofs (disch:=(first|omega|decide)) only[go_sem,↓reduceIte,seval,h1,h2,aI,bN,aB]
  |true=>
   cases h3:x.r.op==y.r.op with
   |false=>simp-implicitDefEqProofs (disch:=(first|omega|decide)) only[go_sem,↓reduceIte,seval,h1,h2,h3,aI,bN,aB]
   |true=>simp-implicitDefEqProofs (disch:=(first|omega|decide)) only[go_sem,↓reduceIte,seval,h1,h2,h3,h,aB,cv]
def Ro:aW:=MP.add 118 (entry (fun(v:((List UInt8×List UInt8×Bool)×List aF)×((List UInt8×List UInt8×Bool)×List aF))=>[.agg [.str v.1.1.1,.str v.1.1.2.1,.bool v.1.1.2.2,.ay (v.1.2.map aF.enc)],.agg [.str v.2.1.1,.str v.2.1.2.1,.bool v.2.1.2.2,.ay (v.2.2.map aF.enc)]]) (fun v=>bI v.1.2/\bI v.2.2) (fun v=> .bool (VO v.1.1.1 v.1.1.2.1 v.1.1.2.2 v.2.1.1 v.2.1.2.1 v.2.1.2.2&&dA v.1.2 v.2.2)))
theorem S24d_ok:aN Tryz.prog Ro:=S24c_ok.dH Tryz.func118 (by kernel_rfl) (by kernel_rfl) fun v h=>MQ ⟨⟨v.1.1.1,v.1.1.2.1,v.1.1.2.2⟩,v.1.2⟩ ⟨⟨v.2.1.1,v.2.1.2.1,v.2.1.2.2⟩,v.2.2⟩ h.1 h.2
@[go_sem] theorem S24d_old{g:FuncId}{xs:List A}(h:g≠118):Ro.f g xs=MP.f g xs:=aW.aU h
@[go_sem] theorem S24d_s:Ro.pl MP:=⟨fun _=>rfl,fun _=>rfl,rfl,fun _=>rfl,rfl,fun _=>rfl,rfl⟩
theorem BF(v:((List UInt8×List UInt8×Bool)×List aF)×((List UInt8×List UInt8×Bool)×List aF))(h:bI v.1.2/\bI v.2.2):Ro.f 118 [.agg [.str v.1.1.1,.str v.1.1.2.1,.bool v.1.1.2.2,.ay (v.1.2.map aF.enc)],.agg [.str v.2.1.1,.str v.2.1.2.1,.bool v.2.1.2.2,.ay (v.2.2.map aF.enc)]]=some (.bool (VO v.1.1.1 v.1.1.2.1 v.1.1.2.2 v.2.1.1 v.2.1.2.1 v.2.1.2.2&&dA v.1.2 v.2.2)):=aW.aZ (Γ:=MP) (fun i j h=>by simpa[ag,and_assoc]using h) v h
theorem s_Same1{lo hi lh jU:List UInt8}{op pY:Bool}{s s':List aF}(h:bI s)(h':bI s'):Ro.f 118 [.agg [.str lo,.str hi,.bool op,.ay (s.map aF.enc)],.agg [.str lh,.str jU,.bool pY,.ay (s'.map aF.enc)]]=some (.bool (VO lo hi op lh jU pY&&dA s s')):=BF (((lo,hi,op),s),((lh,jU,pY),s')) ⟨h,h'⟩
theorem ok24_P:aQ Tryz.prog Ro Tryz.f124.ntmps (Tryz.f124.body.getD .skip)=true:=by kernel_rfl
theorem Kh(a b:List Pc)(ha:eK a)(hb:eK b):bp Tryz.prog 124 [.ay (a.map Pc.enc),.ay (b.map Pc.enc),.fn 118 []] (· = .bool (fb a b)):=by
 refine ah S24d_ok mixed Tryz.func124 rfl (ab rfl) ok24_P ?_;unfold Tryz.f124;obtain⟨⟨a1,a2⟩,a3⟩:=id ha;obtain⟨⟨b1,b2⟩,b3⟩:=id hb;cases h0:((a.length:Int)==(b.length:Int))with
 |false=>
  have eH:a.length≠b.length:=by
   have:(a.length:Int)≠(b.length:Int):=by simpa using h0
   omega
  have hh:fb a b=false:=by unfold fb;simp;intro e;exact eH (by rw[e])
  simp-implicitDefEqProofs (disch:=(first|omega|decide)) only[go_sem,↓reduceIte,seval,h0,hh,aa]
 |true=>
  have he:a.length=b.length:=by
   have:(a.length:Int)=(b.length:Int):=by simpa using h0
   omega
  simp-implicitDefEqProofs (disch:=(first|omega|decide)) only[go_sem,↓reduceIte,seval,h0,aa]
  refine a_ [0,1,2,15,16] (ι:={k:Nat//k<=a.length/\a.take k=b.take k}) (fun p=>[(17,.int .i64 p.1)]) (fun _=>[]) (fun p=>a.length-p.1) ⟨0,by omega,rfl⟩ (aw _) ?_ ?_
  · simp-implicitDefEqProofs (disch:=(first|omega|decide)) only[go_sem,↓reduceIte,seval]
  · rintro⟨k,hk,hd⟩
    simp only;by_cases bo:k<a.length
    · have aH:(k:Int)<(a.length:Int):=by omega
      have og:(k:Int)<(b.length:Int):=by omega
      have jD:k<b.length:=by omega
      have e1:=kJ bo;have e2:=kJ jD;have s1:=jx ha (ao bo)
      have s2:=jx hb (ao jD)
      have t1:=(ar bo).symm;have t2:=(ar jD).symm;have th:a[k]≠b[k]->fb a b=false:=fun h=>by unfold fb;simp;intro e;subst e;exact h rfl
      generalize hx:a[k]=x at*;generalize hy:b[k]=y at*;obtain⟨⟨lo,hi,op⟩,s⟩:=x;obtain⟨⟨lh,jU,pY⟩,s'⟩:=y;simp only at s1 s2;have hs:=s_Same1 (lo:=lo) (hi:=hi) (op:=op) (lh:=lh) (jU:=jU) (pY:=pY) (s:=s) (s':=s') s1 s2;cases h1:(VO lo hi op lh jU pY&&dA s s')with
      |false=>
       have hh:=th (fun e=>by simp only[Pc.mk.injEq,bk.mk.injEq]at e;obtain⟨⟨rfl,rfl,rfl⟩,rfl⟩:=e;simp[VO,dA]at h1)
       rw[h1]at hs;simp-implicitDefEqProofs (disch:=(first|omega|decide)) only[go_sem,↓reduceIte,seval,aH,og,e1,e2,hs,hh,aa]
      |true=>
       rw[h1]at hs;have e:(⟨⟨lo,hi,op⟩,s⟩:Pc)=⟨⟨lh,jU,pY⟩,s'⟩:=by simp only[VO,dA,ak,beq_iff_eq,decide_eq_true_iff]at h1;obtain⟨⟨⟨rfl,rfl⟩,rfl⟩,rfl⟩:=h1;rfl
       simp-implicitDefEqProofs (disch:=(first|omega|decide)) only[go_sem,↓reduceIte,seval,aH,og,e1,e2,hs,wrap_i64,aa]
       exact⟨⟨k+1,bo,by rw[t1,t2,hd,e]⟩,by simp,by show a.length-(k+1)<a.length-k;omega⟩
    · have aH: ¬(k:Int)<(a.length:Int):=by omega
      have hh:fb a b=true:=by rw[ad (by omega),ad (by omega)]at hd;simp[fb,hd]
      simp-implicitDefEqProofs (disch:=(first|omega|decide)) only[go_sem,↓reduceIte,seval,aH,hh,aa]
def Vx:aW:=Ro.add 124 (entry (fun(v:List Pc×List Pc)=>[.ay (v.1.map Pc.enc),.ay (v.2.map Pc.enc),.fn 118 []]) (fun v=>eK v.1/\eK v.2) (fun v=> .bool (fb v.1 v.2)))
theorem S24e_ok:aN Tryz.prog Vx:=S24d_ok.dH Tryz.func124 (by kernel_rfl) (by kernel_rfl) fun v h=>Kh v.1 v.2 h.1 h.2
@[go_sem] theorem S24e_old{g:FuncId}{xs:List A}(h:g≠124):Vx.f g xs=Ro.f g xs:=aW.aU h
theorem dY(v:List Pc×List Pc)(h:eK v.1/\eK v.2):Vx.f 124 [.ay (v.1.map Pc.enc),.ay (v.2.map Pc.enc),.fn 118 []]=some (.bool (fb v.1 v.2)):=aW.aZ (Γ:=Ro) (fun i j h=>by simpa[ag,and_assoc]using h) v h
theorem Rp{a b:List Pc}(h:eK a/\eK b):Vx.f 124 [.ay (a.map Pc.enc),.ay (b.map Pc.enc),.fn 118 []]=some (.bool (fb a b)):=dY (a,b) h
def S24f:aW:=Vx.add 122 (entry (fun(v:List bk×List bk)=>[.ay (v.1.map bk.enc),.ay (v.2.map bk.enc)]) (fun v=>v.1.length<=100000/\v.2.length<=100000) (fun v=> .bool (jk v.1 v.2)))
theorem S24f_ok:aN Tryz.prog S24f:=S24e_ok.dH Tryz.func122 (by kernel_rfl) (by kernel_rfl) fun v h=>Lw v.1 v.2 (by omega) (by omega)
@[go_sem] theorem S24f_old{g:FuncId}{xs:List A}(h:g≠122):S24f.f g xs=Vx.f g xs:=aW.aU h
@[go_sem] theorem S24f_s:S24f.pl Vx:=⟨fun _=>rfl,fun _=>rfl,rfl,fun _=>rfl,rfl,fun _=>rfl,rfl⟩
theorem iQ(v:List bk×List bk)(h:v.1.length<=100000/\v.2.length<=100000):S24f.f 122 [.ay (v.1.map bk.enc),.ay (v.2.map bk.enc)]=some (.bool (jk v.1 v.2)):=aW.aZ (Γ:=Vx) (fun i j h=>by simpa[ag,and_assoc]using h) v h
theorem s_EqualR{a b:List bk}(ha:a.length<=100000)(hb:b.length<=100000):S24f.f 122 [.ay (a.map bk.enc),.ay (b.map bk.enc)]=some (.bool (jk a b)):=iQ (a,b) ⟨ha,hb⟩
theorem MR:aQ Tryz.prog S24f Tryz.f57.ntmps (Tryz.f57.body.getD .skip)=true:=by kernel_rfl
theorem Rq(s t:bA)(h:(s.fl.length<=100000/\t.fl.length<=100000)/\(s.bq.length<=1000000/\t.bq.length<=1000000)/\eK s.kn/\eK t.kn):bp Tryz.prog 57 [s.enc,t.enc] (· = .bool (m_ s t)):=by
 refine ah S24f_ok mixed Tryz.func57 rfl (ab rfl) MR ?_;unfold Tryz.f57;obtain⟨h1,h2,h3,h4⟩:=h;have g1:=s_EqualR (a:=s.fl) (b:=t.fl) h1.1 h1.2;have g2:=s_EqualI (a:=s.bq) (b:=t.bq) h2;have g3:=Rp ⟨h3,h4⟩
 unfold m_;simp only[bA.enc,bA.cells]
 generalize jk s.fl t.fl=b3 at*;generalize mh s.bq t.bq=b4 at*;generalize fb s.kn t.kn=b5 at*;cases b1:s.id==t.id with
 |false=>simp-implicitDefEqProofs (disch:=(first|omega|decide)) only[go_sem,↓reduceIte,seval,b1,aI]
 |true=>
  cases b2:s.ct==t.ct with
  |false=>simp-implicitDefEqProofs (disch:=(first|omega|decide)) only[go_sem,↓reduceIte,seval,b1,b2,aI,aB]
  |true=>
   cases b3 with
   |false=>simp-implicitDefEqProofs (disch:=(first|omega|decide)) only[go_sem,↓reduceIte,seval,b1,b2,g1,aI,aB]
   |true=>
    cases b4 with
    |false=>simp-implicitDefEqProofs (disch:=(first|omega|decide)) only[go_sem,↓reduceIte,seval,b1,b2,g1,g2,aI,aB]
    |true=>simp-implicitDefEqProofs (disch:=(first|omega|decide)) only[go_sem,↓reduceIte,seval,b1,b2,g1,g2,g3,aI,aB]
theorem YM{V:Type} [DecidableEq V]: ∀{L U:List V},L.Sublist U->U.Nodup->U.filter (fun x=>decide (x∈L))=L:=by
 intro L U h;induction h with
 |slnil=>intro _;rfl
 | @cons L U a h ih=>
  intro hn;obtain⟨n1,n2⟩:=iy.1 hn;rw[df (by simp;exact fun hm=>n1 (h.subset hm)),ih n2]
 | @cons_cons L U a h ih=>
  intro hn;obtain⟨n1,n2⟩:=iy.1 hn;rw[bV (by simp)]
  congr 1
  rw[<-ih n2]
  refine kc fun x hx=> ?_;rw[ih n2]
  have:x≠a:=fun e=>n1 (e▸hx)
  simp[this]
theorem unk_nodup{s t:bA}(hs:dg s):(cQ s t).Nodup:=by have:=(xd (t:=t) hs).2;exact this.imp fun{a b} h e=>by rw[e,lt_irrefl]at h;cases h
def eW(s t u:bA):List It:=(cQ s t).filter fun x=>dq u.kn x.key x.rep x.da
def mn(s t u:bA):List It:=(cQ s t).filter fun x=> !dq u.kn x.key x.rep x.da
theorem Vy{s t p:bA}{L:List It}(hs:dg s)(h:mj s t p L){x:It}(hx:x∈cQ s t):dq p.kn x.key x.rep x.da=decide (x∈L):=by
 obtain⟨m1,m2,m3⟩:=eS.1 hx;obtain⟨k1,_⟩:=oZ hs m1;rw[bS,decide_eq_true_iff,iq k1,h.kn _ _ k1]
 rw[iq k1]at m3;constructor
 · rintro(g|⟨y,hy,e,_,_⟩)
   · rw[m3]at g;cases g
   · rw[mM (xd hs).2 hx (h.sub.subset hy) e];exact hy
 · exact fun hm=> .inr ⟨x,hm,rfl,rfl,rfl⟩
theorem ahead_has{s t p:bA}{L:List It}(hs:dg s)(h:mj s t p L):eW s t p=L:=by
 unfold eW;rw[kc fun x hx=>Vy hs h hx]
 exact YM h.sub (unk_nodup hs)
def eA(k:List Pc)(L:List It):List Pc:=L.foldl (fun k x=>cF (fF (k++eR x.key [⟨x.rep,x.da⟩]))) k
theorem Gx{x:List UInt8}{n c:Int}(hn:dJ n=true): ∀{L:List It} {k:List Pc},(∀y∈L,bQ y=true)->(hk (setAt (eA k L) x) n c=true ↔ hk (setAt k x) n c=true\/ ∃y∈L,x=y.key/\n=y.rep/\c=y.da)
 | [],k,_=>by simp[eA]
 |y::L,k,h=>by
  obtain⟨_,M9,hv⟩:=nO (h y (by simp))
  have:=Gx (x:=x) (n:=n) (c:=c) hn (L:=L) (k:=cF (fF (k++eR y.key [⟨y.rep,y.da⟩]))) fun z hz=>h z (by simp[hz])
  show hk (setAt (eA (cF (fF (k++eR y.key [⟨y.rep,y.da⟩]))) L) x) n c=true ↔ _;rw[this,iF hn,bE,JK M9 hv hn]
  simp only[aD,exists_eq_or_imp,or_assoc]
theorem Ki{s t p:bA}{L M:List It}(hs:dg s)(h:mj s t p L){q:bA}(hq:mj s p q M): ∃L',mj s t q L'/\(∀x,x∈L' ↔ x∈L\/x∈M):=by
 obtain⟨u1,u2⟩:=xd (t:=t) hs;have hM: ∀y∈M,y∈cQ s p:=fun y hy=>hq.sub.subset hy;have hL: ∀y∈L,y∈cQ s t:=fun y hy=>h.sub.subset hy
 have hMt: ∀y∈M,y∈cQ s t:=fun y hy=>by
  obtain⟨m1,m2,m3⟩:=eS.1 (hM y hy)
  obtain⟨k1,_⟩:=oZ hs m1;rw[h.fl]at m2;rw[iq k1]at m3;refine eS.2 ⟨m1,m2, ?_⟩
  rw[iq k1]
  cases e:hk (setAt t.kn y.key) y.rep y.da with
  |false=>rfl
  |true=>rw[(h.kn _ _ k1 _).2 (.inl e)]at m3;cases m3
 have hdis: ∀y∈M,y∉L:=fun y hy hm=>by
  obtain⟨m1,m2,m3⟩:=eS.1 (hM y hy)
  obtain⟨k1,_⟩:=oZ hs m1;rw[iq k1,(h.kn _ _ k1 _).2 (.inr ⟨y,hm,rfl,rfl,rfl⟩)]at m3;cases m3
 let L':=(cQ s t).filter fun x=>decide (x∈L)||decide (x∈M)
 have mem: ∀x,x∈L' ↔ x∈L\/x∈M:=fun x=>by
  show x∈(cQ s t).filter _ ↔ _;rw[aP,bE,decide_eq_true_iff,decide_eq_true_iff]
  exact⟨And.right,fun g=>⟨g.elim (hL x) (hMt x),g⟩⟩
 refine⟨L',{right:=hq.right,id:=hq.id.trans h.id,fl:=hq.fl.trans h.fl,ct:=hq.ct.trans h.ct,sub:=u4,bq:= ?_,kn:=fun x n hn c=> ?_},mem⟩
 · rw[hq.bq,h.bq,xc]
   refine Dm fun k=> ?_;show kA bt (ss k _)=kA bt (ss k _)
   rw[kf,kf,kf,ba]
   congr 2
   have V5: ∀y∈L',y∈cQ s t:=fun y hy=>(aP.1 hy).1;have uL':L'.Pairwise fun x y=>cL x.key y.key=true:=u2.sublist u4;by_cases hx: ∃x∈cQ s t,x.key=k
   · obtain⟨x,hx,rfl⟩:=hx
     by_cases hm:x∈L
     · rw[o0 (fun y hy=>u1 y (hL y hy)) (u2.sublist h.sub) hm,jy,o0 (fun y hy=>u1 y (V5 y hy)) uL' ((mem x).2 (.inl hm))]
       · rfl
       · intro y hy e
         exact hdis y hy (mM u2 (hMt y hy) hx e▸hm)
     · have n1:ss x.key L=[]:=jy fun y hy e=>hm (mM u2 (hL y hy) hx e▸hy)
       by_cases hm2:x∈M
       · obtain⟨v1,v2⟩:=xd (t:=p) hs
         rw[n1,o0 (fun y hy=>v1 y (hM y hy)) (v2.sublist hq.sub) hm2,o0 (fun y hy=>u1 y (V5 y hy)) uL' ((mem x).2 (.inr hm2))]
         rfl
       · rw[n1,jy fun y hy e=>hm2 (mM u2 (hMt y hy) hx e▸hy),jy]
         · rfl
         · intro y hy e
           have:=mM u2 (V5 y hy) hx e;subst this;rcases(mem y).1 hy with g|g
           · exact hm g
           · exact hm2 g
   · have hn: ∀x∈cQ s t,x.key≠k:=fun x OB e=>hx ⟨x,OB,e⟩
     rw[jy fun y hy=>hn y (hL y hy),jy fun y hy=>hn y (hMt y hy),jy fun y hy=>hn y (V5 y hy)]
     rfl
 · rw[hq.kn x n hn c,h.kn x n hn c]
   constructor
   · rintro((g|⟨y,hy,g⟩)|⟨y,hy,g⟩)
     · exact .inl g
     · exact .inr ⟨y,(mem y).2 (.inl hy),g⟩
     · exact .inr ⟨y,(mem y).2 (.inr hy),g⟩
   · rintro(g|⟨y,hy,g⟩)
     · exact .inl (.inl g)
     · rcases(mem y).1 hy with hy|hy
       · exact .inl (.inr ⟨y,hy,g⟩)
       · exact .inr ⟨y,hy,g⟩
theorem Vz{s t p:bA}{L:List It}(hs:dg s)(ht:dg t)(h:mj s t p L)(h1:Rk t s.bq):Rk p s.bq:=fun x hx hr hf M9=>by
 obtain⟨k1,_,_⟩:=nO hr;have go: ∀y∈t.bq++L,bQ y=true->y.key=x.key->bt x y=false->effS p x:=fun y hy gr gk gb=>by obtain⟨z,m1,m2,m3⟩:=merge_has hy gr;exact⟨z,by rw[h.bq];exact m1,m2.trans gk,bt_neg gb m3⟩
 rw[iq k1,h.kn _ _ k1]at M9;rw[h.fl]at hf;rcases M9 with g|⟨y,hy,e,_,_⟩
 · obtain⟨y,hy,g1,g2⟩:=h1 x hx hr hf (by rw[iq k1];exact g)
   exact go y (aJ.2 (.inl hy)) (ht.right y hy) g1 g2
 · have Aj:=h.sub.subset hy
   have:x=y:=mM hs.up hx (eS.1 Aj).1 e;subst this;exact go x (aJ.2 (.inr hy)) hr rfl (JN x)
def om(s t:bA):Nat:=(((s.bq.filter fun x=>bh t.fl x.key)).filter fun x=>decide (iu t.bq x.key≠some x)).length+((t.bq.filter fun x=>bh t.fl x.key).filter fun x=>(iu s.bq x.key).isNone).length
theorem filter_le{V:Type}{p q:V->Bool}: ∀(l:List V),(∀x∈l,p x=true->q x=true)->(l.filter p).length<=(l.filter q).length
 | [],_=>ai _
 |a::l,h=>by
  have ih:=filter_le l fun x hx=>h x (by simp[hx])
  cases hp:p a with
  |false=>
   rw[df (by rw[hp];simp)]
   cases hq:q a with
   |false=>rw[df (by rw[hq];simp)];exact ih
   |true=>rw[bV hq];simp only[aG];omega
  |true=>
   rw[bV hp,bV (h a (by simp) hp)]
   simp only[aG];omega
theorem sub_len{V:Type} [DecidableEq V]: ∀{a b:List V},a.Nodup->(∀z∈a,z∈b)->a.length<=b.length:=by
 intro a;induction a with
 |nil=>intro b _ _;simp
 |cons y a ih=>
  intro b hn hs;obtain⟨n1,n2⟩:=iy.1 hn;have hy:=hs y (by simp)
  have:=ih (b:=b.erase y) n2 fun z hz=>by
   have eH:z≠y:=fun e=>n1 (e▸hz)
   exact(fp eH).2 (hs z (eF _ hz))
  rw[mg hy]at this;have:0<b.length:=so hy;simp only[aG];omega
theorem Oh{l:List It}(h2:l.Pairwise fun x y=>cL x.key y.key=true){x:It}:iu l x.key=some x ↔ x∈l:=by
 constructor
 · exact fun h=>dD h
 · intro hx
   cases hg:iu l x.key with
   |none=>
    have:=po.1 hg x hx;simp at this
   |some y=>
    have hy:=dD hg;have e:=jH hg;rw[mM h2 hy hx (by simpa using e)]
theorem BG{s t p:bA}{L:List It}(hs:dg s)(ht:dg t)(h:mj s t p L):om s p<=om s t:=by
 unfold om;rw[h.fl]
 have hL: ∀y∈L,y∈cQ s t:=fun y hy=>h.sub.subset hy;refine Nat.add_le_add (filter_le _ fun x hx hp=> ?_) ?_
 · have OB:=(aP.1 hx).1
   simp only[decide_eq_true_eq]at hp⊢;intro e;apply hp;have hxt:=(Oh ht.up).1 e;rw[h.bq,get_merge,kf,o0 ht.right ht.up hxt]
   by_cases hm: ∃y∈L,y.key=x.key
   · obtain⟨y,hy,ey⟩:=hm
     have:y=x:=mM hs.up (eS.1 (hL y hy)).1 OB ey;subst this;obtain⟨u1,u2⟩:=xd (t:=t) hs;rw[o0 (fun z hz=>u1 z (hL z hz)) (u2.sublist h.sub) hy]
     simp[kA,better,JN]
   · rw[jy fun y hy e=>hm ⟨y,hy,e⟩];rfl
 · refine sub_len (((h.right.up.filter _).filter _).imp fun{a b} g e=>by rw[e,lt_irrefl]at g;cases g) fun z hz=> ?_
   obtain⟨z1,z2⟩:=aP.1 hz;obtain⟨z3,z4⟩:=aP.1 z1;rw[h.bq]at z3;refine aP.2 ⟨aP.2 ⟨?_,z4⟩,z2⟩
   rcases aJ.1 (fB z3).1 with g|g
   · exact g
   · have:=(eS.1 (hL z g)).1
     rw[(Oh hs.up).2 this]at z2;cases z2
theorem left_le{s t p:bA}:(mn s t p).length<=(cQ s t).length:=aO _ _
theorem left_more{s t p q:bA}(h: ∀x n,dJ n=true-> ∀c,hk (setAt p.kn x) n c=true->hk (setAt q.kn x) n c=true)(hs:dg s):(mn s t q).length<=(mn s t p).length:=by
 unfold mn;refine filter_le _ fun x hx hp=> ?_;obtain⟨k1,_⟩:=oZ hs (eS.1 hx).1;rw[iq k1]at hp⊢;cases e:hk (setAt p.kn x.key) x.rep x.da with
 |false=>rfl
 |true=>rw[h _ _ k1 _ e]at hp;cases hp
def MS:aW:=Vu.add 57 (entry (fun(v:bA×bA)=>[v.1.enc,v.2.enc]) (fun v=>(v.1.fl.length<=100000/\v.2.fl.length<=100000)/\(v.1.bq.length<=1000000/\v.2.bq.length<=1000000)/\eK v.1.kn/\eK v.2.kn) (fun v=> .bool (m_ v.1 v.2)))
theorem M42a_ok:aN Tryz.prog MS:=X25o_ok.dH Tryz.func57 (by kernel_rfl) (by kernel_rfl) fun v h=>Rq v.1 v.2 h
@[go_sem] theorem M42a_old{g:FuncId}{xs:List A}(h:g≠57):MS.f g xs=Vu.f g xs:=aW.aU h
@[go_sem] theorem M42a_s:MS.pl Vu:=⟨fun _=>rfl,fun _=>rfl,rfl,fun _=>rfl,rfl,fun _=>rfl,rfl⟩
theorem FY(v:bA×bA)(h:(v.1.fl.length<=100000/\v.2.fl.length<=100000)/\(v.1.bq.length<=1000000/\v.2.bq.length<=1000000)/\eK v.1.kn/\eK v.2.kn):MS.f 57 [v.1.enc,v.2.enc]=some (.bool (m_ v.1 v.2)):=aW.aZ (Γ:=Vu) (fun i j h=>by simpa[ag,and_assoc]using h) v h
theorem m_Same{s t:bA}(h:(s.fl.length<=100000/\t.fl.length<=100000)/\(s.bq.length<=1000000/\t.bq.length<=1000000)/\eK s.kn/\eK t.kn):MS.f 57 [.agg [.int .i64 s.id,.ay (s.fl.map bk.enc),.ay (s.bq.map It.enc),.ay (s.kn.map Pc.enc),.int .i64 s.ct],.agg [.int .i64 t.id,.ay (t.fl.map bk.enc),.ay (t.bq.map It.enc),.ay (t.kn.map Pc.enc),.int .i64 t.ct]]=some (.bool (m_ s t)):=FY (s,t) h
def hasB(s t u:bA):List It:=(yf s t).filter fun x=>dq u.kn x.key x.rep x.da
def pr(s t u:bA):List It:=(yf s t).filter fun x=> !dq u.kn x.key x.rep x.da
theorem qc:aQ Tryz.prog MS Tryz.f84.ntmps (Tryz.f84.body.getD .skip)=true:=by kernel_rfl
theorem c_parted(s t u:bA)(hs:fV s)(ht:fV t)(hu:eK u.kn):bp Tryz.prog 84 [.agg (t.cells++s.cells),u.enc] (· = .fq [.ay ((hasB s t u).map It.enc),.ay ((pr s t u).map It.enc)]):=by
 refine ah M42a_ok mixed Tryz.func84 rfl (ab rfl) qc ?_;unfold Tryz.f84;have g0:=Ds ⟨hs,ht⟩
 have gH: ∀(x:List UInt8) (n c:Int),x.length<=9223372036854775807->C1.f 99 [.ay (u.kn.map Pc.enc),.str x,.agg [.int .i64 n,.int .i64 c]]=some (.bool (dq u.kn x n c)):=fun x n c hx=>N3 hu hx;have tk: ∀m:List It,(m.map It.enc).take m.length=m.map It.enc:=fun m=>ad (by simp)
 have vM:sS (yf s t)/\(yf s t).length<=1000000:=by
  unfold yf;split
  · exact⟨fun x hx=>hs.bq.2 x (eS.1 hx).1,aL (aO _ _) hs.bq.1⟩
  · exact⟨fun x hx=>absurd hx cN,by simp⟩
 obtain⟨vM,hln⟩:=vM;unfold hasB pr;simp only[bA.enc,bA.cells,bF,bx]
 generalize yf s t=l at*;generalize hQ:(fun x:It=>dq u.kn x.key x.rep x.da)=q at*;have hq: ∀x:It,q x=dq u.kn x.key x.rep x.da:=fun x=>by rw[<-hQ]
 have hR:(fun x:It=> !dq u.kn x.key x.rep x.da)=fun x=> !q x:=funext fun x=>by rw[hq]
 rw[hR]
 generalize hRR:(fun x:It=> !q x)=r at*;have hr: ∀x:It,r x= !q x:=fun x=>by rw[<-hRR]
 simp-implicitDefEqProofs (disch:=(first|omega|decide)) only[go_sem,↓reduceIte,seval,g0,aa]
 refine ch 6 7 rfl ?_;refine ch 7 7 rfl ?_;refine a_ [2,3,14,15] (ι:={j:Nat//j<=l.length}) (fun j=>[(16,.int .i64 j.1),(6,.row 2 0 7 ((l.take j.1).filter q).length false),(7,.row 3 0 7 ((l.take j.1).filter r).length false)]) (fun j=>[(2,.row 7 (((l.take j.1).filter q).map It.enc)),(3,.row 7 (((l.take j.1).filter r).map It.enc))]) (fun j=>l.length-j.1) ⟨0,by omega⟩ (aw _) ?_ ?_
 · simp-implicitDefEqProofs (disch:=(first|omega|decide)) only[go_sem,↓reduceIte,seval]
   first|done|(simp;done)|exact⟨⟨rfl,rfl,rfl⟩,rfl,rfl⟩
 · rintro⟨j,hj⟩
   simp only;by_cases mP:j<l.length
   · have ie:(j:Int)<(l.length:Int):=by omega
     have ej:=eG mP;have gr:=gH l[j].key l[j].rep l[j].da (vM _ (ao mP)).1;have fe:(l.take (j+1)).filter q=(l.take j).filter q++(if q l[j]then [l[j]]else []):=jr (f:=q) mP;have hsr:(l.take (j+1)).filter r=(l.take j).filter r++(if r l[j]then [l[j]]else []):=jr (f:=r) mP
     have VP:((l.take j).filter q).length<=1000000:=by
      have:=aO q (l.take j)
      rw[aK]at this;omega
     have VJ:((l.take j).filter r).length<=1000000:=by
      have:=aO r (l.take j)
      rw[aK]at this;omega
     rw[hr l[j],hq l[j]]at hsr;rw[hq l[j]]at fe;generalize l[j]=x at*;obtain⟨G,hG⟩: ∃G,(l.take j).filter q=G:=⟨_,rfl⟩
     obtain⟨K,hK⟩: ∃K,(l.take j).filter r=K:=⟨_,rfl⟩
     have Ya:=tk G;have tkK:=tk K;rw[hG]at fe VP⊢;rw[hK]at hsr VJ⊢;cases hh:dq u.kn x.key x.rep x.da with
     |true=>
      rw[hh]at fe hsr gr;simp only[if_true,bG,az,if_false,bj]at fe hsr;simp-implicitDefEqProofs (disch:=(first|omega|decide)) only[go_sem,↓reduceIte,seval,ie,ej,gr,Ya,wrap_i64,aa]
      refine⟨⟨ai _,by omega⟩,⟨j+1,mP⟩,⟨⟨by simp,by rw[fe];simp,by rw[hsr]⟩,by rw[fe,<-jG],by rw[hsr]⟩,by show l.length-(j+1)<l.length-j;omega⟩
     |false=>
      rw[hh]at fe hsr gr;simp only[if_true,bm,az,if_false,bj]at fe hsr;simp-implicitDefEqProofs (disch:=(first|omega|decide)) only[go_sem,↓reduceIte,seval,ie,ej,gr,tkK,wrap_i64,aa]
      refine⟨⟨ai _,by omega⟩,⟨j+1,mP⟩,⟨⟨by simp,by rw[fe],by rw[hsr];simp⟩,by rw[fe],by rw[hsr,<-jG]⟩,by show l.length-(j+1)<l.length-j;omega⟩
   · have ie: ¬(j:Int)<(l.length:Int):=by omega
     rw[ad (by omega)]
     have Gr:=tk (l.filter q)
     have tkp:=tk (l.filter r)
     simp-implicitDefEqProofs (disch:=(first|omega|decide)) only[go_sem,↓reduceIte,seval,ie,Gr,tkp,wrap_i64,aa,ai]
@[simp] theorem cells_inj2{a b c d:bA}:(a.cells++b.cells=c.cells++d.cells)=(a=c/\b=d):=by obtain⟨a1,a2,a3,a4,a5⟩:=a;obtain⟨b1,b2,b3,b4,b5⟩:=b;obtain⟨c1,c2,c3,c4,c5⟩:=c;obtain⟨d1,d2,d3,d4,d5⟩:=d;simp[bA.cells,and_assoc]
def zW:aW:=MS.add 84 (entry (fun(v:bA×bA×bA)=>[.agg (v.1.cells++v.2.1.cells),v.2.2.enc]) (fun v=>fV v.2.1/\fV v.1/\eK v.2.2.kn) (fun v=> .fq [.ay ((hasB v.2.1 v.1 v.2.2).map It.enc),.ay ((pr v.2.1 v.1 v.2.2).map It.enc)]))
theorem sT:aN Tryz.prog zW:=M42a_ok.dH Tryz.func84 (by kernel_rfl) (by kernel_rfl) fun v h=>c_parted v.2.1 v.1 v.2.2 h.1 h.2.1 h.2.2
@[go_sem] theorem M42b_old{g:FuncId}{xs:List A}(h:g≠84):zW.f g xs=MS.f g xs:=aW.aU h
@[go_sem] theorem M42b_s:zW.pl MS:=⟨fun _=>rfl,fun _=>rfl,rfl,fun _=>rfl,rfl,fun _=>rfl,rfl⟩
theorem pa(v:bA×bA×bA)(h:fV v.2.1/\fV v.1/\eK v.2.2.kn):zW.f 84 [.agg (v.1.cells++v.2.1.cells),v.2.2.enc]=some (.fq [.ay ((hasB v.2.1 v.1 v.2.2).map It.enc),.ay ((pr v.2.1 v.1 v.2.2).map It.enc)]):=aW.aZ (Γ:=MS) (fun i j h=>by simpa[ag,and_assoc]using h) v h
theorem VA{s t u:bA}(h:fV s/\fV t/\eK u.kn):zW.f 84 [.agg [.int .i64 t.id,.ay (t.fl.map bk.enc),.ay (t.bq.map It.enc),.ay (t.kn.map Pc.enc),.int .i64 t.ct,.int .i64 s.id,.ay (s.fl.map bk.enc),.ay (s.bq.map It.enc),.ay (s.kn.map Pc.enc),.int .i64 s.ct],.agg [.int .i64 u.id,.ay (u.fl.map bk.enc),.ay (u.bq.map It.enc),.ay (u.kn.map Pc.enc),.int .i64 u.ct]]=some (.fq [.ay ((hasB s t u).map It.enc),.ay ((pr s t u).map It.enc)]):=pa (t,s,u) h
theorem MT:aQ Tryz.prog zW Tryz.f38.ntmps (Tryz.f38.body.getD .skip)=true:=by kernel_rfl
theorem Rr(s t u:bA)(hs:fV s)(ht:fV t)(hu:eK u.kn):bp Tryz.prog 38 [s.enc,t.enc,u.enc] (· = .ay ((pr s t u).map It.enc)):=by
 refine ah sT mixed Tryz.func38 rfl (ab rfl) MT ?_;unfold Tryz.f38;have g:=VA (s:=s) (t:=t) (u:=u) ⟨hs,ht,hu⟩
 simp only[bA.enc,bA.cells]
 generalize hasB s t u=a at*;generalize pr s t u=b at*;simp-implicitDefEqProofs (disch:=(first|omega|decide)) only[go_sem,↓reduceIte,seval,g]
def qm(s t u:bA):Bool:=qb s t==0&&m_ (lR s t) u
structure OkW(s t u:bA):Prop where
 hx:Yz s t
 hu:(u.fl.length<=100000/\u.bq.length<=1000000)/\eK u.kn
 hv:((lR s t).fl.length<=100000/\(lR s t).bq.length<=1000000)/\eK (lR s t).kn
theorem Kj:aQ Tryz.prog zW Tryz.f35.ntmps (Tryz.f35.body.getD .skip)=true:=by kernel_rfl
theorem MU(s t u:bA)(h:OkW s t u):bp Tryz.prog 35 [s.enc,t.enc,u.enc] (· = .bool (qm s t u)):=by
 refine ah sT mixed Tryz.func35 rfl (ab rfl) Kj ?_;unfold Tryz.f35;have g1:=YB h.hx;rw[xf]at g1;have g2:=m_Same (s:=lR s t) (t:=u) ⟨⟨h.hv.1.1,h.hu.1.1⟩,⟨h.hv.1.2,h.hu.1.2⟩,h.hv.2,h.hu.2⟩
 unfold qm;simp only[bA.enc,bA.cells]
 clear h;generalize lR s t=v at*;generalize qb s t=c at*;generalize m_ v u=b at*;cases hc:c==0 with
 |false=>simp-implicitDefEqProofs (disch:=(first|omega|decide)) only[go_sem,↓reduceIte,seval,g1,hc,aI]
 |true=>simp-implicitDefEqProofs (disch:=(first|omega|decide)) only[go_sem,↓reduceIte,seval,g1,g2,hc,aB]
theorem MV:aQ Tryz.prog zW Tryz.f44.ntmps (Tryz.f44.body.getD .skip)=true:=by kernel_rfl
theorem Rs(s t u:bA)(hs:fV s)(ht:fV t)(hu:eK u.kn):bp Tryz.prog 44 [s.enc,t.enc,u.enc] (· = .ay ((mn s t u).map It.enc)):=by
 refine ah sT mixed Tryz.func44 rfl (ab rfl) MV ?_;unfold Tryz.f44;have g0:=sa ⟨hs,ht⟩
 have gH: ∀(x:List UInt8) (n c:Int),x.length<=9223372036854775807->Bh.f 74 [.ay (u.kn.map Pc.enc),.str x,.agg [.int .i64 n,.int .i64 c]]=some (.bool (dq u.kn x n c)):=fun x n c hx=>zC hu hx;have tk: ∀m:List It,(m.map It.enc).take m.length=m.map It.enc:=fun m=>ad (by simp)
 have vM:sS (cQ s t):=fun x hx=>hs.bq.2 x (eS.1 hx).1;have hln:(cQ s t).length<=1000000:=aL (aO _ _) hs.bq.1;unfold mn;simp only[bA.enc,bA.cells]
 generalize cQ s t=l at*;generalize hQ:(fun x:It=> !dq u.kn x.key x.rep x.da)=q at*;have hq: ∀x:It,q x= !dq u.kn x.key x.rep x.da:=fun x=>by rw[<-hQ]
 simp-implicitDefEqProofs (disch:=(first|omega|decide)) only[go_sem,↓reduceIte,seval,g0,aa]
 refine ch 7 7 rfl ?_;refine a_ [5,8] (ι:={j:Nat//j<=l.length}) (fun j=>[(9,.int .i64 j.1),(7,.row 3 0 7 ((l.take j.1).filter q).length false)]) (fun j=>[(3,.row 7 (((l.take j.1).filter q).map It.enc))]) (fun j=>l.length-j.1) ⟨0,by omega⟩ (aw _) ?_ ?_
 · simp-implicitDefEqProofs (disch:=(first|omega|decide)) only[go_sem,↓reduceIte,seval]
   first|done|(simp;done)|exact⟨⟨rfl,rfl⟩,rfl⟩
 · rintro⟨j,hj⟩
   simp only;by_cases mP:j<l.length
   · have ie:(j:Int)<(l.length:Int):=by omega
     have p1:(0:Int)<=(j:Int):=by omega
     have t1:((j:Nat):Int).toNat=j:=bg _;have ej:=eG mP;have gr:=gH l[j].key l[j].rep l[j].da (vM _ (ao mP)).1;have fe:(l.take (j+1)).filter q=(l.take j).filter q++(if q l[j]then [l[j]]else []):=jr (f:=q) mP
     have VP:((l.take j).filter q).length<=1000000:=by
      have:=aO q (l.take j)
      rw[aK]at this;omega
     rw[hq l[j]]at fe;generalize l[j]=x at*;obtain⟨G,hG⟩: ∃G,(l.take j).filter q=G:=⟨_,rfl⟩
     have Ya:=tk G;rw[hG]at fe VP⊢;cases hh:dq u.kn x.key x.rep x.da with
     |false=>
      rw[hh,bm,if_pos rfl]at fe;rw[hh]at gr;simp-implicitDefEqProofs (disch:=(first|omega|decide)) only[go_sem,↓reduceIte,seval,ie,p1,t1,ej,gr,Ya,wrap_i64,aa]
      refine⟨⟨ai _,by omega⟩,⟨j+1,mP⟩,⟨⟨by simp,by rw[fe];simp⟩,by rw[fe,<-jG]⟩,by show l.length-(j+1)<l.length-j;omega⟩
     |true=>
      rw[hh]at fe gr;simp only[bG,az,if_false,bj]at fe;simp-implicitDefEqProofs (disch:=(first|omega|decide)) only[go_sem,↓reduceIte,seval,ie,p1,t1,ej,gr,wrap_i64,aa]
      exact⟨⟨j+1,mP⟩,⟨⟨by simp,by rw[fe]⟩,by rw[fe]⟩,by show l.length-(j+1)<l.length-j;omega⟩
   · have ie: ¬(j:Int)<(l.length:Int):=by omega
     rw[ad (by omega)]
     have Gr:=tk (l.filter q)
     simp-implicitDefEqProofs (disch:=(first|omega|decide)) only[go_sem,↓reduceIte,seval,ie,Gr,wrap_i64,aa,ai]
def o5(n:Nat):Nat:=if n<=1 then 0 else if n<=2 then 1 else if n<=4 then 2 else if n<=8 then 3 else if n<=16 then 4 else if n<=32 then 5 else 6
theorem logN_step{n:Nat}(h:1<n)(h':n<=64):o5 n=o5 (n-n/2)+1:=by
 unfold o5
 repeat' split
 all_goals omega
theorem Gy(n:Nat):o5 n<=6:=by
 unfold o5
 repeat' split
 all_goals omega
theorem YN:aQ Tryz.prog zW Tryz.f95.ntmps (Tryz.f95.body.getD .skip)=true:=by kernel_rfl
theorem c_nat_Log(n:Nat)(h:n<=64):bp Tryz.prog 95 [.int .i64 n] (· = .int .i64 (o5 n)):=by
 refine ah sT mixed Tryz.func95 rfl (ab rfl) YN ?_;unfold Tryz.f95;simp-implicitDefEqProofs (disch:=(first|omega|decide)) only[go_sem,↓reduceIte,seval]
 refine a_ [] (ι:={p:Nat×Nat//p.1<=n/\p.2+o5 p.1=o5 n}) (fun p=>[(0,.int .i64 p.1.1),(3,.int .i64 p.1.2)]) (fun _=>[]) (fun p=>p.1.1) ⟨(n,0),ai n,bY _⟩ (aw _) ?_ ?_
 · simp-implicitDefEqProofs (disch:=(first|omega|decide)) only[go_sem,↓reduceIte,seval]
   try exact⟨rfl,rfl⟩
 · rintro⟨⟨m,k⟩,hm,hk⟩
   simp only at hm hk⊢;have hle:=Gy n;by_cases bo:1<m
   · have aH:(1:Int)<(m:Int):=by omega
     have hs:=logN_step bo (by omega)
     have e1:(m:Int).tdiv 2=((m/2:Nat):Int):=by rw[Int.tdiv_eq_ediv_of_nonneg (by omega)];omega
     have w1:IntKind.i64.wrap ((m/2:Nat):Int)=((m/2:Nat):Int):=wrap_i64 (by omega)
     have w2:IntKind.i64.wrap ((m:Int)-((m/2:Nat):Int))=((m-m/2:Nat):Int):=by rw[wrap_i64 (by omega)];omega
     have w3:IntKind.i64.wrap ((k:Int)+1)=((k+1:Nat):Int):=by rw[wrap_i64 (by omega)];omega
     simp-implicitDefEqProofs (disch:=(first|omega|decide)) only[go_sem,↓reduceIte,seval,aH,e1,w1,w2,w3]
     exact⟨⟨(m-m/2,k+1),by show m-m/2<=n;omega,by show k+1+o5 (m-m/2)=o5 n;omega⟩,⟨rfl,rfl⟩,by show m-m/2<m;omega⟩
   · have aH: ¬(1:Int)<(m:Int):=by omega
     have e:o5 m=0:=by unfold o5;rw[if_pos (by omega)]
     have e2:k=o5 n:=by omega
     simp-implicitDefEqProofs (disch:=(first|omega|decide)) only[go_sem,↓reduceIte,seval,aH,e2]
theorem Rt:aQ Tryz.prog zW Tryz.f96.ntmps (Tryz.f96.body.getD .skip)=true:=by kernel_rfl
theorem VB(n:Nat)(h:n<=64):bp Tryz.prog 96 [.int .i64 n] (· = .int .i64 (o5 n)):=by
 refine ah sT mixed Tryz.func96 rfl (ab rfl) Rt ?_;unfold Tryz.f96;simp-implicitDefEqProofs (disch:=(first|omega|decide)) only[go_sem,↓reduceIte,seval]
 refine a_ [0] (ι:={p:Nat×Nat//(p.2<=o5 n/\p.1=2^p.2)}) (fun p=>[(4,.int .i64 p.1.1),(3,.int .i64 p.1.2)]) (fun _=>[]) (fun p=>64-p.1.2) ⟨(1,0),by omega,rfl⟩ (aw _) ?_ ?_
 · simp-implicitDefEqProofs (disch:=(first|omega|decide)) only[go_sem,↓reduceIte,seval]
   try exact⟨rfl,rfl⟩
 · rintro⟨⟨m,k⟩,hk,hm⟩
   simp only at hm hk⊢;have hle:=Gy n;have hk6:k<=6:=by omega
   have hmv:m<=64/\(m<n->k+1<=o5 n/\2*m=2^(k+1))/\(¬m<n->k=o5 n):=by
    have:k=0\/k=1\/k=2\/k=3\/k=4\/k=5\/k=6:=by omega
    rcases this with rfl|rfl|rfl|rfl|rfl|rfl|rfl<;>subst hm<;>unfold o5 at* <;>refine⟨by decide,fun h1=>⟨?_,by decide⟩,fun h1=> ?_⟩<;>(repeat' split)<;>(repeat' split at hk)<;>omega
   obtain⟨h1,h2,h3⟩:=hmv;by_cases bo:m<n
   · have aH:(m:Int)<(n:Int):=by omega
     have M9:(k:Int)<62:=by omega
     obtain⟨q1,q2⟩:=h2 bo;have w1:IntKind.i64.wrap (2*(m:Int))=((2*m:Nat):Int):=by rw[wrap_i64 (by omega)];omega
     have w3:IntKind.i64.wrap ((k:Int)+1)=((k+1:Nat):Int):=by rw[wrap_i64 (by omega)];omega
     simp-implicitDefEqProofs (disch:=(first|omega|decide)) only[go_sem,↓reduceIte,seval,aH,M9,w1,w3]
     exact⟨⟨(2*m,k+1),q1,q2⟩,⟨rfl,rfl⟩,by show 64-(k+1)<64-k;omega⟩
   · have aH: ¬(m:Int)<(n:Int):=by omega
     have e2:=h3 bo;simp-implicitDefEqProofs (disch:=(first|omega|decide)) only[go_sem,↓reduceIte,seval,aH,e2]
def qX(t:bA)(x:It):Bool:=decide (iu t.bq x.key≠some x)
def n_(s:bA)(x:It):Bool:=(iu s.bq x.key).isNone
theorem Ru(s t:bA):om s t=((ku t.fl s.bq).filter (qX t)).length+((ku t.fl t.bq).filter (n_ s)).length:=rfl
theorem Oi{t:bA}{x:It}(h:iu t.bq x.key=none):qX t x=true:=by simp[qX,h]
theorem Oj{t:bA}{x y:It}(h:iu t.bq x.key=some y):qX t x= !decide (x=y):=by
 unfold qX;rw[h]
 by_cases e:x=y
 · subst e;simp
 · have: ¬y=x:=fun h=>e h.symm
   simp[e,this]
theorem u5{q:It->Bool}{l:List It}{j:Nat}(h:j<l.length):((l.take (j+1)).filter q).length=((l.take j).filter q).length+(if q l[j]then 1 else 0):=by
 rw[<-ar h,bP,aj]
 cases hq:q l[j]<;>simp[hq]
theorem FZ:aQ Tryz.prog zW Tryz.f39.ntmps (Tryz.f39.body.getD .skip)=true:=by kernel_rfl
theorem Kk(s t:bA)(hs:fV s)(ht:fV t):bp Tryz.prog 39 [s.enc,t.enc] (· = .int .i64 (om s t)):=by
 refine ah sT mixed Tryz.func39 rfl (ab rfl) FZ ?_;unfold Tryz.f39;have g1:=y_In (l:=s.bq) (F:=t.fl) ⟨hs.bq,by have:=ht.fl.1;omega,ht.fl.2⟩
 have g2:=y_In (l:=t.bq) (F:=t.fl) ⟨ht.bq,by have:=ht.fl.1;omega,ht.fl.2⟩
 have gT:=fun k=>U6 (s:=t) (k:=k) ht.bq.1;have gS:=fun k=>U6 (s:=s) (k:=k) hs.bq.1;have hl1:(ku t.fl s.bq).length<=1000000:=aL (mi _ _) hs.bq.1;have hl2:(ku t.fl t.bq).length<=1000000:=aL (mi _ _) ht.bq.1;rw[Ru]
 simp only[bA.enc,bA.cells]
 generalize ku t.fl s.bq=l at*;generalize ku t.fl t.bq=m at*;simp-implicitDefEqProofs (disch:=(first|omega|decide)) only[go_sem,↓reduceIte,seval,g1,aa]
 refine a_ [2,3,18,19] (ι:={j:Nat//j<=l.length}) (fun j=>[(20,.int .i64 j.1),(5,.int .i64 ((l.take j.1).filter (qX t)).length)]) (fun _=>[]) (fun j=>l.length-j.1) ⟨0,by omega⟩ (aw _) ?_ ?_
 · simp-implicitDefEqProofs (disch:=(first|omega|decide)) only[go_sem,↓reduceIte,seval]
   first|done|(simp;done)|exact⟨rfl,rfl⟩
 · rintro⟨j,hj⟩
   simp only
   have hc:((l.take j).filter (qX t)).length<=1000000:=by
    have:=aO (qX t) (l.take j)
    rw[aK]at this;omega
   by_cases mP:j<l.length
   · have ie:(j:Int)<(l.length:Int):=by omega
     have ej:=eG mP;have fe:=u5 (q:=qX t) mP;generalize l[j]=x at*;have gx:=gT x.key;have gI: ∀c:Int,c=(((l.take (j+1)).filter (qX t)).length:Int)-> ∃i:{j:Nat//j<=l.length},((j:Int)+1=(i.1:Int)/\c=(((l.take i.1).filter (qX t)).length:Int))/\l.length-i.1<l.length-j:=fun c h=>⟨⟨j+1,mP⟩,⟨by simp,h⟩,by show l.length-(j+1)<l.length-j;omega⟩
     generalize((l.take (j+1)).filter (qX t)).length=c2 at*;generalize((l.take j).filter (qX t)).length=c1 at*;cases hg:iu t.bq x.key with
     |none=>
      rw[Oi hg,if_pos rfl]at fe;rw[hg]at gx;simp only[FA,Oa,It.enc]at gx;have gI:=gI _ (by rw[fe];try simp)
      simp-implicitDefEqProofs (disch:=(first|omega|decide)) only[go_sem,↓reduceIte,seval,ie,ej,gx,wrap_i64,aa]
      exact gI
     |some y=>
      rw[Oj hg,it_eq]at fe;rw[hg]at gx;simp only[FA,It.enc]at gx;cases Cr:(x.key==y.key&&(x.rep==y.rep&&(x.da==y.da&&(x.du==y.du&&(x.prio==y.prio&&(x.dead==y.dead&&x.body==y.body))))))with
      |true=>
       rw[Cr]at fe;have gI:=gI (c1:Int) (by rw[fe];try simp)
       simp-implicitDefEqProofs (disch:=(first|omega|decide)) only[go_sem,↓reduceIte,seval,ie,ej,gx,Cr,wrap_i64,aa]
       exact gI
      |false=>
       rw[Cr,bm,if_pos rfl]at fe;have gI:=gI _ (by rw[fe];try simp)
       simp-implicitDefEqProofs (disch:=(first|omega|decide)) only[go_sem,↓reduceIte,seval,ie,ej,gx,Cr,wrap_i64,aa]
       exact gI
   · have ie: ¬(j:Int)<(l.length:Int):=by omega
     rw[ad (by omega)]at hc⊢;generalize(l.filter (qX t)).length=c0 at*;simp-implicitDefEqProofs (disch:=(first|omega|decide)) only[go_sem,↓reduceIte,seval,ie,g2,aa]
     refine a_ [2,3,45,46] (ι:={j:Nat//j<=m.length}) (fun j=>[(47,.int .i64 j.1),(5,.int .i64 ((c0+((m.take j.1).filter (n_ s)).length:Nat):Int))]) (fun _=>[]) (fun j=>m.length-j.1) ⟨0,by omega⟩ (aw _) ?_ ?_
     · simp-implicitDefEqProofs (disch:=(first|omega|decide)) only[go_sem,↓reduceIte,seval]
       first|done|(simp;done)|exact⟨rfl,by simp⟩
     · rintro⟨q,hq⟩
       simp only
       have hd:((m.take q).filter (n_ s)).length<=1000000:=by
        have:=aO (n_ s) (m.take q)
        rw[aK]at this;omega
       by_cases hqm:q<m.length
       · have Rv:(q:Int)<(m.length:Int):=by omega
         have eq':=eG hqm;have fe:=u5 (q:=n_ s) hqm;generalize m[q]=x at*;have gx:=gS x.key;have gI: ∀c:Int,c=((c0+((m.take (q+1)).filter (n_ s)).length:Nat):Int)-> ∃i:{j:Nat//j<=m.length},((q:Int)+1=(i.1:Int)/\c=((c0+((m.take i.1).filter (n_ s)).length:Nat):Int))/\m.length-i.1<m.length-q:=fun c h=>⟨⟨q+1,hqm⟩,⟨by simp,h⟩,by show m.length-(q+1)<m.length-q;omega⟩
         generalize((m.take (q+1)).filter (n_ s)).length=c2 at*;generalize((m.take q).filter (n_ s)).length=c1 at*;have w:IntKind.i64.wrap (((c0+c1:Nat):Int)+1)=((c0+c1+1:Nat):Int):=by rw[wrap_i64 (by omega)];omega
         unfold n_ at fe;cases hg:iu s.bq x.key with
         |none=>
          rw[hg,pf,if_pos rfl]at fe;rw[hg]at gx;simp only[FA,Oa,It.enc]at gx;have gI:=gI ((c0+c1+1:Nat):Int) (by rw[fe];rfl)
          simp-implicitDefEqProofs (disch:=(first|omega|decide)) only[go_sem,↓reduceIte,seval,Rv,eq',gx,w,wrap_i64,aa]
          exact gI
         |some y=>
          rw[hg,pe]at fe;simp only[az,if_false,dh]at fe;rw[hg]at gx;simp only[FA,It.enc]at gx;have gI:=gI ((c0+c1:Nat):Int) (by rw[fe])
          simp-implicitDefEqProofs (disch:=(first|omega|decide)) only[go_sem,↓reduceIte,seval,Rv,eq',gx,wrap_i64,aa]
          exact gI
       · have Rv: ¬(q:Int)<(m.length:Int):=by omega
         rw[ad (by omega)]
         simp-implicitDefEqProofs (disch:=(first|omega|decide)) only[go_sem,↓reduceIte,seval,Rv,aa]
theorem F4:aQ Tryz.prog zW Tryz.f40.ntmps (Tryz.f40.body.getD .skip)=true:=by kernel_rfl
theorem Kl(s t:bA)(hs:fV s)(ht:fV t):bp Tryz.prog 40 [s.enc,t.enc] (· = .int .i64 (om s t)):=by
 refine ah sT mixed Tryz.func40 rfl (ab rfl) F4 ?_;unfold Tryz.f40;have g1:=y_rIn (l:=s.bq) (F:=t.fl) ⟨hs.bq,by have:=ht.fl.1;omega,ht.fl.2⟩
 have g2:=y_rIn (l:=t.bq) (F:=t.fl) ⟨ht.bq,by have:=ht.fl.1;omega,ht.fl.2⟩
 have gT:=fun k=>xQ (s:=t) (k:=k) ht.bq.1;have gS:=fun k=>xQ (s:=s) (k:=k) hs.bq.1;have hpT:=rr t.bq;have hpS:=rr s.bq;have hl1:(ku t.fl s.bq).length<=1000000:=aL (mi _ _) hs.bq.1;have hl2:(ku t.fl t.bq).length<=1000000:=aL (mi _ _) ht.bq.1;rw[Ru]
 simp only[bA.enc,bA.cells]
 generalize ku t.fl s.bq=l at*;generalize ku t.fl t.bq=m at*;simp-implicitDefEqProofs (disch:=(first|omega|decide)) only[go_sem,↓reduceIte,seval,g1,g2,aa]
 refine a_ [2,3,6,7] (ι:={j:Nat//j<=l.length}) (fun j=>[(8,.int .i64 j.1),(5,.int .i64 ((l.take j.1).filter (qX t)).length)]) (fun _=>[]) (fun j=>l.length-j.1) ⟨0,by omega⟩ (aw _) ?_ ?_
 · simp-implicitDefEqProofs (disch:=(first|omega|decide)) only[go_sem,↓reduceIte,seval]
   first|done|(simp;done)|exact⟨rfl,rfl⟩
 · rintro⟨j,hj⟩
   simp only
   have hc:((l.take j).filter (qX t)).length<=1000000:=by
    have:=aO (qX t) (l.take j)
    rw[aK]at this;omega
   by_cases mP:j<l.length
   · have ie:(j:Int)<(l.length:Int):=by omega
     have p1:(0:Int)<=(j:Int):=by omega
     have t1:((j:Nat):Int).toNat=j:=bg _;have ej:=eG mP;have fe:=u5 (q:=qX t) mP;generalize l[j]=x at*;have gx:=gT x.key;have gI: ∀c:Int,c=(((l.take (j+1)).filter (qX t)).length:Int)-> ∃i:{j:Nat//j<=l.length},((j:Int)+1=(i.1:Int)/\c=(((l.take i.1).filter (qX t)).length:Int))/\l.length-i.1<l.length-j:=fun c h=>⟨⟨j+1,mP⟩,⟨by simp,h⟩,by show l.length-(j+1)<l.length-j;omega⟩
     generalize((l.take (j+1)).filter (qX t)).length=c2 at*;generalize((l.take j).filter (qX t)).length=c1 at*;rcases hpT x.key with⟨q1,q2⟩|⟨i,hi,q1,q2⟩
     · rw[Oi q2,if_pos rfl]at fe
       rw[q1]at gx;have gI:=gI _ (by rw[fe];try simp)
       simp-implicitDefEqProofs (maxSteps:=600000) (disch:=(first|omega|decide)) only[go_sem,↓reduceIte,seval,ie,p1,t1,ej,gx,wrap_i64,aa]
       exact gI
     · rw[Oj q2,show decide (x=t.bq[i])=decide (t.bq[i]=x)from decide_eq_decide.2 ⟨Eq.symm,Eq.symm⟩,it_eq]at fe
       rw[q1]at gx;have ei:=eG hi;have r1: ¬((i:Int)<0):=by omega
       have r2:(0:Int)<=(i:Int):=by omega
       have r3:(i:Int)<(t.bq.length:Int):=by omega
       have r4:((i:Nat):Int).toNat=i:=bg _;generalize t.bq[i]=y at*;cases Cr:(y.key==x.key&&(y.rep==x.rep&&(y.da==x.da&&(y.du==x.du&&(y.prio==x.prio&&(y.dead==x.dead&&y.body==x.body))))))with
       |true=>
        rw[Cr]at fe;have gI:=gI (c1:Int) (by rw[fe];try simp)
        simp-implicitDefEqProofs (maxSteps:=600000) (disch:=(first|omega|decide)) only[go_sem,↓reduceIte,seval,ie,p1,t1,r1,r2,r3,r4,ej,ei,gx,Cr,wrap_i64,aa]
        exact gI
       |false=>
        rw[Cr,bm,if_pos rfl]at fe;have gI:=gI _ (by rw[fe];try simp)
        simp-implicitDefEqProofs (maxSteps:=600000) (disch:=(first|omega|decide)) only[go_sem,↓reduceIte,seval,ie,p1,t1,r1,r2,r3,r4,ej,ei,gx,Cr,wrap_i64,aa]
        exact gI
   · have ie: ¬(j:Int)<(l.length:Int):=by omega
     rw[ad (by omega)]at hc⊢;generalize(l.filter (qX t)).length=c0 at*;simp-implicitDefEqProofs (disch:=(first|omega|decide)) only[go_sem,↓reduceIte,seval,ie,aa]
     refine a_ [2,3,7] (ι:={j:Nat//j<=m.length}) (fun j=>[(10,.int .i64 j.1),(5,.int .i64 ((c0+((m.take j.1).filter (n_ s)).length:Nat):Int))]) (fun _=>[]) (fun j=>m.length-j.1) ⟨0,by omega⟩ (aw _) ?_ ?_
     · simp-implicitDefEqProofs (disch:=(first|omega|decide)) only[go_sem,↓reduceIte,seval]
       first|done|(simp;done)|exact⟨rfl,by simp⟩
     · rintro⟨q,hq⟩
       simp only
       have hd:((m.take q).filter (n_ s)).length<=1000000:=by
        have:=aO (n_ s) (m.take q)
        rw[aK]at this;omega
       by_cases hqm:q<m.length
       · have Rv:(q:Int)<(m.length:Int):=by omega
         have p1:(0:Int)<=(q:Int):=by omega
         have t1:((q:Nat):Int).toNat=q:=bg _;have eq':=eG hqm;have fe:=u5 (q:=n_ s) hqm;generalize m[q]=x at*;have gx:=gS x.key;have gI: ∀c:Int,c=((c0+((m.take (q+1)).filter (n_ s)).length:Nat):Int)-> ∃i:{j:Nat//j<=m.length},((q:Int)+1=(i.1:Int)/\c=((c0+((m.take i.1).filter (n_ s)).length:Nat):Int))/\m.length-i.1<m.length-q:=fun c h=>⟨⟨q+1,hqm⟩,⟨by simp,h⟩,by show m.length-(q+1)<m.length-q;omega⟩
         generalize((m.take (q+1)).filter (n_ s)).length=c2 at*;generalize((m.take q).filter (n_ s)).length=c1 at*;have w:IntKind.i64.wrap (((c0+c1:Nat):Int)+1)=((c0+c1+1:Nat):Int):=by rw[wrap_i64 (by omega)];omega
         unfold n_ at fe;rcases hpS x.key with⟨q1,q2⟩|⟨i,hi,q1,q2⟩
         · rw[q2,pf,if_pos rfl]at fe
           rw[q1]at gx;have gI:=gI ((c0+c1+1:Nat):Int) (by rw[fe];rfl)
           simp-implicitDefEqProofs (maxSteps:=600000) (disch:=(first|omega|decide)) only[go_sem,↓reduceIte,seval,Rv,p1,t1,eq',gx,w,wrap_i64,aa]
           exact gI
         · rw[q2,pe]at fe
           simp only[az,if_false,dh]at fe;rw[q1]at gx;have r1: ¬((i:Int)<0):=by omega
           have gI:=gI ((c0+c1:Nat):Int) (by rw[fe])
           simp-implicitDefEqProofs (maxSteps:=600000) (disch:=(first|omega|decide)) only[go_sem,↓reduceIte,seval,Rv,p1,t1,r1,eq',gx,wrap_i64,aa]
           exact gI
       · have Rv: ¬(q:Int)<(m.length:Int):=by omega
         rw[ad (by omega)]
         simp-implicitDefEqProofs (disch:=(first|omega|decide)) only[go_sem,↓reduceIte,seval,Rv,aa]
def YO:aW:=zW.add 95 (entry (fun(n:Nat)=>[.int .i64 n]) (fun n=>n<=64) (fun n=> .int .i64 (o5 n)))
theorem M42c_ok:aN Tryz.prog YO:=sT.dH Tryz.func95 (by kernel_rfl) (by kernel_rfl) fun n h=>c_nat_Log n h
@[go_sem] theorem M42c_old{g:FuncId}{xs:List A}(h:g≠95):YO.f g xs=zW.f g xs:=aW.aU h
theorem Rw(n:Nat)(h:n<=64):YO.f 95 [.int .i64 n]=some (.int .i64 (o5 n)):=aW.aZ (Γ:=zW) (fun i j h=>by first|(cases i;cases j;rfl;done)|simpa[ag,and_assoc]using h|(simp at h;omega)|(simp at h;exact jm h.1 (jm h.2.1 (by omega)))) n h
def YP:aW:=YO.add 96 (entry (fun(n:Nat)=>[.int .i64 n]) (fun n=>n<=64) (fun n=> .int .i64 (o5 n)))
theorem M42d_ok:aN Tryz.prog YP:=M42c_ok.dH Tryz.func96 (by kernel_rfl) (by kernel_rfl) fun n h=>VB n h
@[go_sem] theorem M42d_old{g:FuncId}{xs:List A}(h:g≠96):YP.f g xs=YO.f g xs:=aW.aU h
theorem Km(n:Nat)(h:n<=64):YP.f 96 [.int .i64 n]=some (.int .i64 (o5 n)):=aW.aZ (Γ:=YO) (fun i j h=>by first|(cases i;cases j;rfl;done)|simpa[ag,and_assoc]using h|(simp at h;omega)|(simp at h;exact jm h.1 (jm h.2.1 (by omega)))) n h
def VC:aW:=YP.add 39 (entry (fun(v:bA×bA)=>[v.1.enc,v.2.enc]) (fun v=>fV v.1/\fV v.2) (fun v=> .int .i64 (om v.1 v.2)))
theorem M42e_ok:aN Tryz.prog VC:=M42d_ok.dH Tryz.func39 (by kernel_rfl) (by kernel_rfl) fun v h=>Kk v.1 v.2 h.1 h.2
@[go_sem] theorem M42e_old{g:FuncId}{xs:List A}(h:g≠39):VC.f g xs=YP.f g xs:=aW.aU h
theorem BH(v:bA×bA)(h:fV v.1/\fV v.2):VC.f 39 [v.1.enc,v.2.enc]=some (.int .i64 (om v.1 v.2)):=aW.aZ (Γ:=YP) (fun i j h=>by simpa[ag,and_assoc]using h) v h
def zX:aW:=VC.add 40 (entry (fun(v:bA×bA)=>[v.1.enc,v.2.enc]) (fun v=>fV v.1/\fV v.2) (fun v=> .int .i64 (om v.1 v.2)))
theorem u6:aN Tryz.prog zX:=M42e_ok.dH Tryz.func40 (by kernel_rfl) (by kernel_rfl) fun v h=>Kl v.1 v.2 h.1 h.2
@[go_sem] theorem M42f_old{g:FuncId}{xs:List A}(h:g≠40):zX.f g xs=VC.f g xs:=aW.aU h
@[go_sem] theorem M42f_s:zX.pl VC:=⟨fun _=>rfl,fun _=>rfl,rfl,fun _=>rfl,rfl,fun _=>rfl,rfl⟩
theorem BI(v:bA×bA)(h:fV v.1/\fV v.2):zX.f 40 [v.1.enc,v.2.enc]=some (.int .i64 (om v.1 v.2)):=aW.aZ (Γ:=VC) (fun i j h=>by simpa[ag,and_assoc]using h) v h
theorem m_Log{n:Nat}(h:n<=64):YO.f 95 [.int .i64 n]=some (.int .i64 (o5 n)):=Rw n h
theorem m_rLog{n:Nat}(h:n<=64):YP.f 96 [.int .i64 n]=some (.int .i64 (o5 n)):=Km n h
theorem xh{s t:bA}(h:fV s/\fV t):VC.f 39 [.agg [.int .i64 s.id,.ay (s.fl.map bk.enc),.ay (s.bq.map It.enc),.ay (s.kn.map Pc.enc),.int .i64 s.ct],.agg [.int .i64 t.id,.ay (t.fl.map bk.enc),.ay (t.bq.map It.enc),.ay (t.kn.map Pc.enc),.int .i64 t.ct]]=some (.int .i64 (om s t)):=BH (s,t) h
theorem Ol{s t:bA}(h:fV s/\fV t):zX.f 40 [.agg [.int .i64 s.id,.ay (s.fl.map bk.enc),.ay (s.bq.map It.enc),.ay (s.kn.map Pc.enc),.int .i64 s.ct],.agg [.int .i64 t.id,.ay (t.fl.map bk.enc),.ay (t.bq.map It.enc),.ay (t.kn.map Pc.enc),.int .i64 t.ct]]=some (.int .i64 (om s t)):=BI (s,t) h
def ma(s t:bA):Int:=3+((ku t.fl s.bq).length:Int)+2*(om s t:Int)*(o5 (ku t.fl s.bq).length:Int)
theorem dif_le(s t:bA):om s t<=s.bq.length+t.bq.length:=by
 rw[Ru]
 have h1:=aO (qX t) (ku t.fl s.bq)
 have h2:=aO (n_ s) (ku t.fl t.bq)
 have h3:=mi t.fl s.bq;have h4:=mi t.fl t.bq;omega
theorem bound_w{n d k:Nat}(hn:n<=64)(hd:d<=1000)(hk:k<=6):IntKind.i64.wrap (3+(n:Int))=3+(n:Int)/\IntKind.i64.wrap (2*(d:Int))=2*(d:Int)/\IntKind.i64.wrap (2*(d:Int)*(k:Int))=2*(d:Int)*(k:Int)/\IntKind.i64.wrap (3+(n:Int)+2*(d:Int)*(k:Int))=3+(n:Int)+2*(d:Int)*(k:Int):=by
 have:k=0\/k=1\/k=2\/k=3\/k=4\/k=5\/k=6:=by omega
 refine⟨wrap_i64 (by omega),wrap_i64 (by omega),wrap_i64 ?_,wrap_i64 ?_⟩<;>rcases this with rfl|rfl|rfl|rfl|rfl|rfl|rfl<;>omega
theorem Kn:aQ Tryz.prog zX Tryz.f41.ntmps (Tryz.f41.body.getD .skip)=true:=by kernel_rfl
theorem MW(s t:bA)(hs:fV s)(ht:fV t)(hl:s.bq.length<=64)(hm:t.bq.length<=100):bp Tryz.prog 41 [s.enc,t.enc] (· = .int .i64 (ma s t)):=by
 refine ah u6 mixed Tryz.func41 rfl (ab rfl) Kn ?_;unfold Tryz.f41;have g1:=y_In (l:=s.bq) (F:=t.fl) ⟨hs.bq,by have:=ht.fl.1;omega,ht.fl.2⟩
 have g2:=xh ⟨hs,ht⟩
 have hn:(ku t.fl s.bq).length<=64:=aL (mi _ _) hl;have g3:=m_Log hn;obtain⟨w1,w2,w3,w4⟩:=bound_w (d:=om s t) hn (by have:=dif_le s t;omega) (Gy (ku t.fl s.bq).length)
 unfold ma;simp only[bA.enc,bA.cells]
 generalize ku t.fl s.bq=l at*;generalize om s t=d at*;generalize hk:o5 l.length=k at*;simp-implicitDefEqProofs (disch:=(first|omega|decide)) only[go_sem,↓reduceIte,seval,g1,g2,g3,w1,w2,w3,w4,aa]
theorem Ko:aQ Tryz.prog zX Tryz.f42.ntmps (Tryz.f42.body.getD .skip)=true:=by kernel_rfl
theorem MX(s t:bA)(hs:fV s)(ht:fV t)(hl:s.bq.length<=64)(hm:t.bq.length<=100):bp Tryz.prog 42 [s.enc,t.enc] (· = .int .i64 (ma s t)):=by
 refine ah u6 mixed Tryz.func42 rfl (ab rfl) Ko ?_;unfold Tryz.f42;have g1:=y_rIn (l:=s.bq) (F:=t.fl) ⟨hs.bq,by have:=ht.fl.1;omega,ht.fl.2⟩
 have g2:=Ol ⟨hs,ht⟩
 have hn:(ku t.fl s.bq).length<=64:=aL (mi _ _) hl;have g3:=m_rLog hn;obtain⟨w1,w2,w3,w4⟩:=bound_w (d:=om s t) hn (by have:=dif_le s t;omega) (Gy (ku t.fl s.bq).length)
 unfold ma;simp only[bA.enc,bA.cells]
 generalize ku t.fl s.bq=l at*;generalize om s t=d at*;generalize hk:o5 l.length=k at*;simp-implicitDefEqProofs (disch:=(first|omega|decide)) only[go_sem,↓reduceIte,seval,g1,g2,g3,w1,w2,w3,w4,aa]
structure Rx(s:bA):Prop where
 fl:s.fl.length<=9223372036854775807/\iG s.fl
 bq:s.bq.length<=9223372036854775807/\sS s.bq
 kn:s.kn.length<=9223372036854775807/\ ∀p∈s.kn,p.s.length<=9223372036854775807
theorem pN{s:bA}(h:Rx s)(hl:qA s=false):OkS s/\wtP s.kn 272:=by
 unfold qA at hl;simp only[dm]at hl;have h1:=long_len hl.1.1;have h2:=longI_len hl.1.2;refine⟨⟨⟨by omega,h.fl.2⟩,⟨by omega,h.bq.2⟩,UK (m:=24) hl.2⟩,fun p hp=> ?_⟩
 have h3:=hl.2;unfold qz at h3;rw[dm,iL]at h3;have:=h3.2 p hp;simp only[Jg,dI,dm,decide_eq_false_iff_not]at this;obtain⟨a,b,c⟩:=this;have:=IE (m:=16) c;omega
theorem fits_its3{x:A}(h:fits (.rows [.str,.int .i64,.int .i64,.int .i64,.int .i64,.bool,.str]) x): ∃l:List It,x= .ay (l.map It.enc)/\l.length<=maxLen/\sS l:=by
 simp only[fits]at h;obtain⟨es,rfl,hl,he⟩:=h;have ml:=rf;obtain⟨l,rfl,hk⟩:=xC (f:=It.enc) (P:=fun x=>x.ok) (es:=es) (fun e hx=>by obtain⟨ys,rfl,hy⟩:=he e hx;simp only[fD]at hy;obtain⟨y1,z1,rfl,h1,y2,z2,rfl,h2,y3,z3,rfl,h3,y4,z4,rfl,h4,y5,z5,rfl,h5,y6,z6,rfl,h6,y7,z7,rfl,h7,rfl⟩:=hy;simp only[fits]at h1 h2 h3 h4 h5 h6 h7;obtain⟨s,rfl,hs⟩:=h1;obtain⟨a,rfl,_⟩:=h2;obtain⟨b,rfl,_⟩:=h3;obtain⟨c,rfl,_⟩:=h4;obtain⟨d,rfl,_⟩:=h5;obtain⟨e,rfl⟩:=h6;obtain⟨t,rfl,ht⟩:=h7;exact⟨⟨s,a,b,c,d,e,t⟩,rfl,⟨by show s.length<=_;omega,by show t.length<=_;omega⟩⟩)
 exact⟨l,rfl,by simpa using hl,hk⟩
theorem pO{x:List A}(h:fD [.int .i64,.rows [.str,.str,.bool],.rows [.str,.int .i64,.int .i64,.int .i64,.int .i64,.bool,.str],.rows [.str,.str,.bool,.rows [.int .i64,.rows [.int .i64,.int .i64]]],.int .i64] x): ∃s:bA,x=s.cells/\Rx s:=by simp only[fD]at h;have ml:=rf;obtain⟨y1,z1,rfl,h1,y2,z2,rfl,h2,y3,z3,rfl,h3,y4,z4,rfl,h4,y5,z5,rfl,h5,rfl⟩:=h;simp only[fits]at h1 h5;obtain⟨id,rfl,_⟩:=h1;obtain⟨ct,rfl,_⟩:=h5;obtain⟨F,rfl,f1,f2⟩:=fits_rngs h2;obtain⟨I,rfl,i1,i2⟩:=fits_its3 h3;obtain⟨K,rfl,k1,k2⟩:=fits_pcs h4;exact⟨⟨id,F,I,K,ct⟩,rfl,⟨⟨by show F.length<=_;omega,f2⟩,⟨by show I.length<=_;omega,i2⟩,⟨by show K.length<=_;omega,fun p hp=>by have:=k2 p hp;omega⟩⟩⟩
structure Dx(s t:bA):Prop where
 fs:mW s 24 272 24
 ft:mW t 24 272 24
 fx:Yz s t
theorem Ry{s t:bA}(os:OkS s)(ot:OkS t)(ws:wtP s.kn 272)(wt:wtP t.kn 272)(hs:cq s=true)(ht:cq t=true):Dx s t:=
 ⟨⟨(dN s).1 hs,os.fl,os.bq,os.kn.1,ws⟩,⟨(dN t).1 ht,ot.fl,ot.bq,ot.kn.1,wt⟩,BD os ot⟩
theorem Dx.base{s t:bA}(h:Dx s t):Sm s (pq s t) 272 24/\Sm t (pq s t) 272 24/\(∀r∈s.fl,r∈pq s t)/\(∀r∈t.fl,r∈pq s t)/\(pq s t).length<=64:=by obtain⟨a,b,c,d⟩:=BC h.fs h.ft;exact⟨a,b,c,d,xT ⟨h.fs.kn.1,h.fs.fl.1⟩ ⟨h.ft.kn.1,h.ft.fl.1⟩⟩
theorem sync_at{s t:bA}(hs:dg s)(ht:dg t)(h:zO s t):qb s t=0/\lR s t=lQ s t:=by
 obtain⟨e1,e2⟩:=xg hs ht;have h0:qb s t=0:=by rw[e1];exact(xS hs ht).2 h
 exact⟨h0,e2 h0⟩
theorem kN{s t:bA}(hs:dg s){x:It}(hx:x∈cQ s t):bQ x=true/\bh t.fl x.key=true:=⟨hs.right x (eS.1 hx).1,(eS.1 hx).2.1⟩
theorem in_one{F:List bk}{x:It}(h:bh F x.key=true):ku F [x]=[x]:=dv.2 fun y hy=>by obtain rfl:=bc.1 hy;exact h
theorem Kp{s t p:bA}{L:List It}{x:It}{i:Nat}(hs:dg s)(h:mj s t p L)(hi:i<(cQ s t).length)(hx:(cQ s t)[i]=x)(hL:L.Sublist ((cQ s t).take i))(h0:jt p [x] (eR x.key [⟨x.rep,x.da⟩])=0):
 mj s t (kM p [x] (eR x.key [⟨x.rep,x.da⟩])) (L++[x])/\(L++[x]).Sublist ((cQ s t).take (i+1)):=by
 have hm:x∈cQ s t:=by rw[<-hx];exact ao _
 obtain⟨hr,hf⟩:=kN hs hm;obtain⟨k1,k2,k3⟩:=nO hr
 have hsub:(L++[x]).Sublist ((cQ s t).take (i+1)):=by
  rw[<-ar hi,hx]
  exact hL.append (List.Sublist.refl _)
 have hR:=xe h0;have e:kM p [x] (eR x.key [⟨x.rep,x.da⟩])=yJ p (ku p.fl [x]) (lz p (eR x.key [⟨x.rep,x.da⟩])):=by unfold kM;rw[if_pos h0]
 rw[e]
 have Sh:bh p.fl x.key=true:=by rw[h.fl];exact hf
 refine⟨⟨hR,h.id,h.fl,h.ct, ?_,hsub.trans (j8 _ _),fun z n hn c=> ?_⟩,hsub⟩
 · show bM (p.bq++ku p.fl [x])=_
   rw[in_one Sh,h.bq,xc,ba]
 · show hk (setAt (cF (fF (p.kn++lz p (eR x.key [⟨x.rep,x.da⟩])))) z) n c=true ↔ _
   rw[iF hn,bE,h.kn z n hn c]
   unfold lz;rw[g_ (ny _ _),wY hn,ak,JK k2 k3 hn]
   constructor
   · rintro((g|⟨y,hy,g⟩)|⟨_,g1,g2,g3⟩)
     · exact .inl g
     · exact .inr ⟨y,aJ.2 (.inl hy),g⟩
     · exact .inr ⟨x,by simp,g1,g2,g3⟩
   · rintro(g|⟨y,hy,g1,g2,g3⟩)
     · exact .inl (.inl g)
     · rcases aJ.1 hy with hy|hy
       · exact .inl (.inr ⟨y,hy,g1,g2,g3⟩)
       · obtain rfl:=bc.1 hy
         exact .inr ⟨by rw[g1];exact Sh,g1,g2,g3⟩
theorem hk_flat{α:Type}(f:α->List aF)(L:List α)(n c:Int):hk (L.flatMap f) n c=L.any fun y=>hk (f y) n c:=by
 induction L with
 |nil=>rfl
 |cons y L ih=>rw[j_,pK,ih,cI]
theorem flat_w{α:Type}(f:α->List aF)(w:Nat): ∀L:List α,(∀y∈L,dt (f y)<=w)->dt (L.flatMap f)<=L.length*w
 | [],_=>by simp[dt]
 |y::L,h=>by
  have:=flat_w f w L fun z hz=>h z (by simp[hz])
  have:=h y (by simp)
  rw[j_,iK,aG,lM];omega
def Kq(s t:bA)(L:List It):List bk:=pq s t++L.map fun x=>sj x.key
theorem ahead_at{s t p:bA}{L:List It}(hs:dg s)(h:mj s t p L)(x:List UInt8):setAt p.kn x=iO (setAt t.kn x++L.flatMap fun y=>setAt (eR y.key [⟨y.rep,y.da⟩]) x):=by
 have e:setAt p.kn x=fF p.kn x:=by
  conv=>lhs;rw[<-jY h.right.kn]
  rw[g_ (zD _)]
 rw[e]
 refine rp (ic _ _) (NP _) fun n hn c=> ?_;rw[oV hn,IF hn,pK,hk_flat,bS,h.kn x n hn c,bE,qv]
 refine or_congr Iff.rfl (exists_congr fun y=>and_congr_right fun hy=> ?_)
 obtain⟨_,k2,k3⟩:=nO (kN hs (h.sub.subset hy)).1;rw[JK k2 k3 hn]
theorem ahead_sm{s t p:bA}{L:List It}{w n m:Nat}(hs:mW s 24 w n)(ht:mW t 24 w m)(hw:w<=272)(hn:n<=24)(hm:m<=24)(h:mj s t p L):Sm p (Kq s t (cQ s t)) 1056 48:=by
 obtain⟨b1,b2,b3,b4⟩:=BC hs ht;have hl:L.length<=24:=by have h1:=h.sub.length_le;have h2:(cQ s t).length<=s.bq.length:=aO _ _;have:=hs.bq.1;omega
 refine⟨h.right,by rw[h.fl];exact ht.fl,⟨?_,fun y hy=> ?_⟩,fun x e hx=> ?_,fun x=> ?_⟩
 · rw[h.bq]
   have:=mK (t.bq++L)
   rw[aj]at this;have:=ht.bq.1;omega
 · rw[h.bq]at hy
   rcases aJ.1 (fB hy).1 with hy|hy
   · exact ht.bq.2 y hy
   · exact hs.bq.2 y (eS.1 (h.sub.subset hy)).1
 · refine rp (ic _ _) (ic _ _) fun n hn c=> ?_
   have q:=congrArg (fun z=>hk z n c) (b2.base x e fun r hr=>hx r (aJ.2 (.inl hr)))
   simp only[oV hn]at q;rw[oV hn,oV hn,bS,h.kn x n hn c,h.kn e n hn c,q]
   refine or_congr Iff.rfl (exists_congr fun y=>and_congr_right fun hy=> ?_)
   have Aj:=h.sub.subset hy;obtain⟨_,k2,_⟩:=nO (kN hs.right Aj).1;have:=hx (sj y.key) (aJ.2 (.inr (bZ.2 ⟨y,Aj,rfl⟩)))
   rw[Cj k2.2,Cj k2.2]at this;have e1:(x=y.key) ↔ (e=y.key):=by rw[bS]at this;simpa using this
   rw[e1]
 · rw[ahead_at hs.right h x]
   have q1:=I8 (setAt t.kn x++L.flatMap fun y=>setAt (eR y.key [⟨y.rep,y.da⟩]) x)
   rw[iK]at q1;have q2:=flat_w (fun y:It=>setAt (eR y.key [⟨y.rep,y.da⟩]) x) 32 L fun y hy=>by have h1:=qT (eR y.key [⟨y.rep,y.da⟩]) x;have h2:=(Ep y.key ⟨y.rep,y.da⟩).2;omega
   have q3:=b2.wt x;have q4:L.length*32<=24*32:=cB _ hl;omega
theorem base3_len{s t:bA}{w n m:Nat}(hs:mW s 24 w n)(ht:mW t 24 w m)(hn:n<=24):(Kq s t (cQ s t)).length<=88:=by
 have h1:=xT (s:=s) (t:=t) ⟨hs.kn.1,hs.fl.1⟩ ⟨ht.kn.1,ht.fl.1⟩
 have h2:(cQ s t).length<=s.bq.length:=aO _ _;have:=hs.bq.1;unfold Kq;rw[aj,aa];omega
theorem okT_one{p:bA}{B:List bk}{x:It}(h:Sm p B 1056 48)(hB:B.length<=150)(hx:x.ok):Vn p [x] (eR x.key [⟨x.rep,x.da⟩]):=by
 have hf:=h.fin hB;have hr:=hf.okR' (by decide) (by decide) (by decide)
 have h1:=Ep x.key ⟨x.rep,x.da⟩
 have h2:wP p.kn<=301*1056:=aL (Vk hf.kn.2) (cB _ hf.kn.1)
 have ho:mH (eR x.key [⟨x.rep,x.da⟩]):=ZU ⟨⟨by omega,by omega⟩,Gu _ _⟩ (by omega)
 exact(okT_of (N:=1) (W:=32) hr h.fl.1 ⟨by simp,fun y hy=>by obtain rfl:=bc.1 hy;exact hx⟩ (by have:=h.bq.1;omega) ⟨ho,h1.1⟩ (fun z=>by have:=qT (eR x.key [⟨x.rep,x.da⟩]) z;omega) (by omega) (by omega) (by decide) (by omega)).1
end Go.Proofs.YtfnohjheonlnmaaGreat
