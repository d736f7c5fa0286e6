/- What the laws of this claim rest on: the abstract executor, its soundness, and what the functions compute on pure data. No condition. -/
import Derived.Test.YtfnohjheonlnmaaGreatU8
noncomputable section
set_option linter.unusedVariables false
set_option linter.unusedSimpArgs false
namespace Go.Proofs.YtfnohjheonlnmaaGreat
open Go.dF
set_option linter.unusedSimpArgs false
set_option linter.unusedVariables false
set_option maxRecDepth 20000
set_option maxHeartbeats 8000000
def qA(s:bA):Bool:=l8 s.fl 8||ve s.bq 24||qz s.kn 24
theorem Me:aQ Tryz.prog zI Tryz.f15.ntmps (Tryz.f15.body.getD .skip)=true:=by kernel_rfl
theorem Bl(s:bA)(h1:s.fl.length<=9223372036854775807)(h2:s.bq.length<=9223372036854775807)(h3:s.kn.length<=9223372036854775807)(h4: ∀p∈s.kn,p.s.length<=9223372036854775807):bp Tryz.prog 15 [s.enc] (· = .bool (qA s)):=by
 refine ah Bk mixed Tryz.func15 rfl (ab rfl) Me ?_;unfold Tryz.f15;obtain⟨id,F,I,K,ct⟩:=s;simp only at h1 h2 h3 h4;have g1:=q_rLong (l:=F) (m:=8) h1;have g2:=i_rLong (l:=I) (m:=24) h2;have g3:=p_rLong (k:=K) (m:=24) h3 h4;simp only[bA.enc,bA.cells,qA]
 cases e1:l8 F 8<;>rw[e1]at g1
 · cases e2:ve I 24<;>rw[e2]at g2<;>simp-implicitDefEqProofs (disch:=(first|omega|decide)) only[go_sem,↓reduceIte,seval,g1,g2,g3]
 · simp-implicitDefEqProofs (disch:=(first|omega|decide)) only[go_sem,↓reduceIte,seval,g1]
def zJ(id:Int)(n:Int)(k:aF):Int:=if k.n=id then max n (j9 k.rs)else n
theorem Bm{t:Int->List bH}{id n:Int}: ∀k:Nat,(sG t k).foldl (zJ id) n=if 1<=id/\id<=k/\(t id).isEmpty=false then max n (j9 (t id))else n
 |0=>by rw[if_neg (by omega)];rfl
 |k+1=>by
  simp only[sG]
  by_cases e:id=(k:Int)+1
  · have h0:(sG t k).foldl (zJ id) n=n:=by rw[Bm k,if_neg (by omega)]
    subst e;split
    · rename_i h1
      rw[h0,if_neg (by rw[h1];simp)]
    · rename_i h1
      rw[cp,h0,if_pos ⟨by omega,by push_cast;omega,by simpa using h1⟩]
      simp[zJ]
  · have hc:(1<=id/\id<=((k+1:Nat):Int)/\(t id).isEmpty=false) ↔ (1<=id/\id<=(k:Int)/\(t id).isEmpty=false):=by
     constructor
     · rintro⟨h1,h2,h3⟩;exact⟨h1,by omega,h3⟩
     · rintro⟨h1,h2,h3⟩;exact⟨h1,by omega,h3⟩
    split
    · rw[Bm k];simp only[hc]
    · rw[cp,Bm k]
      have: ∀m:Int,List.foldl (zJ id) m [⟨(k:Int)+1,t ((k:Int)+1)⟩]=m:=fun m=>by simp[zJ];intro h;exact absurd h.symm e
      rw[this];simp only[hc]
theorem fold_of{p:Pc}{id n:Int}(hn:0<=n):(iO p.s).foldl (zJ id) n=max n (vf p id):=by
 unfold iO sk vf;rw[Bm]
 cases hr:dJ id with
 |false=>
  rw[if_neg,if_neg (by simp)]
  · omega
  · rintro⟨h1,h2,_⟩
    have:=eo (n:=id)
    rw[hr]at this;simp at this;omega
 |true=>
  have h:=eo.1 hr;rw[if_pos rfl]
  cases he:(fM (aX (bJ p.s id))).isEmpty with
  |false=>rw[if_pos ⟨by omega,by omega,by rfl⟩]
  |true=>
   have e0:fM (aX (bJ p.s id))=[]:=by simpa using he
   rw[if_neg (by simp),e0]
   have:j9 []=0:=rfl;rw[this];omega
theorem max_if(a b:Int):(if b>a then b else a)=max a b:=by rw[Int.max_def];split<;>split<;>omega
theorem last_run{rs:List bH}(h:rs≠ []): ∃f,(rs.map bH.enc)[rs.length-1]? =some (.agg [.int .i64 f,.int .i64 (j9 rs)]):=by
 have e:rs.getLast? =some (rs.getLast h):=List.getLast?_eq_some_getLast h;refine⟨(rs.getLast h).f, ?_⟩
 rw[aT,<-qk,e]
 unfold j9;rw[e];rfl
theorem ofK_ne{s:List aF}{k:aF}(h:k∈iO s):k.rs≠ []:=(AT h).2.2.2
theorem ofK_rl{s:List aF}{k:aF}(h:k∈iO s):k.rs.length<=1099511627776:=of_len (by have:=(AT h).2.2.1;rw[this];exact mD _)
theorem mostK_nn(k:List Pc)(id:Int):0<=hI k id:=by
 unfold hI
 have: ∀(l:List Pc) (n:Int),0<=n->0<=l.foldl (fun n p=>max n (vf p id)) n:=fun l=>by
  induction l with
  |nil=>intro n h;exact h
  |cons p l ih=>intro n h;exact ih _ (by show 0<=max n (vf p id);omega)
 exact this k 0 (cT _)
theorem Jr{k:List Pc}{id:Int}{i:Nat}(h:i<k.length):hI (k.take (i+1)) id=max (hI (k.take i) id) (vf k[i] id):=by unfold hI;rw[<-ar h,cp];rfl
theorem Z9{k:List Pc}(hk:mH k){p:Pc}(hp:p∈k):rS p.s:=by
 have h1:=hk.2.2 p hp;refine⟨⟨by omega,by omega⟩,fun n=> ?_⟩
 have:=lU p.s n;omega
theorem Mf:aQ Tryz.prog zI Tryz.f91.ntmps (Tryz.f91.body.getD .skip)=true:=by kernel_rfl
theorem Bn(k:List Pc)(id:Int)(hk:mH k):bp Tryz.prog 91 [.ay (k.map Pc.enc),.int .i64 id] (· = .int .i64 (hI k id)):=by
 refine ah Bk mixed Tryz.func91 rfl (ab rfl) Mf ?_;unfold Tryz.f91;have hkl:=hk.1.1.1;simp-implicitDefEqProofs (disch:=(first|omega|decide)) only[go_sem,↓reduceIte,seval,aa]
 have m0:hI (k.take 0) id=0:=rfl;refine a_ [0,1] (ι:={i:Nat//i<=k.length}) (fun p=>[(6,.int .i64 p.1),(5,.int .i64 (hI (k.take p.1) id))]) (fun _=>[]) (fun p=>k.length-p.1) ⟨0,by omega⟩ (aw _) ?_ ?_
 · simp-implicitDefEqProofs (disch:=(first|omega|decide)) only[go_sem,↓reduceIte,seval,m0]
   rfl
 · rintro⟨i,hi⟩
   simp only;by_cases bo:i<k.length
   · have aH:(i:Int)<(k.length:Int):=by omega
     have e1:=kJ bo;have hm:=Z9 hk (ao bo)
     have go:=yD k[i].s hm;have hn:=mostK_nn (k.take i) id;have hs:=Jr (id:=id) bo;have hf:=fold_of (p:=k[i]) (id:=id) hn;have vv:(iO k[i].s).length<=16:=by unfold iO sk;exact uL _ 16
     have eH: ∀x∈iO k[i].s,x.rs≠ []:=fun x hx=>ofK_ne hx;have hrl: ∀x∈iO k[i].s,x.rs.length<=1099511627776:=fun x hx=>ofK_rl hx;generalize iO k[i].s=o at*;generalize hI (k.take i) id=n at*;simp-implicitDefEqProofs (disch:=(first|omega|decide)) only[go_sem,↓reduceIte,seval,aH,e1,go,aa]
     refine a_ [0,1,6,7] (ι:={j:Nat//j<=o.length}) (fun q=>[(8,.int .i64 q.1),(5,.int .i64 ((o.take q.1).foldl (zJ id) n))]) (fun _=>[]) (fun q=>o.length-q.1) ⟨0,by omega⟩ (aw _) ?_ ?_
     · simp-implicitDefEqProofs (disch:=(first|omega|decide)) only[go_sem,↓reduceIte,seval]
       rfl
     · rintro⟨j,hj⟩
       simp only;by_cases hlj:j<o.length
       · have hlj':(j:Int)<(o.length:Int):=by omega
         have e2:=iT hlj;have eO:(o.take (j+1)).foldl (zJ id) n=zJ id ((o.take j).foldl (zJ id) n) o[j]:=by rw[<-ar hlj,cp];rfl
         have hnj:=eH _ (ao hlj)
         have hrj:=hrl _ (ao hlj)
         obtain⟨f,e3⟩:=last_run hnj;have hpos:0<o[j].rs.length:=List.length_pos_iff.2 hnj;generalize(o.take j).foldl (zJ id) n=m at*;generalize o[j]=x at*;obtain⟨xn,rs⟩:=x;simp only at e2 e3 hpos eO hrj;cases h1:xn==id with
         |false=>
          have hne': ¬xn=id:=by simpa using h1
          have ht:zJ id m ⟨xn,rs⟩=m:=by unfold zJ;rw[if_neg hne']
          rw[ht]at eO;simp-implicitDefEqProofs (disch:=(first|omega|decide)) only[go_sem,↓reduceIte,seval,hlj',e2,h1,wrap_i64,aa]
          exact⟨⟨j+1,hlj⟩,⟨by simp,by rw[eO]⟩,by show o.length-(j+1)<o.length-j;omega⟩
         |true=>
          have he:xn=id:=by simpa using h1
          have ht:zJ id m ⟨xn,rs⟩=max m (j9 rs):=by unfold zJ;rw[if_pos he]
          rw[ht]at eO;have c0:((rs.length:Int)-1).toNat=rs.length-1:=by omega
          have c1:(0:Int)<=(rs.length:Int)-1:=by omega
          have c2:(rs.length:Int)-1<(rs.length:Int):=by omega
          simp-implicitDefEqProofs (disch:=(first|omega|decide)) only[go_sem,↓reduceIte,seval,hlj',e2,e3,h1,c0,c1,c2,max_if,wrap_i64,aa]
          exact⟨⟨j+1,hlj⟩,⟨by simp,by rw[eO]⟩,by show o.length-(j+1)<o.length-j;omega⟩
       · have hlj': ¬(j:Int)<(o.length:Int):=by omega
         obtain rfl:j=o.length:=by omega
         rw[ca,hf,<-hs]
         simp-implicitDefEqProofs (disch:=(first|omega|decide)) only[go_sem,↓reduceIte,seval,hlj',wrap_i64,aa]
         exact⟨⟨i+1,bo⟩,⟨by simp,rfl⟩,by show k.length-(i+1)<k.length-i;omega⟩
   · have aH: ¬(i:Int)<(k.length:Int):=by omega
     rw[ad (by omega)]
     simp-implicitDefEqProofs (disch:=(first|omega|decide)) only[go_sem,↓reduceIte,seval,aH,aa]
theorem Js:aQ Tryz.prog zI Tryz.f92.ntmps (Tryz.f92.body.getD .skip)=true:=by kernel_rfl
theorem yH(l:List It)(hl:l.length<=1000000):bp Tryz.prog 92 [.ay (l.map It.enc)] (· = .bool (gq l)):=by
 refine ah Bk mixed Tryz.func92 rfl (ab rfl) Js ?_;unfold Tryz.f92;simp-implicitDefEqProofs (disch:=(first|omega|decide)) only[go_sem,↓reduceIte,seval,aa]
 refine a_ [0] (ι:={i:Nat//i<=l.length/\ ∀j,j<i->uX l j=false}) (fun p=>[(3,.int .i64 p.1)]) (fun _=>[]) (fun p=>l.length-p.1) ⟨0,by omega,fun j h=>absurd h (Nat.not_lt_zero _)⟩ (aw _) ?_ ?_
 · simp-implicitDefEqProofs (disch:=(first|omega|decide)) only[go_sem,↓reduceIte,seval]
 · rintro⟨i,hi,hd⟩
   simp only;by_cases bo:i<l.length
   · have aH:(i:Int)<(l.length:Int):=by omega
     have ei:=eG bo;have hP:uX l i=(l.take i).any fun y=>decide (y.rep=l[i].rep/\y.da=l[i].da):=by unfold uX;rw[ae bo]
     have th:uX l i=true->gq l=false:=fun h=>by
      unfold gq;rw[List.all_eq_false]
      exact⟨i,fK.2 bo,by rw[h];simp⟩
     have RT:(l.take i).length=i:=by rw[aK];omega
     have ux: ∀q (hq:q<i),(l.take i)[q]'(by omega)=l[q]'(by omega):=fun q hq=>fz;simp-implicitDefEqProofs (disch:=(first|omega|decide)) only[go_sem,↓reduceIte,seval,aH,aa]
     refine a_ [0,3] (ι:={q:Nat//q<=i/\uX l i=(((l.take i).drop q).any fun y=>decide (y.rep=l[i].rep/\y.da=l[i].da))}) (fun q=>[(4,.int .i64 q.1)]) (fun _=>[]) (fun q=>i-q.1) ⟨0,by omega,by rw[hP];rfl⟩ (aw _) ?_ ?_
     · simp-implicitDefEqProofs (disch:=(first|omega|decide)) only[go_sem,↓reduceIte,seval]
     · rintro⟨q,hq,Z_⟩
       simp only;by_cases hlq:q<i
       · have hlq':(q:Int)<(i:Int):=by omega
         have eq':=eG (show q<l.length by omega)
         rw[ax (by omega),cI,ux q hlq]at Z_;have b1:(q:Int)<(l.length:Int):=by omega
         generalize l[q]=y at*;generalize l[i]=z at*;obtain⟨key,rep,da,du,prio,dead,body⟩:=y;obtain⟨UN,Md,QM,rank',prio',dead',body'⟩:=z;simp only at ei eq' Z_;cases h1:Md==rep with
         |false=>
          have eH:decide (rep=Md/\da=QM)=false:=by
           have:Md≠rep:=by simpa using h1
           simp[fw this]
          rw[eH,bu]at Z_;simp-implicitDefEqProofs (disch:=(first|omega|decide)) only[go_sem,↓reduceIte,seval,aH,hlq',b1,ei,eq',h1,wrap_i64,aa]
          exact⟨⟨q+1,hlq,Z_⟩,by simp,by show i-(q+1)<i-q;omega⟩
         |true=>
          obtain rfl:Md=rep:=by simpa using h1
          cases h2:QM==da with
          |false=>
           have eH:decide (Md=Md/\da=QM)=false:=by
              have:QM≠da:=by simpa using h2
              simp[fw this]
           rw[eH,bu]at Z_;simp-implicitDefEqProofs (disch:=(first|omega|decide)) only[go_sem,↓reduceIte,seval,aH,hlq',b1,ei,eq',h1,h2,wrap_i64,aa]
           exact⟨⟨q+1,hlq,Z_⟩,by simp,by show i-(q+1)<i-q;omega⟩
          |true=>
           obtain rfl:QM=da:=by simpa using h2
           have he:decide (Md=Md/\QM=QM)=true:=by simp
           rw[he,cM]at Z_;have hh:=th Z_;simp-implicitDefEqProofs (disch:=(first|omega|decide)) only[go_sem,↓reduceIte,seval,aH,hlq',b1,ei,eq',h1,h2,hh,wrap_i64,aa]
       · have hlq': ¬(q:Int)<(i:Int):=by omega
         rw[aC (by omega)]at Z_;have Z_:uX l i=false:=Z_;simp-implicitDefEqProofs (disch:=(first|omega|decide)) only[go_sem,↓reduceIte,seval,hlq',wrap_i64,aa]
         exact⟨⟨i+1,bo,fun j hj=>by
          by_cases e:j=i
          · subst e;exact Z_
          · exact hd j (by omega)⟩,by simp,by show l.length-(i+1)<l.length-i;omega⟩
   · have aH: ¬(i:Int)<(l.length:Int):=by omega
     have hh:gq l=true:=by
      unfold gq;rw[cw]
      intro j hj;rw[hd j (by have:=fK.1 hj;omega)];rfl
     simp-implicitDefEqProofs (disch:=(first|omega|decide)) only[go_sem,↓reduceIte,seval,aH,hh,aa]
def T23a:aW:=zI.add 15 (entry (fun(s:bA)=>[s.enc]) (fun s=>(s.fl.length<=9223372036854775807/\s.bq.length<=9223372036854775807)/\s.kn.length<=9223372036854775807/\ ∀p∈s.kn,p.s.length<=9223372036854775807) (fun s=> .bool (qA s)))
theorem T23a_ok:aN Tryz.prog T23a:=Bk.dH Tryz.func15 (by kernel_rfl) (by kernel_rfl) fun s h=>Bl s h.1.1 h.1.2 h.2.1 h.2.2
@[go_sem] theorem T23a_old{g:FuncId}{xs:List A}(h:g≠15):T23a.f g xs=zI.f g xs:=aW.aU h
theorem T23a_ref23_Long(s:bA)(h:(s.fl.length<=9223372036854775807/\s.bq.length<=9223372036854775807)/\s.kn.length<=9223372036854775807/\ ∀p∈s.kn,p.s.length<=9223372036854775807):T23a.f 15 [s.enc]=some (.bool (qA s)):=aW.aZ (Γ:=zI) (fun i j h=>by simpa[ag,and_assoc]using h) s h
def X4:aW:=T23a.add 91 (entry (fun(v:List Pc×Int)=>[.ay (v.1.map Pc.enc),.int .i64 v.2]) (fun v=>mH v.1) (fun v=> .int .i64 (hI v.1 v.2)))
theorem T23b_ok:aN Tryz.prog X4:=T23a_ok.dH Tryz.func91 (by kernel_rfl) (by kernel_rfl) fun v h=>Bn v.1 v.2 h
@[go_sem] theorem T23b_old{g:FuncId}{xs:List A}(h:g≠91):X4.f g xs=T23a.f g xs:=aW.aU h
theorem Fw(v:List Pc×Int)(h:mH v.1):X4.f 91 [.ay (v.1.map Pc.enc),.int .i64 v.2]=some (.int .i64 (hI v.1 v.2)):=aW.aZ (Γ:=T23a) (fun i j h=>by simpa[ag,and_assoc]using h) v h
def UP:aW:=X4.add 92 (entry (fun(l:List It)=>[.ay (l.map It.enc)]) (fun l=>l.length<=1000000) (fun l=> .bool (gq l)))
theorem T23c_ok:aN Tryz.prog UP:=T23b_ok.dH Tryz.func92 (by kernel_rfl) (by kernel_rfl) fun l h=>yH l h
@[go_sem] theorem T23c_old{g:FuncId}{xs:List A}(h:g≠92):UP.f g xs=X4.f g xs:=aW.aU h
theorem C7(l:List It)(h:l.length<=1000000):UP.f 92 [.ay (l.map It.enc)]=some (.bool (gq l)):=aW.aZ (Γ:=X4) (fun i j h=>by simpa[ag,and_assoc]using h) l h
def T23d:aW:=UP.add 87 (entry (fun(l:List bk)=>[.ay (l.map bk.enc)]) (fun l=>l.length<=100000/\iG l) (fun l=> .bool (cA l)))
theorem T23d_ok:aN Tryz.prog T23d:=T23c_ok.dH Tryz.func87 (by kernel_rfl) (by kernel_rfl) fun l h=>Ls l (aL h.1 (by decide)) h.2
@[go_sem] theorem T23d_old{g:FuncId}{xs:List A}(h:g≠87):T23d.f g xs=UP.f g xs:=aW.aU h
@[go_sem] theorem T23d_s:T23d.pl UP:=⟨fun _=>rfl,fun _=>rfl,rfl,fun _=>rfl,rfl,fun _=>rfl,rfl⟩
theorem C8(l:List bk)(h:l.length<=100000/\iG l):T23d.f 87 [.ay (l.map bk.enc)]=some (.bool (cA l)):=aW.aZ (Γ:=UP) (fun i j h=>by simpa[ag,and_assoc]using h) l h
theorem s_rMost{k:List Pc}{id:Int}(h:mH k):X4.f 91 [.ay (k.map Pc.enc),.int .i64 id]=some (.int .i64 (hI k id)):=Fw (k,id) h
theorem s_rApart{l:List It}(h:l.length<=1000000):UP.f 92 [.ay (l.map It.enc)]=some (.bool (gq l)):=C7 l h
theorem UQ{l:List bk}(h:l.length<=100000/\iG l):T23d.f 87 [.ay (l.map bk.enc)]=some (.bool (cA l)):=C8 l h
structure OkS(s:bA):Prop where
 fl:s.fl.length<=8/\iG s.fl
 bq:s.bq.length<=24/\sS s.bq
 kn:s.kn.length<=24/\wP s.kn<=24*272/\ ∀p∈s.kn,p.r.lo.length<=40/\p.r.hi.length<=40
theorem OkS.mH{s:bA}(h:OkS s):mH s.kn:=okR_of (m:=24) h.kn (by omega)
structure fV(s:bA):Prop where
 fl:s.fl.length<=500/\iG s.fl
 bq:s.bq.length<=1000000/\sS s.bq
 kn:mH s.kn/\s.kn.length<=500
 rest:eK (cF (c7 s.kn s.fl))
theorem OkS.toR{s:bA}(h:OkS s):fV s:=by
 have o:=okP_rest (a:=s.kn) (l:=s.fl) (N:=24) (M:=8) (W:=24*272) h.kn.1 h.fl.1 h.kn.2.1 (by omega) (by omega)
 exact⟨⟨by have:=h.fl.1;omega,h.fl.2⟩,⟨by have:=h.bq.1;omega,h.bq.2⟩,⟨h.mH,by have:=h.kn.1;omega⟩,o.1⟩
theorem Jt:aQ Tryz.prog T23d Tryz.f37.ntmps (Tryz.f37.body.getD .skip)=true:=by kernel_rfl
theorem Mg(s:bA)(h:fV s):bp Tryz.prog 37 [s.enc] (· = .bool (cq s)):=by
 refine ah T23d_ok mixed Tryz.func37 rfl (ab rfl) Jt ?_;unfold Tryz.f37;obtain⟨⟨hf1,hf2⟩,⟨hi1,hi2⟩,⟨qD,hk2⟩,hr⟩:=h;have g1:=UQ (l:=s.fl) ⟨by omega,hf2⟩
 have g2:=i_rList (l:=s.bq) ⟨by omega,hi2⟩
 have g3:=UM qD.1;have g4:=zG qD hf2 ⟨hk2,hf1⟩
 have g5:=Z5 hr qD.1;have g6:=s_rMost (id:=s.id) qD;have g7:=s_rApart hi1;have g8: ∀x:List UInt8,x.length<=9223372036854775807->I5.f 73 [.ay (s.fl.map bk.enc),.str x]=some (.bool (bh s.fl x)):=fun x hx=>n9 (by omega) hf2 hx;have g9: ∀(x:List UInt8) (n c:Int),x.length<=9223372036854775807->Bh.f 74 [.ay (s.kn.map Pc.enc),.str x,.agg [.int .i64 n,.int .i64 c]]=some (.bool (dq s.kn x n c)):=fun x n c hx=>zC qD.1 hx;have hR:cq s=(!(decide (s.id<1)||decide (16<s.id))&& !(decide (s.ct<0)||decide (1099511627776<s.ct))&&decide (s.bq.length<=4096)&&cA s.fl&&eZ s.bq&&cD s.kn&&fb (cF (c7 s.kn s.fl)) s.kn&&decide (hI s.kn s.id<=s.ct)&&gq s.bq&&s.bq.all fun x=>bh s.fl x.key&&dq s.kn x.key x.rep x.da):=rfl;rw[hR]
 obtain⟨id,F,I,K,ct⟩:=s;simp only[bA.enc,bA.cells]at*;generalize cF (c7 K F)=Q at*;generalize hI K id=m at*;by_cases c1:id<1
 · simp-implicitDefEqProofs (disch:=(first|omega|decide)) only[go_sem,↓reduceIte,seval,c1]
 · by_cases c2:16<id
   · simp-implicitDefEqProofs (disch:=(first|omega|decide)) only[go_sem,↓reduceIte,seval,c1,c2]
   · by_cases c3:ct<0
     · simp-implicitDefEqProofs (disch:=(first|omega|decide)) only[go_sem,↓reduceIte,seval,c1,c2,c3]
     · by_cases c4:1099511627776<ct
       · simp-implicitDefEqProofs (disch:=(first|omega|decide)) only[go_sem,↓reduceIte,seval,c1,c2,c3,c4]
       · by_cases c5:I.length<=4096
         · have RV: ¬(4096:Int)<(I.length:Int):=by omega
           cases d1:cA F with
           |false=>rw[d1]at g1;simp-implicitDefEqProofs (maxSteps:=600000) (disch:=(first|omega|decide)) only[go_sem,↓reduceIte,seval,c1,c2,c3,c4,c5,RV,g1,aa]
           |true=>
            rw[d1]at g1;cases d2:eZ I with
            |false=>rw[d2]at g2;simp-implicitDefEqProofs (maxSteps:=600000) (disch:=(first|omega|decide)) only[go_sem,↓reduceIte,seval,c1,c2,c3,c4,c5,RV,g1,g2,aa]
            |true=>
             rw[d2]at g2;cases d3:cD K with
             |false=>rw[d3]at g3;simp-implicitDefEqProofs (maxSteps:=600000) (disch:=(first|omega|decide)) only[go_sem,↓reduceIte,seval,c1,c2,c3,c4,c5,RV,g1,g2,g3,aa]
             |true=>
              rw[d3]at g3;cases d4:fb Q K with
              |false=>rw[d4]at g5;simp-implicitDefEqProofs (maxSteps:=600000) (disch:=(first|omega|decide)) only[go_sem,↓reduceIte,seval,c1,c2,c3,c4,c5,RV,g1,g2,g3,g4,g5,aa]
              |true=>
               rw[d4]at g5;by_cases d5:m<=ct
               · have d5': ¬ct<m:=by omega
                 cases d6:gq I with
                 |false=>rw[d6]at g7;simp-implicitDefEqProofs (maxSteps:=600000) (disch:=(first|omega|decide)) only[go_sem,↓reduceIte,seval,c1,c2,c3,c4,c5,RV,g1,g2,g3,g4,g5,g6,g7,d5,d5',aa]
                 |true=>
                  rw[d6]at g7;simp-implicitDefEqProofs (maxSteps:=600000) (disch:=(first|omega|decide)) only[go_sem,↓reduceIte,seval,c1,c2,c3,c4,c5,RV,g1,g2,g3,g4,g5,g6,g7,d5,d5',aa]
                  refine a_ [1] (ι:={i:Nat//i<=I.length/\(I.all fun x=>bh F x.key&&dq K x.key x.rep x.da)=((I.drop i).all fun x=>bh F x.key&&dq K x.key x.rep x.da)}) (fun p=>[(3,.int .i64 p.1),(2,.bool false)]) (fun p=>[(0,.box [.int .i64 id,.ay (F.map bk.enc),.ay (I.map It.enc),.ay (K.map Pc.enc),.int .i64 ct])]) (fun p=>I.length-p.1) ⟨0,by omega,rfl⟩ (aw _) ?_ ?_
                  · simp-implicitDefEqProofs (disch:=(first|omega|decide)) only[go_sem,↓reduceIte,seval]
                  · rintro⟨i,hi,hd⟩
                    simp only;by_cases bo:i<I.length
                    · have aH:(i:Int)<(I.length:Int):=by omega
                      have ei:=eG bo;have zH:=hi2 _ (ao bo)
                      rw[ax bo,px]at hd;generalize I[i]=x at*;obtain⟨key,rep,da,du,prio,dead,body⟩:=x;simp only at ei hd;have g8:=g8 key zH.1;have g9:=g9 key rep da zH.1;cases k1:bh F key with
                      |false=>
                       rw[k1]at g8 hd;rw[aI,aI]at hd;simp-implicitDefEqProofs (disch:=(first|omega|decide)) only[go_sem,↓reduceIte,seval,aH,ei,g8,hd,aa]
                      |true=>
                       rw[k1]at g8 hd;cases k2:dq K key rep da with
                       |false=>
                        rw[k2]at g9 hd;rw[bN,aI]at hd;simp-implicitDefEqProofs (disch:=(first|omega|decide)) only[go_sem,↓reduceIte,seval,aH,ei,g8,g9,hd,aa]
                       |true=>
                        rw[k2]at g9 hd;rw[cv,aB]at hd;simp-implicitDefEqProofs (disch:=(first|omega|decide)) only[go_sem,↓reduceIte,seval,aH,ei,g8,g9,wrap_i64,aa]
                        exact⟨⟨i+1,bo,hd⟩,by simp,by show I.length-(i+1)<I.length-i;omega⟩
                    · have aH: ¬(i:Int)<(I.length:Int):=by omega
                      rw[aC (by omega)]at hd;have hd:(I.all fun x=>bh F x.key&&dq K x.key x.rep x.da)=true:=hd;simp-implicitDefEqProofs (disch:=(first|omega|decide)) only[go_sem,↓reduceIte,seval,aH,hd,aa]
               · have d5':ct<m:=by omega
                 simp-implicitDefEqProofs (maxSteps:=600000) (disch:=(first|omega|decide)) only[go_sem,↓reduceIte,seval,c1,c2,c3,c4,c5,RV,g1,g2,g3,g4,g5,g6,d5,d5',aa]
         · have RV:(4096:Int)<(I.length:Int):=by omega
           simp-implicitDefEqProofs (disch:=(first|omega|decide)) only[go_sem,↓reduceIte,seval,c1,c2,c3,c4,c5,RV,aa]
end Go.Proofs.YtfnohjheonlnmaaGreat
namespace Go.dF
end Go.dF
namespace Go.Proofs.YtfnohjheonlnmaaGreat
open Go.dF
set_option linter.unusedSimpArgs false
set_option linter.unusedVariables false
set_option maxRecDepth 20000
set_option maxHeartbeats 8000000
end Go.Proofs.YtfnohjheonlnmaaGreat
namespace Go.zK
set_option linter.unusedVariables false
set_option linter.unusedSimpArgs false
section
variable{V:Type}(lt:V->V->Bool)
structure Swo:Prop where
 D6: ∀x,lt x x=false
 asy: ∀x y,lt x y=true->lt y x=false
 neg: ∀x y z,lt x y=false->lt y z=false->lt x z=false
def eqv(x y:V):Bool:= !lt x y&& !lt y x
def qd(l:List V):Prop:=l.Pairwise fun x y=>lt y x=false
def St(l s:List V):Prop:=qd lt s/\ ∀x,s.filter (eqv lt x)=l.filter (eqv lt x)
end
section
variable{V:Type}{lt:V->V->Bool}(o:Swo lt)
include o
theorem nz(x:V):eqv lt x x=true:=by simp[eqv,o.D6]
theorem St.mem{l s:List V}(h:St lt l s)(x:V):x∈s ↔ x∈l:=by
 have e: ∀m:List V,x∈m ↔ x∈m.filter (eqv lt x):=fun m=>by rw[aP];exact⟨fun g=>⟨g,nz o x⟩,And.left⟩
 rw[e s,e l,h.2 x]
theorem uY{x y x' y':V}(h:lt y x=true)(hx:lt x' x=false)(hy:lt y y'=false):lt y' x'=true:=by
 cases h':lt y' x' with
 |true=>rfl
 |false=>rw[o.neg y y' x hy (o.neg y' x' x h' hx)]at h;cases h
theorem split{X1 X2 Y1 Y2 S1 S2:List V}(hX:qd lt (X1++X2))(hY:qd lt (Y1++Y2))(h1: ∀x∈X2,∀y∈Y1,lt y x=true)(h2: ∀x∈X1,∀y∈Y2,lt y x=false)
 (s1:St lt (X1++Y1) S1) (s2:St lt (X2++Y2) S2):St lt (X1++X2++(Y1++Y2)) (S1++S2):=by
 obtain⟨_,_,hx⟩:=cZ.1 hX;obtain⟨_,_,hy⟩:=cZ.1 hY;refine⟨cZ.2 ⟨s1.1,s2.1,fun a ha b hb=> ?_⟩,fun x=> ?_⟩
 · rcases aJ.1 ((s1.mem o a).1 ha)with ha|ha<;>rcases aJ.1 ((s2.mem o b).1 hb)with hb|hb
   · exact hx a ha b hb
   · exact h2 a ha b hb
   · exact o.asy _ _ (h1 b hb a ha)
   · exact hy a ha b hb
 · simp only[bP]
   have e1:=s1.2 x;have e2:=s2.2 x;simp only[bP]at e1 e2;rw[e1,e2]
   by_cases hc:Y1.filter (eqv lt x)=[]
   · rw[hc];simp
   · have:X2.filter (eqv lt x)=[]:=by
      rw[cy]
      intro b hb hbe;obtain⟨y,Ga⟩:=List.exists_mem_of_ne_nil _ hc;rw[aP]at Ga;have g:=h1 b hb y Ga.1;simp only[eqv,ak,bT]at hbe Ga;rw[o.neg y x b Ga.2.2 hbe.1]at g;cases g
     rw[this];simp
omit o in
theorem St.refl{l:List V}(h:qd lt l):St lt l l:=⟨h,fun _=>rfl⟩
omit o in
theorem St.comp{l1 l2 s1 s2 s:List V}(h1:St lt l1 s1)(h2:St lt l2 s2)(h:St lt (s1++s2) s):St lt (l1++l2) s:=
 ⟨h.1,fun x=>by rw[h.2 x,bP,bP,h1.2 x,h2.2 x]⟩
theorem ins_left{x:V}{Y1 Y2:List V}(hY:qd lt (Y1++Y2))(h1: ∀y∈Y1,lt y x=true)(h2: ∀y∈Y2,lt y x=false):St lt (x::(Y1++Y2)) (Y1++x::Y2):=by
 obtain⟨k1,k2,_⟩:=cZ.1 hY;have:=split o (X1:=[]) (X2:=[x]) (Y1:=Y1) (Y2:=Y2) (S1:=Y1) (S2:=x::Y2) (by simp[qd]) hY (fun a ha y hy=>by simp at ha;subst ha;exact h1 y hy) (fun a ha=>by simp at ha) (St.refl k1) (St.refl (aR.2 ⟨h2,k2⟩))
 simpa using this
theorem C9{y:V}{X1 X2:List V}(hX:qd lt (X1++X2))(h1: ∀x∈X1,lt y x=false)(h2: ∀x∈X2,lt y x=true):St lt (X1++X2++[y]) (X1++y::X2):=by
 obtain⟨k1,k2,_⟩:=cZ.1 hX
 have:=split o (X1:=X1) (X2:=X2) (Y1:=[y]) (Y2:=[]) (S1:=X1++[y]) (S2:=X2) hX (by simp[qd]) (fun x hx a ha=>by simp at ha;subst ha;exact h2 x hx) (fun x _ a ha=>by simp at ha)
  (St.refl (cZ.2 ⟨k1,by simp,fun a ha b hb=>by simp at hb;subst hb;exact h1 a ha⟩)) (by rw[bj];exact St.refl k2)
 simpa using this
theorem St.uniq{l s s':List V}(h:St lt l s)(h':St lt l s'):s=s':=by
 have key: ∀(n:Nat) (a b:List V),a.length<=n->qd lt a->qd lt b->(∀x,a.filter (eqv lt x)=b.filter (eqv lt x))->a=b:=by
  intro n;induction n with
  |zero=>
   intro a b hn _ _ hf;obtain rfl:a=[]:=aV.1 (by omega)
   cases b with
   |nil=>rfl
   |cons y b=>
    have:=hf y;rw[bV (nz o y)]at this;cases this
  |succ n ih=>
   intro a b hn ha hb hf;cases a with
   |nil=>
    cases b with
    |nil=>rfl
    |cons y b=>
     have:=hf y;rw[bV (nz o y)]at this;cases this
   |cons x a=>
    cases b with
    |nil=>
     have:=hf x;rw[bV (nz o x)]at this;cases this
    |cons y b=>
     have OP:=aR.1 ha;have vN:=aR.1 hb
     have mm: ∀z,z∈x::a ↔ z∈y::b:=fun z=>by
      have e: ∀m:List V,z∈m ↔ z∈m.filter (eqv lt z):=fun m=>by rw[aP];exact⟨fun g=>⟨g,nz o z⟩,And.left⟩
      rw[e (x::a),e (y::b),hf z]
     have Cr:lt x y=false:=by
      rcases aD.1 ((mm x).1 (by simp))with e|e
      · rw[e];exact o.D6 y
      · exact vN.1 x e
     have hyx:lt y x=false:=by
      rcases aD.1 ((mm y).2 (by simp))with e|e
      · rw[e];exact o.D6 x
      · exact OP.1 y e
     have e:=hf x;rw[bV (nz o x),bV (by simp[eqv,Cr,hyx])]at e;obtain⟨rfl,_⟩:=List.cons.inj e
     congr 1
     refine ih a b (by simpa using hn) OP.2 vN.2 fun z=> ?_;have:=hf z;simp only[na]at this;split at this
     · exact(List.cons.inj this).2
     · exact this
 exact key s.length s s' (ai _) h.1 h'.1 fun x=>by rw[h.2 x,h'.2 x]
theorem cut [Inhabited V]{X Y:List V}(hX:qd lt X)(hY:qd lt Y){u v:Nat}(hu:u<=X.length)(hv:v<=Y.length)
 (h1:0<v->u<X.length->lt (Y[v-1]!) (X[u]!)=true) (h2:0<u->v<Y.length->lt (Y[v]!) (X[u-1]!)=false):
 (∀x∈X.drop u,∀y∈Y.take v,lt y x=true)/\(∀x∈X.take u,∀y∈Y.drop v,lt y x=false):=by
 have le: ∀{l:List V},qd lt l-> ∀{i j:Nat} (Cc:i<=j) (hj:j<l.length),lt (l[j]) (l[i])=false:=fun{l} hl {i j} Cc hj=>by
  by_cases e:i=j
  · subst e;exact o.D6 _
  · exact(b9.1 hl) i j (by omega) hj (by omega)
 constructor
 · intro x hx y hy
   obtain⟨i,hi,rfl⟩:=bW hx;obtain⟨j,hj,rfl⟩:=bW hy;rw[cj]at hi;rw[aK]at hj;have g:=h1 (by omega) (by omega)
   rw[getElem!_pos Y (v-1) (by omega),getElem!_pos X u (by omega)]at g;rw[mI,fz]
   exact uY o g (le hX (by omega) (by omega)) (le hY (by omega) (by omega))
 · intro x hx y hy
   obtain⟨i,hi,rfl⟩:=bW hx;obtain⟨j,hj,rfl⟩:=bW hy;rw[aK]at hi;rw[cj]at hj;have g:=h2 (by omega) (by omega)
   rw[getElem!_pos Y v (by omega),getElem!_pos X (u-1) (by omega)]at g;rw[mI,fz]
   exact o.neg _ _ _ (le hY (by omega) (by omega)) (o.neg _ _ _ g (le hX (by omega) (by omega)))
def ins(lt:V->V->Bool)(s:List V)(y:V):List V:=s.takeWhile (fun x=> !lt y x)++y::s.dropWhile (fun x=> !lt y x)
def dp(lt:V->V->Bool)(l:List V):List V:=l.foldl (ins lt) []
theorem Mh{s:List V}{y:V}(hs:qd lt s): ∀x∈s.dropWhile (fun x=> !lt y x),lt y x=true:=by
 induction s with
 |nil=>intro x hx;simp at hx
 |cons a s ih=>
  have h:=aR.1 hs;intro x hx;rw[List.dropWhile_cons]at hx;split at hx
  · exact ih h.2 x hx
  · rename_i ha
    have ha:lt y a=true:=by simpa using ha
    rcases aD.1 hx with rfl|hx
    · exact ha
    · exact uY o ha (h.1 x hx) (o.D6 y)
omit o in
theorem Mi{s:List V}{y:V}: ∀x∈s.takeWhile (fun x=> !lt y x),lt y x=false:=by
 induction s with
 |nil=>intro x hx;simp at hx
 |cons a s ih=>
  intro x hx;rw[List.takeWhile_cons]at hx;split at hx
  · rename_i ha
    rcases aD.1 hx with rfl|hx
    · simpa using ha
    · exact ih x hx
  · simp at hx
theorem ins_st{s:List V}{y:V}(hs:qd lt s):St lt (s++[y]) (ins lt s y):=by
 have:=C9 o (y:=y) (X1:=s.takeWhile (fun x=> !lt y x)) (X2:=s.dropWhile (fun x=> !lt y x)) (by rw[jF];exact hs) Mi (Mh o hs)
 rwa [jF]at this
theorem X5(l:List V): ∀(p s:List V),St lt p s->St lt (p++l) (l.foldl (ins lt) s):=by
 induction l with
 |nil=>intro p s h;simpa using h
 |cons y l ih=>
  intro p s h;have h1:St lt (p++[y]) (ins lt s y):=St.comp h (St.refl (by simp[qd])) (ins_st o h.1)
  have:=ih (p++[y]) _ h1;simpa using this
theorem mJ(l:List V):St lt l (dp lt l):=X5 o l [] [] ⟨List.Pairwise.nil,fun _=>rfl⟩
theorem w6{l s:List V}(h:St lt l s):s=dp lt l:=St.uniq o h (mJ o l)
omit o in
theorem eP(l:List V):(dp lt l).length=l.length:=by
 have: ∀(l s:List V),(l.foldl (ins lt) s).length=s.length+l.length:=fun l=>by
  induction l with
  |nil=>intro s;rfl
  |cons y l ih=>
   intro s;rw[cg,ih]
   unfold ins;have:=congrArg List.length (jF (p:=fun x=> !lt y x) (l:=s))
   rw[aj]at this;simp only[aj,aG];omega
 have:=this l []
 unfold dp;rw[this];simp
end
end Go.zK
namespace Go.zK
set_option linter.unusedVariables false
set_option linter.unusedSimpArgs false
set_option linter.unusedSectionVars false
section
variable{V:Type}(lt bt:V->V->Bool)
def better(b x:V):V:=if bt x b then x else b
def kA:List V->Option V
 | []=>none
 |x::l=>some (l.foldl (better bt) x)
def jq:List V->V->List V
 | [],x=>[x]
 |y::r,x=>if eqv lt x y then better bt y x::r else x::y::r
def mrg(l:List V):List V:=((dp lt l).foldl (jq lt bt) []).reverse
end
section
variable{V:Type}{lt bt:V->V->Bool}
theorem N4(l:List V)(x:V):kA bt (l++[x])=some (match kA bt l with|none=>x|some b=>better bt b x):=by
 cases l with
 |nil=>rfl
 |cons y l=>simp[kA,cp]
theorem N5(b x:V):better bt b x=b\/better bt b x=x:=by unfold better;split<;>simp
theorem qa: ∀{l:List V} {b:V},kA bt l=some b->b∈l:=by
 intro l;cases l with
 |nil=>intro b h;simp[kA]at h
 |cons x l=>
  intro b h;simp only[kA,bf]at h;subst h
  have: ∀(l:List V) (x:V),l.foldl (better bt) x=x\/l.foldl (better bt) x∈l:=fun l=>by
   induction l with
   |nil=>intro x;exact .inl rfl
   |cons y l ih=>
    intro x;rw[cg]
    rcases ih (better bt x y)with h|h
    · rw[h]
      rcases N5 (bt:=bt) x y with e|e
      · exact .inl e
      · rw[e];exact .inr (by simp)
    · exact .inr (eF _ h)
  rcases this l x with h|h
  · rw[h];simp
  · exact eF _ h
theorem C_{l:List V}(h:kA bt l=none):l=[]:=by
 cases l with
 |nil=>rfl
 |cons x l=>cases h
end
section
variable{V:Type}{lt bt:V->V->Bool}(o:Swo lt)
include o
theorem tV{x y:V}(h:eqv lt x y=true):eqv lt y x=true:=by simp only[eqv,ak]at*;exact⟨h.2,h.1⟩
theorem tW{x y z:V}(h:eqv lt x y=true)(h':eqv lt y z=true):eqv lt x z=true:=by simp only[eqv,ak,bT]at*;exact⟨o.neg _ _ _ h.1 h'.1,o.neg _ _ _ h'.2 h.2⟩
theorem zL{x y:V}(h:eqv lt x y=true)(l:List V):l.filter (eqv lt x)=l.filter (eqv lt y):=by
 congr 1
 funext z
 rw[bS]
 exact⟨fun g=>tW o (tV o h) g,fun g=>tW o h g⟩
theorem lt_tr{x y z:V}(h:lt x y=true)(h':lt y z=true):lt x z=true:=
 uY o (x:=z) (y:=y) (x':=z) (y':=x) h' (o.D6 z) (o.asy x y h)
theorem UR{x y z:V}(h:lt x y=true)(e:eqv lt z x=true):lt z y=true:=by simp only[eqv,ak,bT]at e;exact uY o h (o.D6 y) e.2
structure US(s r:List V):Prop where
 up:r.Pairwise fun a b=>lt b a=true
 mem: ∀z,z∈r ↔ kA bt (s.filter (eqv lt z))=some z
omit o in
theorem US.sub{s r:List V}(h:US (lt:=lt) (bt:=bt) s r){z:V}(hz:z∈r):z∈s:=(aP.1 (qa ((h.mem z).1 hz))).1
theorem US.all{s r:List V}(h:US (lt:=lt) (bt:=bt) s r){w:V}(hw:w∈s): ∃z∈r,eqv lt w z=true:=by
 cases hb:kA bt (s.filter (eqv lt w))with
 |none=>
  have:=C_ hb;have hm:w∈s.filter (eqv lt w):=aP.2 ⟨hw,nz o w⟩
  rw[this]at hm;cases hm
 |some z=>
  have hz:=(aP.1 (qa hb)).2;exact⟨z,(h.mem z).2 (by rw[<-zL o hz];exact hb),hz⟩
theorem pushM_inv{s r:List V}{x:V}(h:US (lt:=lt) (bt:=bt) s r)(hx: ∀y∈s,lt x y=false):US (lt:=lt) (bt:=bt) (s++[x]) (jq lt bt r x):=by
 cases r with
 |nil=>
  have hs:s=[]:=by
   cases s with
   |nil=>rfl
   |cons w s=>obtain⟨z,hz,_⟩:=h.all o (w:=w) (by simp);cases hz
  subst hs;refine⟨by simp[jq],fun z=> ?_⟩
  simp only[jq,bc,bx]
  cases hz:eqv lt z x with
  |true=>
   rw[bV hz]
   simp only[iz,kA,oF,bf]
   exact eq_comm
  |false=>
   rw[df (by rw[hz];simp)]
   simp only[iz,kA]
   constructor
   · rintro rfl;rw[nz o]at hz;cases hz
   · intro h;cases h
 |cons y r0=>
  have hy:=h.sub (List.mem_cons_self ..)
  have Cr:=hx y hy;obtain⟨u1,u2⟩:=aR.1 h.up
  have hr0: ∀b∈r0,eqv lt b x=false:=fun b hb=>by
   cases e:eqv lt b x with
   |false=>rfl
   |true=>
    have:=UR o (u1 b hb) (tV o e)
    rw[Cr]at this;cases this
  cases e:eqv lt x y with
  |true=>
   have hw:eqv lt (better bt y x) x=true:=by
    rcases N5 (bt:=bt) y x with g|g<;>rw[g]
    · exact tV o e
    · exact nz o x
   have hp:jq lt bt (y::r0) x=better bt y x::r0:=by simp[jq,e]
   rw[hp]
   refine⟨aR.2 ⟨fun b hb=> ?_,u2⟩,fun z=> ?_⟩
   · have g:=u1 b hb
     have ey:eqv lt (better bt y x) y=true:=tW o hw e;simp only[eqv,ak,bT]at ey;exact uY o g ey.1 (o.D6 b)
   · rw[bP]
     cases hz:eqv lt z x with
     |true=>
      rw[bV hz,iz,N4]
      have hb:kA bt (s.filter (eqv lt z))=some y:=by
       rw[zL o (tW o hz e)]
       exact(h.mem y).1 (by simp)
      rw[hb]
      simp only[aD,bf]
      constructor
      · rintro(rfl|g)
        · rfl
        · rw[hr0 z g]at hz;cases hz
      · intro g;exact .inl g.symm
     |false=>
      rw[df (by rw[hz];simp),iz,bj,<-h.mem z]
      simp only[aD]
      constructor
      · rintro(rfl|g)
        · rw[hw]at hz;cases hz
        · exact .inr g
      · rintro(rfl|g)
        · rw[tV o e]at hz;cases hz
        · exact .inr g
  |false=>
   have hp:jq lt bt (y::r0) x=x::y::r0:=by simp[jq,e]
   have bo:lt y x=true:=by
    cases g:lt y x with
    |true=>rfl
    |false=>simp[eqv,Cr,g]at e
   have th: ∀b∈y::r0,eqv lt b x=false:=fun b hb=>by
    rcases aD.1 hb with rfl|hb
    · cases g:eqv lt b x with
      |false=>rfl
      |true=>rw[tV o g]at e;cases e
    · exact hr0 b hb
   have Nk:s.filter (eqv lt x)=[]:=by
    rw[cy]
    intro w hw hwe;obtain⟨b,hb,hbe⟩:=h.all o hw;have:=th b hb;rw[tV o (tW o hwe hbe)]at this;cases this
   rw[hp]
   refine⟨aR.2 ⟨fun b hb=> ?_,h.up⟩,fun z=> ?_⟩
   · rcases aD.1 hb with rfl|hb
     · exact bo
     · exact lt_tr o (u1 b hb) bo
   · rw[bP]
     cases hz:eqv lt z x with
     |true=>
      rw[bV hz,iz,zL o hz,Nk]
      simp only[bx,kA,oF,bf]
      constructor
      · intro g
        rcases aD.1 g with rfl|g
        · rfl
        · rw[th z g]at hz;cases hz
      · rintro rfl;simp
     |false=>
      rw[df (by rw[hz];simp),iz,bj,<-h.mem z]
      constructor
      · intro g
        rcases aD.1 g with rfl|g
        · rw[nz o]at hz;cases hz
        · exact g
      · exact fun g=>eF _ g
theorem N6: ∀(l p r:List V),qd lt (p++l)->US (lt:=lt) (bt:=bt) p r->US (lt:=lt) (bt:=bt) (p++l) (l.foldl (jq lt bt) r)
 | [],p,r,_,h=>by simpa using h
 |x::l,p,r,hs,h=>by
  have e:p++x::l=(p++[x])++l:=by simp
  rw[e]at hs⊢;exact N6 l (p++[x]) _ hs (pushM_inv o h fun y hy=>(cZ.1 (cZ.1 hs).1).2.2 y hy x (by simp))
theorem UT(l:List V):(mrg lt bt l).Pairwise (fun a b=>lt a b=true)/\ ∀z,z∈mrg lt bt l ↔ kA bt (l.filter (eqv lt z))=some z:=by
 have h:=N6 (bt:=bt) o (dp lt l) [] [] (mJ o l).1 ⟨List.Pairwise.nil,fun z=>by simp[kA]⟩
 rw[bx]at h;refine⟨s7.2 h.up,fun z=> ?_⟩
 unfold mrg;rw[kD,h.mem z,(mJ o l).2 z]
theorem Ju{l m:List V}(h1:m.Pairwise fun a b=>lt a b=true)(h2: ∀z,z∈m ↔ kA bt (l.filter (eqv lt z))=some z):m=mrg lt bt l:=by
 have key: ∀{a b:List V},(a.Pairwise fun x y=>lt x y=true)->(b.Pairwise fun x y=>lt x y=true)->(∀x,x∈a ↔ x∈b)->a=b:=by
  intro a;induction a with
  |nil=>
   intro b _ _ h;cases b with
   |nil=>rfl
   |cons y b=>have:=(h y).2 (by simp);cases this
  |cons x a ih=>
   intro b ha hb h;cases b with
   |nil=>have:=(h x).1 (by simp);cases this
   |cons y b=>
    have OP:=aR.1 ha;have vN:=aR.1 hb
    have Cr:x=y:=by
     rcases aD.1 ((h x).1 (by simp))with e|e
     · exact e
     · rcases aD.1 ((h y).2 (by simp))with f|f
       · exact f.symm
       · have g:=o.asy _ _ (OP.1 y f)
         rw[vN.1 x e]at g;cases g
    subst Cr
    congr 1
    refine ih OP.2 vN.2 fun z=>⟨fun hz=> ?_,fun hz=> ?_⟩
    · rcases aD.1 ((h z).1 (eF _ hz))with e|e
      · subst e
        have g:=OP.1 z hz;rw[o.D6]at g;cases g
      · exact e
    · rcases aD.1 ((h z).2 (eF _ hz))with e|e
      · subst e
        have g:=vN.1 z hz;rw[o.D6]at g;cases g
      · exact e
 have hs:=UT (bt:=bt) o l;exact key h1 hs.1 fun z=>by rw[h2 z,hs.2 z]
theorem mrg_len(l:List V):(mrg lt bt l).length<=l.length:=by
 have: ∀(l r:List V),(l.foldl (jq lt bt) r).length<=r.length+l.length:=fun l=>by
  induction l with
  |nil=>intro r;simp
  |cons x l ih=>
   intro r;rw[cg]
   have h1:=ih (jq lt bt r x)
   have h2:(jq lt bt r x).length<=r.length+1:=by
    cases r with
    |nil=>simp[jq]
    |cons y r=>simp only[jq];split<;>simp
   simp only[aG];omega
 have h:=this (dp lt l) []
 rw[eP]at h;unfold mrg;rw[er];simpa using h
end
end Go.zK
namespace Go.Proofs.YtfnohjheonlnmaaGreat
open Go.dF Go.zK
set_option linter.unusedSimpArgs false
set_option linter.unusedVariables false
def fA(x y:It):Bool:=cL x.key y.key
theorem ltB_neg{x y z:List UInt8}(h:cL x y=false)(h':cL y z=false):cL x z=false:=by
 cases g:cL x z with
 |false=>rfl
 |true=>
  cases k:cL z y with
  |true=>rw[fa g k]at h;cases h
  |false=>
   have e:y=z:=by
    rcases vu.tri y z with r|r|r
    · rw[h']at r;cases r
    · exact r
    · rw[k]at r;cases r
   subst e;rw[h]at g;cases g
theorem mV:Swo fA where
 D6 x:=lt_irrefl x.key
 asy x y h:=kG h
 neg x y z h h':=ltB_neg h h'
theorem eqvI{x y:It}:eqv fA x y=(x.key==y.key):=by
 rw[bS,beq_iff_eq]
 simp only[eqv,fA,ak,bT]
 constructor
 · rintro⟨h1,h2⟩
   rcases vu.tri x.key y.key with r|r|r
   · rw[h1]at r;cases r
   · exact r
   · rw[h2]at r;cases r
 · intro h
   rw[h]
   exact⟨lt_irrefl _,lt_irrefl _⟩
def bt(x y:It):Bool:=decide (y.du<x.du)||(decide (x.du=y.du)&&EN ⟨y.rep,y.da⟩ ⟨x.rep,x.da⟩)
def Mj(x y:It):Int:=if y.du<x.du then 1 else if x.du<y.du then-1 else lL ⟨x.rep,x.da⟩ ⟨y.rep,y.da⟩
theorem Z'(x y:It):decide (0<Mj x y)=bt x y:=by
 rw[bS,decide_eq_true_iff]
 unfold Mj bt;simp only[bE,ak,decide_eq_true_eq]
 by_cases h1:y.du<x.du
 · simp[h1]
 · by_cases h2:x.du<y.du
   · rw[if_neg h1,if_pos h2]
     constructor
     · intro h;omega
     · rintro(h|⟨h,_⟩)
       · exact absurd h h1
       · omega
   · rw[if_neg h1,if_neg h2]
     have e:x.du=y.du:=by omega
     unfold lL;by_cases h3:(⟨x.rep,x.da⟩:eU)=⟨y.rep,y.da⟩
     · rw[if_pos h3]
       constructor
       · intro h;omega
       · rintro(h|⟨_,h⟩)
         · exact absurd h h1
         · rw[h3]at h
           have:=lp.1 h;omega
     · rw[if_neg h3]
       by_cases h4:EN ⟨x.rep,x.da⟩ ⟨y.rep,y.da⟩=true
       · rw[if_pos h4]
         constructor
         · intro h;omega
         · rintro(h|⟨_,h⟩)
           · exact absurd h h1
           · have:=lp.1 h
             have:=lp.1 h4;simp only at*;omega
       · rw[if_neg h4]
         refine⟨fun _=> .inr ⟨e, ?_⟩,fun _=>by omega⟩
         rw[lp]at*;have hc: ¬(x.rep=y.rep/\x.da=y.da):=fun⟨a,b⟩=>h3 (by rw[a,b])
         simp only at*;omega
def bM(l:List It):List It:=mrg fA bt (l.filter bQ)
theorem ke(l:List It):(bM l).Pairwise (fun x y=>cL x.key y.key=true)/\ ∀z,z∈bM l ↔ kA bt ((l.filter bQ).filter fun x=>z.key==x.key)=some z:=by
 obtain⟨h1,h2⟩:=UT (bt:=bt) mV (l.filter bQ)
 refine⟨h1,fun z=> ?_⟩
 rw[show bM l=mrg fA bt (l.filter bQ)from rfl,h2 z]
 have:eqv fA z=fun x=>z.key==x.key:=funext fun x=>eqvI;rw[this]
theorem mK(l:List It):(bM l).length<=l.length:=aL (mrg_len mV _) (aO _ _)
theorem fB{l:List It}{x:It}(h:x∈bM l):x∈l/\bQ x=true:=by
 have h:=(ke l).2 x|>.1 h
 have:=(aP.1 (qa h)).1;exact aP.1 this
end Go.Proofs.YtfnohjheonlnmaaGreat
namespace Go.zK
set_option linter.unusedVariables false
set_option linter.unusedSimpArgs false
section
variable{V:Type} [Inhabited V]
def tc(l:List V)(a b:Nat):Nat->List V
 |0=>l
 |n+1=>((tc l a b n).set (a+n) (l[b+n]!)).set (b+n) (l[a+n]!)
theorem Jv(l:List V)(a b:Nat): ∀n,(tc l a b n).length=l.length
 |0=>rfl
 |n+1=>by simp only[tc,dd];exact Jv l a b n
theorem Bo{l:List V}{a b:Nat}(k:Nat): ∀{n:Nat},a+n<=b->b+n<=l.length->(tc l a b n)[k]? =if a<=k/\k<a+n then l[k-a+b]? else if b<=k/\k<b+n then l[k-b+a]? else l[k]?
 |0,h,hb=>by rw[if_neg (by omega),if_neg (by omega)];rfl
 |n+1,h,hb=>by
  have ih:=Bo (l:=l) (a:=a) (b:=b) k (n:=n) (by omega) (by omega)
  have hl:=Jv l a b n;simp only[tc]
  rw[cY,cY,dd,ih,hl]
  by_cases h1:b+n=k
  · subst h1
    rw[if_pos rfl,if_pos (by omega),if_neg (by omega),if_pos (by omega),getElem!_pos l (a+n) (by omega)]
    rw[show b+n-b+a=a+n by omega,ae (by omega)]
  · rw[if_neg h1]
    by_cases h2:a+n=k
    · subst h2
      rw[if_pos rfl,if_pos (by omega),if_pos (by omega),getElem!_pos l (b+n) (by omega)]
      rw[show a+n-a+b=b+n by omega,ae (by omega)]
    · rw[if_neg h2]
      by_cases h3:a<=k/\k<a+n
      · rw[if_pos h3,if_pos (by omega)]
      · rw[if_neg h3,if_neg (show¬(a<=k/\k<a+(n+1)) by omega)]
        by_cases h4:b<=k/\k<b+n
        · rw[if_pos h4,if_pos (by omega)]
        · rw[if_neg h4,if_neg (by omega)]
theorem Jw(P A M B Q:List V)(h:B.length=A.length):tc (P++(A++(M++(B++Q)))) P.length (P.length+A.length+M.length) A.length=P++(B++(M++(A++Q))):=by
 apply j0;intro k;rw[Bo k (by omega) (by simp only[aj];omega)]
 simp only[fo]
 repeat' split
 all_goals first|omega|rfl|(congr 1;omega)
theorem rot_gt(P U1 U2 W Q:List V)(h:W.length=U1.length):tc (P++(U1++U2++(W++Q))) P.length (P.length+(U1++U2).length) U1.length=P++W++(U2++(U1++Q)):=by
 have:=Jw P U1 U2 W Q h;rw[aj,<-kE]
 simp only[ba]at this⊢;exact this
theorem rot_lt(P U V1 V2 Q:List V)(h:V2.length=U.length):tc (P++(U++(V1++V2++Q))) P.length (P.length+U.length+V1.length) U.length=P++(V2++(V1++(U++Q))):=by have:=Jw P U V1 V2 Q h;simp only[ba]at this⊢;exact this
omit [Inhabited V]in
theorem swap_adj(A B:List V)(x y:V):((A++x::y::B).set (A.length+1) x).set A.length y=A++y::x::B:=by
 rw[kr _ _ (by omega),dU,kr _ _ (by omega),vi]
 rfl
omit [Inhabited V]in
theorem swap_adj'(A B:List V)(x y:V):((A++x::y::B).set A.length y).set (A.length+1) x=A++y::x::B:=by
 rw[kr _ _ (by omega),vi,kr _ _ (by omega),dU]
 rfl
end
section
variable{V:Type}
def jl(P D Z:List V)(y:V)(u:Nat):List V:=P++(D.take u++(y::(D.drop u++Z)))
theorem Jx{P D Z:List V}{y:V}{u:Nat}:(jl P D Z y u).length=P.length+D.length+Z.length+1:=by
 have:=congrArg List.length (br u D)
 rw[aj]at this;simp only[jl,aj,aG];omega
theorem QN{P D Z:List V}{y:V}{u:Nat}(h:u<D.length):jl P D Z y u=(P++D.take u)++y::D[u]::(D.drop (u+1)++Z):=by unfold jl;rw[ax h];simp only[ba,bF]
theorem QO{P D Z:List V}{y:V}{u:Nat}(h:u<D.length):jl P D Z y (u+1)=(P++D.take u)++D[u]::y::(D.drop (u+1)++Z):=by unfold jl;rw[<-ar h];simp only[ba,bF,bx]
theorem Jy{P D Z:List V}{y:V}{u:Nat}(h:u<=D.length):(jl P D Z y u)[P.length+u]? =some y:=by
 unfold jl;rw[bX (by omega),dU,bX (by rw[aK];omega)]
 rw[show u-(D.take u).length=0 by rw[aK];omega];rfl
theorem Gq{P D:List V}{u:Nat}(h:u<D.length):(P++D.take u).length=P.length+u:=by rw[aj,aK];omega
theorem X6{P D Z:List V}{y:V}{u:Nat}(h:u<D.length):(jl P D Z y (u+1))[P.length+u]? =some D[u]:=by rw[QO h,<-Gq h,bX (ai _),vi];rfl
theorem rowI_e{P D Z:List V}{y:V}{u:Nat}(h:u<D.length):(jl P D Z y u)[P.length+(u+1)]? =some D[u]:=by rw[QN h,<-kE,<-Gq h,bX (by omega),dU];rfl
theorem N7{P D Z:List V}{y:V}{u:Nat}(h:u<D.length):((jl P D Z y (u+1)).set (P.length+(u+1)) D[u]).set (P.length+u) y=jl P D Z y u:=by rw[QO h,QN h,<-kE,<-Gq h];exact swap_adj _ _ _ _
theorem X7{P D Z:List V}{y:V}{u:Nat}(h:u<D.length):((jl P D Z y u).set (P.length+u) D[u]).set (P.length+(u+1)) y=jl P D Z y (u+1):=by rw[QO h,QN h,<-kE,<-Gq h];exact swap_adj' _ _ _ _
theorem yI{P D Z:List V}{y:V}{u:Nat}(h:u<D.length):((jl P D Z y (u+1)).set (P.length+(u+1)) D[u])[P.length+u]? =some D[u]:=by rw[cC (by omega)];exact X6 h
theorem Jz{P D Z:List V}{y:V}{u:Nat}(h:u<D.length):((jl P D Z y u).set (P.length+u) D[u])[P.length+(u+1)]? =some D[u]:=by rw[cC (by omega)];exact rowI_e h
end
section
variable{V:Type}{lt:V->V->Bool}(o:Swo lt)
include o
theorem ins_eq{S1 S2:List V}{y:V}(hs:qd lt (S1++S2))(h1: ∀x∈S1,lt y x=false)(h2: ∀x∈S2,lt y x=true):ins lt (S1++S2) y=S1++y::S2:=
 St.uniq o (ins_st o hs) (C9 o hs h1 h2)
omit o in
theorem X8(l:List V)(y:V):dp lt (l++[y])=ins lt (dp lt l) y:=by unfold dp;rw[cp];rfl
theorem QP{X Y:List V}(u v:Nat)(hX:qd lt X)(hY:qd lt Y)(h1: ∀x∈X.drop u,∀y∈Y.take v,lt y x=true)(h2: ∀x∈X.take u,∀y∈Y.drop v,lt y x=false):
 dp lt (X.take u++Y.take v)++dp lt (X.drop u++Y.drop v)=dp lt (X++Y):=by
 have:=split o (X1:=X.take u) (X2:=X.drop u) (Y1:=Y.take v) (Y2:=Y.drop v) (by rw[br];exact hX) (by rw[br];exact hY) h1 h2 (mJ o _) (mJ o _)
 rw[br,br]at this;exact w6 o this
theorem uZ{l:List V}(h:qd lt l):dp lt l=l:=(w6 o (St.refl h)).symm
theorem tX(l:List V):qd lt (dp lt l):=(mJ o l).1
omit o in
theorem qd.take{l:List V}(h:qd lt l)(n:Nat):qd lt (l.take n):=td (j8 _ _) h
omit o in
theorem qd.drop{l:List V}(h:qd lt l)(n:Nat):qd lt (l.drop n):=td (List.drop_sublist _ _) h
theorem N8(l m:List V):dp lt (dp lt l++dp lt m)=dp lt (l++m):=
 (w6 o (St.comp (mJ o l) (mJ o m) (mJ o _)))
end
end Go.zK
namespace Go.Proofs.YtfnohjheonlnmaaGreat
open Go.dF Go.zK
set_option linter.unusedSimpArgs false
set_option linter.unusedVariables false
set_option maxRecDepth 20000
set_option maxHeartbeats 8000000
instance:Inhabited It:=⟨⟨[],0,0,0,0,false,[]⟩⟩
theorem Fx:aQ Tryz.prog C5 Tryz.f182.ntmps (Tryz.f182.body.getD .skip)=true:=by kernel_rfl
theorem Mk(x y:It)(h:x.ok/\y.ok):bp Tryz.prog 182 [x.enc,y.enc] (· = .int .i64 (fC x.key y.key)):=by
 refine ah Bj mixed Tryz.func182 rfl (ab rfl) Fx ?_;unfold Tryz.f182;have g:=NX (a:=x.key) (b:=y.key) ⟨h.1.1,h.2.1⟩
 simp only[It.enc]
 simp-implicitDefEqProofs (disch:=(first|omega|decide)) only[go_sem,↓reduceIte,seval,g]
def TIa:aW:=C5.add 182 (entry (fun(v:It×It)=>[v.1.enc,v.2.enc]) (fun v=>v.1.ok/\v.2.ok) (fun v=> .int .i64 (fC v.1.key v.2.key)))
theorem TIa_ok:aN Tryz.prog TIa:=Bj.dH Tryz.func182 (by kernel_rfl) (by kernel_rfl) fun v h=>Mk v.1 v.2 h
theorem C'(v:It×It)(h:v.1.ok/\v.2.ok):TIa.f 182 [v.1.enc,v.2.enc]=some (.int .i64 (fC v.1.key v.2.key)):=aW.aZ (Γ:=C5) (fun i j h=>by simpa[ag,and_assoc]using h) v h
theorem JA{x y:It}(h:x.ok/\y.ok):TIa.f 182 [.agg [.str x.key,.int .i64 x.rep,.int .i64 x.da,.int .i64 x.du,.int .i64 x.prio,.bool x.dead,.str x.body],.agg [.str y.key,.int .i64 y.rep,.int .i64 y.da,.int .i64 y.du,.int .i64 y.prio,.bool y.dead,.str y.body]]=some (.int .i64 (fC x.key y.key)):=C' (x,y) h
theorem u0(l:List It)(k:Nat)(x:It):fE (l.map It.enc) k (.agg [.str x.key,.int .i64 x.rep,.int .i64 x.da,.int .i64 x.du,.int .i64 x.prio,.bool x.dead,.str x.body])=(l.set k x).map It.enc:=by rw[lT,jX];rfl
theorem ik{l:List It}{k:Nat}{x:It}(h:l[k]? =some x):(l.map It.enc)[k]? =some (.agg [.str x.key,.int .i64 x.rep,.int .i64 x.da,.int .i64 x.du,.int .i64 x.prio,.bool x.dead,.str x.body]):=by rw[aT,h];rfl
theorem spl7(a b c d e f g a' b' c' d' e' f' g':A):jI [a,b,c,d,e,f,g] 0 [a',b',c',d',e',f',g']=[a',b',c',d',e',f',g']:=rfl
def TIs:aW:={TIa with fix:=fun n=>n==0,nf:=1}
theorem Da:aN Tryz.prog TIs:=⟨TIa_ok.f,TIa_ok.hp⟩
@[go_sem] theorem TIs_f:TIs.f=TIa.f:=rfl
@[go_sem] theorem TIs_effT:TIs.effT=false:=rfl
@[go_sem] theorem TIs_ords{n:Nat}:TIs.fS n=[]:=rfl
theorem kL:aQ Tryz.prog TIs Tryz.f278.ntmps (Tryz.f278.body.getD .skip)=true:=by kernel_rfl
theorem UU(l:List It)(a b n:Nat)(h:a+n<=b/\b+n<=l.length/\l.length<=1000000):jb Tryz.prog 278 [.row 0 0 7 l.length false,.int .i64 a,.int .i64 b,.int .i64 n,.fn 182 []] [.row 7 (l.map It.enc)]
 (.fq []) [.row 7 ((tc l a b n).map It.enc)] []:=by
 refine e_ Da mixed Tryz.func278 rfl (ab rfl) (fun n h _=>by simp at h;subst h;rfl) (by show _<=1;simp) (by show 1<=_;simp) kL ?_;unfold Tryz.f278;obtain⟨h1,h2,h3⟩:=h;simp-implicitDefEqProofs (disch:=(first|omega|decide)) only[go_sem,↓reduceIte,seval,aa]
 refine a_ [0,1,2,3] (ι:={i:Nat//i<=n}) (fun i=>[(10,.int .i64 i.1)]) (fun i=>[(0,.row 7 ((tc l a b i.1).map It.enc))]) (fun i=>n-i.1) ⟨0,by omega⟩ (by show 1<=_;simp) ?_ ?_
 · simp-implicitDefEqProofs (disch:=(first|omega|decide)) only[go_sem,↓reduceIte,seval]
   first|done|(simp[tc];done)|(exact⟨rfl,rfl⟩)|rfl
 · rintro⟨i,hi⟩
   simp only;by_cases bo:i<n
   · have aH:(i:Int)<(n:Int):=by omega
     have hA:(a:Int)+(i:Int)=((a+i:Nat):Int):=by omega
     have hB:(b:Int)+(i:Int)=((b+i:Nat):Int):=by omega
     have rA:((a+i:Nat):Int)<(l.length:Int):=by omega
     have rB:((b+i:Nat):Int)<(l.length:Int):=by omega
     have pA:(0:Int)<=((a+i:Nat):Int):=by omega
     have pB:(0:Int)<=((b+i:Nat):Int):=by omega
     have tA:((a+i:Nat):Int).toNat=a+i:=bg _;have tB:((b+i:Nat):Int).toNat=b+i:=bg _;have hc:=Jv l a b i;have gx:(tc l a b i)[a+i]? =l[a+i]? :=by rw[Bo _ (by omega) (by omega),if_neg (by omega),if_neg (by omega)]
     have gy:(tc l a b i)[b+i]? =l[b+i]? :=by rw[Bo _ (by omega) (by omega),if_neg (by omega),if_neg (by omega)]
     have eO:tc l a b (i+1)=((tc l a b i).set (a+i) l[b+i]).set (b+i) l[a+i]:=by simp only[tc];rw[getElem!_pos l (a+i) (by omega),getElem!_pos l (b+i) (by omega)]
     rw[ae (show a+i<l.length by omega)]at gx;rw[ae (show b+i<l.length by omega)]at gy;generalize l[a+i]=x at*;generalize l[b+i]=y at*;generalize hnx:tc l a b (i+1)=gI at*;generalize tc l a b i=cur at*;have ex:=ik gx;have ey:=ik gy;have s1:=u0 cur (a+i) y;have gy2:(cur.set (a+i) y)[b+i]? =some y:=by rw[cC (by omega),gy]
     have ey2:=ik gy2;have s2:=u0 (cur.set (a+i) y) (b+i) x;simp-implicitDefEqProofs (disch:=(first|omega|decide)) only[go_sem,↓reduceIte,seval,aH,hA,hB,rA,rB,pA,pB,tA,tB,hc,ex,ey,ey2,s1,s2,spl7,wrap_i64,aa,dd]
     exact⟨⟨i+1,bo⟩,⟨by simp,by show _=List.map It.enc (tc l a b (i+1));rw[hnx,eO]⟩,by show n-(i+1)<n-i;omega⟩
   · have aH: ¬(i:Int)<(n:Int):=by omega
     obtain rfl:i=n:=by omega
     simp-implicitDefEqProofs (disch:=(first|omega|decide)) only[go_sem,↓reduceIte,seval,aH,aa]
abbrev SwpA:=List It×Nat×Nat×Nat
def Ml(v:SwpA):List A:=[.row 0 0 7 v.1.length false,.int .i64 v.2.1,.int .i64 v.2.2.1,.int .i64 v.2.2.2,.fn 182 []]
def mL(l:List It):List Go.dF.Obj:=[.row 7 (l.map It.enc)]
theorem Bp{i j:List It}(h:mL i=mL j):i=j:=by simpa[mL]using h
def swpK(v:SwpA):Prop:=v.2.1+v.2.2.2<=v.2.2.1/\v.2.2.1+v.2.2.2<=v.1.length/\v.1.length<=1000000
def swpR(v:SwpA):A×List Go.dF.Obj×List Nat:=(.fq [],mL (tc v.1 v.2.1 v.2.2.1 v.2.2.2),[])
theorem sw_inj(i j:SwpA)(h:Ml i=Ml j)(h':mL i.1=mL j.1):i=j:=by obtain⟨l,a,b,n⟩:=i;obtain⟨l',a',b',n'⟩:=j;obtain rfl:=Bp h';simp only[Ml,dr,A.int.injEq,true_and,and_true,tY]at h;obtain⟨rfl,rfl,rfl⟩:=h;rfl
def TIb:aW:=TIs.kz 278 (dG Ml (fun v=>mL v.1) swpK swpR)
theorem TIb_ok:aN Tryz.prog TIb:=Da.kz (dE Tryz.func278 (by kernel_rfl) (by kernel_rfl)) (gm fun v h=>UU v.1 v.2.1 v.2.2.1 v.2.2.2 h)
def TIr:aW:={TIb with sg:=fun f=>f==278}
theorem TIr_ok:aN Tryz.prog TIr:=⟨TIb_ok.f,TIb_ok.hp⟩
@[go_sem] theorem TIr_eff{g:FuncId}:TIr.sg g=(g==278):=rfl
@[go_sem] theorem TIr_frz{g:FuncId}:TIr.xk g=false:=rfl
@[go_sem] theorem TIr_ords{n:Nat}:TIr.fS n=[]:=rfl
theorem QQ(l:List It)(a b n m:Nat)(hm:m=l.length)(h:a+n<=b/\b+n<=l.length/\l.length<=1000000):TIr.hp 278 [.row 0 0 7 m false,.int .i64 a,.int .i64 b,.int .i64 n,.fn 182 []] [.row 7 (l.map It.enc)]=some (.fq [],[.row 7 ((tc l a b n).map It.enc)],[]):=by subst hm;have h00:TIb.hp 278 (Ml (l,a,b,n)) (mL l)=dG Ml (fun v=>mL v.1) swpK swpR (Ml (l,a,b,n)) (mL l):=aW.jK;have h0:TIr.hp 278 (Ml (l,a,b,n)) (mL l)=dG Ml (fun v=>mL v.1) swpK swpR (Ml (l,a,b,n)) (mL l):=h00;exact h0.trans (gn (Kx:=fun v:SwpA=>mL v.1) sw_inj (l,a,b,n) h)
theorem lO:aQ Tryz.prog TIr Tryz.f264.ntmps (Tryz.f264.body.getD .skip)=true:=by kernel_rfl
theorem c_rotate(P U W Q:List It)(h:(P++(U++(W++Q))).length<=1000000)(hU:0<U.length)(hW:0<W.length):jb Tryz.prog 264 [.row 0 0 7 (P++(U++(W++Q))).length false,.int .i64 P.length,.int .i64 (P.length+U.length:Nat),.int .i64 (P.length+U.length+W.length:Nat),.fn 182 []] [.row 7 ((P++(U++(W++Q))).map It.enc)]
 (.fq []) [.row 7 ((P++(W++(U++Q))).map It.enc)] []:=by
 refine e_ TIr_ok mixed Tryz.func264 rfl (ab rfl) (fun n h _=>by simp at h;subst h;rfl) (by show _<=1;simp) (by show 1<=_;simp) lO ?_;unfold Tryz.f264;have h0:=h;simp only[aj]at h0;obtain⟨N,hN⟩: ∃N,(P++(U++(W++Q))).length=N:=⟨_,rfl⟩
 have WV:=hN;simp only[aj]at WV;obtain⟨m,hm⟩: ∃m,P.length+U.length=m:=⟨_,rfl⟩
 obtain⟨R,hR⟩: ∃R,P++(W++(U++Q))=R:=⟨_,rfl⟩
 rw[hm,hR,hN]
 have e1:(m:Int)-(P.length:Int)=(U.length:Int):=by omega
 have e2:((m+W.length:Nat):Int)-(m:Int)=(W.length:Int):=by omega
 simp-implicitDefEqProofs (disch:=(first|omega|decide)) only[go_sem,↓reduceIte,seval,e1,e2,wrap_i64,aa]
 refine a_ [0,2,4] (ι:={p:List It×List It×List It×List It//0<p.2.1.length/\0<p.2.2.1.length/\p.1.length+p.2.1.length=m/\(p.1++(p.2.1++(p.2.2.1++p.2.2.2))).length=N/\p.1++(p.2.2.1++(p.2.1++p.2.2.2))=R}) (fun p=>[(10,.int .i64 p.1.2.1.length),(11,.int .i64 p.1.2.2.1.length)]) (fun p=>[(0,.row 7 ((p.1.1++(p.1.2.1++(p.1.2.2.1++p.1.2.2.2))).map It.enc))]) (fun p=>p.1.2.1.length+p.1.2.2.1.length) ⟨(P,U,W,Q),hU,hW,hm,hN,hR⟩ (by show 1<=_;simp) ?_ ?_
 · simp-implicitDefEqProofs (disch:=(first|omega|decide)) only[go_sem,↓reduceIte,seval]
   first|done|exact⟨rfl,rfl⟩|rfl
 · rintro⟨⟨P',U',W',Q'⟩,k1,k2,k3,k4,k5⟩
   simp only at k1 k2 k3 k4 k5⊢;have k6:=k4;simp only[aj]at k6;have q1:(m:Int)-(U'.length:Int)=(P'.length:Int):=by omega
   by_cases c1:U'.length=W'.length
   · have c1':(U'.length:Int)=(W'.length:Int):=by omega
     have c1b:(((U'.length:Int)==(W'.length:Int)))=true:=by simp[c1]
     have f:=QQ (P'++(U'++(W'++Q'))) P'.length m U'.length N k4.symm ⟨by omega,by omega,by omega⟩
     have sp:=rot_gt P' U' [] W' Q' c1.symm;rw[bj,bx,k3,ba,k5]at sp;rw[sp]at f;rw[<-c1']
     simp-implicitDefEqProofs (disch:=(first|omega|decide)) only[go_sem,↓reduceIte,seval,c1b,q1,f,wrap_i64,aa,beq_self_eq_true]
   · have c1b:(((U'.length:Int)==(W'.length:Int)))=false:=by
      rw[beq_eq_false_iff_ne];omega
     by_cases c2:W'.length<U'.length
     · have c2':(W'.length:Int)<(U'.length:Int):=by omega
       have f:=QQ (P'++(U'++(W'++Q'))) P'.length m W'.length N k4.symm ⟨by omega,by omega,by omega⟩
       obtain⟨U1,U2,rfl,hu⟩: ∃U1 U2,U'=U1++U2/\U1.length=W'.length:=⟨U'.take W'.length,U'.drop W'.length,(br _ _).symm,by rw[aK];omega⟩
       have sp:=rot_gt P' U1 U2 W' Q' hu.symm;have lu:(U1++U2).length=U1.length+U2.length:=aj;rw[k3,hu]at sp;rw[sp]at f;have q2:(((U1++U2).length:Nat):Int)-(W'.length:Int)=(U2.length:Int):=by omega
       simp-implicitDefEqProofs (disch:=(first|omega|decide)) only[go_sem,↓reduceIte,seval,c1b,c2',q1,q2,f,wrap_i64,aa]
       refine⟨⟨(P'++W',U2,U1,Q'),by show 0<U2.length;omega,by show 0<U1.length;omega,by show(P'++W').length+U2.length=m;rw[aj];omega,by show(P'++W'++(U2++(U1++Q'))).length=N;simp only[aj];omega,by show P'++W'++(U1++(U2++Q'))=R;rw[<-k5];simp only[ba]⟩,⟨⟨by simp,by simp;omega⟩,rfl⟩,by show U2.length+U1.length<(U1++U2).length+W'.length;omega⟩
     · have c2': ¬(W'.length:Int)<(U'.length:Int):=by omega
       have q3:(m:Int)+(W'.length:Int)-(U'.length:Int)=((m+(W'.length-U'.length):Nat):Int):=by omega
       have f:=QQ (P'++(U'++(W'++Q'))) P'.length (m+(W'.length-U'.length)) U'.length N k4.symm ⟨by omega,by omega,by omega⟩
       obtain⟨V1,V2,rfl,hv⟩: ∃V1 V2,W'=V1++V2/\V2.length=U'.length:=⟨W'.take (W'.length-U'.length),W'.drop (W'.length-U'.length),(br _ _).symm,by rw[cj];omega⟩
       have sp:=rot_lt P' U' V1 V2 Q' hv;have lv:(V1++V2).length=V1.length+V2.length:=aj;have ll:(V1++V2).length-U'.length=V1.length:=by omega
       rw[k3]at sp;rw[ll,sp]at f;rw[ll]at q3;have q2:(((V1++V2).length:Nat):Int)-(U'.length:Int)=(V1.length:Int):=by omega
       simp-implicitDefEqProofs (disch:=(first|omega|decide)) only[go_sem,↓reduceIte,seval,c1b,c2',q1,q2,q3,f,wrap_i64,aa]
       refine⟨⟨(P',V2,V1,U'++Q'),by show 0<V2.length;omega,by show 0<V1.length;omega,by show P'.length+V2.length=m;omega,by show(P'++(V2++(V1++(U'++Q')))).length=N;simp only[aj];omega,by show P'++(V1++(V2++(U'++Q')))=R;rw[<-k5];simp only[ba]⟩,⟨⟨by simp;omega,by simp⟩,rfl⟩,by show V2.length+V1.length<U'.length+(V1++V2).length;omega⟩
theorem ssort1(S:List It):dp fA (S.take 1)++S.drop 1=S:=by
 match S with
 | []=>rfl
 | [x]=>rfl
 |x::y::S=>rfl
theorem ins_done{D:List It}{y:It}{u:Nat}(hs:qd fA D)(hu:u<=D.length)(h1:u=0\/ ∃h:u-1<D.length,fA y D[u-1]=false)(h2: ∀x∈D.drop u,fA y x=true):ins fA D y=D.take u++y::D.drop u:=by
 have:=ins_eq mV (S1:=D.take u) (S2:=D.drop u) (y:=y) (by rw[br];exact hs) (fun x hx=> ?_) h2
 · rwa [br]at this
 · rcases h1 with rfl|⟨h,h1⟩
   · simp at hx
   · obtain⟨i,hi,rfl⟩:=bW hx
     rw[aK]at hi;rw[fz]
     by_cases e:i=u-1
     · subst e;exact h1
     · exact mV.neg _ _ _ h1 ((b9.1 hs) i (u-1) (by omega) h (by omega))
theorem JB{P D Z:List It}{y:It}:jl P D Z y D.length=P++(D++(y::Z)):=by unfold jl;rw[ca,List.drop_length,bx]
theorem jV:aQ Tryz.prog TIs Tryz.f232.ntmps (Tryz.f232.body.getD .skip)=true:=by kernel_rfl
theorem c_insSort(P S T:List It)(h:(P++(S++T)).length<=1000000)(hk: ∀x∈S,x.ok):jb Tryz.prog 232 [.row 0 0 7 (P++(S++T)).length false,.int .i64 P.length,.int .i64 (P.length+S.length:Nat),.fn 182 []] [.row 7 ((P++(S++T)).map It.enc)]
 (.fq []) [.row 7 ((P++(dp fA S++T)).map It.enc)] []:=by
 refine e_ Da mixed Tryz.func232 rfl (ab rfl) (fun n h _=>by simp at h;subst h;rfl) (by show _<=1;simp) (by show 1<=_;simp) jV ?_;unfold Tryz.f232;have h0:=h;simp only[aj]at h0;obtain⟨N,hN⟩: ∃N,(P++(S++T)).length=N:=⟨_,rfl⟩
 have WV:=hN;simp only[aj]at WV;rw[hN]
 simp-implicitDefEqProofs (disch:=(first|omega|decide)) only[go_sem,↓reduceIte,seval,wrap_i64,aa]
 refine a_ [0,1,2,3] (ι:={k:Nat//1<=k/\(k<=S.length\/k=1)}) (fun k=>[(8,.int .i64 ((P.length+k.1:Nat):Int))]) (fun k=>[(0,.row 7 ((P++(dp fA (S.take k.1)++(S.drop k.1++T))).map It.enc))]) (fun k=>S.length-k.1) ⟨1,by omega,.inr rfl⟩ (by show 1<=_;simp) ?_ ?_
 · have e:=ssort1 S
   rw[<-ba (dp fA (S.take 1)),e]
   simp-implicitDefEqProofs (disch:=(first|omega|decide)) only[go_sem,↓reduceIte,seval]
   first|done|(simp;done)|(exact⟨by simp,rfl⟩)
 · rintro⟨k,qD,hk2⟩
   simp only;by_cases bo:k<S.length
   · have aH:((P.length+k:Nat):Int)<((P.length+S.length:Nat):Int):=by omega
     obtain⟨D,hD⟩: ∃D,dp fA (S.take k)=D:=⟨_,rfl⟩
     have hDl:D.length=k:=by rw[<-hD,eP,aK];omega
     have hDs:qd fA D:=hD▸tX mV _;have hDk: ∀x∈D,x.ok:=fun x hx=>by rw[<-hD]at hx;exact hk x (b_ ((St.mem mV (mJ mV _) x).1 hx))
     have hyk:=hk _ (ao bo)
     have hsd:S.drop k=S[k]::S.drop (k+1):=ax bo;have eO:dp fA (S.take (k+1))=ins fA D S[k]:=by rw[<-ar bo,X8,hD]
     rw[hD,hsd]
     generalize S[k]=y at*;obtain⟨Z,hZ⟩: ∃Z,S.drop (k+1)++T=Z:=⟨_,rfl⟩
     have hNZ:P.length+D.length+Z.length+1=N:=by rw[<-hZ,aj,cj];omega
     rw[bF,hZ,<-JB]
     simp-implicitDefEqProofs (disch:=(first|omega|decide)) only[go_sem,↓reduceIte,seval,aH,wrap_i64,aa]
     refine a_ [0,1,2,3,8] (ι:={u:Nat//u<=D.length/\ ∀x∈D.drop u,fA y x=true}) (fun u=>[(9,.int .i64 ((P.length+u.1:Nat):Int))]) (fun u=>[(0,.row 7 ((jl P D Z y u.1).map It.enc))]) (fun u=>u.1) ⟨D.length,ai _,by rw[List.drop_length];simp⟩ (by show 1<=_;simp) ?_ ?_
     · simp-implicitDefEqProofs (disch:=(first|omega|decide)) only[go_sem,↓reduceIte,seval,hDl]
       try rfl
     · rintro⟨u,hu,hup⟩
       simp only;have fin: ∀h1:(u=0\/ ∃h:u-1<D.length,fA y D[u-1]=false),jl P D Z y u=P++(dp fA (S.take (k+1))++(S.drop (k+1)++T)):=fun h1=>by rw[eO,ins_done hDs (by omega) h1 hup,hZ,jl,ba];rfl
       cases u with
       |zero=>
        have fin:=fin (.inl rfl)
        rw[fin,dh]
        have k1:((P.length+k:Nat):Int)+1=((P.length+(k+1):Nat):Int):=by omega
        simp-implicitDefEqProofs (disch:=(first|omega|decide)) only[go_sem,↓reduceIte,seval,k1,Int.lt_irrefl,wrap_i64,aa]
        refine⟨⟨k+1,by omega,.inl (by omega)⟩,⟨by simp,rfl⟩,by show S.length-(k+1)<S.length-k;omega⟩
       |succ u=>
        have hud:u<D.length:=hu;have c0:(P.length:Int)<((P.length+(u+1):Nat):Int):=by omega
        have j1:((P.length+(u+1):Nat):Int)-1=((P.length+u:Nat):Int):=by omega
        have k1:((P.length+k:Nat):Int)+1=((P.length+(k+1):Nat):Int):=by omega
        have pj:(0:Int)<=((P.length+(u+1):Nat):Int):=by omega
        have pj1:(0:Int)<=((P.length+u:Nat):Int):=by omega
        have rj:((P.length+(u+1):Nat):Int)<(N:Int):=by omega
        have rj1:((P.length+u:Nat):Int)<(N:Int):=by omega
        have tj:((P.length+(u+1):Nat):Int).toNat=P.length+(u+1):=bg _;have tj1:((P.length+u:Nat):Int).toNat=P.length+u:=bg _;have hdk:=hDk _ (ao hud)
        have ln:=Jx (P:=P) (D:=D) (Z:=Z) (y:=y) (u:=u+1)
        rw[hNZ]at ln;have gy:=ik (Jy (P:=P) (Z:=Z) (y:=y) hu)
        have gd:=ik (X6 (P:=P) (Z:=Z) (y:=y) hud)
        have gd2:=ik (yI (P:=P) (Z:=Z) (y:=y) hud)
        have s1:=u0 (jl P D Z y (u+1)) (P.length+(u+1)) D[u]
        have s2:=u0 ((jl P D Z y (u+1)).set (P.length+(u+1)) D[u]) (P.length+u) y;rw[N7 hud]at s2;have gc:=JA (x:=y) (y:=D[u]) ⟨hyk,hdk⟩
        have hdd:D.drop u=D[u]::D.drop (u+1):=ax hud;have fin2:fA y D[u]=false->_:=fun hh=>fin (.inr ⟨by show u<D.length;omega,hh⟩)
        have gI:fA y D[u]=true-> ∀x∈D.drop u,fA y x=true:=fun hh x hx=>by
          rw[hdd]at hx;rcases aD.1 hx with rfl|hx
          · exact hh
          · exact hup x hx
        have hlb:fA y D[u]=cL y.key D[u].key:=rfl;rw[hlb]at fin2 gI;clear fin hdd hup;generalize D[u]=d at*;cases hb:cL y.key d.key with
        |true=>
          have gI:=gI hb;generalize jl P D Z y (u+1)=r1 at*;generalize hr0:jl P D Z y u=r0 at*;simp-implicitDefEqProofs (disch:=(first|omega|decide)) only[go_sem,↓reduceIte,seval,c0,j1,k1,pj,pj1,rj,rj1,tj,tj1,ln,gy,gd,gd2,s1,s2,gc,hb,spl7,wrap_i64,aa,dd]
          exact⟨⟨u,by omega,gI⟩,⟨by simp,by rw[hr0]⟩,by show u<u+1;omega⟩
        |false=>
          have fin2:=fin2 hb;rw[fin2]at gy gd⊢;rw[fin2]at ln;generalize hr1:P++(dp fA (S.take (k+1))++(S.drop (k+1)++T))=r1 at*;simp-implicitDefEqProofs (disch:=(first|omega|decide)) only[go_sem,↓reduceIte,seval,c0,j1,k1,pj,pj1,rj,rj1,tj,tj1,ln,gy,gd,gc,hb,wrap_i64,aa,dd]
          refine⟨⟨k+1,by omega,.inl (by omega)⟩,⟨by simp,by rw[hr1]⟩,by show S.length-(k+1)<S.length-k;omega⟩
   · have aH: ¬((P.length+k:Nat):Int)<((P.length+S.length:Nat):Int):=by omega
     have e1:S.take k=S:=ad (by omega)
     have e2:S.drop k=[]:=aC (by omega)
     rw[e1,e2,bx]
     simp-implicitDefEqProofs (disch:=(first|omega|decide)) only[go_sem,↓reduceIte,seval,aH,aa]
def QR:aW:=zI.add 190 (entry (fun(v:(Int×Int)×(Int×Int))=>[.agg [.int .i64 v.1.1,.int .i64 v.1.2],.agg [.int .i64 v.2.1,.int .i64 v.2.2]]) (fun v=>True) (fun v=> .int .i64 (lL ⟨v.1.1,v.1.2⟩ ⟨v.2.1,v.2.2⟩)))
theorem aaa:aN Tryz.prog QR:=Bk.dH Tryz.func190 (by kernel_rfl) (by kernel_rfl) fun v h=>tb ⟨v.1.1,v.1.2⟩ ⟨v.2.1,v.2.2⟩
@[go_sem] theorem X18a_old{g:FuncId}{xs:List A}(h:g≠190):QR.f g xs=zI.f g xs:=aW.aU h
@[go_sem] theorem X18a_s:QR.pl zI:=⟨fun _=>rfl,fun _=>rfl,rfl,fun _=>rfl,rfl,fun _=>rfl,rfl⟩
theorem Db(v:(Int×Int)×(Int×Int))(h:True):QR.f 190 [.agg [.int .i64 v.1.1,.int .i64 v.1.2],.agg [.int .i64 v.2.1,.int .i64 v.2.2]]=some (.int .i64 (lL ⟨v.1.1,v.1.2⟩ ⟨v.2.1,v.2.2⟩)):=aW.aZ (Γ:=zI) (fun i j h=>by simpa[ag,and_assoc]using h) v h
theorem x_vCmp{r c r' c':Int}:QR.f 190 [.agg [.int .i64 r,.int .i64 c],.agg [.int .i64 r',.int .i64 c']]=some (.int .i64 (lL ⟨r,c⟩ ⟨r',c'⟩)):=Db ((r,c),(r',c')) trivial
theorem UW:aQ Tryz.prog QR Tryz.f164.ntmps (Tryz.f164.body.getD .skip)=true:=by kernel_rfl
theorem X9(x y:It):bp Tryz.prog 164 [x.enc,y.enc] (· = .int .i64 (Mj x y)):=by
 refine ah aaa mixed Tryz.func164 rfl (ab rfl) UW ?_;unfold Tryz.f164;have g:=x_vCmp (r:=x.rep) (c:=x.da) (r':=y.rep) (c':=y.da)
 simp only[It.enc,Mj]
 by_cases h1:y.du<x.du
 · simp-implicitDefEqProofs (disch:=(first|omega|decide)) only[go_sem,↓reduceIte,seval,h1]
 · by_cases h2:x.du<y.du
   · simp-implicitDefEqProofs (disch:=(first|omega|decide)) only[go_sem,↓reduceIte,seval,h1,h2]
   · simp-implicitDefEqProofs (disch:=(first|omega|decide)) only[go_sem,↓reduceIte,seval,h1,h2,g]
def Mm:aW:=QR.add 164 (entry (fun(v:It×It)=>[v.1.enc,v.2.enc]) (fun v=>True) (fun v=> .int .i64 (Mj v.1 v.2)))
theorem aab:aN Tryz.prog Mm:=aaa.dH Tryz.func164 (by kernel_rfl) (by kernel_rfl) fun v h=>X9 v.1 v.2
@[go_sem] theorem X18b_old{g:FuncId}{xs:List A}(h:g≠164):Mm.f g xs=QR.f g xs:=aW.aU h
theorem Mn(v:It×It)(h:True):Mm.f 164 [v.1.enc,v.2.enc]=some (.int .i64 (Mj v.1 v.2)):=aW.aZ (Γ:=QR) (fun i j h=>by simpa[ag,and_assoc]using h) v h
theorem x_Cmp{x y:It}:Mm.f 164 [.agg [.str x.key,.int .i64 x.rep,.int .i64 x.da,.int .i64 x.du,.int .i64 x.prio,.bool x.dead,.str x.body],.agg [.str y.key,.int .i64 y.rep,.int .i64 y.da,.int .i64 y.du,.int .i64 y.prio,.bool y.dead,.str y.body]]=some (.int .i64 (Mj x y)):=Mn (x,y) trivial
theorem jG(l:List It)(x:It):l.map It.enc++[.agg [.str x.key,.int .i64 x.rep,.int .i64 x.da,.int .i64 x.du,.int .i64 x.prio,.bool x.dead,.str x.body]]=(l++[x]).map It.enc:=by rw[bz];rfl
theorem aac{x:It}(h:x.ok):QI.f 104 [.agg [.str x.key,.int .i64 x.rep,.int .i64 x.da,.int .i64 x.du,.int .i64 x.prio,.bool x.dead,.str x.body]]=some (.bool (bQ x)):=Z8 h
theorem jr{α:Type}{l:List α}{k:Nat}{f:α->Bool}(h:k<l.length):(l.take (k+1)).filter f=(l.take k).filter f++(if f l[k]then [l[k]]else []):=by
 rw[<-ar h,bP]
 cases hf:f l[k]<;>simp[hf]
theorem X_{α:Type}(L:List (List α))(i:Nat):((L.take i).flatten).length<=L.flatten.length:=by
 have:=congrArg (fun l:List (List α)=>l.flatten.length) (br i L)
 simp only[lq,aj]at this;omega
theorem JC{α:Type}{L:List (List α)}{i:Nat}(h:i<L.length):(L.take (i+1)).flatten=(L.take i).flatten++L[i]:=by rw[<-ar h,lq];simp
theorem pushM_len(r:List It)(x:It):(jq fA bt r x).length<=r.length+1:=by
 cases r with
 |nil=>simp[jq]
 |cons y r=>simp only[jq];split<;>simp
theorem N9: ∀(l r:List It),(l.foldl (jq fA bt) r).length<=r.length+l.length
 | [],r=>by simp
 |x::l,r=>by
  rw[cg]
  have h1:=N9 l (jq fA bt r x)
  have h2:=pushM_len r x;simp only[aG];omega
def Mo:aW:=Mm.add 134 (entry (fun(v:(Int×Int)×(Int×Int))=>[.agg [.int .i64 v.1.1,.int .i64 v.1.2],.agg [.int .i64 v.2.1,.int .i64 v.2.2]]) (fun v=>True) (fun v=> .bool (EN ⟨v.1.1,v.1.2⟩ ⟨v.2.1,v.2.2⟩)))
theorem aad:aN Tryz.prog Mo:=aab.dH Tryz.func134 (by kernel_rfl) (by kernel_rfl) fun v h=>A2 ⟨v.1.1,v.1.2⟩ ⟨v.2.1,v.2.2⟩
@[go_sem] theorem X18c_old{g:FuncId}{xs:List A}(h:g≠134):Mo.f g xs=Mm.f g xs:=aW.aU h
@[go_sem] theorem X18c_s:Mo.pl Mm:=⟨fun _=>rfl,fun _=>rfl,rfl,fun _=>rfl,rfl,fun _=>rfl,rfl⟩
theorem Fy(v:(Int×Int)×(Int×Int))(h:True):Mo.f 134 [.agg [.int .i64 v.1.1,.int .i64 v.1.2],.agg [.int .i64 v.2.1,.int .i64 v.2.2]]=some (.bool (EN ⟨v.1.1,v.1.2⟩ ⟨v.2.1,v.2.2⟩)):=aW.aZ (Γ:=Mm) (fun i j h=>by simpa[ag,and_assoc]using h) v h
theorem x_vLess{r c r' c':Int}:Mo.f 134 [.agg [.int .i64 r,.int .i64 c],.agg [.int .i64 r',.int .i64 c']]=some (.bool (EN ⟨r,c⟩ ⟨r',c'⟩)):=Fy ((r,c),(r',c')) trivial
theorem JD:aQ Tryz.prog Mo Tryz.f66.ntmps (Tryz.f66.body.getD .skip)=true:=by kernel_rfl
theorem Mp(x y:It):bp Tryz.prog 66 [x.enc,y.enc] (· = .bool (bt x y)):=by
 refine ah aad mixed Tryz.func66 rfl (ab rfl) JD ?_;unfold Tryz.f66;have g:=x_vLess (r:=y.rep) (c:=y.da) (r':=x.rep) (c':=x.da)
 simp only[It.enc,bt]
 cases h1:x.du==y.du with
 |true=>
  have sX:x.du=y.du:=by simpa using h1
  have h2: ¬y.du<x.du:=by omega
  have d2:decide (y.du<x.du)=false:=decide_eq_false h2;have d1:decide (x.du=y.du)=true:=decide_eq_true sX;rw[d1,d2,aB,bu]
  simp-implicitDefEqProofs (disch:=(first|omega|decide)) only[go_sem,↓reduceIte,seval,h1,g]
 |false=>
  have sX: ¬x.du=y.du:=by simpa using h1
  have d1:decide (x.du=y.du)=false:=decide_eq_false sX;rw[d1,aI,gi]
  simp-implicitDefEqProofs (disch:=(first|omega|decide)) only[go_sem,↓reduceIte,seval,h1]
def QS:aW:=Mo.add 66 (entry (fun(v:It×It)=>[v.1.enc,v.2.enc]) (fun v=>True) (fun v=> .bool (bt v.1 v.2)))
theorem aae:aN Tryz.prog QS:=aad.dH Tryz.func66 (by kernel_rfl) (by kernel_rfl) fun v h=>Mp v.1 v.2
@[go_sem] theorem X18d_old{g:FuncId}{xs:List A}(h:g≠66):QS.f g xs=Mo.f g xs:=aW.aU h
@[go_sem] theorem X18d_s:QS.pl Mo:=⟨fun _=>rfl,fun _=>rfl,rfl,fun _=>rfl,rfl,fun _=>rfl,rfl⟩
theorem Dc(v:It×It)(h:True):QS.f 66 [v.1.enc,v.2.enc]=some (.bool (bt v.1 v.2)):=aW.aZ (Γ:=Mo) (fun i j h=>by simpa[ag,and_assoc]using h) v h
theorem aaf{x y:It}:QS.f 66 [.agg [.str x.key,.int .i64 x.rep,.int .i64 x.da,.int .i64 x.du,.int .i64 x.prio,.bool x.dead,.str x.body],.agg [.str y.key,.int .i64 y.rep,.int .i64 y.da,.int .i64 y.du,.int .i64 y.prio,.bool y.dead,.str y.body]]=some (.bool (bt x y)):=Dc (x,y) trivial
def tZ(k:List UInt8)(all:Bool)(x:It):Bool:=bQ x&&(all||x.key==k)
def JE(l:List It)(k:List UInt8)(all:Bool):Nat->Int
 |0=> -1
 |n+1=>if tZ k all (l[n]!)&&(decide (JE l k all n<0)||bt (l[n]!) (l[(JE l k all n).toNat]!))then(n:Int)else JE l k all n
theorem JF(l:List It)(k:List UInt8)(all:Bool): ∀n,n<=l.length->(JE l k all n= -1/\kA bt ((l.take n).filter (tZ k all))=none)\/(∃j,j<n/\JE l k all n=(j:Int)/\kA bt ((l.take n).filter (tZ k all))=some (l[j]!))
 |0,_=> .inl ⟨rfl,rfl⟩
 |n+1,h=>by
  have bo:n<l.length:=by omega
  have ih:=JF l k all n (by omega)
  have fe:=jr (f:=tZ k all) bo;rw[<-getElem!_pos l n bo]at fe;simp only[JE]
  rw[fe]
  cases hc:tZ k all (l[n]!)with
  |false=>
   simp only[aI,az,if_false,bj]
   rcases ih with ih|⟨j,h1,h2,h3⟩
   · exact .inl ih
   · exact .inr ⟨j,by omega,h2,h3⟩
  |true=>
   simp only[aB,if_true]
   rw[N4]
   rcases ih with⟨h1,h2⟩|⟨j,h1,h2,h3⟩
   · rw[h1,h2]
     exact .inr ⟨n,by omega,by simp,rfl⟩
   · rw[h2,h3]
     have h0: ¬((j:Int)<0):=by omega
     have ht:((j:Nat):Int).toNat=j:=by simp
     rw[decide_eq_false h0,bu,ht]
     simp only[better]
     cases hb:bt (l[n]!) (l[j]!)with
     |true=>exact .inr ⟨n,by omega,by simp,by simp⟩
     |false=>exact .inr ⟨j,by omega,by simp,by simp⟩
theorem bAt_rng(l:List It)(k:List UInt8)(all:Bool)(n:Nat)(h:n<=l.length):JE l k all n= -1\/ ∃j,j<n/\JE l k all n=(j:Int):=by
 rcases JF l k all n h with h|⟨j,h1,h2,_⟩
 · exact .inl h.1
 · exact .inr ⟨j,h1,h2⟩
theorem JG{x:It}(h:x.ok):Jq.f 72 [.agg [.str x.key,.int .i64 x.rep,.int .i64 x.da,.int .i64 x.du,.int .i64 x.prio,.bool x.dead,.str x.body]]=some (.bool (bQ x)):=tU x h
theorem Mq:aQ Tryz.prog QS Tryz.f160.ntmps (Tryz.f160.body.getD .skip)=true:=by kernel_rfl
theorem QT(l:List It)(k:List UInt8)(all:Bool)(hl:l.length<=1000000)(hk: ∀x∈l,x.ok):bp Tryz.prog 160 [.ay (l.map It.enc),.str k,.bool all] (· = .int .i64 (JE l k all l.length)):=by
 refine ah aae mixed Tryz.func160 rfl (ab rfl) Mq ?_;unfold Tryz.f160;simp-implicitDefEqProofs (disch:=(first|omega|decide)) only[go_sem,↓reduceIte,seval,aa]
 refine a_ [0,1,2] (ι:={i:Nat//i<=l.length}) (fun i=>[(8,.int .i64 i.1),(7,.int .i64 (JE l k all i.1))]) (fun _=>[]) (fun i=>l.length-i.1) ⟨0,by omega⟩ (aw _) ?_ ?_
 · simp-implicitDefEqProofs (disch:=(first|omega|decide)) only[go_sem,↓reduceIte,seval,JE]
   try rfl
 · rintro⟨i,hi⟩
   simp only;by_cases bo:i<l.length
   · have aH:(i:Int)<(l.length:Int):=by omega
     have p1:(0:Int)<=(i:Int):=by omega
     have t1:((i:Nat):Int).toNat=i:=bg _;have e1:=ik (l:=l) (k:=i) (x:=l[i]!) (by rw[getElem!_pos l i bo,ae bo])
     have ox:(l[i]!).ok:=by rw[getElem!_pos l i bo];exact hk _ (ao bo)
     have g1:=JG ox;have hb:JE l k all (i+1)=if tZ k all (l[i]!)&&(decide (JE l k all i<0)||bt (l[i]!) (l[(JE l k all i).toNat]!))then(i:Int)else JE l k all i:=rfl
     have hr:=bAt_rng l k all i hi;have gI: ∀v:Int,JE l k all (i+1)=v-> ∃j:{i:Nat//i<=l.length},((i:Int)+1=(j.1:Int)/\v=JE l k all j.1)/\l.length-j.1<l.length-i:=fun v hv=>⟨⟨i+1,bo⟩,⟨by simp,hv.symm⟩,by show l.length-(i+1)<l.length-i;omega⟩
     have e2: ∀j,j<i->(l.map It.enc)[j]? =some (.agg [.str (l[j]!).key,.int .i64 (l[j]!).rep,.int .i64 (l[j]!).da,.int .i64 (l[j]!).du,.int .i64 (l[j]!).prio,.bool (l[j]!).dead,.str (l[j]!).body]):=fun j hj=>ik (by rw[getElem!_pos l j (by omega),ae (by omega)])
     generalize l[i]! =x at*;generalize JE l k all i=a at*;cases hR:bQ x with
     |false=>
      rw[hR]at g1;simp only[tZ,hR,aI,az,if_false]at hb;simp-implicitDefEqProofs (disch:=(first|omega|decide)) only[go_sem,↓reduceIte,seval,aH,p1,t1,e1,g1,wrap_i64,aa]
      exact gI _ hb
     |true=>
      rw[hR]at g1;cases all
      all_goals
       cases hkk:x.key==k
       all_goals
          simp only[tZ,hR,hkk,gi,bu,lD,cM,aI,aB,az,if_false]at hb
      · simp-implicitDefEqProofs (disch:=(first|omega|decide)) only[go_sem,↓reduceIte,seval,aH,p1,t1,e1,g1,hkk,wrap_i64,aa]
        exact gI _ hb
      all_goals
       rcases hr with rfl|⟨j,hj,rfl⟩
      all_goals
       first
          |(have hm:decide ((-1:Int)<0)=true:=rfl
            simp only[hm,cM,if_true]at hb;simp-implicitDefEqProofs (disch:=(first|omega|decide)) only[go_sem,↓reduceIte,seval,aH,p1,t1,e1,g1,hkk,wrap_i64,aa]
            exact gI _ hb)
          |(have q1: ¬((j:Int)<0):=by omega
            have q2:(0:Int)<=(j:Int):=by omega
            have q3:(j:Int)<(l.length:Int):=by omega
            have q4:((j:Nat):Int).toNat=j:=bg _;have ej:=e2 j hj;simp only[decide_eq_false q1,bu,q4]at hb;generalize l[j]! =y at*;have gb:=aaf (x:=x) (y:=y)
            cases hw:bt x y
            · rw[hw]at gb
              simp only[hw,az,if_false]at hb;simp-implicitDefEqProofs (disch:=(first|omega|decide)) only[go_sem,↓reduceIte,seval,aH,p1,t1,e1,g1,hkk,q1,q2,q3,q4,ej,gb,wrap_i64,aa]
              exact gI _ hb
            · rw[hw]at gb
              simp only[hw,if_true]at hb;simp-implicitDefEqProofs (disch:=(first|omega|decide)) only[go_sem,↓reduceIte,seval,aH,p1,t1,e1,g1,hkk,q1,q2,q3,q4,ej,gb,wrap_i64,aa]
              exact gI _ hb)
   · have aH: ¬(i:Int)<(l.length:Int):=by omega
     obtain rfl:i=l.length:=by omega
     simp-implicitDefEqProofs (disch:=(first|omega|decide)) only[go_sem,↓reduceIte,seval,aH,aa]
def UX:aW:=QS.add 160 (entry (fun(v:List It×List UInt8×Bool)=>[.ay (v.1.map It.enc),.str v.2.1,.bool v.2.2]) (fun v=>v.1.length<=1000000/\ ∀x∈v.1,x.ok) (fun v=> .int .i64 (JE v.1 v.2.1 v.2.2 v.1.length)))
theorem X18e_ok:aN Tryz.prog UX:=aae.dH Tryz.func160 (by kernel_rfl) (by kernel_rfl) fun v h=>QT v.1 v.2.1 v.2.2 h.1 h.2
@[go_sem] theorem X18e_old{g:FuncId}{xs:List A}(h:g≠160):UX.f g xs=QS.f g xs:=aW.aU h
theorem Fz(v:List It×List UInt8×Bool)(h:v.1.length<=1000000/\ ∀x∈v.1,x.ok):UX.f 160 [.ay (v.1.map It.enc),.str v.2.1,.bool v.2.2]=some (.int .i64 (JE v.1 v.2.1 v.2.2 v.1.length)):=aW.aZ (Γ:=QS) (fun i j h=>by simpa[ag,and_assoc]using h) v h
theorem x_Best{l:List It}{k:List UInt8}{all:Bool}(h:l.length<=1000000/\ ∀x∈l,x.ok):UX.f 160 [.ay (l.map It.enc),.str k,.bool all]=some (.int .i64 (JE l k all l.length)):=Fz (l,k,all) h
def mh(a b:List It):Bool:=decide (a=b)
def ku(F:List bk)(l:List It):List It:=l.filter fun x=>bh F x.key
theorem mi(F:List bk)(l:List It):(ku F l).length<=l.length:=aO _ _
def yc:aW:=UX.add 153 (entry (fun(l:List bk)=>[.ay (l.map bk.enc)]) (fun l=>l.length<=100000/\iG l) (fun l=> .ay ((iC (bh l)).map bk.enc)))
theorem qU:aN Tryz.prog yc:=X18e_ok.dH Tryz.func153 (by kernel_rfl) (by kernel_rfl) fun l h=>wR l (aL h.1 (by decide)) h.2
@[go_sem] theorem X18f_old{g:FuncId}{xs:List A}(h:g≠153):yc.f g xs=UX.f g xs:=aW.aU h
@[go_sem] theorem X18f_s:yc.pl UX:=⟨fun _=>rfl,fun _=>rfl,rfl,fun _=>rfl,rfl,fun _=>rfl,rfl⟩
theorem JH(l:List bk)(h:l.length<=100000/\iG l):yc.f 153 [.ay (l.map bk.enc)]=some (.ay ((iC (bh l)).map bk.enc)):=aW.aZ (Γ:=UX) (fun i j h=>by simpa[ag,and_assoc]using h) l h
theorem x_rOf{l:List bk}(h:l.length<=100000/\iG l):yc.f 153 [.ay (l.map bk.enc)]=some (.ay ((iC (bh l)).map bk.enc)):=JH l h
theorem X':aQ Tryz.prog yc Tryz.f93.ntmps (Tryz.f93.body.getD .skip)=true:=by kernel_rfl
theorem c_item_In(l:List It)(F:List bk)(hl:l.length<=1000000)(hF:F.length<=100000/\iG F)(hk: ∀x∈l,x.ok):bp Tryz.prog 93 [.ay (l.map It.enc),.ay (F.map bk.enc)] (· = .ay ((ku F l).map It.enc)):=by
 refine ah qU mixed Tryz.func93 rfl (ab rfl) X' ?_;unfold Tryz.f93;have g0:=x_rOf hF;have tk: ∀m:List It,(m.map It.enc).take m.length=m.map It.enc:=fun m=>ad (by simp)
 have gH: ∀s:List UInt8,s.length<=9223372036854775807->Qc.f 105 [.ay ((iC (bh F)).map bk.enc),.str s]=some (.bool (bh F s)):=fun s hs=>by
  have:=oT (l:=iC (bh F)) (s:=s) (aL (wS F) hF.1) (A' _) hs
  rwa [HL (Zo F)]at this
 generalize iC (bh F)=S at*;simp-implicitDefEqProofs (disch:=(first|omega|decide)) only[go_sem,↓reduceIte,seval,g0,aa]
 refine ch 5 7 rfl ?_;refine a_ [1,10,11] (ι:={j:Nat//j<=l.length}) (fun j=>[(12,.int .i64 j.1),(5,.row 0 0 7 (ku F (l.take j.1)).length false)]) (fun j=>[(0,.row 7 ((ku F (l.take j.1)).map It.enc))]) (fun j=>l.length-j.1) ⟨0,by omega⟩ (aw _) ?_ ?_
 · simp-implicitDefEqProofs (disch:=(first|omega|decide)) only[go_sem,↓reduceIte,seval]
   first|done|(simp[ku];done)|exact⟨⟨rfl,rfl⟩,rfl⟩
 · rintro⟨j,hj⟩
   simp only;by_cases mP:j<l.length
   · have ie:(j:Int)<(l.length:Int):=by omega
     have ej:=eG mP;have gr:=gH l[j].key (hk _ (ao mP)).1;have fe:ku F (l.take (j+1))=ku F (l.take j)++(if bh F l[j].key then [l[j]]else []):=jr (f:=fun x:It=>bh F x.key) mP
     have VP:(ku F (l.take j)).length<=1000000:=by
      have:=mi F (l.take j)
      rw[aK]at this;omega
     generalize l[j]=x at*;obtain⟨G,hG⟩: ∃G,ku F (l.take j)=G:=⟨_,rfl⟩
     have Ya:=tk G;rw[hG]at fe VP⊢;cases hr:bh F x.key with
     |true=>
      rw[hr,if_pos rfl]at fe;rw[hr]at gr;simp-implicitDefEqProofs (disch:=(first|omega|decide)) only[go_sem,↓reduceIte,seval,ie,ej,gr,Ya,wrap_i64,aa]
      refine⟨⟨ai _,by omega⟩,⟨j+1,mP⟩,⟨⟨by simp,by rw[fe];simp⟩,by rw[fe,<-jG]⟩,by show l.length-(j+1)<l.length-j;omega⟩
     |false=>
      rw[hr]at fe gr;simp only[az,if_false,bj]at fe;simp-implicitDefEqProofs (disch:=(first|omega|decide)) only[go_sem,↓reduceIte,seval,ie,ej,gr,wrap_i64,aa]
      exact⟨⟨j+1,mP⟩,⟨⟨by simp,by rw[fe]⟩,by rw[fe]⟩,by show l.length-(j+1)<l.length-j;omega⟩
   · have ie: ¬(j:Int)<(l.length:Int):=by omega
     rw[ad (by omega)]
     have Gr:=tk (ku F l)
     simp-implicitDefEqProofs (disch:=(first|omega|decide)) only[go_sem,↓reduceIte,seval,ie,Gr,wrap_i64,aa,ai]
theorem UY:aQ Tryz.prog yc Tryz.f94.ntmps (Tryz.f94.body.getD .skip)=true:=by kernel_rfl
theorem Yb(l:List It)(F:List bk)(hl:l.length<=1000000)(hF:F.length<=100000/\iG F)(hk: ∀x∈l,x.ok):bp Tryz.prog 94 [.ay (l.map It.enc),.ay (F.map bk.enc)] (· = .ay ((ku F l).map It.enc)):=by
 refine ah qU mixed Tryz.func94 rfl (ab rfl) UY ?_;unfold Tryz.f94;have tk: ∀m:List It,(m.map It.enc).take m.length=m.map It.enc:=fun m=>ad (by simp)
 have gH: ∀s:List UInt8,s.length<=9223372036854775807->I5.f 73 [.ay (F.map bk.enc),.str s]=some (.bool (bh F s)):=fun s hs=>n9 (by omega) hF.2 hs;simp-implicitDefEqProofs (disch:=(first|omega|decide)) only[go_sem,↓reduceIte,seval]
 refine ch 5 7 rfl ?_;refine a_ [0,1] (ι:={j:Nat//j<=l.length}) (fun j=>[(6,.int .i64 j.1),(5,.row 0 0 7 (ku F (l.take j.1)).length false)]) (fun j=>[(0,.row 7 ((ku F (l.take j.1)).map It.enc))]) (fun j=>l.length-j.1) ⟨0,by omega⟩ (aw _) ?_ ?_
 · simp-implicitDefEqProofs (disch:=(first|omega|decide)) only[go_sem,↓reduceIte,seval]
   first|done|(simp[ku];done)|exact⟨⟨rfl,rfl⟩,rfl⟩
 · rintro⟨j,hj⟩
   simp only;by_cases mP:j<l.length
   · have ie:(j:Int)<(l.length:Int):=by omega
     have ej:=eG mP;have gr:=gH l[j].key (hk _ (ao mP)).1;have fe:ku F (l.take (j+1))=ku F (l.take j)++(if bh F l[j].key then [l[j]]else []):=jr (f:=fun x:It=>bh F x.key) mP
     have VP:(ku F (l.take j)).length<=1000000:=by
      have:=mi F (l.take j)
      rw[aK]at this;omega
     generalize l[j]=x at*;obtain⟨G,hG⟩: ∃G,ku F (l.take j)=G:=⟨_,rfl⟩
     have Ya:=tk G;rw[hG]at fe VP⊢;cases hr:bh F x.key with
     |true=>
      rw[hr,if_pos rfl]at fe;rw[hr]at gr;simp-implicitDefEqProofs (disch:=(first|omega|decide)) only[go_sem,↓reduceIte,seval,ie,ej,gr,Ya,wrap_i64,aa]
      refine⟨⟨ai _,by omega⟩,⟨j+1,mP⟩,⟨⟨by simp,by rw[fe];simp⟩,by rw[fe,<-jG]⟩,by show l.length-(j+1)<l.length-j;omega⟩
     |false=>
      rw[hr]at fe gr;simp only[az,if_false,bj]at fe;simp-implicitDefEqProofs (disch:=(first|omega|decide)) only[go_sem,↓reduceIte,seval,ie,ej,gr,wrap_i64,aa]
      exact⟨⟨j+1,mP⟩,⟨⟨by simp,by rw[fe]⟩,by rw[fe]⟩,by show l.length-(j+1)<l.length-j;omega⟩
   · have ie: ¬(j:Int)<(l.length:Int):=by omega
     rw[ad (by omega)]
     have Gr:=tk (ku F l)
     simp-implicitDefEqProofs (disch:=(first|omega|decide)) only[go_sem,↓reduceIte,seval,ie,Gr,wrap_i64,aa,ai]
end Go.Proofs.YtfnohjheonlnmaaGreat
namespace Go.Proofs.YtfnohjheonlnmaaGreat
open Go.dF
set_option linter.unusedSimpArgs false
set_option linter.unusedVariables false
theorem N_{p:Pc}{x:List UInt8}:setAt [p] x=if eT p.r x=true then p.s else []:=by unfold setAt;by_cases h:eT p.r x=true<;>simp[h]
theorem te{k:List Pc}{x:List UInt8}{n c:Int}:hk (setAt k x) n c=true ↔∃p∈k,eT p.r x=true/\hk p.s n c=true:=by
 rw[setAt_mem]
 constructor
 · rintro⟨p,hp,h⟩
   rw[N_]at h;split at h
   · rename_i hx;exact⟨p,hp,hx,h⟩
   · simp[hk,bJ,aX]at h
 · rintro⟨p,hp,hx,h⟩
   exact⟨p,hp,by rw[N_,if_pos hx];exact h⟩
theorem w7{p:Pc}{id b:Int}(hid:dJ id=true)(hb:0<=b):vf p id<=b ↔∀c,hk p.s id c=true->c<=b:=by
 unfold vf hk;rw[if_pos hid]
 obtain⟨h1,h2,h3,h4⟩:=most_spec (mD (aX (bJ p.s id)))
 have e: ∀c,aX (fM (aX (bJ p.s id))) c=aX (bJ p.s id) c:=fun c=>tL (Gf _) c;constructor
 · intro h c hc
   have:=h4 c (by rw[e];exact hc)
   omega
 · intro h
   by_cases hz:0<j9 (fM (aX (bJ p.s id)))
   · have:=h3 hz
     rw[e]at this;exact h _ this
   · omega
structure dg(s:bA):Prop where
 id:1<=s.id/\s.id<=16
 ct:0<=s.ct/\s.ct<=1099511627776
 len:s.bq.length<=4096
 fl:cA s.fl=true
 up:s.bq.Pairwise fun x y=>cL x.key y.key=true
 right: ∀x∈s.bq,bQ x=true
 kn:cD s.kn=true
 inF: ∀x n,dJ n=true-> ∀c,hk (setAt s.kn x) n c=true->bh s.fl x=true
 JI: ∀x c,hk (setAt s.kn x) s.id c=true->c<=s.ct
 apart:s.bq.Pairwise fun x y=> ¬(x.rep=y.rep/\x.da=y.da)
 bq: ∀x∈s.bq,bh s.fl x.key=true/\dq s.kn x.key x.rep x.da=true
theorem JJ: ∀{l:List It} {p:Option (List UInt8)},goI p l=true ↔ (∀x∈l,bQ x=true)/\l.Pairwise (fun x y=>cL x.key y.key=true)/\ ∀k,p=some k-> ∀x∈l,cL k x.key=true
 | [],p=>by simp[goI]
 |x::l,p=>by
  simp only[goI,ak,JJ (l:=l),aR,aD,forall_eq_or_imp]
  constructor
  · rintro⟨⟨h1,h2⟩,h3,h4,h5⟩
    have h6:=h5 x.key rfl;refine⟨⟨h1,h3⟩,⟨h6,h4⟩, ?_⟩
    rintro k rfl;exact⟨h2,fun y hy=>fa h2 (h6 y hy)⟩
  · rintro⟨⟨h1,h2⟩,⟨h3,h4⟩,h5⟩
    refine⟨⟨h1, ?_⟩,h2,h4, ?_⟩
    · cases p with
      |none=>rfl
      |some k=>exact(h5 k rfl).1
    · rintro k hk y hy
      obtain rfl:=an hk;exact h3 y hy
theorem rq{l:List It}:gq l=true ↔ l.Pairwise fun x y=> ¬(x.rep=y.rep/\x.da=y.da):=by
 unfold gq;rw[cw,b9]
 constructor
 · intro h i j hi hj Cc
   have h1:=h j (fK.2 hj)
   simp only[uX,ae hj,bT,iL,decide_eq_true_eq]at h1
   exact h1 l[i] (by
    have:l[i]=(l.take j)[i]'(by rw[aK];omega):=by rw[fz]
    rw[this];exact ao _)
 · intro h j hj
   have hj:=fK.1 hj;simp only[uX,ae hj,bT,iL,decide_eq_true_eq]
   intro y hy;obtain⟨i,hi,rfl⟩:=bW hy;rw[aK]at hi;rw[fz]
   exact h i j (by omega) hj (by omega)
theorem dN(s:bA):cq s=true ↔ dg s:=by
 unfold cq;simp only[ak,bT,decide_eq_true_eq,cw]
 constructor
 · rintro⟨⟨⟨⟨⟨⟨⟨⟨⟨h1,h2⟩,h3⟩,h4⟩,h5⟩,h6⟩,h7⟩,h8⟩,h9⟩,h10⟩
   simp only[Jo]at h1 h2;simp at h1 h2;have hid:dJ s.id=true:=eo.2 (by omega)
   have hin:=wZ.1 (by
    have e:fb (cF (c7 s.kn s.fl)) s.kn=fb (cF (c7 s.kn s.fl)) (cF (fF s.kn)):=by rw[jY h6]
    rw[e]at h7;unfold fb at h7
    rwa [decide_eq_true_iff,UJ (ny _ _) (zD _)]at h7)
   unfold hI at h8;rw[w5]at h8;obtain⟨g1,g2,_⟩:=JJ.1 h5
   exact{
    id:=by omega
    ct:=by omega
    len:=h3
    fl:=h4
    up:=g2
    right:=g1
    kn:=h6
    inF:=hin
    JI:=fun x c hc=>by obtain⟨p,hp,_,h⟩:=te.1 hc;exact(w7 hid (by omega)).1 (h8.2 p hp) c h
    apart:=rq.1 h9
    bq:=h10}
 · intro h
   have hid:dJ s.id=true:=eo.2 h.id;have:=h.id;have:=h.ct;refine⟨⟨⟨⟨⟨⟨⟨⟨⟨?_, ?_⟩,h.len⟩,h.fl⟩, ?_⟩,h.kn⟩, ?_⟩, ?_⟩, ?_⟩,h.bq⟩
   · simp[Jo];omega
   · simp[Jo];omega
   · exact JJ.2 ⟨h.right,h.up,fun k hk=>by cases hk⟩
   · have e:fb (cF (c7 s.kn s.fl)) s.kn=fb (cF (c7 s.kn s.fl)) (cF (fF s.kn)):=by rw[jY h.kn]
     rw[e]
     unfold fb;rw[decide_eq_true_iff,UJ (ny _ _) (zD _)]
     exact wZ.2 h.inF
   · unfold hI
     rw[w5]
     refine⟨h.ct.1,fun p hp=>(w7 hid h.ct.1).2 fun c hc=> ?_⟩
     have h1:=(iZ.1 h.kn).1 p hp;unfold jc at h1;simp only[ak]at h1;exact h.JI p.r.lo c (te.2 ⟨p,hp,qK h1.1.1,hc⟩)
   · exact rq.2 h.apart
open Go.zK
theorem JK{key x:List UInt8}{v:eU}{n c:Int}(JL:1<=key.length/\key.length<=16)(hv:cm v=true)(hn:dJ n=true):hk (setAt (eR key [v]) x) n c=true ↔ x=key/\n=v.r/\c=v.c:=by
 have h1: ∀n,dJ n=true-> ∀c,hk (iO (f_ [v])) n c=true ↔ n=v.r/\c=v.c:=fun n hn c=>by
  rw[IF hn c]
  unfold hk;rw[QE,bc]
  constructor
  · rintro⟨e,_⟩;rw[<-e];exact⟨rfl,rfl⟩
  · rintro⟨e1,e2⟩
    have e:(⟨n,c⟩:eU)=v:=P_ e1 e2;rw[e];exact⟨rfl,hv⟩
 have hr:dJ v.r=true:=by unfold cm at hv;simp only[ak,decide_eq_true_eq]at hv;exact eo.2 ⟨hv.1.1.1,hv.1.1.2⟩
 have eH:iO (f_ [v])≠ []:=fun e=>by
  have:=(h1 v.r hr v.c).2 ⟨rfl,rfl⟩
  rw[e]at this;simp[hk,bJ,aX]at this
 have e:eR key [v]=[⟨sj key,iO (f_ [v])⟩]:=by unfold eR;rw[if_pos ⟨by simpa using JL,eH⟩]
 rw[e,te]
 constructor
 · rintro⟨p,hp,hx,h⟩
   obtain rfl:=bc.1 hp;rw[Cj JL.2]at hx;exact⟨by simpa using hx,(h1 n hn c).1 h⟩
 · rintro⟨rfl,h⟩
   exact⟨_,bc.2 rfl,by rw[Cj JL.2];simp,(h1 n hn c).2 h⟩
theorem nO{x:It}(h:bQ x=true):dJ x.rep=true/\(1<=x.key.length/\x.key.length<=16)/\cm ⟨x.rep,x.da⟩=true:=by
 unfold bQ at h;simp only[ak,decide_eq_true_eq]at h;have hv:=h.1.1.1.1.1.1.2;refine⟨?_,h.1.1.1.1.1.1.1,hv⟩
 unfold cm at hv;simp only[ak,decide_eq_true_eq]at hv;exact eo.2 ⟨hv.1.1.1,hv.1.1.2⟩
theorem iq{k:List Pc}{x:List UInt8}{n c:Int}(hn:dJ n=true):dq k x n c=hk (setAt k x) n c:=by rw[hasP_at];unfold uK hk;rw[hn,aB]
def ig(s:bA)(x:It):bA:=⟨s.id,s.fl,bM (x::s.bq),cF (fF (s.kn++eR x.key [⟨x.rep,x.da⟩])),s.ct+1⟩
theorem up_len{l:List It}{x:It}(hr: ∀y∈x::l,bQ y=true)(hl:l.Pairwise fun a b=>cL a.key b.key=true)(hm:x.key∈l.map (·.key)):(bM (x::l)).length<=l.length:=by
 obtain⟨h1,h2⟩:=ke (x::l)
 have sub: ∀z∈bM (x::l),z.key∈l.map (·.key):=fun z hz=>by
  rcases aD.1 (fB hz).1 with rfl|h
  · exact hm
  · exact bZ.2 ⟨z,h,rfl⟩
 have nd:((bM (x::l)).map (·.key)).Nodup:=by
  unfold List.Nodup;rw[j7]
  exact h1.imp fun{a b} h e=>by rw[e,lt_irrefl]at h;cases h
 have key: ∀(a b:List (List UInt8)),a.Nodup->(∀z∈a,z∈b)->a.length<=b.length:=fun a=>by
  induction a with
  |nil=>intro b _ _;simp
  |cons y a ih=>
   intro b hn hs;obtain⟨n1,n2⟩:=iy.1 hn;have hy:=hs y (by simp)
   have:=ih (b.erase y) n2 fun z hz=>by
    have eH:z≠y:=fun e=>n1 (e▸hz)
    exact(fp eH).2 (hs z (eF _ hz))
   rw[mg hy]at this;have:0<b.length:=so hy;simp only[aG];omega
 have:=key _ _ nd fun z hz=>by obtain⟨w,hw,rfl⟩:=bZ.1 hz;exact sub w hw
 simpa using this
theorem put_right{s:bA}{x:It}(h:dg s)(hx:bQ x=true)(hr:x.rep=s.id)(hc:x.da=s.ct+1)(hf:bh s.fl x.key=true)(hm:s.ct<1099511627776)(hl:s.bq.length<4096\/x.key∈s.bq.map (·.key)):dg (ig s x):=by
 obtain⟨fY,JL,hv⟩:=nO hx
 have nn: ∀y∈x::s.bq,bQ y=true:=fun y hy=>by
  rcases aD.1 hy with rfl|hy
  · exact hx
  · exact h.right y hy
 have hj: ∀z n,dJ n=true-> ∀c,hk (setAt (cF (fF (s.kn++eR x.key [⟨x.rep,x.da⟩]))) z) n c=true ↔ hk (setAt s.kn z) n c=true\/(z=x.key/\n=x.rep/\c=x.da):=fun z n hn c=>by rw[iF hn,bE,JK JL hv hn]
 have hct:=h.ct;obtain⟨m1,m2⟩:=ke (x::s.bq)
 exact{
  id:=h.id
  ct:=by show 0<=s.ct+1/\s.ct+1<=_;omega
  len:=by
   show(bM (x::s.bq)).length<=4096;rcases hl with hl|hl
   · have:=mK (x::s.bq);simp only[aG]at this;omega
   · exact aL (up_len nn h.up hl) h.len
  fl:=h.fl
  up:=m1
  right:=fun y hy=>(fB hy).2
  kn:=km _
  inF:=fun z n hn c hc=>by
   rcases(hj z n hn c).1 hc with g|⟨rfl,_,_⟩
   · exact h.inF z n hn c g
   · exact hf
  JI:=fun z c hc=>by
   show c<=s.ct+1;rcases(hj z s.id (eo.2 h.id) c).1 hc with g|⟨_,_,e⟩
   · have:=h.JI z c g;omega
   · omega
  apart:=by
   show(bM (x::s.bq)).Pairwise _
   have KH: ∀y∈s.bq,¬(y.rep=x.rep/\y.da=x.da):=fun y hy ⟨e1,e2⟩=>by
    obtain⟨Ga,_,_⟩:=nO (h.right y hy)
    have:=(h.bq y hy).2;rw[iq Ga,e1,hr]at this;have:=h.JI _ _ this;omega
   have py: ∀y∈bM (x::s.bq),y=x\/y∈s.bq:=fun y hy=>aD.1 (fB hy).1;refine qV ?_ m1;intro a b ha hb S7 ⟨e1,e2⟩
   rcases py a ha with rfl|OP<;>rcases py b hb with rfl|vN
   · rw[lt_irrefl]at S7;cases S7
   · exact KH b vN ⟨e1.symm,e2.symm⟩
   · exact KH a OP ⟨e1,e2⟩
   · obtain⟨i,hi,rfl⟩:=bW OP
     obtain⟨j,BM,rfl⟩:=bW vN;have hp:=b9.1 h.apart;rcases j6 i j with r|r|r
     · exact hp i j hi BM r ⟨e1,e2⟩
     · subst r;rw[lt_irrefl]at S7;cases S7
     · exact hp j i BM hi r ⟨e1.symm,e2.symm⟩
  bq:=fun y hy=>by
   show bh s.fl y.key=true/\dq (cF (fF (s.kn++eR x.key [⟨x.rep,x.da⟩]))) y.key y.rep y.da=true;rcases aD.1 (fB hy).1 with rfl|Aj
   · exact⟨hf,by rw[iq fY];exact(hj _ _ fY _).2 (.inr ⟨rfl,rfl,rfl⟩)⟩
   · obtain⟨Ga,_,_⟩:=nO (h.right y Aj)
     obtain⟨g1,g2⟩:=h.bq y Aj;rw[iq Ga]at g2;exact⟨g1,by rw[iq Ga];exact(hj _ _ Ga _).2 (.inl g2)⟩}
def yJ(s:bA)(l:List It)(k:List Pc):bA:=⟨s.id,s.fl,bM (s.bq++l),cF (fF (s.kn++k)),s.ct⟩
theorem JM{s:bA}{l:List It}{k:List Pc}(h:dg s)(hf: ∀x∈l,bh s.fl x.key=true)(qD: ∀x n,dJ n=true-> ∀c,hk (setAt k x) n c=true->bh s.fl x=true)
 (hk2: ∀x c,hk (setAt k x) s.id c=true->c<=s.ct) (hl: ∀x∈l,dq s.kn x.key x.rep x.da=true\/dq k x.key x.rep x.da=true)
 (ha:(bM (s.bq++l)).Pairwise fun x y=> ¬(x.rep=y.rep/\x.da=y.da)) (hn:(bM (s.bq++l)).length<=4096):dg (yJ s l k):=by
 have hj: ∀z n,dJ n=true-> ∀c,hk (setAt (cF (fF (s.kn++k))) z) n c=true ↔ hk (setAt s.kn z) n c=true\/hk (setAt k z) n c=true:=fun z n hn c=>by rw[iF hn,bE]
 obtain⟨m1,m2⟩:=ke (s.bq++l)
 exact{
  id:=h.id
  ct:=h.ct
  len:=hn
  fl:=h.fl
  up:=m1
  right:=fun y hy=>(fB hy).2
  kn:=km _
  inF:=fun z n hn c hc=>by
   rcases(hj z n hn c).1 hc with g|g
   · exact h.inF z n hn c g
   · exact qD z n hn c g
  JI:=fun z c hc=>by
   rcases(hj z s.id (eo.2 h.id) c).1 hc with g|g
   · exact h.JI z c g
   · exact hk2 z c g
  apart:=ha
  bq:=fun y hy=>by
   show bh s.fl y.key=true/\dq (cF (fF (s.kn++k))) y.key y.rep y.da=true;obtain⟨Ga,_,_⟩:=nO (fB hy).2;rw[iq Ga,hj _ _ Ga,<-iq Ga,<-iq Ga]
   rcases aJ.1 (fB hy).1 with Aj|Aj
   · exact⟨(h.bq y Aj).1,.inl (h.bq y Aj).2⟩
   · exact⟨hf y Aj,hl y Aj⟩}
theorem JN(x:It):bt x x=false:=by simp[bt,EN]
theorem bt_tr{x y z:It}(h:bt x y=true)(h':bt y z=true):bt x z=true:=by simp only[bt,bE,ak,decide_eq_true_eq,lp]at*;omega
theorem best_max{l:List It}{b:It}(h:kA bt l=some b): ∀x∈l,bt x b=false:=by
 cases l with
 |nil=>cases h
 |cons y l=>
  simp only[kA,bf]at h
  have key: ∀(l p:List It) (y:It),(∀x∈p,bt x y=false)-> ∀x∈p++l,bt x (l.foldl (better bt) y)=false:=fun l=>by
   induction l with
   |nil=>intro p y hp x hx;exact hp x (by simpa using hx)
   |cons z l ih=>
    intro p y hp x hx;rw[cg]
    have e:p++z::l=(p++[z])++l:=by simp
    rw[e]at hx;refine ih (p++[z]) _ (fun w hw=> ?_) x hx;unfold better;rcases aJ.1 hw with hw|hw
    · split
      · rename_i hz
        cases g:bt w z with
        |false=>rfl
        |true=>
         have:=bt_tr g hz;rw[hp w hw]at this;cases this
      · exact hp w hw
    · obtain rfl:=bc.1 hw
      split
      · exact JN w
      · rename_i hz;simpa using hz
  intro x hx;have:=key l [y] y (fun x hx=>by obtain rfl:=bc.1 hx;exact JN x) x (by simpa using hx)
  rw[h]at this;exact this
theorem merge_has{l:List It}{x:It}(hx:x∈l)(hr:bQ x=true): ∃y∈bM l,y.key=x.key/\bt x y=false:=by
 cases hb:kA bt ((l.filter bQ).filter fun y=>x.key==y.key)with
 |none=>
  have:=C_ hb;have hm:x∈(l.filter bQ).filter fun y=>x.key==y.key:=aP.2 ⟨aP.2 ⟨hx,hr⟩,by simp⟩
  rw[this]at hm;cases hm
 |some y=>
  have hy:=(aP.1 (qa hb)).2;have hy:x.key=y.key:=by simpa using hy
  refine⟨y,((ke l).2 y).2 (by rw[<-hy];exact hb),hy.symm,best_max hb x (aP.2 ⟨aP.2 ⟨hx,hr⟩,by simp⟩)⟩
set_option maxRecDepth 20000
set_option maxHeartbeats 8000000
def Oa:It:=⟨[],0,0,0,0,false,[]⟩
def iu(l:List It)(k:List UInt8):Option It:=l.find? fun x=>x.key==k
def FA:Option It->A
 |some x=> .fq [x.enc,.bool true]
 |none=> .fq [Oa.enc,.bool false]
theorem QU:aQ Tryz.prog yc Tryz.f58.ntmps (Tryz.f58.body.getD .skip)=true:=by kernel_rfl
theorem UZ(s:bA)(k:List UInt8)(hl:s.bq.length<=1000000):bp Tryz.prog 58 [s.enc,.str k] (· =FA (iu s.bq k)):=by
 refine ah qU mixed Tryz.func58 rfl (ab rfl) QU ?_;unfold Tryz.f58;obtain⟨id,F,I,K,ct⟩:=s;simp only[bA.enc,bA.cells]at*;simp-implicitDefEqProofs (disch:=(first|omega|decide)) only[go_sem,↓reduceIte,seval,aa]
 refine a_ [1,2,4,9,10] (ι:={i:Nat//i<=I.length/\iu I k=iu (I.drop i) k}) (fun i=>[(11,.int .i64 i.1)]) (fun _=>[]) (fun i=>I.length-i.1) ⟨0,by omega,rfl⟩ (aw _) ?_ ?_
 · simp-implicitDefEqProofs (disch:=(first|omega|decide)) only[go_sem,↓reduceIte,seval]
   try rfl
 · rintro⟨i,hi,hd⟩
   simp only;by_cases bo:i<I.length
   · have aH:(i:Int)<(I.length:Int):=by omega
     have e1:=eG bo;rw[ax bo]at hd;generalize I[i]=x at*;cases hk:x.key==k with
     |true=>
      have hg:iu I k=some x:=by rw[hd];simp[iu,hk]
      rw[hg]
      simp-implicitDefEqProofs (disch:=(first|omega|decide)) only[go_sem,↓reduceIte,seval,aH,e1,hk,wrap_i64,aa]
      rfl
     |false=>
      have hg:iu I k=iu (I.drop (i+1)) k:=by rw[hd];simp[iu,hk]
      simp-implicitDefEqProofs (disch:=(first|omega|decide)) only[go_sem,↓reduceIte,seval,aH,e1,hk,wrap_i64,aa]
      exact⟨⟨i+1,bo,hg⟩,by simp,by show I.length-(i+1)<I.length-i;omega⟩
   · have aH: ¬(i:Int)<(I.length:Int):=by omega
     rw[aC (by omega)]at hd;have hg:iu I k=none:=hd;rw[hg]
     simp-implicitDefEqProofs (disch:=(first|omega|decide)) only[go_sem,↓reduceIte,seval,aH,aa]
     rfl
def rZ(l:List It)(k:List UInt8):Int:=match l.findIdx? fun x=>x.key==k with|some i=>(i:Int)|none=> -1
theorem QV:aQ Tryz.prog yc Tryz.f112.ntmps (Tryz.f112.body.getD .skip)=true:=by kernel_rfl
theorem U0(l:List It)(hl:l.length<=4611686018427387904)(ho:sS l):bp Tryz.prog 112 [.ay (l.map It.enc)] (· = .bool (eZ l)):=by
 refine ah qU mixed Tryz.func112 rfl (ab rfl) QV ?_;unfold Tryz.f112;simp-implicitDefEqProofs (disch:=(first|omega|decide)) only[go_sem,↓reduceIte,seval,aa]
 refine a_ [0,5,6] (ι:={k:Nat//k<=l.length/\eZ l=goI (vg l k) (l.drop k)}) (fun p=>[(7,.int .i64 p.1)]) (fun _=>[]) (fun p=>l.length-p.1) ⟨0,by omega,rfl⟩ (aw _) ?_ ?_
 · simp-implicitDefEqProofs (disch:=(first|omega|decide)) only[go_sem,↓reduceIte,seval]
 · rintro⟨k,hk,hd⟩
   simp only;by_cases bo:k<l.length
   · have aH:(k:Int)<(l.length:Int):=by omega
     have e1:=eG bo;have zH:=ho _ (ao bo)
     have VM:vg l (k+1)=some l[k].key:=by simp[vg,bo]
     rw[ax bo]at hd;simp only[goI]at hd;rw[<-VM]at hd;generalize hx:l[k]=x at*;obtain⟨key,rep,da,du,prio,dead,body⟩:=x;have g1:=Z8 zH;simp only at hd e1 zH;cases hr:bQ ⟨key,rep,da,du,prio,dead,body⟩with
     |false=>
      rw[hr]at g1 hd;rw[aI,aI]at hd;simp-implicitDefEqProofs (disch:=(first|omega|decide)) only[go_sem,↓reduceIte,seval,aH,e1,g1,hd,aa]
     |true=>
      rw[hr]at g1 hd;cases k with
      |zero=>
       rw[show vg l 0=none from rfl,aB,aB]at hd;have hlt0:(0:Int)<(l.length:Int):=by omega
       simp-implicitDefEqProofs (disch:=(first|omega|decide)) only[go_sem,↓reduceIte,seval,aH,hlt0,e1,g1,wrap_i64,aa]
       exact⟨⟨1,bo,hd⟩,by simp,by show l.length-1<l.length-0;omega⟩
      |succ j=>
       have hj:j<l.length:=by omega
       have e2:=eG hj;have hoy:=ho _ (ao hj)
       have Pu:vg l (j+1)=some l[j].key:=by simp[vg,hj]
       rw[Pu]at hd;generalize hy:l[j]=y at*;obtain⟨UN,Md,QM,rank',prio',dead',body'⟩:=y;simp only at hd e2 hoy;have c0:(0:Int)<((j+1:Nat):Int):=by omega
       have c1:(((j+1:Nat):Int)-1).toNat=j:=by omega
       have c2:(0:Int)<=((j+1:Nat):Int)-1:=by omega
       have c3:((j+1:Nat):Int)-1<(l.length:Int):=by omega
       have g2:=NX (a:=UN) (b:=key) ⟨hoy.1,zH.1⟩
       cases hb:cL UN key with
       |false=>
          rw[hb]at hd;rw[bN,aI]at hd;simp-implicitDefEqProofs (disch:=(first|omega|decide)) only[go_sem,↓reduceIte,seval,aH,e1,e2,g1,g2,hb,c0,c1,c2,c3,hd,wrap_i64,aa]
       |true=>
          rw[hb]at hd;rw[cv,aB]at hd;simp-implicitDefEqProofs (disch:=(first|omega|decide)) only[go_sem,↓reduceIte,seval,aH,e1,e2,g1,g2,hb,c0,c1,c2,c3,wrap_i64,aa]
          exact⟨⟨j+1+1,bo,hd⟩,by simp,by show l.length-(j+1+1)<l.length-(j+1);omega⟩
   · have aH: ¬(k:Int)<(l.length:Int):=by omega
     rw[aC (by omega)]at hd;have hd:eZ l=true:=hd;simp-implicitDefEqProofs (disch:=(first|omega|decide)) only[go_sem,↓reduceIte,seval,aH,hd,aa]
theorem Mr:aQ Tryz.prog yc Tryz.f116.ntmps (Tryz.f116.body.getD .skip)=true:=by kernel_rfl
theorem QW(k:List Pc)(id:Int)(hk:mH k):bp Tryz.prog 116 [.ay (k.map Pc.enc),.int .i64 id] (· = .int .i64 (hI k id)):=by
 refine ah qU mixed Tryz.func116 rfl (ab rfl) Mr ?_;unfold Tryz.f116;have hkl:=hk.1.1.1;have m0:hI (k.take 0) id=0:=rfl;simp-implicitDefEqProofs (disch:=(first|omega|decide)) only[go_sem,↓reduceIte,seval,aa]
 refine a_ [1,8,9] (ι:={i:Nat//i<=k.length}) (fun p=>[(10,.int .i64 p.1),(5,.int .i64 (hI (k.take p.1) id))]) (fun _=>[]) (fun p=>k.length-p.1) ⟨0,by omega⟩ (aw _) ?_ ?_
 · simp-implicitDefEqProofs (disch:=(first|omega|decide)) only[go_sem,↓reduceIte,seval,m0]
   try rfl
 · rintro⟨i,hi⟩
   simp only;by_cases bo:i<k.length
   · have aH:(i:Int)<(k.length:Int):=by omega
     have e1:=kJ bo;have hm:=Z9 hk (ao bo)
     have g1:=l_Most (s:=k[i].s) (n:=id) hm.1;have e3:(if dJ id=true then j9 (fM (aX (bJ k[i].s id)))else 0)=vf k[i] id:=rfl;rw[e3]at g1;have hs:=Jr (id:=id) bo;generalize vf k[i] id=m at*;obtain⟨a,ha⟩: ∃a,hI (k.take i) id=a:=⟨_,rfl⟩
     rw[ha]at hs⊢;have Sf:=max_if a m;generalize k[i]=p at*;obtain⟨⟨lo,jU,op⟩,ks⟩:=p;simp only at e1 g1;simp-implicitDefEqProofs (disch:=(first|omega|decide)) only[go_sem,↓reduceIte,seval,aH,e1,g1,wrap_i64,aa]
     exact⟨⟨i+1,bo⟩,⟨by simp,by rw[hs];exact Sf⟩,by show k.length-(i+1)<k.length-i;omega⟩
   · have aH: ¬(i:Int)<(k.length:Int):=by omega
     rw[ad (by omega)]
     simp-implicitDefEqProofs (disch:=(first|omega|decide)) only[go_sem,↓reduceIte,seval,aH,aa]
def Yc:aW:={yc with fS:=fun n=>if n=7 then [[999999,0]]else []}
theorem X23a_ok:aN Tryz.prog Yc:=⟨qU.f,qU.hp⟩
@[go_sem] theorem X23a_f:Yc.f=yc.f:=rfl
@[go_sem] theorem X23a_eff{g:FuncId}:Yc.sg g=false:=rfl
@[go_sem] theorem X23a_fix{n:Nat}:Yc.fix n=false:=rfl
@[go_sem] theorem X23a_ords7:Yc.fS 7=[[999999,0]]:=rfl
@[go_sem] theorem X23a_ords{n:Nat}(h:n≠7):Yc.fS n=[]:=if_neg h
def vj(x:It):eU:=⟨x.rep,x.da⟩
theorem U3: ∀{s:List eU},s.Pairwise (fun x y=> ¬lL y x<0)->(cU s).Pairwise (fun a b=>EN a b=true)
 | [],_=>by simp[cU]
 | [x],_=>by simp[cU]
 |x::y::s,h=>by
  rw[aR]at h;have ih:=U3 h.2;simp only[cU]
  split
  · exact ih
  · rename_i eH
    have hle: ∀a,¬lL a x<0->a≠x->EN x a=true:=fun a h1 h2=>by
     rw[Gl,lp]at h1;rw[lp]
     have hc: ¬(x.r=a.r/\x.c=a.c):=fun⟨p,q⟩=>h2 (P_ p q).symm;omega
    have Cr:=hle y (h.1 y (by simp)) (fun e=>eH e.symm)
    rw[aR]
    refine⟨fun z hz=> ?_,ih⟩
    rw[rn]at hz;rcases aD.1 hz with rfl|hz
    · exact Cr
    · have h3:=(aR.1 h.2).1 z hz
      rw[Gl,lp]at h3;rw[lp]at Cr⊢;omega
theorem sorted_lt(l:List eU):(jN l).Pairwise (fun a b=>a≠b):=by
 have hp:=((i_ swoV (l.filter cm)).2)
 unfold jN;exact(U3 hp).imp fun{a b} h e=>by rw[e,lp]at h;omega
theorem JO: ∀{s:List eU},s.Nodup->cU s=s
 | [],_=>rfl
 | [x],_=>rfl
 |x::y::s,h=>by
  have eH:x≠y:=fun e=>(iy.1 h).1 (by rw[e];simp)
  simp only[cU]
  rw[if_neg eH,JO (iy.1 h).2]
theorem Yd{l:List eU}(h: ∀v∈l,cm v=true):(jN l).length=l.length ↔ l.Nodup:=by
 have hf:l.filter cm=l:=dv.2 h;have hp:=(i_ swoV (l.filter cm)).1;rw[hf]at hp;constructor
 · intro hl
   have hs:cU (gZ lL l)=gZ lL l:=by
    refine(NR _).eq_of_length ?_;have:(jN l).length=(cU (gZ lL l)).length:=by unfold jN;rw[hf]
    rw[<-this,hl,hp.length_eq]
   have h2:=sorted_lt l;unfold jN at h2;rw[hf,hs]at h2;exact hp.nodup_iff.1 h2
 · intro hn
   have h2:(gZ lL l).Nodup:=hp.nodup_iff.2 hn;have hs:cU (gZ lL l)=gZ lL l:=by exact JO h2
   unfold jN;rw[hf,hs,hp.length_eq]
theorem U4(l:List It):gq l=decide ((l.map vj).Nodup):=by
 rw[bS,rq,decide_eq_true_iff,List.Nodup,j7]
 constructor
 · intro h
   exact h.imp fun{a b} S7 e=>S7 ⟨congrArg eU.r e,congrArg eU.c e⟩
 · intro h
   exact h.imp fun{a b} S7 ⟨e1,e2⟩=>S7 (P_ e1 e2)
theorem JP:aQ Tryz.prog Yc Tryz.f117.ntmps (Tryz.f117.body.getD .skip)=true:=by kernel_rfl
theorem Ms(l:List It)(hl:l.length<=1000000)(hr: ∀x∈l,bQ x=true):bp Tryz.prog 117 [.ay (l.map It.enc)] (· = .bool (gq l)):=by
 refine ah X23a_ok mixed Tryz.func117 rfl (ab rfl) JP ?_;unfold Tryz.f117;have tk: ∀m:List eU,(m.map eU.enc).take m.length=m.map eU.enc:=fun m=>ad (by simp)
 simp-implicitDefEqProofs (disch:=(first|omega|decide)) only[go_sem,↓reduceIte,seval,aa]
 refine ch 3 2 rfl ?_;refine a_ [0,6,7] (ι:={k:Nat//k<=l.length}) (fun p=>[(8,.int .i64 p.1),(3,.row 0 0 2 p.1 false)]) (fun p=>[(0,.row 2 (((l.take p.1).map vj).map eU.enc))]) (fun p=>l.length-p.1) ⟨0,by omega⟩ (aw _) ?_ ?_
 · simp-implicitDefEqProofs (disch:=(first|omega|decide)) only[go_sem,↓reduceIte,seval]
   first|done|simp
 · rintro⟨k,hk⟩
   simp only;by_cases bo:k<l.length
   · have aH:(k:Int)<(l.length:Int):=by omega
     have e1:=eG bo;have fe:((l.take (k+1)).map vj).map eU.enc=((l.take k).map vj).map eU.enc++[.agg [.int .i64 l[k].rep,.int .i64 l[k].da]]:=by rw[<-ar bo,bz,bz];rfl
     have xw:((l.take k).map vj).length=k:=by rw[aa,aK];omega
     have tkm:=tk ((l.take k).map vj)
     rw[xw]at tkm;generalize(l.take k).map vj=m at*;generalize l[k]=x at*;simp-implicitDefEqProofs (disch:=(first|omega|decide)) only[go_sem,↓reduceIte,seval,aH,e1,tkm,xw,wrap_i64,aa]
     exact⟨⟨ai _,by omega⟩,⟨k+1,bo⟩,⟨⟨by simp,rfl⟩,fe.symm⟩,by show l.length-(k+1)<l.length-k;omega⟩
   · have aH: ¬(k:Int)<(l.length:Int):=by omega
     obtain rfl:k=l.length:=by omega
     rw[ad (ai _)]
     have tkm:=tk (l.map vj)
     rw[aa]at tkm;have hrv: ∀v∈l.map vj,cm v=true:=fun v hv=>by obtain⟨x,hx,rfl⟩:=bZ.1 hv;have:=hr x hx;exact(nO this).2.2
     have gs:=Us (l:=l.map vj) (by rw[aa];exact hl)
     have hsa:=Yd hrv;rw[aa]at hsa;rw[U4]
     have hvl:(l.map vj).length=l.length:=aa _;generalize l.map vj=vs at*;generalize jN vs=sv at*;have nr:((sv.length:Int)==(l.length:Int))=decide vs.Nodup:=by rw[bS,beq_iff_eq,decide_eq_true_iff,<-hsa];omega
     simp-implicitDefEqProofs (disch:=(first|omega|decide)) only[go_sem,↓reduceIte,seval,aH,gs,tkm,hvl,nr,aa,ai]
def Ye:aW:=yc.add 112 (entry (fun(l:List It)=>[.ay (l.map It.enc)]) (fun l=>l.length<=1000000/\sS l) (fun l=> .bool (eZ l)))
theorem Y23a_ok:aN Tryz.prog Ye:=qU.dH Tryz.func112 (by kernel_rfl) (by kernel_rfl) fun l h=>U0 l (aL h.1 (by decide)) h.2
@[go_sem] theorem Y23a_old{g:FuncId}{xs:List A}(h:g≠112):Ye.f g xs=yc.f g xs:=aW.aU h
theorem JQ(l:List It)(h:l.length<=1000000/\sS l):Ye.f 112 [.ay (l.map It.enc)]=some (.bool (eZ l)):=aW.aZ (Γ:=yc) (fun i j h=>by simpa[ag,and_assoc]using h) l h
def Yf:aW:=Ye.add 116 (entry (fun(v:List Pc×Int)=>[.ay (v.1.map Pc.enc),.int .i64 v.2]) (fun v=>mH v.1) (fun v=> .int .i64 (hI v.1 v.2)))
theorem Y23b_ok:aN Tryz.prog Yf:=Y23a_ok.dH Tryz.func116 (by kernel_rfl) (by kernel_rfl) fun v h=>QW v.1 v.2 h
@[go_sem] theorem Y23b_old{g:FuncId}{xs:List A}(h:g≠116):Yf.f g xs=Ye.f g xs:=aW.aU h
theorem FB(v:List Pc×Int)(h:mH v.1):Yf.f 116 [.ay (v.1.map Pc.enc),.int .i64 v.2]=some (.int .i64 (hI v.1 v.2)):=aW.aZ (Γ:=Ye) (fun i j h=>by simpa[ag,and_assoc]using h) v h
def Yg:aW:=Yf.add 117 (entry (fun(l:List It)=>[.ay (l.map It.enc)]) (fun l=>l.length<=1000000/\ ∀x∈l,bQ x=true) (fun l=> .bool (gq l)))
theorem Y23c_ok:aN Tryz.prog Yg:=Y23b_ok.dH Tryz.func117 (by kernel_rfl) (by kernel_rfl) fun l h=>Ms l h.1 h.2
@[go_sem] theorem Y23c_old{g:FuncId}{xs:List A}(h:g≠117):Yg.f g xs=Yf.f g xs:=aW.aU h
theorem Dd(l:List It)(h:l.length<=1000000/\ ∀x∈l,bQ x=true):Yg.f 117 [.ay (l.map It.enc)]=some (.bool (gq l)):=aW.aZ (Γ:=Yf) (fun i j h=>by simpa[ag,and_assoc]using h) l h
def U5:aW:=Yg.add 111 (entry (fun(l:List bk)=>[.ay (l.map bk.enc)]) (fun l=>l.length<=100000/\iG l) (fun l=> .bool (cA l)))
theorem Y23d_ok:aN Tryz.prog U5:=Y23c_ok.dH Tryz.func111 (by kernel_rfl) (by kernel_rfl) fun l h=>wJ l (aL h.1 (by decide)) h.2
@[go_sem] theorem Y23d_old{g:FuncId}{xs:List A}(h:g≠111):U5.f g xs=Yg.f g xs:=aW.aU h
theorem Bq(l:List bk)(h:l.length<=100000/\iG l):U5.f 111 [.ay (l.map bk.enc)]=some (.bool (cA l)):=aW.aZ (Γ:=Yg) (fun i j h=>by simpa[ag,and_assoc]using h) l h
def QX:aW:=U5.add 58 (entry (fun(v:bA×List UInt8)=>[v.1.enc,.str v.2]) (fun v=>v.1.bq.length<=1000000) (fun v=>FA (iu v.1.bq v.2)))
theorem aag:aN Tryz.prog QX:=Y23d_ok.dH Tryz.func58 (by kernel_rfl) (by kernel_rfl) fun v h=>UZ v.1 v.2 h
@[go_sem] theorem Y23e_old{g:FuncId}{xs:List A}(h:g≠58):QX.f g xs=U5.f g xs:=aW.aU h
@[go_sem] theorem Y23e_s:QX.pl U5:=⟨fun _=>rfl,fun _=>rfl,rfl,fun _=>rfl,rfl,fun _=>rfl,rfl⟩
theorem JR(v:bA×List UInt8)(h:v.1.bq.length<=1000000):QX.f 58 [v.1.enc,.str v.2]=some (FA (iu v.1.bq v.2)):=aW.aZ (Γ:=U5) (fun i j h=>by simpa[ag,and_assoc]using h) v h
theorem y_List{l:List It}(h:l.length<=1000000/\sS l):Ye.f 112 [.ay (l.map It.enc)]=some (.bool (eZ l)):=JQ l h
theorem y_most{k:List Pc}{id:Int}(h:mH k):Yf.f 116 [.ay (k.map Pc.enc),.int .i64 id]=some (.int .i64 (hI k id)):=FB (k,id) h
theorem aah{l:List It}(h:l.length<=1000000/\ ∀x∈l,bQ x=true):Yg.f 117 [.ay (l.map It.enc)]=some (.bool (gq l)):=Dd l h
theorem y_rRight{l:List bk}(h:l.length<=100000/\iG l):U5.f 111 [.ay (l.map bk.enc)]=some (.bool (cA l)):=Bq l h
theorem U6{s:bA}{k:List UInt8}(h:s.bq.length<=1000000):QX.f 58 [.agg [.int .i64 s.id,.ay (s.fl.map bk.enc),.ay (s.bq.map It.enc),.ay (s.kn.map Pc.enc),.int .i64 s.ct],.str k]=some (FA (iu s.bq k)):=JR (s,k) h
theorem JS:aQ Tryz.prog QX Tryz.f56.ntmps (Tryz.f56.body.getD .skip)=true:=by kernel_rfl
theorem yK(s:bA)(h:fV s):bp Tryz.prog 56 [s.enc] (· = .bool (cq s)):=by
 refine ah aag mixed Tryz.func56 rfl (ab rfl) JS ?_;unfold Tryz.f56;obtain⟨⟨hf1,hf2⟩,⟨hi1,hi2⟩,⟨qD,hk2⟩,hr⟩:=h;have g1:=y_rRight (l:=s.fl) ⟨by omega,hf2⟩
 have g2:=y_List (l:=s.bq) ⟨hi1,hi2⟩
 have g3:=Qk qD.1;have g4:=zB (k:=s.kn) (l:=s.fl) qD.1 (by omega) hf2;rw[Jk]at g4;have ea:fF (cF (c7 s.kn s.fl))=c7 s.kn s.fl:=Jj (ny _ _) (zF _ _)
 have g5:cD s.kn=true->_:=fun OZ=>p_Same (a:=cF (c7 s.kn s.fl)) (b:=s.kn) hr qD.1 (by rw[ea];exact hr) (by rw[jY OZ];exact qD.1)
 have g5:cD s.kn=true->UB.f 114 [.ay ((cF (c7 s.kn s.fl)).map Pc.enc),.ay (s.kn.map Pc.enc)]=some (.bool (fb (cF (c7 s.kn s.fl)) s.kn)):=fun OZ=>by
  have:=g5 OZ
  rwa [ea,jY OZ]at this
 have g6:=y_most (id:=s.id) qD;have g7:eZ s.bq=true->_:=fun hh=>aah (l:=s.bq) ⟨hi1,(JJ.1 hh).1⟩
 have g8: ∀x:List UInt8,x.length<=9223372036854775807->Qc.f 105 [.ay (s.fl.map bk.enc),.str x]=some (.bool (bh s.fl x)):=fun x hx=>oT (by omega) hf2 hx;have g9: ∀(x:List UInt8) (n c:Int),x.length<=9223372036854775807->C1.f 99 [.ay (s.kn.map Pc.enc),.str x,.agg [.int .i64 n,.int .i64 c]]=some (.bool (dq s.kn x n c)):=fun x n c hx=>N3 qD.1 hx;have hR:cq s=(!(decide (s.id<1)||decide (16<s.id))&& !(decide (s.ct<0)||decide (1099511627776<s.ct))&&decide (s.bq.length<=4096)&&cA s.fl&&eZ s.bq&&cD s.kn&&fb (cF (c7 s.kn s.fl)) s.kn&&decide (hI s.kn s.id<=s.ct)&&gq s.bq&&s.bq.all fun x=>bh s.fl x.key&&dq s.kn x.key x.rep x.da):=rfl;rw[hR]
 obtain⟨id,F,I,K,ct⟩:=s;simp only[bA.enc,bA.cells]at*;clear ea hR;generalize cF (c7 K F)=Q at*;generalize hI K id=m at*;by_cases c1:id<1
 · simp-implicitDefEqProofs (disch:=(first|omega|decide)) only[go_sem,↓reduceIte,seval,c1]
 · by_cases c2:16<id
   · simp-implicitDefEqProofs (disch:=(first|omega|decide)) only[go_sem,↓reduceIte,seval,c1,c2]
   · by_cases c3:ct<0
     · simp-implicitDefEqProofs (disch:=(first|omega|decide)) only[go_sem,↓reduceIte,seval,c1,c2,c3]
     · by_cases c4:1099511627776<ct
       · simp-implicitDefEqProofs (disch:=(first|omega|decide)) only[go_sem,↓reduceIte,seval,c1,c2,c3,c4]
       · cases d1:cA F with
         |false=>rw[d1]at g1;simp-implicitDefEqProofs (disch:=(first|omega|decide)) only[go_sem,↓reduceIte,seval,c1,c2,c3,c4,g1,bN,aI,aa]
         |true=>
          rw[d1]at g1;by_cases c5:I.length<=4096
          · have RV: ¬(4096:Int)<(I.length:Int):=by omega
            cases d2:eZ I with
            |false=>rw[d2]at g2;simp-implicitDefEqProofs (disch:=(first|omega|decide)) only[go_sem,↓reduceIte,seval,c1,c2,c3,c4,c5,RV,g1,g2,aa]
            |true=>
             rw[d2]at g2;have g7:=g7 d2;cases d3:cD K with
             |false=>rw[d3]at g3;simp-implicitDefEqProofs (disch:=(first|omega|decide)) only[go_sem,↓reduceIte,seval,c1,c2,c3,c4,c5,RV,g1,g2,g3,aa]
             |true=>
              rw[d3]at g3;have g5:=g5 d3;cases d4:fb Q K with
              |false=>rw[d4]at g5;simp-implicitDefEqProofs (maxSteps:=600000) (disch:=(first|omega|decide)) only[go_sem,↓reduceIte,seval,c1,c2,c3,c4,c5,RV,g1,g2,g3,g4,g5,aa]
              |true=>
               rw[d4]at g5;by_cases d5:m<=ct
               · have d5': ¬ct<m:=by omega
                 cases d6:gq I with
                 |false=>rw[d6]at g7;simp-implicitDefEqProofs (maxSteps:=600000) (disch:=(first|omega|decide)) only[go_sem,↓reduceIte,seval,c1,c2,c3,c4,c5,RV,g1,g2,g3,g4,g5,g6,g7,d5,d5',aa]
                 |true=>
                  rw[d6]at g7;simp-implicitDefEqProofs (maxSteps:=600000) (disch:=(first|omega|decide)) only[go_sem,↓reduceIte,seval,c1,c2,c3,c4,c5,RV,g1,g2,g3,g4,g5,g6,g7,d5,d5',aa]
                  refine a_ [1,72,73] (ι:={i:Nat//i<=I.length/\(I.all fun x=>bh F x.key&&dq K x.key x.rep x.da)=((I.drop i).all fun x=>bh F x.key&&dq K x.key x.rep x.da)}) (fun p=>[(74,.int .i64 p.1)]) (fun _=>[]) (fun p=>I.length-p.1) ⟨0,by omega,rfl⟩ (aw _) ?_ ?_
                  · simp-implicitDefEqProofs (disch:=(first|omega|decide)) only[go_sem,↓reduceIte,seval]
                    try rfl
                  · rintro⟨i,hi,hd⟩
                    simp only;by_cases bo:i<I.length
                    · have aH:(i:Int)<(I.length:Int):=by omega
                      have ei:=eG bo;have zH:=hi2 _ (ao bo)
                      rw[ax bo,px]at hd;generalize I[i]=x at*;have g8:=g8 x.key zH.1;have g9:=g9 x.key x.rep x.da zH.1;cases k1:bh F x.key with
                      |false=>
                       rw[k1]at g8 hd;rw[aI,aI]at hd;simp-implicitDefEqProofs (disch:=(first|omega|decide)) only[go_sem,↓reduceIte,seval,aH,ei,g8,hd,aa]
                      |true=>
                       rw[k1]at g8 hd;cases k2:dq K x.key x.rep x.da with
                       |false=>
                        rw[k2]at g9 hd;rw[bN,aI]at hd;simp-implicitDefEqProofs (disch:=(first|omega|decide)) only[go_sem,↓reduceIte,seval,aH,ei,g8,g9,hd,aa]
                       |true=>
                        rw[k2]at g9 hd;rw[cv,aB]at hd;simp-implicitDefEqProofs (disch:=(first|omega|decide)) only[go_sem,↓reduceIte,seval,aH,ei,g8,g9,wrap_i64,aa]
                        exact⟨⟨i+1,bo,hd⟩,by simp,by show I.length-(i+1)<I.length-i;omega⟩
                    · have aH: ¬(i:Int)<(I.length:Int):=by omega
                      rw[aC (by omega)]at hd;have hd:(I.all fun x=>bh F x.key&&dq K x.key x.rep x.da)=true:=hd;simp-implicitDefEqProofs (disch:=(first|omega|decide)) only[go_sem,↓reduceIte,seval,aH,hd,aa]
               · have d5':ct<m:=by omega
                 simp-implicitDefEqProofs (maxSteps:=600000) (disch:=(first|omega|decide)) only[go_sem,↓reduceIte,seval,c1,c2,c3,c4,c5,RV,g1,g2,g3,g4,g5,g6,d5,d5',aa]
          · have RV:(4096:Int)<(I.length:Int):=by omega
            simp-implicitDefEqProofs (disch:=(first|omega|decide)) only[go_sem,↓reduceIte,seval,c1,c2,c3,c4,c5,RV,g1,aa]
def Yh:aW:=QX.add 56 (entry (fun(s:bA)=>[s.enc]) (fun s=>fV s) (fun s=> .bool (cq s)))
theorem Gs:aN Tryz.prog Yh:=aag.dH Tryz.func56 (by kernel_rfl) (by kernel_rfl) fun s h=>yK s h
@[go_sem] theorem Y23f_old{g:FuncId}{xs:List A}(h:g≠56):Yh.f g xs=QX.f g xs:=aW.aU h
@[go_sem] theorem Y23f_s:Yh.pl QX:=⟨fun _=>rfl,fun _=>rfl,rfl,fun _=>rfl,rfl,fun _=>rfl,rfl⟩
abbrev RtA:=List It×List It×List It×List It
def yd(v:RtA):List It:=v.1++(v.2.1++(v.2.2.1++v.2.2.2))
def De(v:RtA):List A:=[.row 0 0 7 (yd v).length false,.int .i64 v.1.length,.int .i64 (v.1.length+v.2.1.length:Nat),.int .i64 (v.1.length+v.2.1.length+v.2.2.1.length:Nat),.fn 182 []]
def rtK(v:RtA):Prop:=(yd v).length<=1000000/\0<v.2.1.length/\0<v.2.2.1.length
def rtR(v:RtA):A×List Go.dF.Obj×List Nat:=(.fq [],mL (v.1++(v.2.2.1++(v.2.1++v.2.2.2))),[])
def smK(n:Nat)(v:RtA):Prop:=rtK v/\qd fA v.2.1/\qd fA v.2.2.1/\(∀x∈v.2.1,x.ok)/\(∀x∈v.2.2.1,x.ok)/\v.2.1.length+v.2.2.1.length<n
def smR(v:RtA):A×List Go.dF.Obj×List Nat:=(.fq [],mL (v.1++(dp fA (v.2.1++v.2.2.1)++v.2.2.2)),[])
theorem Yi(i j:RtA)(h:De i=De j)(h':mL (yd i)=mL (yd j)):i=j:=by
 obtain⟨P,U,W,Q⟩:=i;obtain⟨P',U',W',Q'⟩:=j;have e:=Bp h';simp only[De,dr,A.int.injEq,true_and,and_true,tY]at h;obtain⟨_,h1,h2,h3⟩:=h;simp only[yd]at e;obtain⟨p1,e1⟩:=lx e h1;obtain⟨p2,e2⟩:=lx e1 (by rw[p1]at h2;omega)
 obtain⟨p3,p4⟩:=lx e2 (by rw[p1,p2]at h3;omega)
 rw[p1,p2,p3,p4]
def TIc(n:Nat):aW:=(TIs.kz 264 (dG De (fun v=>mL (yd v)) rtK rtR)).kz 233 (dG De (fun v=>mL (yd v)) (smK n) smR)
def VQ(n:Nat):aW:={TIc n with sg:=fun f=>f==264||f==233}
@[go_sem] theorem TIm_f{m:Nat}:(VQ m).f=TIa.f:=rfl
@[go_sem] theorem TIm_eff{m:Nat}{g:FuncId}:(VQ m).sg g=(g==264||g==233):=rfl
@[go_sem] theorem TIm_frz{m:Nat}{g:FuncId}:(VQ m).xk g=false:=rfl
@[go_sem] theorem TIm_effT{m:Nat}:(VQ m).effT=false:=rfl
@[go_sem] theorem TIm_ords{m n:Nat}:(VQ m).fS n=[]:=rfl
theorem hp_rot{m N a b c:Nat}{P U W Q R0 R1:List It}(e0:P++(U++(W++Q))=R0)(e1:P++(W++(U++Q))=R1)(hN:R0.length=N)(hl:N<=1000000)(ha:P.length=a)(hb:a+U.length=b)(hc:b+W.length=c)(hU:0<U.length)(hW:0<W.length):(VQ m).hp 264 [.row 0 0 7 N false,.int .i64 (a:Int),.int .i64 (b:Int),.int .i64 (c:Int),.fn 182 []] [.row 7 (R0.map It.enc)]=some (.fq [],[.row 7 (R1.map It.enc)],[]):=by subst e0 e1 hN ha hb hc;have h00:(TIc m).hp 264 (De (P,U,W,Q)) (mL (yd (P,U,W,Q)))=dG De (fun v=>mL (yd v)) rtK rtR (De (P,U,W,Q)) (mL (yd (P,U,W,Q))):=(aW.xB (by decide)).trans aW.jK;have h0:(VQ m).hp 264 (De (P,U,W,Q)) (mL (yd (P,U,W,Q)))=dG De (fun v=>mL (yd v)) rtK rtR (De (P,U,W,Q)) (mL (yd (P,U,W,Q))):=h00;exact h0.trans (gn (Kx:=fun v:RtA=>mL (yd v)) Yi (P,U,W,Q) ⟨hl,hU,hW⟩)
theorem hp_sym{m N a b c:Nat}{P U W Q R0 R1:List It}(e0:P++(U++(W++Q))=R0)(e1:P++(dp fA (U++W)++Q)=R1)(hN:R0.length=N)(hl:N<=1000000)(ha:P.length=a)(hb:a+U.length=b)(hc:b+W.length=c)(hU:0<U.length)(hW:0<W.length)(sU:qd fA U)(sW:qd fA W)(kU: ∀x∈U,x.ok)(kW: ∀x∈W,x.ok)(hm:U.length+W.length<m):(VQ m).hp 233 [.row 0 0 7 N false,.int .i64 (a:Int),.int .i64 (b:Int),.int .i64 (c:Int),.fn 182 []] [.row 7 (R0.map It.enc)]=some (.fq [],[.row 7 (R1.map It.enc)],[]):=by subst e0 e1 hN ha hb hc;have h00:(TIc m).hp 233 (De (P,U,W,Q)) (mL (yd (P,U,W,Q)))=dG De (fun v=>mL (yd v)) (smK m) smR (De (P,U,W,Q)) (mL (yd (P,U,W,Q))):=aW.jK;have h0:(VQ m).hp 233 (De (P,U,W,Q)) (mL (yd (P,U,W,Q)))=dG De (fun v=>mL (yd v)) (smK m) smR (De (P,U,W,Q)) (mL (yd (P,U,W,Q))):=h00;exact h0.trans (gn (Kx:=fun v:RtA=>mL (yd v)) Yi (P,U,W,Q) ⟨⟨hl,hU,hW⟩,sU,sW,kU,kW,hm⟩)
theorem nA:IntKind.u64.bits=64:=rfl
theorem Mt{x:Int}:x.fdiv (2^(min 1 64:Nat))=x.fdiv 2:=rfl
theorem sym_cut{X Y:List It}(hX:qd fA X)(hY:qd fA Y){h s:Nat}(hs:h-Y.length<=s/\s<=h/\s<=X.length)
 (h1:s=min h X.length\/fA (Y[h-1-s]!) (X[s]!)=true) (h2:s=h-Y.length\/fA (Y[h-s]!) (X[s-1]!)=false):
 dp fA (X.take s++Y.take (h-s))++dp fA (X.drop s++Y.drop (h-s))=dp fA (X++Y):=by
 obtain⟨c1,c2⟩:=Go.zK.cut mV hX hY (u:=s) (v:=h-s) hs.2.2 (by omega) (fun hv hu=>by
  rcases h1 with h1|h1
  · omega
  · rwa [show h-s-1=h-1-s by omega]) (fun hu hv=>by
  rcases h2 with h2|h2
  · omega
  · exact h2)
 exact QP mV s (h-s) hX hY c1 c2
theorem TIm_ok{n:Nat}(ih: ∀v:RtA,smK n v->jb Tryz.prog 233 (De v) (mL (yd v)) (smR v).1 (smR v).2.1 (smR v).2.2):aN Tryz.prog (VQ n):=by
 have h1:aN Tryz.prog (TIs.kz 264 (dG De (fun v=>mL (yd v)) rtK rtR)):=Da.kz (dE Tryz.func264 (by kernel_rfl) (by kernel_rfl)) (gm fun v h=>c_rotate v.1 v.2.1 v.2.2.1 v.2.2.2 h.1 h.2.1 h.2.2)
 have h2:aN Tryz.prog (TIc n):=h1.kz (dE Tryz.func233 (by kernel_rfl) (by kernel_rfl)) (gm ih)
 exact⟨h2.f,h2.hp⟩
theorem lo_step{Y:List It}{x:It}{c:Nat}(hY:qd fA Y)(hc:c<Y.length)(h:fA Y[c] x=true): ∀y∈Y.take (c+1),fA y x=true:=fun y hy=>by
 obtain⟨i,hi,rfl⟩:=bW hy;rw[aK]at hi;rw[fz]
 by_cases e:i=c
 · subst e;exact h
 · exact uY mV h (mV.D6 x) ((b9.1 hY) i c (by omega) hc (by omega))
theorem hi_step{Y:List It}{x:It}{c:Nat}(hY:qd fA Y)(hc:c<Y.length)(h:fA Y[c] x=false): ∀y∈Y.drop c,fA y x=false:=fun y hy=>by
 obtain⟨i,hi,rfl⟩:=bW hy;rw[cj]at hi;rw[mI]
 by_cases e:i=0
 · subst e;exact h
 · exact mV.neg _ _ _ ((b9.1 hY) c (c+i) hc (by omega) (by omega)) h
theorem lo_step'{X:List It}{y:It}{c:Nat}(hX:qd fA X)(hc:c<X.length)(h:fA y X[c]=false): ∀x∈X.take (c+1),fA y x=false:=fun x hx=>by
 obtain⟨i,hi,rfl⟩:=bW hx;rw[aK]at hi;rw[fz]
 by_cases e:i=c
 · subst e;exact h
 · exact mV.neg _ _ _ h ((b9.1 hX) i c (by omega) hc (by omega))
theorem hi_step'{X:List It}{y:It}{c:Nat}(hX:qd fA X)(hc:c<X.length)(h:fA y X[c]=true): ∀x∈X.drop c,fA y x=true:=fun x hx=>by
 obtain⟨i,hi,rfl⟩:=bW hx;rw[cj]at hi;rw[mI]
 by_cases e:i=0
 · subst e;exact h
 · exact uY mV h ((b9.1 hX) c (c+i) hc (by omega) (by omega)) (mV.D6 y)
theorem eN:aQ Tryz.prog TIs Tryz.f233.ntmps (Tryz.f233.body.getD .skip)=true:=by kernel_rfl
theorem sym_A{n:Nat}(hT:aN Tryz.prog (VQ n))(P Y Q:List It)(x:It)(h:(P++([x]++(Y++Q))).length<=1000000)(hY:qd fA Y)(kx:x.ok)(kY: ∀y∈Y,y.ok)(hY0:0<Y.length):jb Tryz.prog 233 [.row 0 0 7 (P++([x]++(Y++Q))).length false,.int .i64 P.length,.int .i64 (P.length+1:Nat),.int .i64 (P.length+1+Y.length:Nat),.fn 182 []] [.row 7 ((P++([x]++(Y++Q))).map It.enc)]
 (.fq []) [.row 7 ((P++(dp fA ([x]++Y)++Q)).map It.enc)] []:=by
 refine e_ hT mixed Tryz.func233 rfl (ab rfl) (fun n h _=>by simp at h;subst h;rfl) (by show _<=1;simp) (by show 1<=_;simp) eN ?_;unfold Tryz.f233;obtain⟨N,hN⟩: ∃N,(P++([x]++(Y++Q))).length=N:=⟨_,rfl⟩
 have WV:=hN;simp only[aj,aG,bC]at WV;have hr0:P++([x]++(Y++Q))=jl P Y Q x 0:=rfl;have hlen: ∀u,(jl P Y Q x u).length=N:=fun u=>by rw[Jx];omega
 obtain⟨RF,hRF⟩: ∃RF,P++(dp fA ([x]++Y)++Q)=RF:=⟨_,rfl⟩
 rw[hRF]
 rw[hN]at h⊢;rw[hr0]
 have e1:((P.length+1:Nat):Int)-(P.length:Int)=1:=by omega
 simp-implicitDefEqProofs (maxSteps:=600000) (disch:=(first|omega|decide)) only[go_sem,↓reduceIte,seval,e1,wrap_i64,aa,beq_self_eq_true]
 refine a_ [0,1,2,3,4] (ι:={q:Nat×Nat//q.1<=q.2/\q.2<=Y.length/\(∀y∈Y.take q.1,fA y x=true)/\(∀y∈Y.drop q.2,fA y x=false)}) (fun q=>[(10,.int .i64 ((P.length+1+q.1.1:Nat):Int)),(11,.int .i64 ((P.length+1+q.1.2:Nat):Int))]) (fun q=>[(0,.row 7 ((jl P Y Q x 0).map It.enc))]) (fun q=>q.1.2-q.1.1) ⟨(0,Y.length),by simp⟩ (by show 1<=_;simp) ?_ ?_
 · simp-implicitDefEqProofs (maxSteps:=600000) (disch:=(first|omega|decide)) only[go_sem,↓reduceIte,seval,dh]
   try rfl
 · rintro⟨⟨i,j⟩,h1,h2,h3,h4⟩
   simp only at h1 h2 h3 h4⊢;by_cases bo:i<j
   · have c0:((P.length+1+i:Nat):Int)<((P.length+1+j:Nat):Int):=by omega
     obtain⟨c,hc⟩: ∃c,(i+j)/2=c:=⟨_,rfl⟩
     have s1:((P.length+1+i:Nat):Int)+((P.length+1+j:Nat):Int)=((2*(P.length+1)+i+j:Nat):Int):=by omega
     have s2:((2*(P.length+1)+i+j:Nat):Int).fdiv 2=((P.length+(c+1):Nat):Int):=by rw[fL _ (by omega)];omega
     have o6:c<Y.length:=by omega
     have gy:(jl P Y Q x 0)[P.length+(c+1)]? =some Y[c]:=by show(P++(x::(Y++Q)))[P.length+(c+1)]? =_;rw[bX (by omega),dU,rF,ck o6,ae o6]
     have gy:=ik gy;have gx:=ik (Jy (P:=P) (D:=Y) (Z:=Q) (y:=x) (u:=0) (by omega))
     rw[dh]at gx;have ln:=hlen 0;have gc:=JA (x:=Y[c]) (y:=x) ⟨kY _ (ao o6),kx⟩
     have st1:=lo_step (x:=x) hY o6;have st2:=hi_step (x:=x) hY o6;have hlb:fA Y[c] x=cL Y[c].key x.key:=rfl;rw[hlb]at st1 st2;have r1:((P.length+(c+1):Nat):Int)<(N:Int):=by omega
     have r2:(0:Int)<=((P.length+(c+1):Nat):Int):=by omega
     have r3:((P.length+(c+1):Nat):Int).toNat=P.length+(c+1):=bg _;have r4:(P.length:Int)<(N:Int):=by omega
     have r5:((P.length+(c+1):Nat):Int)+1=((P.length+1+(c+1):Nat):Int):=by omega
     have r6:P.length+(c+1)=P.length+1+c:=by omega
     generalize Y[c]=d at*;generalize jl P Y Q x 0=r at*;cases hb:cL d.key x.key with
     |true=>
      have st1:=st1 hb;simp-implicitDefEqProofs (maxSteps:=600000) (disch:=(first|omega|decide)) only[go_sem,↓reduceIte,seval,c0,s1,s2,gy,gx,ln,gc,hb,r1,r2,r3,r4,r5,Mt,nA,wrap_u64,wrap_i64,aa]
      exact⟨⟨(c+1,j),by show c+1<=j;omega,h2,st1,h4⟩,⟨by simp,rfl⟩,by show j-(c+1)<j-i;omega⟩
     |false=>
      have st2:=st2 hb;simp-implicitDefEqProofs (maxSteps:=600000) (disch:=(first|omega|decide)) only[go_sem,↓reduceIte,seval,c0,s1,s2,gy,gx,ln,gc,hb,r1,r2,r3,r4,Mt,nA,wrap_u64,wrap_i64,aa]
      exact⟨⟨(i,c),by show i<=c;omega,by show c<=Y.length;omega,h3,st2⟩,⟨by simp,by rw[r6]⟩,by show c-i<j-i;omega⟩
   · have c0: ¬((P.length+1+i:Nat):Int)<((P.length+1+j:Nat):Int):=by omega
     obtain rfl:i=j:=by omega
     have nr:RF=jl P Y Q x i:=by
      rw[<-hRF]
      have eO:=ins_left mV (x:=x) (Y1:=Y.take i) (Y2:=Y.drop i) (by rw[br];exact hY) h3 h4;rw[br]at eO;rw[show [x]++Y=x::Y from rfl,<-w6 mV eO,jl,ba];rfl
     rw[nr]
     have m1:((P.length+1+i:Nat):Int)-1=((P.length+i:Nat):Int):=by omega
     simp-implicitDefEqProofs (maxSteps:=600000) (disch:=(first|omega|decide)) only[go_sem,↓reduceIte,seval,c0,aa]
     refine a_ [0,10] (ι:={t:Nat//t<=i}) (fun t=>[(13,.int .i64 ((P.length+t.1:Nat):Int))]) (fun t=>[(0,.row 7 ((jl P Y Q x t.1).map It.enc))]) (fun t=>i-t.1) ⟨0,by omega⟩ (by show 1<=_;simp) ?_ ?_
     · simp-implicitDefEqProofs (maxSteps:=600000) (disch:=(first|omega|decide)) only[go_sem,↓reduceIte,seval,dh]
       try rfl
     · rintro⟨t,ht⟩
       simp only;by_cases htl:t<i
       · have d0:((P.length+t:Nat):Int)<((P.length+i:Nat):Int):=by omega
         have htY:t<Y.length:=by omega
         have gx:=ik (Jy (P:=P) (D:=Y) (Z:=Q) (y:=x) (u:=t) (by omega))
         have gd:=ik (rowI_e (P:=P) (Z:=Q) (y:=x) (u:=t) htY)
         have gd2:=ik (Jz (P:=P) (Z:=Q) (y:=x) htY)
         have w1:=u0 (jl P Y Q x t) (P.length+t) Y[t]
         have w2:=u0 ((jl P Y Q x t).set (P.length+t) Y[t]) (P.length+(t+1)) x;rw[X7 htY]at w2;have ln:=hlen t;have q1:((P.length+t:Nat):Int)+1=((P.length+(t+1):Nat):Int):=by omega
         have q2:((P.length+(t+1):Nat):Int)<(N:Int):=by omega
         have q3:(0:Int)<=((P.length+(t+1):Nat):Int):=by omega
         have q4:((P.length+(t+1):Nat):Int).toNat=P.length+(t+1):=bg _;have q5:((P.length+t:Nat):Int)<(N:Int):=by omega
         have q6:(0:Int)<=((P.length+t:Nat):Int):=by omega
         have q7:((P.length+t:Nat):Int).toNat=P.length+t:=bg _;generalize Y[t]=d at*;generalize hn1:jl P Y Q x (t+1)=n1 at*;generalize jl P Y Q x t=n0 at*;simp-implicitDefEqProofs (maxSteps:=600000) (disch:=(first|omega|decide)) only[go_sem,↓reduceIte,seval,m1,d0,gx,gd,gd2,w1,w2,ln,q1,q2,q3,q4,q5,q6,q7,spl7,wrap_i64,aa,dd]
         exact⟨⟨t+1,htl⟩,⟨by simp,by rw[hn1]⟩,by show i-(t+1)<i-t;omega⟩
       · have d0: ¬((P.length+t:Nat):Int)<((P.length+i:Nat):Int):=by omega
         obtain rfl:t=i:=by omega
         simp-implicitDefEqProofs (maxSteps:=600000) (disch:=(first|omega|decide)) only[go_sem,↓reduceIte,seval,m1,d0,wrap_i64,aa]
theorem sym_B{n:Nat}(hT:aN Tryz.prog (VQ n))(P X Q:List It)(y:It)(h:(P++(X++([y]++Q))).length<=1000000)(hX:qd fA X)(ky:y.ok)(kX: ∀x∈X,x.ok)(hX0:1<X.length):jb Tryz.prog 233 [.row 0 0 7 (P++(X++([y]++Q))).length false,.int .i64 P.length,.int .i64 (P.length+X.length:Nat),.int .i64 (P.length+X.length+1:Nat),.fn 182 []] [.row 7 ((P++(X++([y]++Q))).map It.enc)]
 (.fq []) [.row 7 ((P++(dp fA (X++[y])++Q)).map It.enc)] []:=by
 refine e_ hT mixed Tryz.func233 rfl (ab rfl) (fun n h _=>by simp at h;subst h;rfl) (by show _<=1;simp) (by show 1<=_;simp) eN ?_;unfold Tryz.f233;obtain⟨N,hN⟩: ∃N,(P++(X++([y]++Q))).length=N:=⟨_,rfl⟩
 have WV:=hN;simp only[aj,aG,bC]at WV;have hr0:P++(X++([y]++Q))=jl P X Q y X.length:=JB.symm;have hlen: ∀u,(jl P X Q y u).length=N:=fun u=>by rw[Jx];omega
 obtain⟨RF,hRF⟩: ∃RF,P++(dp fA (X++[y])++Q)=RF:=⟨_,rfl⟩
 rw[hRF]
 rw[hN]at h⊢;rw[hr0]
 have e1:((P.length+X.length:Nat):Int)-(P.length:Int)=(X.length:Int):=by omega
 have e1b:((X.length:Int)==1)=false:=by rw[beq_eq_false_iff_ne];omega
 have e2:((P.length+X.length+1:Nat):Int)-((P.length+X.length:Nat):Int)=1:=by omega
 simp-implicitDefEqProofs (maxSteps:=600000) (disch:=(first|omega|decide)) only[go_sem,↓reduceIte,seval,e1,e1b,e2,wrap_i64,aa,beq_self_eq_true]
 refine a_ [0,1,2,3,4] (ι:={q:Nat×Nat//q.1<=q.2/\q.2<=X.length/\(∀x∈X.take q.1,fA y x=false)/\(∀x∈X.drop q.2,fA y x=true)}) (fun q=>[(14,.int .i64 ((P.length+q.1.1:Nat):Int)),(15,.int .i64 ((P.length+q.1.2:Nat):Int))]) (fun q=>[(0,.row 7 ((jl P X Q y X.length).map It.enc))]) (fun q=>q.1.2-q.1.1) ⟨(0,X.length),by simp⟩ (by show 1<=_;simp) ?_ ?_
 · simp-implicitDefEqProofs (maxSteps:=600000) (disch:=(first|omega|decide)) only[go_sem,↓reduceIte,seval,dh]
   try rfl
 · rintro⟨⟨i,j⟩,h1,h2,h3,h4⟩
   simp only at h1 h2 h3 h4⊢;by_cases bo:i<j
   · have c0:((P.length+i:Nat):Int)<((P.length+j:Nat):Int):=by omega
     obtain⟨c,hc⟩: ∃c,(i+j)/2=c:=⟨_,rfl⟩
     have s1:((P.length+i:Nat):Int)+((P.length+j:Nat):Int)=((2*P.length+i+j:Nat):Int):=by omega
     have s2:((2*P.length+i+j:Nat):Int).fdiv 2=((P.length+c:Nat):Int):=by rw[fL _ (by omega)];omega
     have o6:c<X.length:=by omega
     have gx:(jl P X Q y X.length)[P.length+c]? =some X[c]:=by rw[JB,bX (by omega),dU,ck o6,ae o6]
     have gx:=ik gx;have gy:=ik (Jy (P:=P) (D:=X) (Z:=Q) (y:=y) (u:=X.length) (ai _))
     have ln:=hlen X.length;have gc:=JA (x:=y) (y:=X[c]) ⟨ky,kX _ (ao o6)⟩
     have st1:=lo_step' (y:=y) hX o6;have st2:=hi_step' (y:=y) hX o6;have hlb:fA y X[c]=cL y.key X[c].key:=rfl;rw[hlb]at st1 st2;have r1:((P.length+c:Nat):Int)<(N:Int):=by omega
     have r2:(0:Int)<=((P.length+c:Nat):Int):=by omega
     have r3:((P.length+c:Nat):Int).toNat=P.length+c:=bg _;have r4:((P.length+X.length:Nat):Int)<(N:Int):=by omega
     have r4b:(0:Int)<=((P.length+X.length:Nat):Int):=by omega
     have r4c:((P.length+X.length:Nat):Int).toNat=P.length+X.length:=bg _;have r5:((P.length+c:Nat):Int)+1=((P.length+(c+1):Nat):Int):=by omega
     generalize X[c]=d at*;generalize jl P X Q y X.length=r at*;cases hb:cL y.key d.key with
     |false=>
      have st1:=st1 hb;simp-implicitDefEqProofs (maxSteps:=600000) (disch:=(first|omega|decide)) only[go_sem,↓reduceIte,seval,c0,s1,s2,gy,gx,ln,gc,hb,r1,r2,r3,r4,r4b,r4c,r5,Mt,nA,wrap_u64,wrap_i64,aa]
      exact⟨⟨(c+1,j),by show c+1<=j;omega,h2,st1,h4⟩,⟨by simp,rfl⟩,by show j-(c+1)<j-i;omega⟩
     |true=>
      have st2:=st2 hb;simp-implicitDefEqProofs (maxSteps:=600000) (disch:=(first|omega|decide)) only[go_sem,↓reduceIte,seval,c0,s1,s2,gy,gx,ln,gc,hb,r1,r2,r3,r4,r4b,r4c,Mt,nA,wrap_u64,wrap_i64,aa]
      exact⟨⟨(i,c),by show i<=c;omega,by show c<=X.length;omega,h3,st2⟩,⟨by simp,rfl⟩,by show c-i<j-i;omega⟩
   · have c0: ¬((P.length+i:Nat):Int)<((P.length+j:Nat):Int):=by omega
     obtain rfl:i=j:=by omega
     have nr:RF=jl P X Q y i:=by
      rw[<-hRF]
      have eO:=C9 mV (y:=y) (X1:=X.take i) (X2:=X.drop i) (by rw[br];exact hX) h3 h4;rw[br]at eO;rw[<-w6 mV eO,jl,ba];rfl
     rw[nr]
     simp-implicitDefEqProofs (maxSteps:=600000) (disch:=(first|omega|decide)) only[go_sem,↓reduceIte,seval,c0,aa]
     refine a_ [0,14] (ι:={u:Nat//i<=u/\u<=X.length}) (fun u=>[(17,.int .i64 ((P.length+u.1:Nat):Int))]) (fun u=>[(0,.row 7 ((jl P X Q y u.1).map It.enc))]) (fun u=>u.1-i) ⟨X.length,h2,ai _⟩ (by show 1<=_;simp) ?_ ?_
     · simp-implicitDefEqProofs (maxSteps:=600000) (disch:=(first|omega|decide)) only[go_sem,↓reduceIte,seval]
       try rfl
     · rintro⟨u,hu,hu2⟩
       simp only;by_cases htl:i<u
       · have d0:((P.length+i:Nat):Int)<((P.length+u:Nat):Int):=by omega
         obtain⟨t,rfl⟩: ∃t,u=t+1:=⟨u-1,by omega⟩
         have htX:t<X.length:=by omega
         have gy:=ik (Jy (P:=P) (D:=X) (Z:=Q) (y:=y) (u:=t+1) hu2)
         have gd:=ik (X6 (P:=P) (Z:=Q) (y:=y) htX)
         have gd2:=ik (yI (P:=P) (Z:=Q) (y:=y) htX)
         have w1:=u0 (jl P X Q y (t+1)) (P.length+(t+1)) X[t]
         have w2:=u0 ((jl P X Q y (t+1)).set (P.length+(t+1)) X[t]) (P.length+t) y;rw[N7 htX]at w2;have ln:=hlen (t+1)
         have q1:((P.length+(t+1):Nat):Int)-1=((P.length+t:Nat):Int):=by omega
         have q2:((P.length+(t+1):Nat):Int)<(N:Int):=by omega
         have q3:(0:Int)<=((P.length+(t+1):Nat):Int):=by omega
         have q4:((P.length+(t+1):Nat):Int).toNat=P.length+(t+1):=bg _;have q5:((P.length+t:Nat):Int)<(N:Int):=by omega
         have q6:(0:Int)<=((P.length+t:Nat):Int):=by omega
         have q7:((P.length+t:Nat):Int).toNat=P.length+t:=bg _;generalize X[t]=d at*;generalize jl P X Q y (t+1)=n1 at*;generalize hn0:jl P X Q y t=n0 at*;simp-implicitDefEqProofs (maxSteps:=600000) (disch:=(first|omega|decide)) only[go_sem,↓reduceIte,seval,d0,gy,gd,gd2,w1,w2,ln,q1,q2,q3,q4,q5,q6,q7,spl7,wrap_i64,aa,dd]
         exact⟨⟨t,by omega,by omega⟩,⟨by simp,by rw[hn0]⟩,by show t-i<t+1-i;omega⟩
       · have d0: ¬((P.length+i:Nat):Int)<((P.length+u:Nat):Int):=by omega
         obtain rfl:u=i:=by omega
         simp-implicitDefEqProofs (maxSteps:=600000) (disch:=(first|omega|decide)) only[go_sem,↓reduceIte,seval,d0,wrap_i64,aa]
end Go.Proofs.YtfnohjheonlnmaaGreat
