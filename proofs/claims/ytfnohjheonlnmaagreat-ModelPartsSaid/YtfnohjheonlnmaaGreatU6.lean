/- What the laws of this claim rest on: the abstract executor, its soundness, and what the functions compute on pure data. No condition. -/
import Derived.Test.YtfnohjheonlnmaaGreatU5
import Derived.Shelf.SlSortCmp.NoneTotal
import Derived.Ground.SlsfProg
import Derived.Test.YtfnohjheonlnmaaGreatProg
noncomputable section
set_option linter.unusedVariables false
set_option linter.unusedSimpArgs false
namespace Go.Proofs.YtfnohjheonlnmaaGreat
open Go.dF
set_option linter.unusedSimpArgs false
set_option linter.unusedVariables false
set_option maxRecDepth 20000
set_option maxHeartbeats 8000000
@[go_sem] theorem aF.za{n:Int}{rs:List bH}:aF.enc ⟨n,rs⟩= .agg [.int .i64 n,.ay (rs.map bH.enc)]:=rfl
theorem aF.jM(v w:aF)(h:v.enc=w.enc):v=w:=by cases v;cases w;simpa[aF.enc,aF.cells]using h
@[simp] theorem Le{l m:List aF}:(l.map aF.enc=m.map aF.enc)=(l=m):=map_inj aF.jM
theorem iT{l:List aF}{k:Nat}(h:k<l.length):(l.map aF.enc)[k]? =some (.agg [.int .i64 l[k].n,.ay (l[k].rs.map bH.enc)]):=by rw[aT,ae h];rfl
theorem EO:aQ Tryz.prog zj Tryz.f208.ntmps (Tryz.f208.body.getD .skip)=true:=by kernel_rfl
theorem c_replica(n:Int):bp Tryz.prog 208 [.int .i64 n] (· = .bool (dJ n)):=by
 refine ah NM mixed Tryz.func208 rfl (ab rfl) EO ?_;unfold Tryz.f208;by_cases h1:1<=n
 · simp-implicitDefEqProofs (disch:=(first|omega|decide)) only[go_sem,↓reduceIte,seval,h1,dJ]
 · simp-implicitDefEqProofs (disch:=(first|omega|decide)) only[go_sem,↓reduceIte,seval,h1,dJ]
def W0:aW:=zj.add 208 (entry (fun(n:Int)=>[.int .i64 n]) (fun n=>True) (fun n=> .bool (dJ n)))
theorem K14a_ok:aN Tryz.prog W0:=NM.dH Tryz.func208 (by kernel_rfl) (by kernel_rfl) fun n h=>c_replica n
@[go_sem] theorem K14a_old{g:FuncId}{xs:List A}(h:g≠208):W0.f g xs=zj.f g xs:=aW.aU h
theorem A3(n:Int)(h:True):W0.f 208 [.int .i64 n]=some (.bool (dJ n)):=aW.aZ (Γ:=zj) (fun i j h=>by simpa[ag,and_assoc]using h) n h
@[go_sem] theorem k_replica{n:Int}:W0.f 208 [.int .i64 n]=some (.bool (dJ n)):=A3 n trivial
def TG:aW:=W0.add 161 (entry (fun(v:Int×Int)=>[.agg [.int .i64 v.1,.int .i64 v.2]]) (fun v=>True) (fun v=> .bool (cm ⟨v.1,v.2⟩)))
theorem K14b_ok:aN Tryz.prog TG:=K14a_ok.dH Tryz.func161 (by kernel_rfl) (by kernel_rfl) fun v h=>vc v.1 v.2
@[go_sem] theorem K14b_old{g:FuncId}{xs:List A}(h:g≠161):TG.f g xs=W0.f g xs:=aW.aU h
theorem zl(v:Int×Int)(h:True):TG.f 161 [.agg [.int .i64 v.1,.int .i64 v.2]]=some (.bool (cm ⟨v.1,v.2⟩)):=aW.aZ (Γ:=W0) (fun i j h=>by simpa[ag,and_assoc]using h) v h
def EP:aW:=TG.add 101 (entry (fun(v:Int×Int)=>[.agg [.int .i64 v.1,.int .i64 v.2]]) (fun v=>True) (fun v=> .bool (cm ⟨v.1,v.2⟩)))
theorem A4:aN Tryz.prog EP:=K14b_ok.dH Tryz.func101 (by kernel_rfl) (by kernel_rfl) fun v h=>ta v.1 v.2
@[go_sem] theorem K14c_old{g:FuncId}{xs:List A}(h:g≠101):EP.f g xs=TG.f g xs:=aW.aU h
@[go_sem] theorem K14c_s:EP.pl TG:=⟨fun _=>rfl,fun _=>rfl,rfl,fun _=>rfl,rfl,fun _=>rfl,rfl⟩
theorem CA(v:Int×Int)(h:True):EP.f 101 [.agg [.int .i64 v.1,.int .i64 v.2]]=some (.bool (cm ⟨v.1,v.2⟩)):=aW.aZ (Γ:=TG) (fun i j h=>by simpa[ag,and_assoc]using h) v h
@[go_sem] theorem k_version_Right{r c:Int}:TG.f 161 [.agg [.int .i64 r,.int .i64 c]]=some (.bool (cm ⟨r,c⟩)):=zl (r,c) trivial
@[go_sem] theorem k_ref12_Right{r c:Int}:EP.f 101 [.agg [.int .i64 r,.int .i64 c]]=some (.bool (cm ⟨r,c⟩)):=CA (r,c) trivial
def dt(s:List aF):Nat:=(s.map fun k=>k.rs.length).sum
def bI(s:List aF):Prop:=s.length<=1000000/\dt s<=1000000
theorem oN{s:List aF}{k:aF}(h:k∈s):k.rs.length<=dt s:=by
 induction s with
 |nil=>cases h
 |cons q s ih=>
  simp only[dt,aS,cS]
  rcases aD.1 h with rfl|h
  · omega
  · have:=ih h;simp only[dt]at this;omega
theorem lU(s:List aF)(n:Int):(bJ s n).length<=dt s:=by
 induction s with
 |nil=>simp[bJ,dt]
 |cons q s ih=>
  simp only[bJ,dt,aS,cS]at ih⊢;split
  · rw[aj];omega
  · omega
theorem iK(s t:List aF):dt (s++t)=dt s+dt t:=by simp[dt]
theorem NN{s:List aF}{k:Nat}(h:k<s.length):dt (s.take k)+s[k].rs.length<=dt s:=by
 have e:s=s.take k++s[k]::s.drop (k+1):=by rw[<-ax h,br]
 have h2:dt s=dt (s.take k)+dt (s[k]::s.drop (k+1)):=by rw[<-iK,<-e]
 have h3:dt (s[k]::s.drop (k+1))=s[k].rs.length+dt (s.drop (k+1)):=by unfold dt;rw[aS,cS]
 omega
theorem Lf:aQ Tryz.prog EP Tryz.f171.ntmps (Tryz.f171.body.getD .skip)=true:=by kernel_rfl
theorem PD(s:List aF)(hs:bI s):bp Tryz.prog 171 [.ay (s.map aF.enc)] (· = .bool (c6 s)):=by
 refine ah A4 mixed Tryz.func171 rfl (ab rfl) Lf ?_;unfold Tryz.f171;obtain⟨hs1,hs2⟩:=hs;simp-implicitDefEqProofs (disch:=(first|omega|decide)) only[go_sem,↓reduceIte,seval,aa]
 refine a_ [0,6,7] (ι:={q:Nat×Int//q.1<=s.length/\c6 s=HU q.2 (s.drop q.1)}) (fun q=>[(8,.int .i64 q.1.1),(3,.int .i64 q.1.2)]) (fun _=>[]) (fun q=>s.length-q.1.1) ⟨(0,0),by simp,rfl⟩ (aw _) ?_ ?_
 · simp-implicitDefEqProofs (disch:=(first|omega|decide)) only[go_sem,↓reduceIte,seval]
 · rintro⟨⟨k,p⟩,hk,hd⟩
   simp only at hk hd⊢;by_cases bo:k<s.length
   · have aH:(k:Int)<(s.length:Int):=by omega
     have e1:=iT bo;have hm:=oN (ao bo)
     rw[ax bo]at hd;generalize hx:s[k]=x at*;obtain⟨n,rs⟩:=x;simp only[HU,Th]at hd hm;have next:c6 s=HU n (s.drop (k+1))-> ∃j:{q:Nat×Int//q.1<=s.length/\c6 s=HU q.2 (s.drop q.1)},((k:Int)+1=(j.1.1:Int)/\n=j.1.2)/\s.length-j.1.1<s.length-k:=fun h=>⟨⟨(k+1,n),bo,h⟩,⟨by simp,rfl⟩,by show s.length-(k+1)<s.length-k;omega⟩
     cases h1:dJ n with
     |false=>
      have hh:c6 s=false:=by rw[hd,h1];simp
      simp-implicitDefEqProofs (disch:=(first|omega|decide)) only[go_sem,↓reduceIte,seval,aH,e1,h1,hh,aa]
     |true=>
      by_cases h2:n<=p
      · have hh:c6 s=false:=by rw[hd,decide_eq_false (show¬p<n by omega)];simp
        simp-implicitDefEqProofs (disch:=(first|omega|decide)) only[go_sem,↓reduceIte,seval,aH,e1,h1,h2,hh,aa]
      · cases h3:((rs.length:Int)==0)with
        |true=>
          have:rs=[]:=aV.1 (by have:(rs.length:Int)=0:=by simpa using h3
                               omega)
          have hh:c6 s=false:=by rw[hd,this];simp
          simp-implicitDefEqProofs (disch:=(first|omega|decide)) only[go_sem,↓reduceIte,seval,aH,e1,h1,h2,h3,hh,aa]
        |false=>
          have eH:rs.isEmpty=false:=by
           cases rs with
           |nil=>simp at h3
           |cons _ _=>rfl
          cases h4:dC rs with
          |false=>
           have hh:c6 s=false:=by rw[hd,h4];simp
           simp-implicitDefEqProofs (disch:=(first|omega|decide)) only[go_sem,↓reduceIte,seval,aH,e1,h1,h2,h3,h4,hh,aa]
          |true=>
           have hh:c6 s=HU n (s.drop (k+1)):=by rw[hd,h1,h4,eH,decide_eq_true (show p<n by omega)];simp
           simp-implicitDefEqProofs (disch:=(first|omega|decide)) only[go_sem,↓reduceIte,seval,aH,e1,h1,h2,h3,h4,wrap_i64,aa]
           exact next hh
   · have aH: ¬(k:Int)<(s.length:Int):=by omega
     have hh:c6 s=true:=by rw[hd,aC (by omega)];rfl
     simp-implicitDefEqProofs (disch:=(first|omega|decide)) only[go_sem,↓reduceIte,seval,aH,hh,aa]
end Go.Proofs.YtfnohjheonlnmaaGreat
namespace Go.Proofs.YtfnohjheonlnmaaGreat
open Go.dF
set_option linter.unusedSimpArgs false
set_option linter.unusedVariables false
set_option maxRecDepth 20000
set_option maxHeartbeats 8000000
def Ej(s:List aF)(k:Nat):Int:=if k=0 then 0 else s[k-1]!.n
theorem Ik:aQ Tryz.prog EP Tryz.f151.ntmps (Tryz.f151.body.getD .skip)=true:=by kernel_rfl
theorem Lg(s:List aF)(hs:bI s):bp Tryz.prog 151 [.ay (s.map aF.enc)] (· = .bool (c6 s)):=by
 refine ah A4 mixed Tryz.func151 rfl (ab rfl) Ik ?_;unfold Tryz.f151;obtain⟨hs1,hs2⟩:=hs;simp-implicitDefEqProofs (disch:=(first|omega|decide)) only[go_sem,↓reduceIte,seval,aa]
 refine a_ [0] (ι:={k:Nat//k<=s.length/\c6 s=HU (Ej s k) (s.drop k)}) (fun q=>[(3,.int .i64 q.1)]) (fun _=>[]) (fun q=>s.length-q.1) ⟨0,by omega,rfl⟩ (aw _) ?_ ?_
 · simp-implicitDefEqProofs (disch:=(first|omega|decide)) only[go_sem,↓reduceIte,seval]
 · rintro⟨k,hk,hd⟩
   simp only at hk hd⊢;by_cases bo:k<s.length
   · have aH:(k:Int)<(s.length:Int):=by omega
     have e1:=iT bo;have hm:=oN (ao bo)
     have hp:Ej s (k+1)=s[k].n:=by unfold Ej;rw[if_neg (by omega),jL,getElem!_pos s k bo]
     rw[ax bo]at hd;generalize hx:s[k]=x at*;obtain⟨n,rs⟩:=x;simp only[HU,Th]at hd hm hp;have next:c6 s=HU n (s.drop (k+1))-> ∃j:{k:Nat//k<=s.length/\c6 s=HU (Ej s k) (s.drop k)},(k:Int)+1=(j.1:Int)/\s.length-j.1<s.length-k:=fun h=>⟨⟨k+1,bo,by rw[hp];exact h⟩,by simp,by show s.length-(k+1)<s.length-k;omega⟩
     by_cases h1:n<1
     · have hh:c6 s=false:=by
        rw[hd,show dJ n=false by rw[<-dI,eo];omega];simp
       simp-implicitDefEqProofs (disch:=(first|omega|decide)) only[go_sem,↓reduceIte,seval,aH,e1,h1,hh,aa]
     · by_cases h2:16<n
       · have hh:c6 s=false:=by
          rw[hd,show dJ n=false by rw[<-dI,eo];omega];simp
         simp-implicitDefEqProofs (disch:=(first|omega|decide)) only[go_sem,↓reduceIte,seval,aH,e1,h1,h2,hh,aa]
       · have hr:dJ n=true:=eo.2 (by omega)
         have rest:Ej s k<n-> ∀(c:Bool),c=(!rs.isEmpty&&dC rs)->c6 s=(c&&HU n (s.drop (k+1))):=fun hp c hc=>by rw[hd,hr,decide_eq_true hp,hc];simp[eI]
         by_cases Ey:k=0
         · have hz: ¬(0:Int)<(k:Int):=by omega
           have Il:=rest (by unfold Ej;rw[if_pos Ey];omega)
           cases h3:((rs.length:Int)==0)with
           |true=>
            have:rs=[]:=aV.1 (by have:(rs.length:Int)=0:=by simpa using h3
                                 omega)
            have hh:c6 s=false:=by rw[Il false (by rw[this];rfl)];rfl
            simp-implicitDefEqProofs (disch:=(first|omega|decide)) only[go_sem,↓reduceIte,seval,aH,e1,h1,h2,hz,h3,hh,aa]
           |false=>
            have eH:rs.isEmpty=false:=by
             cases rs with
             |nil=>simp at h3
             |cons _ _=>rfl
            cases h4:dC rs with
            |false=>
             have hh:c6 s=false:=by rw[Il false (by rw[eH,h4];rfl)];rfl
             simp-implicitDefEqProofs (disch:=(first|omega|decide)) only[go_sem,↓reduceIte,seval,aH,e1,h1,h2,hz,h3,h4,hh,aa]
            |true=>
             have hh:=Il true (by rw[eH,h4];rfl)
             simp-implicitDefEqProofs (disch:=(first|omega|decide)) only[go_sem,↓reduceIte,seval,aH,e1,h1,h2,hz,h3,h4,wrap_i64,aa]
             exact next hh
         · have hz:(0:Int)<(k:Int):=by omega
           have qH:k-1<s.length:=by omega
           have e2:=iT qH;have VM:Ej s k=s[k-1].n:=by unfold Ej;rw[if_neg Ey,getElem!_pos s (k-1) qH]
           generalize hy:s[k-1]=y at*;obtain⟨n',rs'⟩:=y;simp only at VM;have c1:((k:Int)-1).toNat=k-1:=by omega
           have c2:(0:Int)<=(k:Int)-1:=by omega
           by_cases h5:n<=n'
           · have hh:c6 s=false:=by rw[hd,VM,decide_eq_false (show¬n'<n by omega)];simp
             simp-implicitDefEqProofs (disch:=(first|omega|decide)) only[go_sem,↓reduceIte,seval,aH,e1,h1,h2,hz,e2,c1,c2,h5,hh,wrap_i64,aa]
           · have Il:=rest (by rw[VM];omega)
             cases h3:((rs.length:Int)==0)with
             |true=>
              have:rs=[]:=aV.1 (by have:(rs.length:Int)=0:=by simpa using h3
                                   omega)
              have hh:c6 s=false:=by rw[Il false (by rw[this];rfl)];rfl
              simp-implicitDefEqProofs (disch:=(first|omega|decide)) only[go_sem,↓reduceIte,seval,aH,e1,h1,h2,hz,e2,c1,c2,h5,h3,hh,wrap_i64,aa]
             |false=>
              have eH:rs.isEmpty=false:=by
               cases rs with
               |nil=>simp at h3
               |cons _ _=>rfl
              cases h4:dC rs with
              |false=>
               have hh:c6 s=false:=by rw[Il false (by rw[eH,h4];rfl)];rfl
               simp-implicitDefEqProofs (disch:=(first|omega|decide)) only[go_sem,↓reduceIte,seval,aH,e1,h1,h2,hz,e2,c1,c2,h5,h3,h4,hh,wrap_i64,aa]
              |true=>
               have hh:=Il true (by rw[eH,h4];rfl)
               simp-implicitDefEqProofs (disch:=(first|omega|decide)) only[go_sem,↓reduceIte,seval,aH,e1,h1,h2,hz,e2,c1,c2,h5,h3,h4,wrap_i64,aa]
               exact next hh
   · have aH: ¬(k:Int)<(s.length:Int):=by omega
     have hh:c6 s=true:=by rw[hd,aC (by omega)];rfl
     simp-implicitDefEqProofs (disch:=(first|omega|decide)) only[go_sem,↓reduceIte,seval,aH,hh,aa]
theorem right_ver{n c:Int}:cm ⟨n,c⟩=(dJ n&&(decide (1<=c)&&decide (c<=1099511627776))):=by simp[cm,dJ,eI]
theorem ZF{s:List aF}{n c:Int}:(cm ⟨n,c⟩&&aX (bJ s n) c)=uK s n c:=by
 rw[right_ver];unfold uK
 cases h:aX (bJ s n) c with
 |false=>simp
 |true=>have:=has_range h;simp[this]
theorem TH:aQ Tryz.prog EP Tryz.f155.ntmps (Tryz.f155.body.getD .skip)=true:=by kernel_rfl
theorem W1(s:List aF)(n c:Int)(hs:bI s):bp Tryz.prog 155 [.ay (s.map aF.enc),.agg [.int .i64 n,.int .i64 c]] (· = .bool (uK s n c)):=by
 refine ah A4 mixed Tryz.func155 rfl (ab rfl) TH ?_;unfold Tryz.f155;obtain⟨hs1,hs2⟩:=hs;have hv:=ZF (s:=s) (n:=n) (c:=c)
 cases h1:cm ⟨n,c⟩with
 |false=>
  rw[h1,aI]at hv;simp-implicitDefEqProofs (disch:=(first|omega|decide)) only[go_sem,↓reduceIte,seval,h1,<-hv,aa]
 |true=>
  rw[h1,aB]at hv;simp-implicitDefEqProofs (disch:=(first|omega|decide)) only[go_sem,↓reduceIte,seval,h1,<-hv,aa]
  refine a_ [0,3,10,11] (ι:={k:Nat//k<=s.length/\aX (bJ s n) c=aX (bJ (s.drop k) n) c}) (fun p=>[(12,.int .i64 p.1)]) (fun _=>[]) (fun p=>s.length-p.1) ⟨0,by omega,rfl⟩ (aw _) ?_ ?_
  · simp-implicitDefEqProofs (disch:=(first|omega|decide)) only[go_sem,↓reduceIte,seval]
  · rintro⟨k,hk,hd⟩
    simp only at hk hd⊢;by_cases bo:k<s.length
    · have aH:(k:Int)<(s.length:Int):=by omega
      have e1:=iT bo;have hm:=oN (ao bo)
      rw[ax bo]at hd;generalize hx:s[k]=x at*;obtain⟨m,rs⟩:=x;simp only[bJ]at hd hm;have next:aX (bJ s n) c=aX (bJ (s.drop (k+1)) n) c-> ∃j:{k:Nat//k<=s.length/\aX (bJ s n) c=aX (bJ (s.drop k) n) c},(k:Int)+1=(j.1:Int)/\s.length-j.1<s.length-k:=fun h=>⟨⟨k+1,bo,h⟩,by simp,by show s.length-(k+1)<s.length-k;omega⟩
      cases h2:m==n with
      |false=>
       have:m≠n:=by simpa using h2
       rw[if_neg this]at hd;simp-implicitDefEqProofs (disch:=(first|omega|decide)) only[go_sem,↓reduceIte,seval,aH,e1,h2,wrap_i64,aa]
       exact next hd
      |true=>
       have:m=n:=by simpa using h2
       rw[if_pos this,lj]at hd;cases h3:aX rs c with
       |true=>
        have hh:aX (bJ s n) c=true:=by rw[hd,h3];rfl
        simp-implicitDefEqProofs (disch:=(first|omega|decide)) only[go_sem,↓reduceIte,seval,aH,e1,h2,h3,hh,aa]
       |false=>
        rw[h3,bu]at hd;simp-implicitDefEqProofs (disch:=(first|omega|decide)) only[go_sem,↓reduceIte,seval,aH,e1,h2,h3,wrap_i64,aa]
        exact next hd
    · have aH: ¬(k:Int)<(s.length:Int):=by omega
      have hh:aX (bJ s n) c=false:=by rw[hd,aC (by omega)];rfl
      simp-implicitDefEqProofs (disch:=(first|omega|decide)) only[go_sem,↓reduceIte,seval,aH,hh,aa]
theorem stRuns(l:List bH):((l.map bH.enc).isEmpty||eV (l.map bH.enc)==2)=true:=by cases l<;>rfl
theorem zm{s:List aF}{k:Nat}(h:k<s.length)(n:Int):bJ (s.take (k+1)) n=bJ (s.take k) n++(if s[k].n=n then s[k].rs else []):=by
 rw[<-ar h,iD]
 simp only[bJ,bj]
theorem Lh:aQ Tryz.prog EP Tryz.f184.ntmps (Tryz.f184.body.getD .skip)=true:=by kernel_rfl
theorem PE(s:List aF)(n:Int)(hs:bI s):bp Tryz.prog 184 [.ay (s.map aF.enc),.int .i64 n] (· = .ay ((bJ s n).map bH.enc)):=by
 refine ah A4 mixed Tryz.func184 rfl (ab rfl) Lh ?_;unfold Tryz.f184;obtain⟨hs1,hs2⟩:=hs;simp-implicitDefEqProofs (disch:=(first|omega|decide)) only[go_sem,↓reduceIte,seval,aa]
 refine ch 5 2 rfl ?_;refine a_ [0,1] (ι:={k:Nat//k<=s.length}) (fun p=>[(6,.int .i64 p.1),(5,.row 0 0 2 (bJ (s.take p.1) n).length false)]) (fun p=>[(0,.row 2 ((bJ (s.take p.1) n).map bH.enc))]) (fun p=>s.length-p.1) ⟨0,by omega⟩ (aw _) ?_ ?_
 · simp-implicitDefEqProofs (disch:=(first|omega|decide)) only[go_sem,↓reduceIte,seval]
   simp[bJ]
 · rintro⟨k,hk⟩
   simp only;have hl1:=lU (s.take k) n;by_cases bo:k<s.length
   · have aH:(k:Int)<(s.length:Int):=by omega
     have e1:=iT bo;have hm:=NN bo;have fe:=zm bo n;generalize hx:s[k]=x at*;obtain⟨m,rs⟩:=x;simp only at hm fe;have st:=stRuns rs;cases h2:m==n with
     |false=>
      have:m≠n:=by simpa using h2
      rw[if_neg this,bj]at fe;simp-implicitDefEqProofs (disch:=(first|omega|decide)) only[go_sem,↓reduceIte,seval,aH,e1,h2,wrap_i64,aa]
      exact⟨⟨k+1,bo⟩,⟨⟨by simp,by rw[fe]⟩,by rw[fe]⟩,by show s.length-(k+1)<s.length-k;omega⟩
     |true=>
      have:m=n:=by simpa using h2
      rw[if_pos this]at fe;simp-implicitDefEqProofs (disch:=(first|omega|decide)) only[go_sem,↓reduceIte,seval,aH,e1,h2,st,wrap_i64,aa]
      exact⟨⟨ai _,by omega⟩,⟨k+1,bo⟩,⟨⟨by simp,by rw[fe,aj]⟩,by rw[fe,bz,ad (by simp)]⟩,by show s.length-(k+1)<s.length-k;omega⟩
   · have aH: ¬(k:Int)<(s.length:Int):=by omega
     rw[ad (by omega)]at*;simp-implicitDefEqProofs (disch:=(first|omega|decide)) only[go_sem,↓reduceIte,seval,aH,aa]
     exact⟨ai _,by rw[ad (by simp)]⟩
def W2:aW:=EP.add 171 (entry (fun(s:List aF)=>[.ay (s.map aF.enc)]) (fun s=>bI s) (fun s=> .bool (c6 s)))
theorem K14d_ok:aN Tryz.prog W2:=A4.dH Tryz.func171 (by kernel_rfl) (by kernel_rfl) fun s h=>PD s h
@[go_sem] theorem K14d_old{g:FuncId}{xs:List A}(h:g≠171):W2.f g xs=EP.f g xs:=aW.aU h
theorem ER(s:List aF)(h:bI s):W2.f 171 [.ay (s.map aF.enc)]=some (.bool (c6 s)):=aW.aZ (Γ:=EP) (fun i j h=>by simpa[ag,and_assoc]using h) s h
def W3:aW:=W2.add 151 (entry (fun(s:List aF)=>[.ay (s.map aF.enc)]) (fun s=>bI s) (fun s=> .bool (c6 s)))
theorem K14e_ok:aN Tryz.prog W3:=K14d_ok.dH Tryz.func151 (by kernel_rfl) (by kernel_rfl) fun s h=>Lg s h
@[go_sem] theorem K14e_old{g:FuncId}{xs:List A}(h:g≠151):W3.f g xs=W2.f g xs:=aW.aU h
theorem CB(s:List aF)(h:bI s):W3.f 151 [.ay (s.map aF.enc)]=some (.bool (c6 s)):=aW.aZ (Γ:=W2) (fun i j h=>by simpa[ag,and_assoc]using h) s h
def TI:aW:=W3.add 155 (entry (fun(v:List aF×Int×Int)=>[.ay (v.1.map aF.enc),.agg [.int .i64 v.2.1,.int .i64 v.2.2]]) (fun v=>bI v.1) (fun v=> .bool (uK v.1 v.2.1 v.2.2)))
theorem K14f_ok:aN Tryz.prog TI:=K14e_ok.dH Tryz.func155 (by kernel_rfl) (by kernel_rfl) fun v h=>W1 v.1 v.2.1 v.2.2 h
@[go_sem] theorem K14f_old{g:FuncId}{xs:List A}(h:g≠155):TI.f g xs=W3.f g xs:=aW.aU h
theorem Li(v:List aF×Int×Int)(h:bI v.1):TI.f 155 [.ay (v.1.map aF.enc),.agg [.int .i64 v.2.1,.int .i64 v.2.2]]=some (.bool (uK v.1 v.2.1 v.2.2)):=aW.aZ (Γ:=W3) (fun i j h=>by simpa[ag,and_assoc]using h) v h
def Lj:aW:=TI.add 184 (entry (fun(v:List aF×Int)=>[.ay (v.1.map aF.enc),.int .i64 v.2]) (fun v=>bI v.1) (fun v=> .ay ((bJ v.1 v.2).map bH.enc)))
theorem ZG:aN Tryz.prog Lj:=K14f_ok.dH Tryz.func184 (by kernel_rfl) (by kernel_rfl) fun v h=>PE v.1 v.2 h
@[go_sem] theorem K14g_old{g:FuncId}{xs:List A}(h:g≠184):Lj.f g xs=TI.f g xs:=aW.aU h
@[go_sem] theorem K14g_s:Lj.pl TI:=⟨fun _=>rfl,fun _=>rfl,rfl,fun _=>rfl,rfl,fun _=>rfl,rfl⟩
theorem ES(v:List aF×Int)(h:bI v.1):Lj.f 184 [.ay (v.1.map aF.enc),.int .i64 v.2]=some (.ay ((bJ v.1 v.2).map bH.enc)):=aW.aZ (Γ:=TI) (fun i j h=>by simpa[ag,and_assoc]using h) v h
@[go_sem] theorem PF{s:List aF}(h:bI s):W2.f 171 [.ay (s.map aF.enc)]=some (.bool (c6 s)):=ER s h
@[go_sem] theorem Lk{s:List aF}(h:bI s):W3.f 151 [.ay (s.map aF.enc)]=some (.bool (c6 s)):=CB s h
@[go_sem] theorem W4{s:List aF}{n c:Int}(h:bI s):TI.f 155 [.ay (s.map aF.enc),.agg [.int .i64 n,.int .i64 c]]=some (.bool (uK s n c)):=Li (s,n,c) h
@[go_sem] theorem uO{s:List aF}{n:Int}(h:bI s):Lj.f 184 [.ay (s.map aF.enc),.int .i64 n]=some (.ay ((bJ s n).map bH.enc)):=ES (s,n) h
theorem PG:aQ Tryz.prog Lj Tryz.f139.ntmps (Tryz.f139.body.getD .skip)=true:=by kernel_rfl
theorem TJ(s:List aF)(n c:Int)(hs:bI s):bp Tryz.prog 139 [.ay (s.map aF.enc),.agg [.int .i64 n,.int .i64 c]] (· = .bool (uK s n c)):=by
 refine ah ZG mixed Tryz.func139 rfl (ab rfl) PG ?_;unfold Tryz.f139;have hl:=lU s n;have hs':=hs.2;have hv:=ZF (s:=s) (n:=n) (c:=c)
 have hr:=uO (n:=n) hs;cases h1:cm ⟨n,c⟩with
 |false=>
  rw[h1,aI]at hv;simp-implicitDefEqProofs (disch:=(first|omega|decide)) only[go_sem,↓reduceIte,seval,h1,hr,<-hv,aa]
 |true=>
  rw[h1,aB]at hv;simp-implicitDefEqProofs (disch:=(first|omega|decide)) only[go_sem,↓reduceIte,seval,h1,hr,<-hv,aa]
def Ll:aW:=Lj.add 139 (entry (fun(v:List aF×Int×Int)=>[.ay (v.1.map aF.enc),.agg [.int .i64 v.2.1,.int .i64 v.2.2]]) (fun v=>bI v.1) (fun v=> .bool (uK v.1 v.2.1 v.2.2)))
theorem ZH:aN Tryz.prog Ll:=ZG.dH Tryz.func139 (by kernel_rfl) (by kernel_rfl) fun v h=>TJ v.1 v.2.1 v.2.2 h
@[go_sem] theorem K14h_old{g:FuncId}{xs:List A}(h:g≠139):Ll.f g xs=Lj.f g xs:=aW.aU h
@[go_sem] theorem K14h_s:Ll.pl Lj:=⟨fun _=>rfl,fun _=>rfl,rfl,fun _=>rfl,rfl,fun _=>rfl,rfl⟩
theorem Im(v:List aF×Int×Int)(h:bI v.1):Ll.f 139 [.ay (v.1.map aF.enc),.agg [.int .i64 v.2.1,.int .i64 v.2.2]]=some (.bool (uK v.1 v.2.1 v.2.2)):=aW.aZ (Γ:=Lj) (fun i j h=>by simpa[ag,and_assoc]using h) v h
@[go_sem] theorem TK{s:List aF}{n c:Int}(h:bI s):Ll.f 139 [.ay (s.map aF.enc),.agg [.int .i64 n,.int .i64 c]]=some (.bool (uK s n c)):=Im (s,n,c) h
end Go.Proofs.YtfnohjheonlnmaaGreat
namespace Go.Proofs.YtfnohjheonlnmaaGreat
open Go.dF
set_option linter.unusedSimpArgs false
set_option linter.unusedVariables false
set_option maxRecDepth 20000
set_option maxHeartbeats 8000000
def dA(a b:List aF):Bool:=decide (a=b)
def sL(x y:aF):Bool:=x.n==y.n&&lJ x.rs y.rs
theorem xM{x y:aF}:sL x y=true ↔ x=y:=by cases x;cases y;simp[sL,lJ]
theorem jP:aQ Tryz.prog Ll Tryz.f121.ntmps (Tryz.f121.body.getD .skip)=true:=by kernel_rfl
theorem TL(a b:List bH)(hl:a.length<=4398046511104)(hb:b.length<=4398046511104):bp Tryz.prog 121 [.ay (a.map bH.enc),.ay (b.map bH.enc)] (· = .bool (lJ a b)):=by
 refine ah ZH mixed Tryz.func121 rfl (ab rfl) jP ?_;unfold Tryz.f121;cases h0:((a.length:Int)==(b.length:Int))with
 |false=>
  have eH:a.length≠b.length:=by
   have:(a.length:Int)≠(b.length:Int):=by simpa using h0
   omega
  have hh:lJ a b=false:=by unfold lJ;simp;intro e;exact eH (by rw[e])
  simp-implicitDefEqProofs (disch:=(first|omega|decide)) only[go_sem,↓reduceIte,seval,h0,hh,aa]
 |true=>
  have he:a.length=b.length:=by
   have:(a.length:Int)=(b.length:Int):=by simpa using h0
   omega
  simp-implicitDefEqProofs (disch:=(first|omega|decide)) only[go_sem,↓reduceIte,seval,h0,aa]
  refine a_ [0,1,12] (ι:={k:Nat//k<=a.length/\a.take k=b.take k}) (fun p=>[(13,.int .i64 p.1)]) (fun _=>[]) (fun p=>a.length-p.1) ⟨0,by omega,rfl⟩ (aw _) ?_ ?_
  · simp-implicitDefEqProofs (disch:=(first|omega|decide)) only[go_sem,↓reduceIte,seval]
  · rintro⟨k,hk,hd⟩
    simp only;by_cases bo:k<a.length
    · have aH:(k:Int)<(a.length:Int):=by omega
      have og:(k:Int)<(b.length:Int):=by omega
      have jD:k<b.length:=by omega
      have e1:=run_get bo;have e2:=run_get jD;have t1:=(ar bo).symm;have t2:=(ar jD).symm;have th:a[k]≠b[k]->lJ a b=false:=fun h=>by unfold lJ;simp;intro e;subst e;exact h rfl
      generalize hx:a[k]=x at*;generalize hy:b[k]=y at*;obtain⟨f,t⟩:=x;obtain⟨f',t'⟩:=y;cases h1:f==f' with
      |false=>
       have hh:=th (by have:f≠f':=by simpa using h1
                       simp[this])
       simp-implicitDefEqProofs (disch:=(first|omega|decide)) only[go_sem,↓reduceIte,seval,aH,og,e1,e2,h1,hh,aa]
      |true=>
       cases h2:t==t' with
       |false=>
        have hh:=th (by have:t≠t':=by simpa using h2
                        simp[this])
        simp-implicitDefEqProofs (disch:=(first|omega|decide)) only[go_sem,↓reduceIte,seval,aH,og,e1,e2,h1,h2,hh,aa]
       |true=>
        obtain rfl:f=f':=by simpa using h1
        obtain rfl:t=t':=by simpa using h2
        simp-implicitDefEqProofs (disch:=(first|omega|decide)) only[go_sem,↓reduceIte,seval,aH,og,e1,e2,h1,h2,wrap_i64,aa]
        exact⟨⟨k+1,bo,by rw[t1,t2,hd]⟩,by simp,by show a.length-(k+1)<a.length-k;omega⟩
    · have aH: ¬(k:Int)<(a.length:Int):=by omega
      have hh:lJ a b=true:=by rw[ad (by omega),ad (by omega)]at hd;simp[lJ,hd]
      simp-implicitDefEqProofs (disch:=(first|omega|decide)) only[go_sem,↓reduceIte,seval,aH,hh,aa]
def Lm:aW:=Ll.add 121 (entry (fun(v:List bH×List bH)=>[.ay (v.1.map bH.enc),.ay (v.2.map bH.enc)]) (fun v=>v.1.length<=4398046511104/\v.2.length<=4398046511104) (fun v=> .bool (lJ v.1 v.2)))
theorem ZI:aN Tryz.prog Lm:=ZH.dH Tryz.func121 (by kernel_rfl) (by kernel_rfl) fun v h=>TL v.1 v.2 h.1 h.2
@[go_sem] theorem K14i_old{g:FuncId}{xs:List A}(h:g≠121):Lm.f g xs=Ll.f g xs:=aW.aU h
@[go_sem] theorem K14i_s:Lm.pl Ll:=⟨fun _=>rfl,fun _=>rfl,rfl,fun _=>rfl,rfl,fun _=>rfl,rfl⟩
theorem jw(v:List bH×List bH)(h:v.1.length<=4398046511104/\v.2.length<=4398046511104):Lm.f 121 [.ay (v.1.map bH.enc),.ay (v.2.map bH.enc)]=some (.bool (lJ v.1 v.2)):=aW.aZ (Γ:=Ll) (fun i j h=>by simpa[ag,and_assoc]using h) v h
@[go_sem] theorem TM{a b:List bH}(ha:a.length<=4398046511104)(hb:b.length<=4398046511104):Lm.f 121 [.ay (a.map bH.enc),.ay (b.map bH.enc)]=some (.bool (lJ a b)):=jw (a,b) ⟨ha,hb⟩
theorem Io:aQ Tryz.prog Lm Tryz.f211.ntmps (Tryz.f211.body.getD .skip)=true:=by kernel_rfl
theorem PH(x y:aF)(hx:x.rs.length<=4398046511104)(hy:y.rs.length<=4398046511104):bp Tryz.prog 211 [.agg [.int .i64 x.n,.ay (x.rs.map bH.enc)],.agg [.int .i64 y.n,.ay (y.rs.map bH.enc)]] (· = .bool (sL x y)):=by
 refine ah ZI mixed Tryz.func211 rfl (ab rfl) Io ?_;unfold Tryz.f211;unfold sL;cases h1:x.n==y.n with
 |false=>simp-implicitDefEqProofs (disch:=(first|omega|decide)) only[go_sem,↓reduceIte,seval,h1,aa]
 |true=>simp-implicitDefEqProofs (disch:=(first|omega|decide)) only[go_sem,↓reduceIte,seval,h1,hx,hy,aa]
def ET:aW:=Lm.add 211 (entry (fun(v:(Int×List bH)×(Int×List bH))=>[.agg [.int .i64 v.1.1,.ay (v.1.2.map bH.enc)],.agg [.int .i64 v.2.1,.ay (v.2.2.map bH.enc)]]) (fun v=>v.1.2.length<=4398046511104/\v.2.2.length<=4398046511104) (fun v=> .bool (sL ⟨v.1.1,v.1.2⟩ ⟨v.2.1,v.2.2⟩)))
theorem A5:aN Tryz.prog ET:=ZI.dH Tryz.func211 (by kernel_rfl) (by kernel_rfl) fun v h=>PH ⟨v.1.1,v.1.2⟩ ⟨v.2.1,v.2.2⟩ h.1 h.2
@[go_sem] theorem K14j_old{g:FuncId}{xs:List A}(h:g≠211):ET.f g xs=Lm.f g xs:=aW.aU h
@[go_sem] theorem K14j_s:ET.pl Lm:=⟨fun _=>rfl,fun _=>rfl,rfl,fun _=>rfl,rfl,fun _=>rfl,rfl⟩
theorem CC(v:(Int×List bH)×(Int×List bH))(h:v.1.2.length<=4398046511104/\v.2.2.length<=4398046511104):ET.f 211 [.agg [.int .i64 v.1.1,.ay (v.1.2.map bH.enc)],.agg [.int .i64 v.2.1,.ay (v.2.2.map bH.enc)]]=some (.bool (sL ⟨v.1.1,v.1.2⟩ ⟨v.2.1,v.2.2⟩)):=aW.aZ (Γ:=Lm) (fun i j h=>by simpa[ag,and_assoc]using h) v h
@[go_sem] theorem k_vset_Same1{n m:Int}{rs qs:List bH}(ha:rs.length<=4398046511104)(hb:qs.length<=4398046511104):ET.f 211 [.agg [.int .i64 n,.ay (rs.map bH.enc)],.agg [.int .i64 m,.ay (qs.map bH.enc)]]=some (.bool (sL ⟨n,rs⟩ ⟨m,qs⟩)):=CC ((n,rs),(m,qs)) ⟨ha,hb⟩
theorem ed:aQ Tryz.prog ET Tryz.f119.ntmps (Tryz.f119.body.getD .skip)=true:=by kernel_rfl
theorem TN(a b:List aF)(ha:bI a)(hb:bI b):bp Tryz.prog 119 [.ay (a.map aF.enc),.ay (b.map aF.enc),.fn 211 []] (· = .bool (dA a b)):=by
 refine ah A5 mixed Tryz.func119 rfl (ab rfl) ed ?_;unfold Tryz.f119;obtain⟨ha1,ha2⟩:=ha;obtain⟨hb1,hb2⟩:=hb;cases h0:((a.length:Int)==(b.length:Int))with
 |false=>
  have eH:a.length≠b.length:=by
   have:(a.length:Int)≠(b.length:Int):=by simpa using h0
   omega
  have hh:dA a b=false:=by unfold dA;simp;intro e;exact eH (by rw[e])
  simp-implicitDefEqProofs (disch:=(first|omega|decide)) only[go_sem,↓reduceIte,seval,h0,hh,aa]
 |true=>
  have he:a.length=b.length:=by
   have:(a.length:Int)=(b.length:Int):=by simpa using h0
   omega
  simp-implicitDefEqProofs (disch:=(first|omega|decide)) only[go_sem,↓reduceIte,seval,h0,aa]
  refine a_ [0,1,2,15,16] (ι:={k:Nat//k<=a.length/\a.take k=b.take k}) (fun p=>[(17,.int .i64 p.1)]) (fun _=>[]) (fun p=>a.length-p.1) ⟨0,by omega,rfl⟩ (aw _) ?_ ?_
  · simp-implicitDefEqProofs (disch:=(first|omega|decide)) only[go_sem,↓reduceIte,seval]
  · rintro⟨k,hk,hd⟩
    simp only;by_cases bo:k<a.length
    · have aH:(k:Int)<(a.length:Int):=by omega
      have og:(k:Int)<(b.length:Int):=by omega
      have jD:k<b.length:=by omega
      have e1:=iT bo;have e2:=iT jD;have m1:=oN (ao bo)
      have m2:=oN (ao jD)
      have t1:=(ar bo).symm;have t2:=(ar jD).symm;have th:a[k]≠b[k]->dA a b=false:=fun h=>by unfold dA;simp;intro e;subst e;exact h rfl
      generalize hx:a[k]=x at*;generalize hy:b[k]=y at*;obtain⟨n,rs⟩:=x;obtain⟨n',rs'⟩:=y;simp only at m1 m2;cases h1:sL ⟨n,rs⟩ ⟨n',rs'⟩with
      |false=>
       have hh:=th (fun e=>by rw[xM.2 e]at h1;cases h1)
       simp-implicitDefEqProofs (disch:=(first|omega|decide)) only[go_sem,↓reduceIte,seval,aH,og,e1,e2,h1,hh,aa]
      |true=>
       have e:=xM.1 h1;simp-implicitDefEqProofs (disch:=(first|omega|decide)) only[go_sem,↓reduceIte,seval,aH,og,e1,e2,h1,wrap_i64,aa]
       exact⟨⟨k+1,bo,by rw[t1,t2,hd,e]⟩,by simp,by show a.length-(k+1)<a.length-k;omega⟩
    · have aH: ¬(k:Int)<(a.length:Int):=by omega
      have hh:dA a b=true:=by rw[ad (by omega),ad (by omega)]at hd;simp[dA,hd]
      simp-implicitDefEqProofs (disch:=(first|omega|decide)) only[go_sem,↓reduceIte,seval,aH,hh,aa]
theorem Ln:aQ Tryz.prog ET Tryz.f149.ntmps (Tryz.f149.body.getD .skip)=true:=by kernel_rfl
theorem PI(a b:List aF)(ha:bI a)(hb:bI b):bp Tryz.prog 149 [.ay (a.map aF.enc),.ay (b.map aF.enc)] (· = .bool (dA a b)):=by
 refine ah A5 mixed Tryz.func149 rfl (ab rfl) Ln ?_;unfold Tryz.f149;obtain⟨ha1,ha2⟩:=ha;obtain⟨hb1,hb2⟩:=hb;cases h0:((a.length:Int)==(b.length:Int))with
 |false=>
  have eH:a.length≠b.length:=by
   have:(a.length:Int)≠(b.length:Int):=by simpa using h0
   omega
  have hh:dA a b=false:=by unfold dA;simp;intro e;exact eH (by rw[e])
  simp-implicitDefEqProofs (disch:=(first|omega|decide)) only[go_sem,↓reduceIte,seval,h0,hh,aa]
 |true=>
  have he:a.length=b.length:=by
   have:(a.length:Int)=(b.length:Int):=by simpa using h0
   omega
  simp-implicitDefEqProofs (disch:=(first|omega|decide)) only[go_sem,↓reduceIte,seval,h0,aa]
  refine a_ [0,1] (ι:={k:Nat//k<=a.length/\a.take k=b.take k}) (fun p=>[(5,.int .i64 p.1)]) (fun _=>[]) (fun p=>a.length-p.1) ⟨0,by omega,rfl⟩ (aw _) ?_ ?_
  · simp-implicitDefEqProofs (disch:=(first|omega|decide)) only[go_sem,↓reduceIte,seval]
  · rintro⟨k,hk,hd⟩
    simp only;by_cases bo:k<a.length
    · have aH:(k:Int)<(a.length:Int):=by omega
      have og:(k:Int)<(b.length:Int):=by omega
      have jD:k<b.length:=by omega
      have e1:=iT bo;have e2:=iT jD;have m1:=oN (ao bo)
      have m2:=oN (ao jD)
      have t1:=(ar bo).symm;have t2:=(ar jD).symm;have th:a[k]≠b[k]->dA a b=false:=fun h=>by unfold dA;simp;intro e;subst e;exact h rfl
      generalize hx:a[k]=x at*;generalize hy:b[k]=y at*;obtain⟨n,rs⟩:=x;obtain⟨n',rs'⟩:=y;simp only at m1 m2;cases h1:n==n' with
      |false=>
       have hh:=th (by have:n≠n':=by simpa using h1
                       simp[this])
       simp-implicitDefEqProofs (disch:=(first|omega|decide)) only[go_sem,↓reduceIte,seval,aH,og,e1,e2,h1,hh,aa]
      |true=>
       obtain rfl:n=n':=by simpa using h1
       cases h2:lJ rs rs' with
       |false=>
        have hh:=th (by have:rs≠rs':=by simpa[lJ]using h2
                        simp[this])
        simp-implicitDefEqProofs (disch:=(first|omega|decide)) only[go_sem,↓reduceIte,seval,aH,og,e1,e2,h1,h2,hh,aa]
       |true=>
        obtain rfl:rs=rs':=by simpa[lJ]using h2
        simp-implicitDefEqProofs (disch:=(first|omega|decide)) only[go_sem,↓reduceIte,seval,aH,og,e1,e2,h1,h2,wrap_i64,aa]
        exact⟨⟨k+1,bo,by rw[t1,t2,hd]⟩,by simp,by show a.length-(k+1)<a.length-k;omega⟩
    · have aH: ¬(k:Int)<(a.length:Int):=by omega
      have hh:dA a b=true:=by rw[ad (by omega),ad (by omega)]at hd;simp[dA,hd]
      simp-implicitDefEqProofs (disch:=(first|omega|decide)) only[go_sem,↓reduceIte,seval,aH,hh,aa]
def sM(s:List aF)(m:Int):Bool:=decide (m<(s.length:Int))||s.any fun k=>decide (m<(k.rs.length:Int))
theorem Lo:aQ Tryz.prog ET Tryz.f130.ntmps (Tryz.f130.body.getD .skip)=true:=by kernel_rfl
theorem PJ(s:List aF)(m:Int)(hs:s.length<=9223372036854775807):bp Tryz.prog 130 [.ay (s.map aF.enc),.int .i64 m] (· = .bool (sM s m)):=by
 refine ah A5 mixed Tryz.func130 rfl (ab rfl) Lo ?_;unfold Tryz.f130;by_cases h0:m<(s.length:Int)
 · have hh:sM s m=true:=by unfold sM;rw[decide_eq_true h0];rfl
   simp-implicitDefEqProofs (disch:=(first|omega|decide)) only[go_sem,↓reduceIte,seval,h0,hh,aa]
 · simp-implicitDefEqProofs (disch:=(first|omega|decide)) only[go_sem,↓reduceIte,seval,h0,aa]
   refine a_ [0,1] (ι:={k:Nat//k<=s.length/\sM s m=(s.drop k).any fun k=>decide (m<(k.rs.length:Int))}) (fun p=>[(5,.int .i64 p.1)]) (fun _=>[]) (fun p=>s.length-p.1) ⟨0,by omega,by unfold sM;rw[decide_eq_false h0,bu];rfl⟩ (aw _) ?_ ?_
   · simp-implicitDefEqProofs (disch:=(first|omega|decide)) only[go_sem,↓reduceIte,seval]
   · rintro⟨k,hk,hd⟩
     simp only at hk hd⊢;by_cases bo:k<s.length
     · have aH:(k:Int)<(s.length:Int):=by omega
       have e1:=iT bo;rw[ax bo,cI]at hd;generalize hx:s[k]=x at*;obtain⟨n,rs⟩:=x;simp only at hd;by_cases h1:m<(rs.length:Int)
       · have hh:sM s m=true:=by rw[hd,decide_eq_true h1];rfl
         simp-implicitDefEqProofs (disch:=(first|omega|decide)) only[go_sem,↓reduceIte,seval,aH,e1,h1,hh,aa]
       · rw[decide_eq_false h1,bu]at hd
         simp-implicitDefEqProofs (disch:=(first|omega|decide)) only[go_sem,↓reduceIte,seval,aH,e1,h1,wrap_i64,aa]
         exact⟨⟨k+1,bo,hd⟩,by simp,by show s.length-(k+1)<s.length-k;omega⟩
     · have aH: ¬(k:Int)<(s.length:Int):=by omega
       have hh:sM s m=false:=by rw[hd,aC (by omega)];rfl
       simp-implicitDefEqProofs (disch:=(first|omega|decide)) only[go_sem,↓reduceIte,seval,aH,hh,aa]
theorem PK:aQ Tryz.prog ET Tryz.f201.ntmps (Tryz.f201.body.getD .skip)=true:=by kernel_rfl
theorem TO(n c:Int):bp Tryz.prog 201 [.agg [.int .i64 n,.int .i64 c]] (· = .ay ([⟨n,[⟨c,c⟩]⟩].map aF.enc)):=by refine ah A5 mixed Tryz.func201 rfl (ab rfl) PK ?_;unfold Tryz.f201;simp-implicitDefEqProofs (disch:=(first|omega|decide)) only[go_sem,↓reduceIte,seval,aS,bD]
def W5:aW:=ET.add 119 (entry (fun(v:List aF×List aF)=>[.ay (v.1.map aF.enc),.ay (v.2.map aF.enc),.fn 211 []]) (fun v=>bI v.1/\bI v.2) (fun v=> .bool (dA v.1 v.2)))
theorem K14k_ok:aN Tryz.prog W5:=A5.dH Tryz.func119 (by kernel_rfl) (by kernel_rfl) fun v h=>TN v.1 v.2 h.1 h.2
@[go_sem] theorem K14k_old{g:FuncId}{xs:List A}(h:g≠119):W5.f g xs=ET.f g xs:=aW.aU h
theorem dV(v:List aF×List aF)(h:bI v.1/\bI v.2):W5.f 119 [.ay (v.1.map aF.enc),.ay (v.2.map aF.enc),.fn 211 []]=some (.bool (dA v.1 v.2)):=aW.aZ (Γ:=ET) (fun i j h=>by simpa[ag,and_assoc]using h) v h
def W6:aW:=W5.add 149 (entry (fun(v:List aF×List aF)=>[.ay (v.1.map aF.enc),.ay (v.2.map aF.enc)]) (fun v=>bI v.1/\bI v.2) (fun v=> .bool (dA v.1 v.2)))
theorem K14l_ok:aN Tryz.prog W6:=K14k_ok.dH Tryz.func149 (by kernel_rfl) (by kernel_rfl) fun v h=>PI v.1 v.2 h.1 h.2
@[go_sem] theorem K14l_old{g:FuncId}{xs:List A}(h:g≠149):W6.f g xs=W5.f g xs:=aW.aU h
theorem EU(v:List aF×List aF)(h:bI v.1/\bI v.2):W6.f 149 [.ay (v.1.map aF.enc),.ay (v.2.map aF.enc)]=some (.bool (dA v.1 v.2)):=aW.aZ (Γ:=W5) (fun i j h=>by simpa[ag,and_assoc]using h) v h
def TP:aW:=W6.add 130 (entry (fun(v:List aF×Int)=>[.ay (v.1.map aF.enc),.int .i64 v.2]) (fun v=>v.1.length<=9223372036854775807) (fun v=> .bool (sM v.1 v.2)))
theorem K14m_ok:aN Tryz.prog TP:=K14l_ok.dH Tryz.func130 (by kernel_rfl) (by kernel_rfl) fun v h=>PJ v.1 v.2 h
@[go_sem] theorem K14m_old{g:FuncId}{xs:List A}(h:g≠130):TP.f g xs=W6.f g xs:=aW.aU h
theorem EV(v:List aF×Int)(h:v.1.length<=9223372036854775807):TP.f 130 [.ay (v.1.map aF.enc),.int .i64 v.2]=some (.bool (sM v.1 v.2)):=aW.aZ (Γ:=W6) (fun i j h=>by simpa[ag,and_assoc]using h) v h
def Ip:aW:=TP.add 201 (entry (fun(v:Int×Int)=>[.agg [.int .i64 v.1,.int .i64 v.2]]) (fun v=>True) (fun v=> .ay ([⟨v.1,[⟨v.2,v.2⟩]⟩].map aF.enc)))
theorem PL:aN Tryz.prog Ip:=K14m_ok.dH Tryz.func201 (by kernel_rfl) (by kernel_rfl) fun v h=>TO v.1 v.2
@[go_sem] theorem K14n_old{g:FuncId}{xs:List A}(h:g≠201):Ip.f g xs=TP.f g xs:=aW.aU h
@[go_sem] theorem K14n_s:Ip.pl TP:=⟨fun _=>rfl,fun _=>rfl,rfl,fun _=>rfl,rfl,fun _=>rfl,rfl⟩
theorem Iq(v:Int×Int)(h:True):Ip.f 201 [.agg [.int .i64 v.1,.int .i64 v.2]]=some (.ay ([⟨v.1,[⟨v.2,v.2⟩]⟩].map aF.enc)):=aW.aZ (Γ:=TP) (fun i j h=>by simpa[ag,and_assoc]using h) v h
@[go_sem] theorem TQ{a b:List aF}(ha:bI a)(hb:bI b):W5.f 119 [.ay (a.map aF.enc),.ay (b.map aF.enc),.fn 211 []]=some (.bool (dA a b)):=dV (a,b) ⟨ha,hb⟩
@[go_sem] theorem qP{a b:List aF}(ha:bI a)(hb:bI b):W6.f 149 [.ay (a.map aF.enc),.ay (b.map aF.enc)]=some (.bool (dA a b)):=EU (a,b) ⟨ha,hb⟩
@[go_sem] theorem PM{s:List aF}{m:Int}(hs:s.length<=9223372036854775807):TP.f 130 [.ay (s.map aF.enc),.int .i64 m]=some (.bool (sM s m)):=EV (s,m) hs
@[go_sem] theorem k_ref14_One{n c:Int}:Ip.f 201 [.agg [.int .i64 n,.int .i64 c]]=some (.ay ([⟨n,[⟨c,c⟩]⟩].map aF.enc)):=Iq (n,c) trivial
end Go.Proofs.YtfnohjheonlnmaaGreat
namespace Go.Proofs.YtfnohjheonlnmaaGreat
open Go.dF
set_option linter.unusedSimpArgs false
set_option linter.unusedVariables false
set_option maxRecDepth 20000
set_option maxHeartbeats 8000000
def kI(l:List bH):A:= .ay (l.map bH.enc)
theorem slcR_inj(l m:List bH)(h:kI l=kI m):l=m:=by simpa[kI]using h
@[simp] theorem map_slcR_inj{L M:List (List bH)}:(L.map kI=M.map kI)=(L=M):=map_inj slcR_inj
def nu(s:List aF):List (List bH):=(List.range 16).map fun i=>bJ s ((i:Nat)+1)
theorem nv(s:List aF):(nu s).length=16:=by simp[nu]
theorem rQ(s:List aF){i:Nat}(h:i<16):(nu s)[i]? =some (bJ s (i+1)):=by simp[nu,h]
theorem TR{L:List (List bH)}{s:List aF}(hl:L.length=16)(h: ∀i:Nat,i<16->L[i]? =some (bJ s (i+1))):L=nu s:=by
 apply j0;intro i;rcases fT i 16 with hi|hi
 · rw[h i hi,rQ s hi]
 · rw[ez (by omega),ez (by rw[nv];omega)]
theorem tabL_snoc{s:List aF}{k:Nat}(h:k<s.length)(hr:dJ s[k].n=true):nu (s.take (k+1))=(nu (s.take k)).set (s[k].n-1).toNat (bJ (s.take k) s[k].n++s[k].rs):=by
 rw[eo]at hr;symm;refine TR (by rw[dd,nv]) fun i hi=> ?_;rw[cY,nv,rQ _ hi,zm h]
 by_cases e:(s[k].n-1).toNat=i
 · have e2:s[k].n=(i:Int)+1:=by omega
   rw[if_pos e,if_pos (by omega),if_pos e2,<-e2]
 · rw[if_neg e,if_neg (by omega),bj]
theorem tabL_skip{s:List aF}{k:Nat}(h:k<s.length)(hr:dJ s[k].n=false):nu (s.take (k+1))=nu (s.take k):=by
 symm;refine TR (by rw[nv]) fun i hi=> ?_;rw[rQ _ hi,zm h,if_neg,bj]
 intro e;rw[<-dI,eo]at hr;omega
theorem A6{L:List (List bH)}{i:Nat}{l:List bH}(h:L[i]? =some l):((L.map kI).drop (i*1)).head? =some (.ay (l.map bH.enc)):=by rw[mG,List.head?_drop,aT,h];rfl
theorem Ir{cs:List A}{i:Nat}{x:A}(h:i<cs.length):jI cs i [x]=cs.set i x:=by unfold jI;rw[nh,if_pos h];simp
theorem tP{m:Nat}: ∀{cs:List A},A.under.my m cs=true->RI m cs cs
 | [],_=>by simp[RI]
 |c::cs,h=>by
  simp only[A.under.my,ak]at h;simp only[RI]
  exact⟨.inr ⟨trivial,h.1⟩,tP h.2⟩
theorem tQ{m:Nat}(L:List (List bH)):A.under.my m (L.map kI)=true:=by
 induction L with
 |nil=>rfl
 |cons l L ih=>simp only[aS,A.under.my,ih,cv];rfl
theorem frz_tab{ρ:List Nat}{H:List Go.dF.Obj}(L:List (List bH)):(L.map kI).map (sh ρ H)=L.map kI:=by
 rw[eD]
 apply k_;intro l _;show sh ρ H (.ay (l.map bH.enc))= .ay (l.map bH.enc)
 unfold sh;rw[if_neg]
 simp[A.meets,A.mem]
theorem NO{n:Nat}(L:List (List bH)):(L.map kI).map (jA n)=L.map kI:=by
 rw[eD]
 apply k_;intro l _;show jA n (.ay (l.map bH.enc))= .ay (l.map bH.enc)
 unfold jA;rw[if_neg]
 simp[A.mem]
theorem Is{H:List Go.dF.Obj}(L:List (List bH)):jS H (L.map kI)=some (L.map kI):=by
 induction L with
 |nil=>rfl
 |cons l L ih=>simp only[aS,jS,ih];rfl
theorem Iu{L:List (List bH)}(h:L.length=16):List.take 16 (L.map kI)=L.map kI:=ad (by simp[h])
theorem frz_set{n len i:Nat}{es:List A}(L:List (List bH))(hi:i<L.length)(hl:len<=es.length):
 List.map (sh [n] [Go.dF.Obj.row 2 es]) (List.take (i*1) (L.map kI)++[A.row n 0 2 len false]++List.drop (i*1+1) (L.map kI))=(L.map kI).set i (.ay (es.take len)):=by
 rw[mG,bz,bz,iw,kF,frz_tab,nh,if_pos (by simp[hi])]
 have e:sh [n] [Go.dF.Obj.row 2 es] (A.row n 0 2 len false)= .ay (es.take len):=by simp[sh,A.meets,A.mem,A.oA,idx,view,ry,pd,mb,ff,hl]
 simp[e]
def K14Fa:aW:=Ip.kz 219 (dG (fun l:List bH=>[.ay (l.map bH.enc)]) (fun _=>[]) (fun l=>l.length<=4398046511104) (fun l=>(.row 0 0 2 l.length false,[.row 2 (l.map bH.enc)],[])))
def wG:aW:={K14Fa with sg:=fun f=>f==219,fS:=fun n=>if n=7 then
 [[1,2,3,0,4,5,6,7,8,9],[1,2,3,0,5,4,6,7,8,9],[1,2,3,0,5,6,4,7,8,9],[1,2,3,4,5,6,0,7,8,9],[1,2,3,4,5,6,7,0,8,9],[1,2,3,5,0,4,6,7,8,9],
  [1,2,3,5,0,6,4,7,8,9],[1,2,3,5,4,6,0,7,8,9],[1,2,3,5,4,6,7,0,8,9],[1,2,3,5,6,0,4,7,8,9],[1,2,3,5,6,4,0,7,8,9],[1,2,3,5,6,4,7,0,8,9]]else []}
theorem TT:aN Tryz.prog K14Fa:=PL.kz (dE Tryz.func219 (by kernel_rfl) (by kernel_rfl)) (gm fun l h=>Eh l h)
theorem K14F_ok:aN Tryz.prog wG:=⟨TT.f,TT.hp⟩
@[go_sem] theorem K14F_f:wG.f=Ip.f:=rfl
@[go_sem] theorem K14F_eff{g:FuncId}:wG.sg g=(g==219):=rfl
@[go_sem] theorem K14F_frz{g:FuncId}:wG.xk g=false:=rfl
@[go_sem] theorem K14F_fix{n:Nat}:wG.fix n=false:=rfl
@[go_sem] theorem K14F_ords0:wG.fS 0=[]:=rfl
@[go_sem] theorem K14F_ords1:wG.fS 1=[]:=rfl
@[go_sem] theorem K14F_ords2:wG.fS 2=[]:=rfl
@[go_sem] theorem K14F_ords3:wG.fS 3=[]:=rfl
@[go_sem] theorem K14F_ords4:wG.fS 4=[]:=rfl
@[go_sem] theorem K14F_ords5:wG.fS 5=[]:=rfl
@[go_sem] theorem K14F_ords6:wG.fS 6=[]:=rfl
@[go_sem] theorem K14F_ords7:wG.fS 7=[[1,2,3,0,4,5,6,7,8,9],[1,2,3,0,5,4,6,7,8,9],[1,2,3,0,5,6,4,7,8,9],[1,2,3,4,5,6,0,7,8,9],[1,2,3,4,5,6,7,0,8,9],[1,2,3,5,0,4,6,7,8,9],
 [1,2,3,5,0,6,4,7,8,9],[1,2,3,5,4,6,0,7,8,9],[1,2,3,5,4,6,7,0,8,9],[1,2,3,5,6,0,4,7,8,9],[1,2,3,5,6,4,0,7,8,9],[1,2,3,5,6,4,7,0,8,9]]:=rfl
@[go_sem] theorem K14F_ords8:wG.fS 8=[]:=rfl
@[go_sem] theorem K14F_ords9:wG.fS 9=[]:=rfl
theorem W7{l:List bH}(h:l.length<=4398046511104):wG.hp 219 [.ay (l.map bH.enc)] []=some (.row 0 0 2 l.length false,[.row 2 (l.map bH.enc)],[]):=by have h0:K14Fa.hp 219 [.ay (l.map bH.enc)] []=dG (fun l:List bH=>[A.ay (l.map bH.enc)]) (fun _=>[]) (fun l=>l.length<=4398046511104) (fun l=>(.row 0 0 2 l.length false,[.row 2 (l.map bH.enc)],[])) [.ay (l.map bH.enc)] []:=aW.jK;exact h0.trans (gn (enc:=fun l:List bH=>[A.ay (l.map bH.enc)]) (Kx:=fun _=>[]) (fun i j h _=>by simpa using h) l h)
theorem PN:aQ Tryz.prog wG Tryz.f186.ntmps (Tryz.f186.body.getD .skip)=true:=by kernel_rfl
theorem TU(s:List aF)(hs:bI s):bp Tryz.prog 186 [.ay (s.map aF.enc)] (· = .agg ((nu s).map kI)):=by
 refine ah K14F_ok mixed Tryz.func186 rfl (ab rfl) PN ?_;unfold Tryz.f186;obtain⟨hs1,hs2⟩:=hs;simp-implicitDefEqProofs (disch:=(first|omega|decide)) only[go_sem,↓reduceIte,seval,aa]
 refine KB 1 _ rfl ?_;refine wpA_loopF [4] (by simp) (fun _ _=>aw _) [0,2,3,7,8] (ι:={k:Nat//k<=s.length}) (fun p=>[(9,.int .i64 p.1)]) (fun p=>[(1,.box ((nu (s.take p.1)).map kI))]) (fun p=>s.length-p.1) ⟨0,by omega⟩ (aw _) ?_ ?_
 · simp-implicitDefEqProofs (disch:=(first|omega|decide)) only[go_sem,↓reduceIte,seval]
   exact tP (cs:=(nu (s.take 0)).map kI) (tQ _)
 · rintro⟨k,hk⟩
   simp only;have tl:((nu (s.take k)).map kI).length=16:=by rw[aa,nv]
   by_cases bo:k<s.length
   · have aH:(k:Int)<(s.length:Int):=by omega
     have e1:=iT bo;have hm:=NN bo;have fe:=tabL_snoc bo;have hsk:=tabL_skip bo;generalize hx:s[k]=x at*;obtain⟨n,rs⟩:=x;simp only at hm fe hsk;cases h1:dJ n with
     |false=>
      have hsk':=hsk h1;simp-implicitDefEqProofs (disch:=(first|omega|decide)) only[go_sem,↓reduceIte,seval,aH,e1,h1,wrap_i64,aa]
      exact⟨⟨k+1,bo⟩,.inl ⟨by simp,by rw[hsk'];exact tP (tQ _)⟩,by show s.length-(k+1)<s.length-k;omega⟩
     |true=>
      have hsn':=fe h1;have st:=stRuns rs;rw[eo]at h1;have h2:dJ n=true:=eo.2 h1;have g1:=A6 (rQ (s.take k) (i:=(n-1).toNat) (by omega))
      rw[show(((n-1).toNat:Nat):Int)+1=n by omega]at g1;have hrl:=lU (s.take k) n;have o6:=W7 (l:=bJ (s.take k) n) (by omega)
      have c1:(0:Int)<=n-1:=by omega
      have c2:n-1<16:=by omega
      have sp: ∀x:A,jI ((nu (s.take k)).map kI) ((n-1).toNat*1) [x]=((nu (s.take k)).map kI).set (n-1).toNat x:=fun x=>by rw[mG];exact Ir (by rw[tl];omega)
      simp-implicitDefEqProofs (maxSteps:=600000) (disch:=(first|omega|decide)) only[go_sem,↓reduceIte,seval,aH,e1,h2,st,g1,o6,c1,c2,sp,tl,wrap_i64,aa,cx,cr]
      refine⟨⟨ai _,by omega⟩,by omega,⟨k+1,bo⟩,.inr ⟨by simp, ?_⟩,by show s.length-(k+1)<s.length-k;omega⟩
      have GZ:(List.take (bJ (s.take k) n).length ((bJ (s.take k) n).map bH.enc)++rs.map bH.enc)=(bJ (s.take k) n++rs).map bH.enc:=by rw[ad (by simp),bz]
      rw[NO,GZ,frz_set _ (by rw[nv];omega) (by simp),hsn',jX]
      have RQ:((bJ (s.take k) n++rs).map bH.enc).take ((bJ (s.take k) n).length+rs.length)=(bJ (s.take k) n++rs).map bH.enc:=ad (by simp)
      rw[RQ]
      have:=tQ (m:=2) ((nu (s.take k)).set (n-1).toNat (bJ (s.take k) n++rs))
      rw[jX]at this;exact tP this
   · have aH: ¬(k:Int)<(s.length:Int):=by omega
     rw[ad (by omega)]at*;have tl':=nv s;have tk:=Iu tl';have vt: ∀H,jS H ((nu s).map kI)=some ((nu s).map kI):=fun H=>Is _;have dn:List.drop 16 [A.d_,A.d_,A.d_,A.d_,A.d_,A.d_,A.d_,A.d_,A.d_,A.d_,A.d_,A.d_,A.d_,A.d_,A.d_,A.d_]=[]:=rfl;simp-implicitDefEqProofs (disch:=(first|omega|decide)) only[go_sem,↓reduceIte,seval,aH,tl',tk,vt,dn,bj,aa]
end Go.Proofs.YtfnohjheonlnmaaGreat
namespace Go.Proofs.YtfnohjheonlnmaaGreat
open Go.dF
set_option linter.unusedSimpArgs false
set_option linter.unusedVariables false
set_option maxRecDepth 20000
set_option maxHeartbeats 8000000
def Iw(L:List (List bH))(n:Int):List bH:=L.getD (n-1).toNat []
def setL(L:List (List bH)):List aF:=sk fun n=>fM (aX (Iw L n))
theorem getL_succ{L:List (List bH)}{k:Nat}{l:List bH}(h:L[k]? =some l):Iw L ((k:Int)+1)=l:=by unfold Iw;rw[show((k:Int)+1-1).toNat=k by omega,kT,h];rfl
theorem TV{t:Int->List bH}{k:Nat}:sG t (k+1)=if(t (k+1)).isEmpty then sG t k else sG t k++[⟨k+1,t (k+1)⟩]:=rfl
theorem TW(p:Int->Bool):(fM p).length<=1099511627776:=Zs (mD p)
theorem PO{n:Nat}(L:List (List bH)):A.mem.lW n (L.map kI)=false:=by
 induction L with
 |nil=>rfl
 |cons l L ih=>simp only[aS,A.mem.lW,ih,gi];rfl
theorem rR:aQ Tryz.prog Ip Tryz.f188.ntmps (Tryz.f188.body.getD .skip)=true:=by kernel_rfl
theorem TX(L:List (List bH))(hL:L.length=16)(hl: ∀l∈L,l.length<=4398046511104):bp Tryz.prog 188 [.agg (L.map kI)] (· = .ay ((setL L).map aF.enc)):=by
 refine ah PL mixed Tryz.func188 rfl (ab rfl) rR ?_;unfold Tryz.f188;have tk:=Iu hL;have tl:(L.map kI).length=16:=by rw[aa,hL]
 have hu:=tQ (m:=2) L;have hle:=tP hu;have hsc:=NO (n:=1) L;have hme:=PO (n:=1) L;simp-implicitDefEqProofs (disch:=(first|omega|decide)) only[go_sem,↓reduceIte,seval,tk,tl]
 refine ch 3 2 rfl ?_;refine a_ [0,1,2,6] (ι:={k:Nat//k<=16}) (fun p=>[(7,.int .i64 p.1),(3,.row 1 0 2 (sG (fun n=>fM (aX (Iw L n))) p.1).length false)]) (fun p=>[(1,.row 2 ((sG (fun n=>fM (aX (Iw L n))) p.1).map aF.enc))]) (fun p=>16-p.1) ⟨0,by omega⟩ (aw _) ?_ ?_
 · simp-implicitDefEqProofs (disch:=(first|omega|decide)) only[go_sem,↓reduceIte,seval,hu,hle]
   simp[sG]
 · rintro⟨k,hk⟩
   simp only;have xw:=uL (fun n=>fM (aX (Iw L n))) k;by_cases bo:k<16
   · have aH:(k:Int)<16:=by omega
     have hkl:k<L.length:=by omega
     have hg:L[k]? =some L[k]:=ae hkl;have g1:=A6 hg;have RT:=hl L[k] (ao hkl)
     have eO:=TV (t:=fun n=>fM (aX (Iw L n))) (k:=k)
     simp only[getL_succ hg]at eO;have vz:=TW (aX L[k])
     generalize L[k]=x at*;have c1:(0:Int)<=(k:Int):=by omega
     cases hr:fM (aX x)with
     |nil=>
      rw[hr]at eO vz;simp only[nb,if_true]at eO;simp-implicitDefEqProofs (disch:=(first|omega|decide)) only[go_sem,↓reduceIte,seval,hu,hle,aH,c1,g1,hr,wrap_i64,aa,bD]
      exact⟨⟨k+1,by omega⟩,⟨⟨by simp,by rw[eO]⟩,by rw[eO]⟩,by show 16-(k+1)<16-k;omega⟩
     |cons r rs=>
      rw[hr]at eO vz;simp only[mz,az,if_false]at eO;have c2:(0:Int)<((rs.length+1:Nat):Int):=by omega
      simp-implicitDefEqProofs (disch:=(first|omega|decide)) only[go_sem,↓reduceIte,seval,hu,hle,hsc,hme,aH,c1,c2,g1,hr,wrap_i64,aa,aS,aG]
      exact⟨⟨ai _,by omega⟩,⟨k+1,by omega⟩,⟨⟨by simp,by rw[eO,aj];rfl⟩,by rw[eO,bz,ad (by simp)];rfl⟩,by show 16-(k+1)<16-k;omega⟩
   · have aH: ¬(k:Int)<16:=by omega
     obtain rfl:k=16:=by omega
     simp-implicitDefEqProofs (disch:=(first|omega|decide)) only[go_sem,↓reduceIte,seval,aH,aa]
     exact⟨ai _,by rw[ad (by simp)];rfl⟩
end Go.Proofs.YtfnohjheonlnmaaGreat
namespace Go.Proofs.YtfnohjheonlnmaaGreat
open Go.dF
set_option linter.unusedSimpArgs false
set_option linter.unusedVariables false
set_option maxRecDepth 20000
set_option maxHeartbeats 8000000
def TY:aW:=Ip.add 186 (entry (fun(s:List aF)=>[.ay (s.map aF.enc)]) (fun s=>bI s) (fun s=> .agg ((nu s).map kI)))
theorem K14o_ok:aN Tryz.prog TY:=PL.dH Tryz.func186 (by kernel_rfl) (by kernel_rfl) fun s h=>TU s h
@[go_sem] theorem K14o_old{g:FuncId}{xs:List A}(h:g≠186):TY.f g xs=Ip.f g xs:=aW.aU h
theorem Ix(s:List aF)(h:bI s):TY.f 186 [.ay (s.map aF.enc)]=some (.agg ((nu s).map kI)):=aW.aZ (Γ:=Ip) (fun i j h=>by simpa[ag,and_assoc]using h) s h
@[go_sem] theorem wH{s:List aF}(h:bI s):TY.f 186 [.ay (s.map aF.enc)]=some (.agg ((nu s).map kI)):=Ix s h
def Iy:aW:=TY.add 188 (entry (fun(L:List (List bH))=>[.agg (L.map kI)]) (fun L=>L.length=16/\ ∀l∈L,l.length<=4398046511104) (fun L=> .ay ((setL L).map aF.enc)))
theorem PQ:aN Tryz.prog Iy:=K14o_ok.dH Tryz.func188 (by kernel_rfl) (by kernel_rfl) fun L h=>TX L h.1 h.2
@[go_sem] theorem K14p_old{g:FuncId}{xs:List A}(h:g≠188):Iy.f g xs=TY.f g xs:=aW.aU h
@[go_sem] theorem K14p_s:Iy.pl TY:=⟨fun _=>rfl,fun _=>rfl,rfl,fun _=>rfl,rfl,fun _=>rfl,rfl⟩
theorem qj(L:List (List bH))(h:L.length=16/\ ∀l∈L,l.length<=4398046511104):Iy.f 188 [.agg (L.map kI)]=some (.ay ((setL L).map aF.enc)):=aW.aZ (Γ:=TY) (fun i j h=>by simpa[ag,and_assoc]using h) L h
theorem Ek{L:List (List bH)}(h1:L.length=16)(h2: ∀l∈L,l.length<=4398046511104):Iy.f 188 [.agg (L.map kI)]=some (.ay ((setL L).map aF.enc)):=qj L ⟨h1,h2⟩
theorem tabL_mem{s:List aF}{l:List bH}(h:l∈nu s):l.length<=dt s:=by unfold nu at h;obtain⟨i,_,rfl⟩:=bZ.1 h;exact lU s _
theorem getL_tab{s:List aF}{n:Int}(h:dJ n=true):Iw (nu s) n=bJ s n:=by
 rw[eo]at h;unfold Iw;rw[kT,rQ s (by omega)]
 show bJ s _=_;rw[show(((n-1).toNat:Nat):Int)+1=n by omega]
def iO(s:List aF):List aF:=sk fun n=>fM (aX (bJ s n))
theorem setL_tab(s:List aF):setL (nu s)=iO s:=nJ fun n h=>by simp only[getL_tab h]
def W8(op:Int)(a b:List aF):List aF:=sk fun n=>fM (oq op (bJ a n) (bJ b n))
theorem W9:aQ Tryz.prog Iy Tryz.f210.ntmps (Tryz.f210.body.getD .skip)=true:=by kernel_rfl
theorem c_vset_Of(s:List aF)(hs:bI s):bp Tryz.prog 210 [.ay (s.map aF.enc)] (· = .ay ((iO s).map aF.enc)):=by
 refine ah PQ mixed Tryz.func210 rfl (ab rfl) W9 ?_;unfold Tryz.f210;have h1:=wH hs;have h2:=Ek (L:=nu s) (nv s) (fun l hl=>by have:=tabL_mem hl;have:=hs.2;omega)
 rw[setL_tab]at h2;have hme:=fun n=>PO (n:=n) (nu s)
 have hvt:=fun H=>Is (H:=H) (nu s)
 have hp:A.pure.cX ((nu s).map kI)=true:=by
  generalize nu s=L;induction L with
  |nil=>rfl
  |cons l L ih=>simp only[aS,A.pure.cX,ih,cv];rfl
 simp-implicitDefEqProofs (disch:=(first|omega|decide)) only[go_sem,↓reduceIte,seval,h1,h2,hme,hvt,hp]
theorem TZ(L:List (List bH)):A.pure.cX (L.map kI)=true:=by
 induction L with
 |nil=>rfl
 |cons l L ih=>simp only[aS,A.pure.cX,ih,cv];rfl
end Go.Proofs.YtfnohjheonlnmaaGreat
namespace Go.Proofs.YtfnohjheonlnmaaGreat
open Go.dF
set_option linter.unusedSimpArgs false
set_option linter.unusedVariables false
set_option maxRecDepth 20000
set_option maxHeartbeats 8000000
theorem qQ(l:List bH):(fM (aX l)).length<=l.length:=by
 rw[<-Tz,er]
 have h1:=H9 (EK l) []
 have h2:=(Cv l).length_eq;have h3:=aO fG l;simp only[bC]at h1;omega
theorem T1(op:Int)(a b:List bH):(fM (oq op a b)).length<=2*a.length+2*b.length:=by
 rw[<-Pj,er]
 have h1:=Ph (oq op a b) (de a b) ((de a b).length-1)
 have h2:=HT a b;omega
theorem T2{t:Int->List bH}{B:Nat}(h: ∀n,(t n).length<=B): ∀k,dt (sG t k)<=k*B
 |0=>by simp[sG,dt]
 |k+1=>by
  have ih:=T2 h k;have h1:=h (k+1)
  rw[lM]
  simp only[sG];split
  · omega
  · rw[iK]
    have e:dt [⟨(k:Int)+1,t (k+1)⟩]=(t (k+1)).length:=by simp[dt]
    omega
theorem sumK_setT{t:Int->List bH}{B:Nat}(h: ∀n,(t n).length<=B):dt (sk t)<=16*B/\(sk t).length<=16:=⟨T2 h 16,uL t 16⟩
theorem ZJ{s:List aF}{B:Nat}(hs:dt s<=B):dt (iO s)<=16*B/\(iO s).length<=16:=
 sumK_setT (t:=fun n=>fM (aX (bJ s n))) fun n=>by
  have h1:=qQ (bJ s n)
  have h2:=lU s n;omega
def rS(s:List aF):Prop:=bI s/\ ∀n,(bJ s n).length<=50000
theorem mid_of{s:List aF}(h:s.length<=1000000)(h':dt s<=50000):rS s:=⟨⟨h,by omega⟩,fun n=>by have:=lU s n;omega⟩
theorem ZK{s:List aF}(h:dt s<=50000):rS (iO s):=by
 have h1:=ZJ h;refine⟨⟨by omega,by omega⟩,fun n=> ?_⟩
 unfold iO;rw[xI]
 split
 · have h2:=qQ (bJ s n)
   have h3:=lU s n;omega
 · simp
theorem Lp:aQ Tryz.prog Iy Tryz.f195.ntmps (Tryz.f195.body.getD .skip)=true:=by kernel_rfl
theorem PR(op:Int)(a b:List aF)(hop:Ps op)(ha:rS a)(hb:rS b):bp Tryz.prog 195 [.int .i64 op,.ay (a.map aF.enc),.ay (b.map aF.enc)] (· = .ay ((W8 op a b).map aF.enc)):=by
 refine ah PQ mixed Tryz.func195 rfl (ab rfl) Lp ?_;unfold Tryz.f195;simp-implicitDefEqProofs (disch:=(first|omega|decide)) only[go_sem,↓reduceIte,seval,aa]
 refine ch 7 2 rfl ?_;refine a_ [0,1,2] (ι:={k:Nat//k<=16}) (fun p=>[(8,.int .i64 ((p.1:Int)+1)),(7,.row 0 0 2 (sG (fun n=>fM (oq op (bJ a n) (bJ b n))) p.1).length false)]) (fun p=>[(0,.row 2 ((sG (fun n=>fM (oq op (bJ a n) (bJ b n))) p.1).map aF.enc))]) (fun p=>16-p.1) ⟨0,by omega⟩ (aw _) ?_ ?_
 · simp-implicitDefEqProofs (disch:=(first|omega|decide)) only[go_sem,↓reduceIte,seval]
   simp[sG]
 · rintro⟨k,hk⟩
   simp only;have xw:=uL (fun n=>fM (oq op (bJ a n) (bJ b n))) k;by_cases bo:k<16
   · have aH:(k:Int)+1<=16:=by omega
     have r1:=uO (n:=(k:Int)+1) ha.1;have r2:=uO (n:=(k:Int)+1) hb.1;have hM:=EL (op,bJ a ((k:Int)+1),bJ b ((k:Int)+1)) ⟨hop,ha.2 _,hb.2 _⟩
     simp only at hM;have eO:=TV (t:=fun n=>fM (oq op (bJ a n) (bJ b n))) (k:=k)
     have vz:=TW (oq op (bJ a ((k:Int)+1)) (bJ b ((k:Int)+1)))
     cases hr:fM (oq op (bJ a ((k:Int)+1)) (bJ b ((k:Int)+1)))with
     |nil=>
      rw[hr]at eO vz;simp only[nb,if_true]at eO;simp-implicitDefEqProofs (disch:=(first|omega|decide)) only[go_sem,↓reduceIte,seval,aH,r1,r2,hM,hr,wrap_i64,aa,bD]
      exact⟨⟨k+1,by omega⟩,⟨⟨by simp,by rw[eO]⟩,by rw[eO]⟩,by show 16-(k+1)<16-k;omega⟩
     |cons r rs=>
      rw[hr]at eO vz;simp only[mz,az,if_false]at eO;have c2:(0:Int)<((rs.length+1:Nat):Int):=by omega
      simp-implicitDefEqProofs (disch:=(first|omega|decide)) only[go_sem,↓reduceIte,seval,aH,c2,r1,r2,hM,hr,wrap_i64,aa,aS,aG]
      exact⟨⟨ai _,by omega⟩,⟨k+1,by omega⟩,⟨⟨by simp,by rw[eO,aj];rfl⟩,by rw[eO,bz,ad (by simp)];rfl⟩,by show 16-(k+1)<16-k;omega⟩
   · have aH: ¬(k:Int)+1<=16:=by omega
     obtain rfl:k=16:=by omega
     simp-implicitDefEqProofs (disch:=(first|omega|decide)) only[go_sem,↓reduceIte,seval,aH,aa]
     exact⟨ai _,by rw[ad (by simp)];rfl⟩
def Lq:aW:=Iy.add 195 (entry (fun(v:Int×List aF×List aF)=>[.int .i64 v.1,.ay (v.2.1.map aF.enc),.ay (v.2.2.map aF.enc)]) (fun v=>Ps v.1/\rS v.2.1/\rS v.2.2) (fun v=> .ay ((W8 v.1 v.2.1 v.2.2).map aF.enc)))
theorem ZL:aN Tryz.prog Lq:=PQ.dH Tryz.func195 (by kernel_rfl) (by kernel_rfl) fun v h=>PR v.1 v.2.1 v.2.2 h.1 h.2.1 h.2.2
@[go_sem] theorem K14q_old{g:FuncId}{xs:List A}(h:g≠195):Lq.f g xs=Iy.f g xs:=aW.aU h
@[go_sem] theorem K14q_s:Lq.pl Iy:=⟨fun _=>rfl,fun _=>rfl,rfl,fun _=>rfl,rfl,fun _=>rfl,rfl⟩
theorem EW(v:Int×List aF×List aF)(h:Ps v.1/\rS v.2.1/\rS v.2.2):Lq.f 195 [.int .i64 v.1,.ay (v.2.1.map aF.enc),.ay (v.2.2.map aF.enc)]=some (.ay ((W8 v.1 v.2.1 v.2.2).map aF.enc)):=aW.aZ (Γ:=Iy) (fun i j h=>by simpa[ag,and_assoc]using h) v h
theorem qR{op:Int}{a b:List aF}(ho:Ps op)(ha:rS a)(hb:rS b):Lq.f 195 [.int .i64 op,.ay (a.map aF.enc),.ay (b.map aF.enc)]=some (.ay ((W8 op a b).map aF.enc)):=EW (op,a,b) ⟨ho,ha,hb⟩
theorem PS:rS []:=⟨⟨by simp,by simp[dt]⟩,fun n=>by simp[bJ]⟩
theorem opP1_nil(x:List bH):oq 1 x []=aX x:=by
 funext n;simp[oq,opF,aX]
theorem opK1_nil(s:List aF):W8 1 s []=iO s:=nJ fun n _=>by simp only[bJ,opP1_nil]
theorem opOK1:Ps 1:= .inl rfl
theorem opOK3:Ps 3:= .inr (.inr rfl)
theorem T3:aQ Tryz.prog Lq Tryz.f152.ntmps (Tryz.f152.body.getD .skip)=true:=by kernel_rfl
theorem W_(s:List aF)(hs:rS s):bp Tryz.prog 152 [.ay (s.map aF.enc)] (· = .ay ((iO s).map aF.enc)):=by refine ah ZL mixed Tryz.func152 rfl (ab rfl) T3 ?_;unfold Tryz.f152;have h:=qR opOK1 hs PS;rw[opK1_nil,bD]at h;simp-implicitDefEqProofs (disch:=(first|omega|decide)) only[go_sem,↓reduceIte,seval,h]
def T4:aW:=Lq.add 152 (entry (fun(s:List aF)=>[.ay (s.map aF.enc)]) (fun s=>rS s) (fun s=> .ay ((iO s).map aF.enc)))
theorem ZM:aN Tryz.prog T4:=ZL.dH Tryz.func152 (by kernel_rfl) (by kernel_rfl) fun s h=>W_ s h
@[go_sem] theorem K14r_old{g:FuncId}{xs:List A}(h:g≠152):T4.f g xs=Lq.f g xs:=aW.aU h
@[go_sem] theorem K14r_s:T4.pl Lq:=⟨fun _=>rfl,fun _=>rfl,rfl,fun _=>rfl,rfl,fun _=>rfl,rfl⟩
theorem yD(s:List aF)(h:rS s):T4.f 152 [.ay (s.map aF.enc)]=some (.ay ((iO s).map aF.enc)):=aW.aZ (Γ:=Lq) (fun i j h=>by simpa[ag,and_assoc]using h) s h
theorem Iz{s:List aF}(h:rS s):T4.f 152 [.ay (s.map aF.enc)]=some (.ay ((iO s).map aF.enc)):=yD s h
def f_(l:List eU):List aF:=(l.filter cm).map fun v=>⟨v.r,[⟨v.c,v.c⟩]⟩
theorem wI(l m:List eU):f_ (l++m)=f_ l++f_ m:=by simp[f_]
theorem oneS_len(l:List eU):(f_ l).length<=l.length/\dt (f_ l)<=l.length:=by
 induction l with
 |nil=>simp[f_,dt]
 |cons v l ih=>
  have e:f_ (v::l)=f_ [v]++f_ l:=by rw[<-wI];rfl
  rw[e,iK,aj,aG]
  have:(f_ [v]).length<=1/\dt (f_ [v])<=1:=by
   unfold f_;by_cases h:cm v=true
   · simp[h,dt]
   · simp[h,dt]
  omega
theorem CD{l:List eU}{k:Nat}(h:k<l.length):f_ (l.take (k+1))=f_ (l.take k)++(if cm l[k]=true then [⟨l[k].r,[⟨l[k].c,l[k].c⟩]⟩]else []):=by
 rw[<-ar h,wI]
 congr 1
 unfold f_;by_cases h:cm l[k]=true
 · simp[h]
 · simp[h]
theorem opK_of(t u:List aF):W8 1 (iO t) u=iO (t++u):=nJ fun n h=>by
 have e:oq 1 (bJ (iO t) n) (bJ u n)=aX (bJ (t++u) n):=by
  funext c
  unfold iO;rw[xI,if_pos h,iD,lj]
  show opF 1 _ _=_;rw[tL (Gf _)];rfl
 simp only[e]
theorem ZN{l:List eU}{k:Nat}(h:k<l.length):(l.map eU.enc)[k]? =some (.agg [.int .i64 l[k].r,.int .i64 l[k].c]):=by rw[aT,ae h];rfl
theorem mid_one(n c:Int):rS [⟨n,[⟨c,c⟩]⟩]:=mid_of (by simp) (by simp[dt])
theorem PT:aQ Tryz.prog T4 Tryz.f158.ntmps (Tryz.f158.body.getD .skip)=true:=by kernel_rfl
theorem T5(s:List aF)(l:List eU)(hs:rS s)(hl:dt s+l.length<=50000):bp Tryz.prog 158 [.ay (s.map aF.enc),.ay (l.map eU.enc)] (· = .ay ((iO (s++f_ l)).map aF.enc)):=by
 refine ah ZM mixed Tryz.func158 rfl (ab rfl) PT ?_;unfold Tryz.f158;have h0:=Iz hs;simp-implicitDefEqProofs (disch:=(first|omega|decide)) only[go_sem,↓reduceIte,seval,h0,aa]
 refine a_ [0,1] (ι:={k:Nat//k<=l.length}) (fun p=>[(6,.int .i64 p.1),(5,.ay ((iO (s++f_ (l.take p.1))).map aF.enc))]) (fun _=>[]) (fun p=>l.length-p.1) ⟨0,by omega⟩ (aw _) ?_ ?_
 · simp-implicitDefEqProofs (disch:=(first|omega|decide)) only[go_sem,↓reduceIte,seval]
   simp[f_]
 · rintro⟨k,hk⟩
   simp only;by_cases bo:k<l.length
   · have aH:(k:Int)<(l.length:Int):=by omega
     have e1:=ZN bo;have fe:=CD bo;have vv:=oneS_len (l.take k)
     rw[aK]at vv;have hm:=ZK (s:=s++f_ (l.take k)) (by rw[iK];omega)
     generalize hx:l[k]=x at*;obtain⟨r,c⟩:=x;simp only at fe;cases h1:cm ⟨r,c⟩with
     |false=>
      rw[h1,if_neg (by simp),bj]at fe;simp-implicitDefEqProofs (disch:=(first|omega|decide)) only[go_sem,↓reduceIte,seval,aH,e1,h1,wrap_i64,aa]
      exact⟨⟨k+1,bo⟩,⟨by simp,by rw[fe]⟩,by show l.length-(k+1)<l.length-k;omega⟩
     |true=>
      rw[h1,if_pos rfl]at fe;have hM:=qR opOK1 hm (mid_one r c)
      rw[opK_of,ba,<-fe]at hM;simp only[aS,bD,aF.za,bH.za]at hM;simp-implicitDefEqProofs (disch:=(first|omega|decide)) only[go_sem,↓reduceIte,seval,aH,e1,h1,hM,wrap_i64,aa,aS,bD]
      exact⟨⟨k+1,bo⟩,⟨by simp,rfl⟩,by show l.length-(k+1)<l.length-k;omega⟩
   · have aH: ¬(k:Int)<(l.length:Int):=by omega
     rw[ad (by omega)]at*;simp-implicitDefEqProofs (disch:=(first|omega|decide)) only[go_sem,↓reduceIte,seval,aH,aa]
end Go.Proofs.YtfnohjheonlnmaaGreat
namespace Go.Proofs.YtfnohjheonlnmaaGreat
open Go.dF
set_option linter.unusedSimpArgs false
set_option linter.unusedVariables false
set_option maxRecDepth 20000
set_option maxHeartbeats 8000000
def K14s:aW:=T4
theorem K14s_ok:aN Tryz.prog K14s:=ZM
@[go_sem] theorem K14s_old{g:FuncId}{xs:List A}:K14s.f g xs=T4.f g xs:=rfl
def K14t:aW:=K14s.add 210 (entry (fun(s:List aF)=>[.ay (s.map aF.enc)]) (fun s=>bI s) (fun s=> .ay ((iO s).map aF.enc)))
theorem K14t_ok:aN Tryz.prog K14t:=K14s_ok.dH Tryz.func210 (by kernel_rfl) (by kernel_rfl) fun s h=>c_vset_Of s h
@[go_sem] theorem K14t_old{g:FuncId}{xs:List A}(h:g≠210):K14t.f g xs=K14s.f g xs:=aW.aU h
theorem PU(s:List aF)(h:bI s):K14t.f 210 [.ay (s.map aF.enc)]=some (.ay ((iO s).map aF.enc)):=aW.aZ (Γ:=K14s) (fun i j h=>by simpa[ag,and_assoc]using h) s h
def K14u:aW:=K14t
theorem K14u_ok:aN Tryz.prog K14u:=K14t_ok
@[go_sem] theorem K14u_old{g:FuncId}{xs:List A}:K14u.f g xs=K14t.f g xs:=rfl
def K14v:aW:=K14u
theorem K14v_ok:aN Tryz.prog K14v:=K14u_ok
@[go_sem] theorem K14v_old{g:FuncId}{xs:List A}:K14v.f g xs=K14u.f g xs:=rfl
def T6:aW:=K14v
theorem Gg:aN Tryz.prog T6:=K14v_ok
@[go_sem] theorem K14w_old{g:FuncId}{xs:List A}:T6.f g xs=K14v.f g xs:=rfl
@[go_sem] theorem K14w_s:T6.pl K14v:=⟨fun _=>rfl,fun _=>rfl,rfl,fun _=>rfl,rfl,fun _=>rfl,rfl⟩
theorem xN{s:List aF}(h:bI s):K14t.f 210 [.ay (s.map aF.enc)]=some (.ay ((iO s).map aF.enc)):=PU s h
theorem PV:aQ Tryz.prog T6 Tryz.f173.ntmps (Tryz.f173.body.getD .skip)=true:=by kernel_rfl
theorem T7(a b:List aF)(ha:bI a)(hb:bI b)(OP:bI (iO a))(vN:bI (iO b)):bp Tryz.prog 173 [.ay (a.map aF.enc),.ay (b.map aF.enc)] (· = .bool (dA (iO a) (iO b))):=by refine ah Gg mixed Tryz.func173 rfl (ab rfl) PV ?_;unfold Tryz.f173;have h1:=xN ha;have h2:=xN hb;have h3:=TQ OP vN;simp-implicitDefEqProofs (disch:=(first|omega|decide)) only[go_sem,↓reduceIte,seval,h1,h2,h3]
theorem c_ind{n:Int}(h:dJ n=true):((n-1).toNat:Int)+1=n:=by rw[eo]at h;omega
theorem PW:aQ Tryz.prog T6 Tryz.f180.ntmps (Tryz.f180.body.getD .skip)=true:=by kernel_rfl
theorem T8(s:List aF)(n:Int)(hs:bI s):bp Tryz.prog 180 [.ay (s.map aF.enc),.int .i64 n] (· = .int .i64 (if dJ n=true then j9 (fM (aX (bJ s n)))else 0)):=by
 refine ah Gg mixed Tryz.func180 rfl (ab rfl) PW ?_;unfold Tryz.f180;cases h1:dJ n with
 |false=>simp-implicitDefEqProofs (disch:=(first|omega|decide)) only[go_sem,↓reduceIte,seval,h1]
 |true=>
  have h:=eo.1 h1;have h2:=wH hs;have g1:=A6 (rQ s (i:=(n-1).toNat) (by omega))
  rw[c_ind h1]at g1;have hl:=lU s n;have hs':=hs.2;have c1:(0:Int)<=n-1:=by omega
  have c2:n-1<16:=by omega
  simp-implicitDefEqProofs (disch:=(first|omega|decide)) only[go_sem,↓reduceIte,seval,h1,h2,g1,c1,c2,wrap_i64,aa]
end Go.Proofs.YtfnohjheonlnmaaGreat
namespace Go.Proofs.YtfnohjheonlnmaaGreat
open Go.dF
set_option linter.unusedSimpArgs false
set_option linter.unusedVariables false
set_option maxRecDepth 20000
set_option maxHeartbeats 8000000
def IA(s:List aF)(l:List eU)(k:Nat)(L:List (List bH)):Prop:=
 L.length=16/\ ∀i:Nat,i<16-> ∃x,L[i]? =some x/\x.length<=dt s+k/\ ∀c,aX x c=aX (bJ (s++f_ (l.take k)) ((i:Int)+1)) c
theorem Xa(s:List aF)(l:List eU):IA s l 0 (nu s):=⟨nv s,fun i hi=>⟨_,rQ s hi,lU _ _,fun c=>by simp[f_]⟩⟩
theorem Xb{s:List aF}{l:List eU}{k:Nat}{L:List (List bH)}(h:IA s l k L)(hk:k<l.length)(hr:cm l[k]=false):IA s l (k+1) L:=⟨h.1,fun i hi=>by
 obtain⟨x,h1,h2,h3⟩:=h.2 i hi;refine⟨x,h1,by omega,fun c=> ?_⟩
 rw[CD hk,hr,if_neg (by simp),bj];exact h3 c⟩
theorem Xc{s:List aF}{l:List eU}{k:Nat}{L:List (List bH)}(h:IA s l k L)(hk:k<l.length)(hr:cm l[k]=true){x:List bH}(hx:L[(l[k].r-1).toNat]? =some x):
 IA s l (k+1) (L.set (l[k].r-1).toNat (fM (aX (x++sm [l[k].c])))):=⟨by rw[dd];exact h.1,fun i hi=>by
 obtain⟨y,h1,h2,h3⟩:=h.2 i hi;have hrr:1<=l[k].r:=by have:=hr;simp[cm]at this;omega
 rw[CD hk,hr,if_pos rfl,<-ba]
 rw[cY,h.1]
 by_cases e:(l[k].r-1).toNat=i
 · rw[if_pos e,if_pos (by omega)]
   rw[e,h1]at hx;obtain rfl:=an hx;refine⟨_,rfl, ?_,fun c=> ?_⟩
   · have:=qQ (y++sm [l[k].c])
     simp only[sm,aj,aa,aG,bC]at this;simp only[sm]at*;omega
   · have e2:l[k].r=(i:Int)+1:=by omega
     rw[tL (Gf _),lj,h3,iD (s++f_ (l.take k)),lj (bJ (s++f_ (l.take k)) _)]
     congr 1
     simp only[bJ,e2,if_true,bj];rfl
 · rw[if_neg e]
   refine⟨y,h1,by omega,fun c=> ?_⟩
   rw[h3,iD _ [_],lj]
   have e2: ¬l[k].r=(i:Int)+1:=by omega
   simp only[bJ,e2,if_false,xF,gi]⟩
theorem goodT_set{s:List aF}{l:List eU}{L:List (List bH)}(h:IA s l l.length L):setL L=iO (s++f_ l):=nJ fun n hn=>by
 have pz:=eo.1 hn;obtain⟨x,h1,h2,h3⟩:=h.2 (n-1).toNat (by omega)
 rw[ca,c_ind hn]at h3;have e:Iw L n=x:=by unfold Iw;rw[kT,h1];rfl
 have e2:aX x=aX (bJ (s++f_ l) n):=funext h3;rw[e,e2]
theorem T9:aQ Tryz.prog T6 Tryz.f146.ntmps (Tryz.f146.body.getD .skip)=true:=by kernel_rfl
theorem Xd(s:List aF)(l:List eU)(hs:bI s)(hl:dt s+l.length<=1000000):bp Tryz.prog 146 [.ay (s.map aF.enc),.ay (l.map eU.enc)] (· = .ay ((iO (s++f_ l)).map aF.enc)):=by
 refine ah Gg mixed Tryz.func146 rfl (ab rfl) T9 ?_;unfold Tryz.f146;have h2:=wH hs;have t16:=nv s;have pt:=fun L=>TZ L;simp-implicitDefEqProofs (disch:=(first|omega|decide)) only[go_sem,↓reduceIte,seval,h2,t16,aa,bj]
 have hs':=hs.2;have hu:=fun m (L:List (List bH))=>tQ (m:=m) L;have hle:=fun m (L:List (List bH))=>tP (hu m L)
 refine a_ [0,1,4,5,10,11] (ι:={p:Nat×List (List bH)//p.1<=l.length/\IA s l p.1 p.2}) (fun p=>[(12,.int .i64 p.1.1)]) (fun p=>[(0,.box (p.1.2.map kI))]) (fun p=>l.length-p.1.1) ⟨(0,nu s),aw _,Xa s l⟩ (aw _) ?_ ?_
 · simp-implicitDefEqProofs (disch:=(first|omega|decide)) only[go_sem,↓reduceIte,seval,hle]
 · rintro⟨⟨k,L⟩,hk,hg⟩
   simp only at hk hg⊢;have tl:(L.map kI).length=16:=by rw[aa,hg.1]
   by_cases bo:k<l.length
   · have aH:(k:Int)<(l.length:Int):=by omega
     have e1:=ZN bo;have hskip:=Xb hg bo;have iB:=fun hr x hx=>Xc (x:=x) hg bo hr hx;generalize hv:l[k]=v at*;obtain⟨r,c⟩:=v;simp only at hskip iB;cases h1:cm ⟨r,c⟩with
     |false=>
      simp-implicitDefEqProofs (disch:=(first|omega|decide)) only[go_sem,↓reduceIte,seval,aH,e1,h1,hle,wrap_i64,aa]
      exact⟨⟨(k+1,L),bo,hskip h1⟩,⟨by simp,hle _ _⟩,by show l.length-(k+1)<l.length-k;omega⟩
     |true=>
      have hr:1<=r/\r<=16/\1<=c/\c<=1099511627776:=by simpa[cm,and_assoc]using h1
      obtain⟨x,hx,hxl,_⟩:=hg.2 (r-1).toNat (by omega)
      have g1:=A6 hx;have hA:=PB (a:=x) (b:=[c]) ⟨by omega,by simp⟩
      simp only[aS,bD]at hA;have c1:(0:Int)<=r-1:=by omega
      have c2:r-1<16:=by omega
      have sp:jI (L.map kI) ((r-1).toNat*1) [.ay ((fM (aX (x++sm [c]))).map bH.enc)]=(L.set (r-1).toNat (fM (aX (x++sm [c])))).map kI:=by rw[mG,Ir (by rw[tl];omega),jX];rfl
      simp-implicitDefEqProofs (disch:=(first|omega|decide)) only[go_sem,↓reduceIte,seval,aH,e1,h1,c1,c2,g1,hA,sp,tl,hle,wrap_i64,aa]
      exact⟨by omega,⟨(k+1,_),bo,iB h1 x hx⟩,⟨by simp,hle _ _⟩,by show l.length-(k+1)<l.length-k;omega⟩
   · have aH: ¬(k:Int)<(l.length:Int):=by omega
     obtain rfl:k=l.length:=by omega
     have tk:=Iu hg.1;have eO:=Ek (L:=L) hg.1 (fun x hx=>by obtain⟨i,hi,rfl⟩:=dZ.1 hx;rw[hg.1]at hi;obtain⟨y,hy,hyl,_⟩:=hg.2 i hi;rw[ae (by rw[hg.1];exact hi)]at hy;rw[an hy];omega)
     rw[goodT_set hg]at eO;have pt:=TZ L;have hvt:=fun H=>Is (H:=H) L;have xw:=fun n=>PO (n:=n) L;simp-implicitDefEqProofs (disch:=(first|omega|decide)) only[go_sem,↓reduceIte,seval,aH,tl,tk,eO,pt,hvt,xw,aa]
end Go.Proofs.YtfnohjheonlnmaaGreat
namespace Go.Proofs.YtfnohjheonlnmaaGreat
open Go.dF
set_option linter.unusedSimpArgs false
set_option linter.unusedVariables false
set_option maxRecDepth 20000
set_option maxHeartbeats 8000000
def L14a:aW:=T6
theorem L14a_ok:aN Tryz.prog L14a:=Gg
@[go_sem] theorem L14a_old{g:FuncId}{xs:List A}:L14a.f g xs=T6.f g xs:=rfl
def Xe:aW:=L14a.add 173 (entry (fun(v:List aF×List aF)=>[.ay (v.1.map aF.enc),.ay (v.2.map aF.enc)]) (fun v=>bI v.1/\bI v.2/\bI (iO v.1)/\bI (iO v.2)) (fun v=> .bool (dA (iO v.1) (iO v.2))))
theorem L14b_ok:aN Tryz.prog Xe:=L14a_ok.dH Tryz.func173 (by kernel_rfl) (by kernel_rfl) fun v h=>T7 v.1 v.2 h.1 h.2.1 h.2.2.1 h.2.2.2
@[go_sem] theorem L14b_old{g:FuncId}{xs:List A}(h:g≠173):Xe.f g xs=L14a.f g xs:=aW.aU h
theorem IB(v:List aF×List aF)(h:bI v.1/\bI v.2/\bI (iO v.1)/\bI (iO v.2)):Xe.f 173 [.ay (v.1.map aF.enc),.ay (v.2.map aF.enc)]=some (.bool (dA (iO v.1) (iO v.2))):=aW.aZ (Γ:=L14a) (fun i j h=>by simpa[ag,and_assoc]using h) v h
def L14c:aW:=Xe.add 180 (entry (fun(v:List aF×Int)=>[.ay (v.1.map aF.enc),.int .i64 v.2]) (fun v=>bI v.1) (fun v=> .int .i64 (if dJ v.2=true then j9 (fM (aX (bJ v.1 v.2)))else 0)))
theorem L14c_ok:aN Tryz.prog L14c:=L14b_ok.dH Tryz.func180 (by kernel_rfl) (by kernel_rfl) fun v h=>T8 v.1 v.2 h
@[go_sem] theorem L14c_old{g:FuncId}{xs:List A}(h:g≠180):L14c.f g xs=Xe.f g xs:=aW.aU h
theorem IC(v:List aF×Int)(h:bI v.1):L14c.f 180 [.ay (v.1.map aF.enc),.int .i64 v.2]=some (.int .i64 (if dJ v.2=true then j9 (fM (aX (bJ v.1 v.2)))else 0)):=aW.aZ (Γ:=Xe) (fun i j h=>by simpa[ag,and_assoc]using h) v h
def L14d:aW:=L14c
theorem L14d_ok:aN Tryz.prog L14d:=L14c_ok
@[go_sem] theorem L14d_old{g:FuncId}{xs:List A}:L14d.f g xs=L14c.f g xs:=rfl
def Xf:aW:=L14d.add 146 (entry (fun(v:List aF×List eU)=>[.ay (v.1.map aF.enc),.ay (v.2.map eU.enc)]) (fun v=>bI v.1/\dt v.1+v.2.length<=1000000) (fun v=> .ay ((iO (v.1++f_ v.2)).map aF.enc)))
theorem L14e_ok:aN Tryz.prog Xf:=L14d_ok.dH Tryz.func146 (by kernel_rfl) (by kernel_rfl) fun v h=>Xd v.1 v.2 h.1 h.2
@[go_sem] theorem L14e_old{g:FuncId}{xs:List A}(h:g≠146):Xf.f g xs=L14d.f g xs:=aW.aU h
theorem Lr(v:List aF×List eU)(h:bI v.1/\dt v.1+v.2.length<=1000000):Xf.f 146 [.ay (v.1.map aF.enc),.ay (v.2.map eU.enc)]=some (.ay ((iO (v.1++f_ v.2)).map aF.enc)):=aW.aZ (Γ:=L14d) (fun i j h=>by simpa[ag,and_assoc]using h) v h
def L14f:aW:=Xf.add 158 (entry (fun(v:List aF×List eU)=>[.ay (v.1.map aF.enc),.ay (v.2.map eU.enc)]) (fun v=>rS v.1/\dt v.1+v.2.length<=50000) (fun v=> .ay ((iO (v.1++f_ v.2)).map aF.enc)))
theorem L14f_ok:aN Tryz.prog L14f:=L14e_ok.dH Tryz.func158 (by kernel_rfl) (by kernel_rfl) fun v h=>T5 v.1 v.2 h.1 h.2
@[go_sem] theorem L14f_old{g:FuncId}{xs:List A}(h:g≠158):L14f.f g xs=Xf.f g xs:=aW.aU h
theorem ID(v:List aF×List eU)(h:rS v.1/\dt v.1+v.2.length<=50000):L14f.f 158 [.ay (v.1.map aF.enc),.ay (v.2.map eU.enc)]=some (.ay ((iO (v.1++f_ v.2)).map aF.enc)):=aW.aZ (Γ:=Xf) (fun i j h=>by simpa[ag,and_assoc]using h) v h
theorem PX{a b:List aF}(ha:bI a)(hb:bI b)(OP:bI (iO a))(vN:bI (iO b)):Xe.f 173 [.ay (a.map aF.enc),.ay (b.map aF.enc)]=some (.bool (dA (iO a) (iO b))):=IB (a,b) ⟨ha,hb,OP,vN⟩
theorem l_Most{s:List aF}{n:Int}(h:bI s):L14c.f 180 [.ay (s.map aF.enc),.int .i64 n]=some (.int .i64 (if dJ n=true then j9 (fM (aX (bJ s n)))else 0)):=IC (s,n) h
theorem l_Add{s:List aF}{l:List eU}(h:bI s)(h':dt s+l.length<=1000000):Xf.f 146 [.ay (s.map aF.enc),.ay (l.map eU.enc)]=some (.ay ((iO (s++f_ l)).map aF.enc)):=Lr (s,l) ⟨h,h'⟩
theorem l_rAdd{s:List aF}{l:List eU}(h:rS s)(h':dt s+l.length<=50000):L14f.f 158 [.ay (s.map aF.enc),.ay (l.map eU.enc)]=some (.ay ((iO (s++f_ l)).map aF.enc)):=ID (s,l) ⟨h,h'⟩
theorem T_{x:A}(h:fits (.rows [.int .i64,.rows [.int .i64,.int .i64]]) x): ∃l:List aF,x= .ay (l.map aF.enc)/\l.length<=maxLen/\ ∀k∈l,k.rs.length<=maxLen:=by
 simp only[fits]at h;obtain⟨es,rfl,hl,he⟩:=h;obtain⟨l,rfl,hk⟩:=xC (f:=aF.enc) (P:=fun k=>k.rs.length<=maxLen) (es:=es) (fun e hx=>by obtain⟨ys,rfl,hy⟩:=he e hx;simp only[fD]at hy;obtain⟨y,zs,rfl,h1,y2,zs2,rfl,h2,rfl⟩:=hy;simp only[fits]at h1;obtain⟨n,rfl,_⟩:=h1;obtain⟨rs,rfl,hr⟩:=fits_runs h2;exact⟨⟨n,rs⟩,rfl,hr⟩)
 exact⟨l,rfl,by simpa using hl,hk⟩
theorem IE{s:List aF}{m:Nat}(h:sM s m=false):s.length<=m/\dt s<=m*m:=by
 unfold sM at h;rw[dm]at h;obtain⟨h1,h2⟩:=h;have sX:s.length<=m:=by have:=of_decide_eq_false h1;omega
 refine⟨sX, ?_⟩
 have h3: ∀k∈s,k.rs.length<=m:=fun k hk=>by rw[iL]at h2;have:=h2 k hk;simp at this;omega
 have h4: ∀l:List aF,(∀k∈l,k.rs.length<=m)->dt l<=l.length*m:=fun l=>by
  induction l with
  |nil=>intro _;simp[dt]
  |cons k l ih=>
   intro hk;have a:=ih fun q hq=>hk q (by simp[hq])
   have b:=hk k (by simp)
   have e:dt (k::l)=k.rs.length+dt l:=by unfold dt;rw[aS,cS]
   rw[e,aG,lM];omega
 exact aL (h4 s h3) (cB m sX)
theorem NP(s:List aF):c6 (iO s)=true:=HV fun n=>mD _
def L14g:aW:=L14f
theorem L14g_ok:aN Tryz.prog L14g:=L14f_ok
@[go_sem] theorem L14g_old{g:FuncId}{xs:List A}:L14g.f g xs=L14f.f g xs:=rfl
end Go.Proofs.YtfnohjheonlnmaaGreat
namespace Go.Proofs.YtfnohjheonlnmaaGreat
open Go.dF
set_option linter.unusedSimpArgs false
set_option linter.unusedVariables false
set_option maxRecDepth 20000
set_option maxHeartbeats 8000000
def hk(s:List aF)(n c:Int):Bool:=aX (bJ s n) c
theorem hk_op{op:Int}{a b:List aF}{n:Int}(h:dJ n=true)(c:Int):hk (W8 op a b) n c=opF op (hk a n c) (hk b n c):=by unfold hk W8;rw[xI,if_pos h,tL (isR_op _ _ _)];rfl
theorem IF{s:List aF}{n:Int}(h:dJ n=true)(c:Int):hk (iO s) n c=hk s n c:=by unfold hk iO;rw[xI,if_pos h,tL (Gf _)]
theorem NQ{p:Int->Bool}(h: ∀c,p c=false):fM p=[]:=(xH (l:=[]) rfl fun c=>by rw[h];rfl).symm
theorem ZO{t:Int->List bH}(h: ∀n,dJ n=true->t n=[]):sk t=[]:=by
 have e:sk t=sk (bJ []):=nJ fun n hn=>by rw[h n hn];rfl
 rw[e];exact HW (s:=[]) rfl
theorem zn{a b:List aF}:iO a=iO b ↔∀n,dJ n=true-> ∀c,hk a n c=hk b n c:=by
 constructor
 · intro h n hn c
   rw[<-IF hn,<-IF (s:=b) hn,h]
 · intro h
   exact nJ fun n hn=>by have e:aX (bJ a n)=aX (bJ b n):=funext fun c=>h n hn c;simp only[e]
end Go.Proofs.YtfnohjheonlnmaaGreat
namespace Go.Proofs.YtfnohjheonlnmaaGreat
open Go.dF
set_option linter.unusedSimpArgs false
set_option linter.unusedVariables false
set_option maxRecDepth 20000
set_option maxHeartbeats 8000000
end Go.Proofs.YtfnohjheonlnmaaGreat
namespace Go.Proofs.YtfnohjheonlnmaaGreat
open Go.dF
set_option linter.unusedSimpArgs false
set_option linter.unusedVariables false
set_option maxRecDepth 20000
set_option maxHeartbeats 4000000
def iG(l:List bk):Prop:= ∀r∈l,r.ok
theorem im{l:List bk}{k:Nat}(h:k<l.length):(l.map bk.enc)[k]? =some (.agg [.str l[k].lo,.str l[k].hi,.bool l[k].op]):=by rw[aT,ae h];rfl
theorem oO{l:List bk}{k:Nat}(h:iG l)(hk:k<l.length):l[k].lo.length<=9223372036854775807/\l[k].hi.length<=9223372036854775807:=h _ (ao hk)
@[simp] theorem map_rng_inj{l m:List bk}:(l.map bk.enc=m.map bk.enc)=(l=m):=map_inj bk.jM
def sN(l:List bk)(k:Nat):Option bk:=if k=0 then none else l[k-1]?
theorem IG{l:List bk}{k:Nat}(h:k<l.length):sN l (k+1)=some l[k]:=by unfold sN;rw[if_neg (by omega),show k+1-1=k by omega,ae h]
theorem EX:aQ Tryz.prog z' Tryz.f111.ntmps (Tryz.f111.body.getD .skip)=true:=by kernel_rfl
theorem wJ(l:List bk)(hl:l.length<=4611686018427387904)(mq:iG l):bp Tryz.prog 111 [.ay (l.map bk.enc)] (· = .bool (cA l)):=by
 refine ah kH mixed Tryz.func111 rfl (ab rfl) EX ?_;unfold Tryz.f111;simp-implicitDefEqProofs (disch:=(first|omega|decide)) only[go_sem,↓reduceIte,seval,aa]
 refine a_ [0,5,6] (ι:={k:Nat//k<=l.length/\cA l=uF (sN l k) (l.drop k)}) (fun p=>[(7,.int .i64 p.1),(2,.bool false)]) (fun _=>[]) (fun p=>l.length-p.1) ⟨0,by omega,rfl⟩ (aw _) ?_ ?_
 · simp-implicitDefEqProofs (disch:=(first|omega|decide)) only[go_sem,↓reduceIte,seval]
 · rintro⟨k,hk,hd⟩
   simp only;by_cases bo:k<l.length
   · have aH:(k:Int)<(l.length:Int):=by omega
     have e1:=im bo;have rT:=oO mq bo;have HP:=IG bo;rw[ax bo]at hd;simp only[uF]at hd;have next:cA l=uF (some l[k]) (l.drop (k+1))-> ∃j:{k:Nat//k<=l.length/\cA l=uF (sN l k) (l.drop k)},(k:Int)+1=(j.1:Int)/\l.length-j.1<l.length-k:=fun h=>⟨⟨k+1,bo,by rw[HP];exact h⟩,by simp,by show l.length-(k+1)<l.length-k;omega⟩
     generalize hx:l[k]=x at*;obtain⟨lo,hi,op⟩:=x;simp only at rT;cases h1:bw ⟨lo,hi,op⟩with
     |false=>
      have hh:cA l=false:=by rw[hd,h1];rfl
      simp-implicitDefEqProofs (disch:=(first|omega|decide)) only[go_sem,↓reduceIte,seval,aH,e1,rT,h1,hh,wrap_i64,aa]
     |true=>
      by_cases h0:0<k
      · have KZ:(0:Int)<(k:Int):=by omega
        have qD:k-1<l.length:=by omega
        have e0:=im qD;have ok0:=oO mq qD;have hpt:sN l k=some l[k-1]:=by unfold sN;rw[if_neg (by omega),ae qD]
        have t0:((k:Int)-1).toNat=k-1:=by omega
        have b0:(0:Int)<=(k:Int)-1:=by omega
        have b1:(k:Int)-1<(l.length:Int):=by omega
        rw[hpt]at hd;generalize hy:l[k-1]=y at*;obtain⟨lh,jU,pY⟩:=y;simp only at ok0 hd;cases h2:pY with
        |true=>
          subst h2;have hh:cA l=false:=by rw[hd];simp
          simp-implicitDefEqProofs (disch:=(first|omega|decide)) only[go_sem,↓reduceIte,seval,aH,e1,e0,ok0,rT,h1,KZ,t0,b0,b1,hh,wrap_i64,aa]
        |false=>
          subst h2;cases h3:cL jU lo with
          |false=>
           have hh:cA l=false:=by rw[hd,h3];simp
           simp-implicitDefEqProofs (disch:=(first|omega|decide)) only[go_sem,↓reduceIte,seval,aH,e1,e0,ok0,rT,h1,h3,KZ,t0,b0,b1,hh,wrap_i64,aa]
          |true=>
           simp-implicitDefEqProofs (disch:=(first|omega|decide)) only[go_sem,↓reduceIte,seval,aH,e1,e0,ok0,rT,h1,h3,KZ,t0,b0,b1,wrap_i64,aa]
           exact next (by rw[hd,h1,h3];simp)
      · have KZ: ¬(0:Int)<(k:Int):=by omega
        simp-implicitDefEqProofs (disch:=(first|omega|decide)) only[go_sem,↓reduceIte,seval,aH,e1,rT,h1,KZ,wrap_i64,aa]
        have Ey:k=0:=by omega
        exact next (by rw[hd,h1];simp[sN,Ey])
   · have aH: ¬(k:Int)<(l.length:Int):=by omega
     have hh:cA l=true:=by rw[hd,aC (by omega)];cases sN l k<;>rfl
     simp-implicitDefEqProofs (disch:=(first|omega|decide)) only[go_sem,↓reduceIte,seval,aH,hh,aa]
theorem IH:aQ Tryz.prog z' Tryz.f87.ntmps (Tryz.f87.body.getD .skip)=true:=by kernel_rfl
theorem Ls(l:List bk)(hl:l.length<=4611686018427387904)(mq:iG l):bp Tryz.prog 87 [.ay (l.map bk.enc)] (· = .bool (cA l)):=by
 refine ah kH mixed Tryz.func87 rfl (ab rfl) IH ?_;unfold Tryz.f87;simp-implicitDefEqProofs (disch:=(first|omega|decide)) only[go_sem,↓reduceIte,seval,aa]
 refine a_ [0] (ι:={k:Nat//k<=l.length/\cA l=uF (sN l k) (l.drop k)}) (fun p=>[(3,.int .i64 p.1),(2,.bool false)]) (fun _=>[]) (fun p=>l.length-p.1) ⟨0,by omega,rfl⟩ (aw _) ?_ ?_
 · simp-implicitDefEqProofs (disch:=(first|omega|decide)) only[go_sem,↓reduceIte,seval]
 · rintro⟨k,hk,hd⟩
   simp only;by_cases bo:k<l.length
   · have aH:(k:Int)<(l.length:Int):=by omega
     have e1:=im bo;have rT:=oO mq bo;have HP:=IG bo;rw[ax bo]at hd;simp only[uF]at hd;have next:cA l=uF (some l[k]) (l.drop (k+1))-> ∃j:{k:Nat//k<=l.length/\cA l=uF (sN l k) (l.drop k)},(k:Int)+1=(j.1:Int)/\l.length-j.1<l.length-k:=fun h=>⟨⟨k+1,bo,by rw[HP];exact h⟩,by simp,by show l.length-(k+1)<l.length-k;omega⟩
     generalize hx:l[k]=x at*;obtain⟨lo,hi,op⟩:=x;simp only at rT;cases h1:bw ⟨lo,hi,op⟩with
     |false=>
      have hh:cA l=false:=by rw[hd,h1];rfl
      simp-implicitDefEqProofs (disch:=(first|omega|decide)) only[go_sem,↓reduceIte,seval,aH,e1,rT,h1,hh,wrap_i64,aa]
     |true=>
      by_cases h0:0<k
      · have KZ:(0:Int)<(k:Int):=by omega
        have qD:k-1<l.length:=by omega
        have e0:=im qD;have ok0:=oO mq qD;have hpt:sN l k=some l[k-1]:=by unfold sN;rw[if_neg (by omega),ae qD]
        have t0:((k:Int)-1).toNat=k-1:=by omega
        have b0:(0:Int)<=(k:Int)-1:=by omega
        have b1:(k:Int)-1<(l.length:Int):=by omega
        rw[hpt]at hd;generalize hy:l[k-1]=y at*;obtain⟨lh,jU,pY⟩:=y;simp only at ok0 hd;cases h2:pY with
        |true=>
          subst h2;have hh:cA l=false:=by rw[hd];simp
          simp-implicitDefEqProofs (disch:=(first|omega|decide)) only[go_sem,↓reduceIte,seval,aH,e1,e0,ok0,rT,h1,KZ,t0,b0,b1,hh,wrap_i64,aa]
        |false=>
          subst h2;cases h3:cL jU lo with
          |false=>
           have hh:cA l=false:=by rw[hd,h3];simp
           simp-implicitDefEqProofs (disch:=(first|omega|decide)) only[go_sem,↓reduceIte,seval,aH,e1,e0,ok0,rT,h1,h3,KZ,t0,b0,b1,hh,wrap_i64,aa]
          |true=>
           simp-implicitDefEqProofs (disch:=(first|omega|decide)) only[go_sem,↓reduceIte,seval,aH,e1,e0,ok0,rT,h1,h3,KZ,t0,b0,b1,wrap_i64,aa]
           exact next (by rw[hd,h1,h3];simp)
      · have KZ: ¬(0:Int)<(k:Int):=by omega
        simp-implicitDefEqProofs (disch:=(first|omega|decide)) only[go_sem,↓reduceIte,seval,aH,e1,rT,h1,KZ,wrap_i64,aa]
        have Ey:k=0:=by omega
        exact next (by rw[hd,h1];simp[sN,Ey])
   · have aH: ¬(k:Int)<(l.length:Int):=by omega
     have hh:cA l=true:=by rw[hd,aC (by omega)];cases sN l k<;>rfl
     simp-implicitDefEqProofs (disch:=(first|omega|decide)) only[go_sem,↓reduceIte,seval,aH,hh,aa]
theorem PY:aQ Tryz.prog z' Tryz.f73.ntmps (Tryz.f73.body.getD .skip)=true:=by kernel_rfl
theorem Ua(l:List bk)(s:List UInt8)(hl:l.length<=4611686018427387904)(mq:iG l)(hs:s.length<=9223372036854775807):bp Tryz.prog 73 [.ay (l.map bk.enc),.str s] (· = .bool (bh l s)):=by
 refine ah kH mixed Tryz.func73 rfl (ab rfl) PY ?_;unfold Tryz.f73;simp-implicitDefEqProofs (disch:=(first|omega|decide)) only[go_sem,↓reduceIte,seval,aa]
 refine a_ [0,1] (ι:={k:Nat//k<=l.length/\bh l s=bh (l.drop k) s}) (fun p=>[(5,.int .i64 p.1),(4,.bool false)]) (fun _=>[]) (fun p=>l.length-p.1) ⟨0,by omega,rfl⟩ (aw _) ?_ ?_
 · simp-implicitDefEqProofs (disch:=(first|omega|decide)) only[go_sem,↓reduceIte,seval]
 · rintro⟨k,hk,hd⟩
   simp only;by_cases bo:k<l.length
   · have aH:(k:Int)<(l.length:Int):=by omega
     have e1:=im bo;have rT:=oO mq bo;rw[ax bo,nF]at hd;generalize hx:l[k]=x at*;obtain⟨lo,hi,op⟩:=x;simp only at rT;cases h1:eT ⟨lo,hi,op⟩ s with
     |true=>
      have hh:bh l s=true:=by rw[hd,h1];rfl
      simp-implicitDefEqProofs (disch:=(first|omega|decide)) only[go_sem,↓reduceIte,seval,aH,e1,rT,h1,hh,wrap_i64,aa]
     |false=>
      simp-implicitDefEqProofs (disch:=(first|omega|decide)) only[go_sem,↓reduceIte,seval,aH,e1,rT,h1,wrap_i64,aa]
      exact⟨⟨k+1,bo,by rw[hd,h1];rfl⟩,by simp,by show l.length-(k+1)<l.length-k;omega⟩
   · have aH: ¬(k:Int)<(l.length:Int):=by omega
     have hh:bh l s=false:=by rw[hd,aC (by omega)];rfl
     simp-implicitDefEqProofs (disch:=(first|omega|decide)) only[go_sem,↓reduceIte,seval,aH,hh,aa]
def l8(l:List bk)(m:Int):Bool:=decide (m<(l.length:Int))||l.any fun r=>decide (40<r.lo.length)||decide (40<r.hi.length)
theorem yE:aQ Tryz.prog z' Tryz.f71.ntmps (Tryz.f71.body.getD .skip)=true:=by kernel_rfl
theorem PZ(l:List bk)(m:Int)(hl:l.length<=4611686018427387904):bp Tryz.prog 71 [.ay (l.map bk.enc),.int .i64 m] (· = .bool (l8 l m)):=by
 refine ah kH mixed Tryz.func71 rfl (ab rfl) yE ?_;unfold Tryz.f71;by_cases h0:m<(l.length:Int)
 · have hh:l8 l m=true:=by simp[l8,h0]
   simp-implicitDefEqProofs (disch:=(first|omega|decide)) only[go_sem,↓reduceIte,seval,h0,hh,aa]
 · have hh:l8 l m=l.any fun r=>decide (40<r.lo.length)||decide (40<r.hi.length):=by simp[l8,h0]
   simp-implicitDefEqProofs (disch:=(first|omega|decide)) only[go_sem,↓reduceIte,seval,h0,aa]
   rw[hh]
   refine a_ [0] (ι:={k:Nat//k<=l.length/\(l.any fun r=>decide (40<r.lo.length)||decide (40<r.hi.length))=((l.drop k).any fun r=>decide (40<r.lo.length)||decide (40<r.hi.length))}) (fun p=>[(5,.int .i64 p.1),(4,.bool false)]) (fun _=>[]) (fun p=>l.length-p.1) ⟨0,by omega,rfl⟩ (aw _) ?_ ?_
   · simp-implicitDefEqProofs (disch:=(first|omega|decide)) only[go_sem,↓reduceIte,seval]
   · rintro⟨k,hk,hd⟩
     simp only;by_cases bo:k<l.length
     · have aH:(k:Int)<(l.length:Int):=by omega
       have e1:=im bo;rw[ax bo,cI]at hd;generalize hx:l[k]=x at*;obtain⟨lo,hi,op⟩:=x;simp only at hd;by_cases h1:40<lo.length
       · have sX:(40:Int)<(lo.length:Int):=by omega
         rw[decide_eq_true h1,cM,cM]at hd;simp-implicitDefEqProofs (disch:=(first|omega|decide)) only[go_sem,↓reduceIte,seval,aH,e1,sX,hd,wrap_i64,aa]
       · have sX: ¬(40:Int)<(lo.length:Int):=by omega
         by_cases h2:40<hi.length
         · have tE:(40:Int)<(hi.length:Int):=by omega
           rw[decide_eq_true h2,lD,cM]at hd;simp-implicitDefEqProofs (disch:=(first|omega|decide)) only[go_sem,↓reduceIte,seval,aH,e1,sX,tE,hd,wrap_i64,aa]
         · have tE: ¬(40:Int)<(hi.length:Int):=by omega
           rw[decide_eq_false h1,decide_eq_false h2,gi,bu]at hd;simp-implicitDefEqProofs (disch:=(first|omega|decide)) only[go_sem,↓reduceIte,seval,aH,e1,sX,tE,wrap_i64,aa]
           exact⟨⟨k+1,bo,hd⟩,by simp,by show l.length-(k+1)<l.length-k;omega⟩
     · have aH: ¬(k:Int)<(l.length:Int):=by omega
       rw[aC (by omega)]at hd;simp-implicitDefEqProofs (disch:=(first|omega|decide)) only[go_sem,↓reduceIte,seval,aH,hd,aa]
def jk(a b:List bk):Bool:=decide (a=b)
theorem Lt:aQ Tryz.prog z' Tryz.f27.ntmps (Tryz.f27.body.getD .skip)=true:=by kernel_rfl
theorem P0(a b:List bk)(hl:a.length<=4611686018427387904)(hb:b.length<=4611686018427387904):bp Tryz.prog 27 [.ay (a.map bk.enc),.ay (b.map bk.enc)] (· = .bool (jk a b)):=by
 refine ah kH mixed Tryz.func27 rfl (ab rfl) Lt ?_;unfold Tryz.f27;cases h0:((a.length:Int)==(b.length:Int))with
 |false=>
  have eH:a.length≠b.length:=by
   have:(a.length:Int)≠(b.length:Int):=by simpa using h0
   omega
  have hh:jk a b=false:=by unfold jk;simp;intro e;exact eH (by rw[e])
  simp-implicitDefEqProofs (disch:=(first|omega|decide)) only[go_sem,↓reduceIte,seval,h0,hh,aa]
 |true=>
  have he:a.length=b.length:=by
   have:(a.length:Int)=(b.length:Int):=by simpa using h0
   omega
  simp-implicitDefEqProofs (disch:=(first|omega|decide)) only[go_sem,↓reduceIte,seval,h0,aa]
  refine a_ [0,1] (ι:={k:Nat//k<=a.length/\a.take k=b.take k}) (fun p=>[(5,.int .i64 p.1)]) (fun _=>[]) (fun p=>a.length-p.1) ⟨0,by omega,rfl⟩ (aw _) ?_ ?_
  · simp-implicitDefEqProofs (disch:=(first|omega|decide)) only[go_sem,↓reduceIte,seval]
  · rintro⟨k,hk,hd⟩
    simp only;by_cases bo:k<a.length
    · have aH:(k:Int)<(a.length:Int):=by omega
      have qH:(k:Int)<(b.length:Int):=by omega
      have jD:k<b.length:=by omega
      have e1:=im bo;have e2:=im jD;have t1:=(ar bo).symm;have t2:=(ar jD).symm;have th:a[k]≠b[k]->jk a b=false:=fun h=>by unfold jk;simp;intro e;subst e;exact h rfl
      generalize hx:a[k]=x at*;generalize hy:b[k]=y at*;obtain⟨f,t,o⟩:=x;obtain⟨f',t',o'⟩:=y;cases h1:f==f' with
      |false=>
       have hh:=th (by have:f≠f':=by simpa using h1
                       simp[this])
       simp-implicitDefEqProofs (disch:=(first|omega|decide)) only[go_sem,↓reduceIte,seval,aH,qH,e1,e2,h1,hh,aa]
      |true=>
       cases h2:t==t' with
       |false=>
        have hh:=th (by have:t≠t':=by simpa using h2
                        simp[this])
        simp-implicitDefEqProofs (disch:=(first|omega|decide)) only[go_sem,↓reduceIte,seval,aH,qH,e1,e2,h1,h2,hh,aa]
       |true=>
        cases h3:o==o' with
        |false=>
           have hh:=th (by have:o≠o':=by simpa using h3
                           simp[this])
           simp-implicitDefEqProofs (disch:=(first|omega|decide)) only[go_sem,↓reduceIte,seval,aH,qH,e1,e2,h1,h2,h3,hh,aa]
        |true=>
           obtain rfl:f=f':=by simpa using h1
           obtain rfl:t=t':=by simpa using h2
           obtain rfl:o=o':=by simpa using h3
           simp-implicitDefEqProofs (disch:=(first|omega|decide)) only[go_sem,↓reduceIte,seval,aH,qH,e1,e2,h1,h2,h3,wrap_i64,aa]
           exact⟨⟨k+1,bo,by rw[t1,t2,hd]⟩,by simp,by show a.length-(k+1)<a.length-k;omega⟩
    · have aH: ¬(k:Int)<(a.length:Int):=by omega
      have hh:jk a b=true:=by rw[ad (by omega),ad (by omega)]at hd;simp[jk,hd]
      simp-implicitDefEqProofs (disch:=(first|omega|decide)) only[go_sem,↓reduceIte,seval,aH,hh,aa]
end Go.Proofs.YtfnohjheonlnmaaGreat
namespace Go.Proofs.YtfnohjheonlnmaaGreat
set_option linter.unusedSimpArgs false
set_option linter.unusedVariables false
def cU{α:Type} [DecidableEq α]:List α->List α
 | []=>[]
 | [x]=>[x]
 |x::y::l=>if x=y then cU (y::l)else x::cU (y::l)
section
variable{α:Type} [DecidableEq α]
theorem II: ∀(l:List α) (x y:α),cU (l++[x,y])=if x=y then cU (l++[x])else cU (l++[x])++[y]
 | [],x,y=>by by_cases h:x=y<;>simp[cU,h]
 | [z],x,y=>by
  by_cases h:x=y
  · by_cases h2:z=x<;>simp[cU,h,h2]
  · by_cases h2:z=x<;>simp[cU,h,h2]
 |z::w::l,x,y=>by
  have ih:=II (w::l) x y;simp only[bF,cU]at ih⊢;by_cases h2:z=w
  · rw[if_pos h2,if_pos h2];exact ih
  · rw[if_neg h2,if_neg h2,ih]
    by_cases h:x=y<;>simp[h]
theorem xO: ∀l:List α,(cU l).length<=l.length
 | []=>by simp[cU]
 | [x]=>by simp[cU]
 |x::y::l=>by
  have:=xO (y::l)
  simp only[cU]
  split<;>simp at* <;>omega
theorem rn: ∀{l:List α} {z:α},z∈cU l ↔ z∈l
 | [],z=>by simp[cU]
 | [x],z=>by simp[cU]
 |x::y::l,z=>by
  have ih:= @rn (y::l) z;simp only[cU]
  split
  · rename_i h;subst h;rw[ih];simp
  · rw[aD,ih,aD (l:=y::l)]
theorem NR: ∀l:List α,(cU l).Sublist l
 | []=>by simp[cU]
 | [x]=>by simp[cU]
 |x::y::l=>by
  have ih:=NR (y::l)
  simp only[cU]
  split
  · exact ih.cons x
  · exact ih.cons_cons x
end
theorem uP{α:Type} [DecidableEq α]{l:List α}{k:Nat}(h1:1<=k)(h:k<l.length):cU (l.take (k+1))=if l[k-1]=l[k]then cU (l.take k)else cU (l.take k)++[l[k]]:=by
 have e1:l.take k=l.take (k-1)++[l[k-1]]:=by
  have:=ar (l:=l) (i:=k-1) (by omega)
  rw[show k-1+1=k by omega]at this;exact this.symm
 have e2:l.take (k+1)=l.take (k-1)++[l[k-1],l[k]]:=by rw[<-ar h,e1,ba];rfl
 rw[e2,II,<-e1]
end Go.Proofs.YtfnohjheonlnmaaGreat
namespace Go.Proofs
open Go.Shelf
def YtfnohjheonlnmaaGreat.Ub:Go.Shelf.Ren:=⟨fun|6=>214|15=>222|14=>231|28=>244|29=>245|20=>256|21=>257|22=>258|23=>259|24=>260|25=>261|26=>262|27=>263|46=>275|47=>267|48=>268|49=>276|50=>277|57=>289|n=>n,fun|22=>113|24=>9|25=>185|3=>3|39=>228|0=>0|53=>62|55=>248|4=>4|46=>240|45=>239|50=>244|5=>5|9=>9|66=>261|70=>265|76=>278|77=>279|n=>n,fun|n=>n⟩
theorem YtfnohjheonlnmaaGreat.sortStr:Go.Proofs.SlLaysF.n6 Tryz.prog YtfnohjheonlnmaaGreat.Ub:={
 mixed:=by kernel_rfl
 f6:=⟨Tryz.f214.name,by decide,Tryz.func214.trans (congrArg some (by kernel_rfl))⟩
 f14:=⟨Tryz.f231.name,by decide,Tryz.func231.trans (congrArg some (by kernel_rfl))⟩
 f15:=Tryz.func222.trans (congrArg some (by kernel_rfl))
 f20:=⟨Tryz.f256.name,by decide,Tryz.func256.trans (congrArg some (by kernel_rfl))⟩
 f21:=⟨Tryz.f257.name,by decide,Tryz.func257.trans (congrArg some (by kernel_rfl))⟩
 f22:=⟨Tryz.f258.name,by decide,Tryz.func258.trans (congrArg some (by kernel_rfl))⟩
 f23:=⟨Tryz.f259.name,by decide,Tryz.func259.trans (congrArg some (by kernel_rfl))⟩
 f24:=⟨Tryz.f260.name,by decide,Tryz.func260.trans (congrArg some (by kernel_rfl))⟩
 f25:=⟨Tryz.f261.name,by decide,Tryz.func261.trans (congrArg some (by kernel_rfl))⟩
 f26:=⟨Tryz.f262.name,by decide,Tryz.func262.trans (congrArg some (by kernel_rfl))⟩
 f27:=⟨Tryz.f263.name,by decide,Tryz.func263.trans (congrArg some (by kernel_rfl))⟩
 f28:=Tryz.func244.trans (congrArg some (by kernel_rfl))
 f29:=Tryz.func245.trans (congrArg some (by kernel_rfl))
 f46:=⟨Tryz.f275.name,by decide,Tryz.func275.trans (congrArg some (by kernel_rfl))⟩
 f47:=Tryz.func267.trans (congrArg some (by kernel_rfl))
 f48:=Tryz.func268.trans (congrArg some (by kernel_rfl))
 f49:=⟨Tryz.f276.name,by decide,Tryz.func276.trans (congrArg some (by kernel_rfl))⟩
 f50:=⟨Tryz.f277.name,by decide,Tryz.func277.trans (congrArg some (by kernel_rfl))⟩
 f57:=⟨Tryz.f289.name,by decide,Tryz.func289.trans (congrArg some (by kernel_rfl))⟩
 t0:=Tryz.underlying0
 a0:=Tryz.isAgg0
 z0:=Tryz.sizeOf0
 v0:=Tryz.zeroValue0
 t3:=Tryz.underlying3
 a3:=Tryz.isAgg3
 z3:=Tryz.sizeOf3
 v3:=Tryz.zeroValue3
 t4:=Tryz.underlying4
 a4:=Tryz.isAgg4
 z4:=Tryz.sizeOf4
 v4:=Tryz.zeroValue4
 t5:=Tryz.underlying5
 a5:=Tryz.isAgg5
 z5:=Tryz.sizeOf5
 v5:=Tryz.zeroValue5
 t9:=Tryz.underlying9
 a9:=Tryz.isAgg9
 z9:=Tryz.sizeOf9
 v9:=Tryz.zeroValue9
 t22:=Tryz.underlying113
 a22:=Tryz.isAgg113
 z22:=Tryz.sizeOf113
 v22:=Tryz.zeroValue113
 a24:=Tryz.isAgg9
 z24:=Tryz.sizeOf9
 t25:=Tryz.underlying185
 a25:=Tryz.isAgg185
 z25:=Tryz.sizeOf185
 v25:=Tryz.zeroValue185
 t39:=Tryz.underlying228
 a39:=Tryz.isAgg228
 z39:=Tryz.sizeOf228
 v39:=Tryz.zeroValue228
 t45:=Tryz.underlying239
 a45:=Tryz.isAgg239
 z45:=Tryz.sizeOf239
 v45:=Tryz.zeroValue239
 t46:=Tryz.underlying240
 a46:=Tryz.isAgg240
 z46:=Tryz.sizeOf240
 v46:=Tryz.zeroValue240
 t50:=Tryz.underlying244
 a50:=Tryz.isAgg244
 z50:=Tryz.sizeOf244
 v50:=Tryz.zeroValue244
 t53:=Tryz.underlying62
 a53:=Tryz.isAgg62
 z53:=Tryz.sizeOf62
 v53:=Tryz.zeroValue62
 t55:=Tryz.underlying248
 a55:=Tryz.isAgg248
 z55:=Tryz.sizeOf248
 v55:=Tryz.zeroValue248
 t66:=Tryz.underlying261
 a66:=Tryz.isAgg261
 z66:=Tryz.sizeOf261
 v66:=Tryz.zeroValue261
 t70:=Tryz.underlying265
 a70:=Tryz.isAgg265
 z70:=Tryz.sizeOf265
 v70:=Tryz.zeroValue265
 t76:=Tryz.underlying278
 a76:=Tryz.isAgg278
 z76:=Tryz.sizeOf278
 v76:=Tryz.zeroValue278
 t77:=Tryz.underlying279
 a77:=Tryz.isAgg279
 z77:=Tryz.sizeOf279
 v77:=Tryz.zeroValue279}
def YtfnohjheonlnmaaGreat.P1:Go.Shelf.Ren:=⟨fun|6=>214|15=>222|14=>231|28=>244|29=>245|20=>256|21=>257|22=>258|23=>259|24=>260|25=>261|26=>262|27=>263|46=>275|47=>267|48=>268|49=>276|50=>277|57=>289|n=>n,fun|22=>113|24=>9|25=>185|3=>3|39=>228|0=>0|53=>62|55=>248|4=>4|46=>240|45=>239|50=>244|5=>5|9=>9|66=>261|70=>265|76=>278|77=>279|n=>n,fun|n=>n⟩
theorem YtfnohjheonlnmaaGreat.sortStr0:Go.Proofs.SlLaysF0.n6 Tryz.prog YtfnohjheonlnmaaGreat.P1:={
 mixed:=by kernel_rfl
 f6:=⟨Tryz.f214.name,by decide,Tryz.func214.trans (congrArg some (by kernel_rfl))⟩
 f14:=⟨Tryz.f231.name,by decide,Tryz.func231.trans (congrArg some (by kernel_rfl))⟩
 f15:=Tryz.func222.trans (congrArg some (by kernel_rfl))
 f20:=⟨Tryz.f256.name,by decide,Tryz.func256.trans (congrArg some (by kernel_rfl))⟩
 f21:=⟨Tryz.f257.name,by decide,Tryz.func257.trans (congrArg some (by kernel_rfl))⟩
 f22:=⟨Tryz.f258.name,by decide,Tryz.func258.trans (congrArg some (by kernel_rfl))⟩
 f23:=⟨Tryz.f259.name,by decide,Tryz.func259.trans (congrArg some (by kernel_rfl))⟩
 f24:=⟨Tryz.f260.name,by decide,Tryz.func260.trans (congrArg some (by kernel_rfl))⟩
 f25:=⟨Tryz.f261.name,by decide,Tryz.func261.trans (congrArg some (by kernel_rfl))⟩
 f26:=⟨Tryz.f262.name,by decide,Tryz.func262.trans (congrArg some (by kernel_rfl))⟩
 f27:=⟨Tryz.f263.name,by decide,Tryz.func263.trans (congrArg some (by kernel_rfl))⟩
 f28:=Tryz.func244.trans (congrArg some (by kernel_rfl))
 f29:=Tryz.func245.trans (congrArg some (by kernel_rfl))
 f46:=⟨Tryz.f275.name,by decide,Tryz.func275.trans (congrArg some (by kernel_rfl))⟩
 f47:=Tryz.func267.trans (congrArg some (by kernel_rfl))
 f48:=Tryz.func268.trans (congrArg some (by kernel_rfl))
 f49:=⟨Tryz.f276.name,by decide,Tryz.func276.trans (congrArg some (by kernel_rfl))⟩
 f50:=⟨Tryz.f277.name,by decide,Tryz.func277.trans (congrArg some (by kernel_rfl))⟩
 f57:=⟨Tryz.f289.name,by decide,Tryz.func289.trans (congrArg some (by kernel_rfl))⟩
 t0:=Tryz.underlying0
 a0:=Tryz.isAgg0
 z0:=Tryz.sizeOf0
 v0:=Tryz.zeroValue0
 t3:=Tryz.underlying3
 a3:=Tryz.isAgg3
 z3:=Tryz.sizeOf3
 v3:=Tryz.zeroValue3
 t4:=Tryz.underlying4
 a4:=Tryz.isAgg4
 z4:=Tryz.sizeOf4
 v4:=Tryz.zeroValue4
 t5:=Tryz.underlying5
 a5:=Tryz.isAgg5
 z5:=Tryz.sizeOf5
 v5:=Tryz.zeroValue5
 t9:=Tryz.underlying9
 a9:=Tryz.isAgg9
 z9:=Tryz.sizeOf9
 v9:=Tryz.zeroValue9
 t22:=Tryz.underlying113
 a22:=Tryz.isAgg113
 z22:=Tryz.sizeOf113
 v22:=Tryz.zeroValue113
 t25:=Tryz.underlying185
 a25:=Tryz.isAgg185
 z25:=Tryz.sizeOf185
 v25:=Tryz.zeroValue185
 t39:=Tryz.underlying228
 a39:=Tryz.isAgg228
 z39:=Tryz.sizeOf228
 v39:=Tryz.zeroValue228
 t45:=Tryz.underlying239
 a45:=Tryz.isAgg239
 z45:=Tryz.sizeOf239
 v45:=Tryz.zeroValue239
 t46:=Tryz.underlying240
 a46:=Tryz.isAgg240
 z46:=Tryz.sizeOf240
 v46:=Tryz.zeroValue240
 t50:=Tryz.underlying244
 a50:=Tryz.isAgg244
 z50:=Tryz.sizeOf244
 v50:=Tryz.zeroValue244
 t53:=Tryz.underlying62
 a53:=Tryz.isAgg62
 z53:=Tryz.sizeOf62
 v53:=Tryz.zeroValue62
 t55:=Tryz.underlying248
 a55:=Tryz.isAgg248
 z55:=Tryz.sizeOf248
 v55:=Tryz.zeroValue248
 t66:=Tryz.underlying261
 a66:=Tryz.isAgg261
 z66:=Tryz.sizeOf261
 v66:=Tryz.zeroValue261
 t70:=Tryz.underlying265
 a70:=Tryz.isAgg265
 z70:=Tryz.sizeOf265
 v70:=Tryz.zeroValue265
 t76:=Tryz.underlying278
 a76:=Tryz.isAgg278
 z76:=Tryz.sizeOf278
 v76:=Tryz.zeroValue278
 t77:=Tryz.underlying279
 a77:=Tryz.isAgg279
 z77:=Tryz.sizeOf279
 v77:=Tryz.zeroValue279}
end Go.Proofs
namespace Go.Proofs.YtfnohjheonlnmaaGreat
open Go.dF
set_option linter.unusedSimpArgs false
set_option linter.unusedVariables false
set_option maxRecDepth 20000
set_option maxHeartbeats 8000000
abbrev x_:={s:List UInt8//s.length<=17}
instance:Inhabited x_:=⟨⟨[],by decide⟩⟩
def cfS(a b:x_):Int:=fC a.1 b.1
def x_.enc(s:x_):A:= .str s.1
theorem swoS:Go.Sort.SWO (Go.Proofs.ltOf cfS):=by
 have hl: ∀a b,Go.Proofs.ltOf cfS a b=cL a.1 b.1:=fun a b=>by unfold Go.Proofs.ltOf cfS;exact AF
 refine⟨fun x=> ?_,fun x y z h1 h2=> ?_,fun x y z h1 h2=> ?_⟩
 · rw[hl];exact lt_irrefl _
 · rw[hl]at*;exact fa h1 h2
 · rw[hl]at*;exact qJ h2 h1
theorem IJ(l:List x_)(hl:l.length<4611686018427387904):jb Tryz.prog 214 [.row 0 0 1 l.length false,.fn 170 []] [.row 1 (l.map x_.enc)]
 (.fq []) [.row 1 ((gZ cfS l).map x_.enc)] []:=
 Tv Go.Proofs.YtfnohjheonlnmaaGreat.sortStr Go.Proofs.YtfnohjheonlnmaaGreat.sortStr0 x_.enc (fun _=>rfl) cfS swoS (dE Tryz.func170 (by kernel_rfl) (by kernel_rfl)) (fun x y=>Cg x.1 y.1 (by have:=x.2;omega) (by have:=y.2;omega)) l hl false
def asB:(l:List (List UInt8))->(∀s∈l,s.length<=17)->List x_
 | [],_=>[]
 |s::l,h=>⟨s,h s (by simp)⟩::asB l (fun x hx=>h x (by simp[hx]))
theorem Gh: ∀(l:List (List UInt8)) (h: ∀s∈l,s.length<=17),(asB l h).map (·.1)=l
 | [],_=>rfl
 |s::l,h=>by simp[asB,Gh l]
theorem ZP(l:List (List UInt8))(h: ∀s∈l,s.length<=17):(asB l h).map x_.enc=l.map A.str:=by
 have:=Gh l h
 conv=>rhs;rw[<-this]
 rw[eD];rfl
theorem Gi(l:List (List UInt8))(h: ∀s∈l,s.length<=17):(asB l h).length=l.length:=by
 have:=congrArg List.length (Gh l h)
 simpa using this
open Classical in
/-- Texts, sorted. -/
def oP(l:List (List UInt8)):List (List UInt8):=if h: ∀s∈l,s.length<=17 then(gZ cfS (asB l h)).map (·.1)else l
theorem kq{l:List (List UInt8)}(h: ∀s∈l,s.length<=17):(oP l).Perm l/\(oP l).Pairwise (fun x y=>cL y x=false):=by
 unfold oP;rw[dif_pos h]
 obtain⟨h1,h2⟩:=i_ swoS (asB l h)
 refine⟨?_, ?_⟩
 · have:=h1.map (·.1)
   rwa [Gh]at this
 · rw[j7]
   exact h2.imp fun{x y} hh=>by unfold cfS at hh;have:= @AF y.1 x.1;rw[<-this];exact decide_eq_false hh
theorem NS{l:List (List UInt8)}(h: ∀s∈l,s.length<=17):(gZ cfS (asB l h)).map x_.enc=(oP l).map A.str:=by unfold oP;rw[dif_pos h,eD];rfl
theorem P2: ∀{l:List (List UInt8)},l.Pairwise (fun x y=>cL y x=false)->(cU l).Pairwise (fun x y=>cL x y=true)
 | [],_=>by simp[cU]
 | [x],_=>by simp[cU]
 |x::y::l,h=>by
  rw[aR]at h;have ih:=P2 h.2;simp only[cU]
  split
  · exact ih
  · rename_i eH
    have Cr:cL x y=true:=by
     rcases s6 x y with h1|h1|h1
     · exact h1
     · exact absurd h1 eH
     · have:=h.1 y (by simp);rw[h1]at this;cases this
    rw[aR]
    refine⟨fun z hz=> ?_,ih⟩
    rw[rn]at hz;rcases aD.1 hz with rfl|hz
    · exact Cr
    · exact AH Cr ((aR.1 h.2).1 z hz)
def TCs:aW:={z' with fix:=fun n=>n==0,nf:=1}
theorem TCs_ok:aN Tryz.prog TCs:=⟨kH.f,kH.hp⟩
@[go_sem] theorem TCs_ords{n:Nat}:TCs.fS n=[]:=rfl
theorem o8:aQ Tryz.prog TCs Tryz.f215.ntmps (Tryz.f215.body.getD .skip)=true:=by kernel_rfl
theorem Lu(l:List (List UInt8))(hl:l.length<=4611686018427387903):jb Tryz.prog 215 [.row 0 0 1 l.length false] [.row 1 (l.map A.str)]
 (.row 0 0 1 (cU l).length false) [.row 1 ((cU l++List.replicate (l.length-(cU l).length) ([]:List UInt8)).map A.str)] []:=by
 refine e_ TCs_ok mixed Tryz.func215 rfl (ab rfl) (fun n h _=>by simp at h;subst h;rfl) (by show _<=1;simp) (by show 1<=_;simp) o8 ?_;unfold Tryz.f215;by_cases h2:(l.length:Int)<2
 · have hc:cU l=l:=by
    match l,h2 with
    | [],_=>rfl
    | [x],_=>rfl
    |_::_::_,h=>simp at h;omega
   rw[hc]
   simp-implicitDefEqProofs (disch:=(first|omega|decide)) only[go_sem,↓reduceIte,seval,h2,aa]
   simp
 · simp-implicitDefEqProofs (disch:=(first|omega|decide)) only[go_sem,↓reduceIte,seval,h2,aa]
   refine a_ [0] (ι:={k:Nat//1<=k/\k<=l.length/\cU (l.take k)=l.take k}) (fun p=>[(3,.int .i64 p.1)]) (fun _=>[]) (fun p=>l.length-p.1) ⟨1,by omega,by omega,by match l with| []=>rfl| [x]=>rfl|x::y::l=>rfl⟩ (by show 1<=_;simp) ?_ ?_
   · simp-implicitDefEqProofs (disch:=(first|omega|decide)) only[go_sem,↓reduceIte,seval]
   · rintro⟨k,qD,hk,hd⟩
     simp only;by_cases bo:k<l.length
     · have aH:(k:Int)<(l.length:Int):=by omega
       have iB:=uP qD bo;have e1:(l.map A.str)[k]? =some (.str l[k]):=by rw[aT,ae bo];rfl
       have e0:(l.map A.str)[k-1]? =some (.str l[k-1]):=by rw[aT,ae (by omega)];rfl
       have t0:((k:Int)-1).toNat=k-1:=by omega
       have b0:(0:Int)<=(k:Int)-1:=by omega
       have b1:(k:Int)-1<(l.length:Int):=by omega
       generalize hx:l[k]=x at e1 iB;generalize hy:l[k-1]=y at e0 iB;have next:y≠x->cU (l.take (k+1))=l.take (k+1):=fun eH=>by rw[iB,if_neg eH,hd,<-hx];exact ar bo
       cases h3:x==y with
       |true=>
        obtain rfl:x=y:=by simpa using h3
        have b2:(k:Int)<=(l.length:Int):=by omega
        rw[if_pos rfl]at iB;have hlen:(cU (l.take (k+1))).length=k:=by rw[iB,hd,aK];omega
        have tk:((l.length:Int)-(k:Int)).toNat=l.length-k:=by omega
        simp-implicitDefEqProofs (disch:=(first|omega|decide)) only[go_sem,↓reduceIte,seval,aH,e1,e0,t0,b0,b1,b2,tk,h3,wrap_i64,aa,cT]
        clear next e1 e0 hx hy h3 t0 b0
        refine a_ [0,4] (ι:={p:Nat×Nat×List (List UInt8)//1<=p.1/\k+p.1<=l.length/\p.2.1=(cU (l.take (k+p.1))).length/\p.2.2.length=l.length/\p.2.2.take p.2.1=cU (l.take (k+p.1))/\p.2.2.drop (k+p.1-1)=l.drop (k+p.1-1)/\p.2.1<=k+p.1-1}) (fun p=>[(3,.int .i64 p.1.2.1),(5,.int .i64 p.1.1)]) (fun p=>[(0,.row 1 (p.1.2.2.map A.str))]) (fun p=>l.length-p.1.1) ⟨(1,k,l),by omega,bo,hlen.symm,rfl,by rw[iB,hd],rfl,by show k<=k+1-1;omega⟩ (by show 1<=_;simp) ?_ ?_
        · simp-implicitDefEqProofs (disch:=(first|omega|decide)) only[go_sem,↓reduceIte,seval]
        · rintro⟨⟨j,m,e⟩,hj1,hj,hm,he,RQ,hdr,hmj⟩
          simp only at hj1 hj hm he RQ hdr hmj
          have get: ∀i,k+j-1<=i->e[i]? =l[i]? :=fun i hi=>by
            have:=congrArg (fun x:List (List UInt8)=>x[i-(k+j-1)]?) hdr;simp only[eB]at this
            rwa [show k+j-1+(i-(k+j-1))=i by omega]at this
          by_cases hq:k+j<l.length
          · have RP:(j:Int)<((l.length-k:Nat):Int):=by omega
            have iB:=uP (l:=l) (k:=k+j) (by omega) hq;have e1:(e.map A.str)[k+j]? =some (.str l[k+j]):=by rw[aT,get _ (by omega),ae hq];rfl
            have e0:(e.map A.str)[k+(j-1)]? =some (.str l[k+j-1]):=by rw[aT,get _ (by omega),show k+(j-1)=k+j-1 by omega,ae (by omega)];rfl
            have t0:((j:Int)-1).toNat=j-1:=by omega
            have b0:(0:Int)<=(j:Int)-1:=by omega
            have b3:(j:Int)-1<((l.length-k:Nat):Int):=by omega
            generalize hx:l[k+j]=x at e1 iB;generalize hy:l[k+j-1]=y at e0 iB
            have hdr2:e.drop (k+(j+1)-1)=l.drop (k+(j+1)-1):=by
             have:=congrArg (List.drop 1) hdr
             rwa [eJ,eJ,show k+j-1+1=k+(j+1)-1 by omega]at this
            have b4:(m:Int)<(l.length:Int):=by omega
            have b5:m<e.length:=by omega
            have next:y≠x->(m+1=(cU (l.take (k+(j+1)))).length/\(e.set m x).length=l.length/\(e.set m x).take (m+1)=cU (l.take (k+(j+1)))/\(e.set m x).drop (k+(j+1)-1)=l.drop (k+(j+1)-1)/\m+1<=k+(j+1)-1):=fun eH=>by
             rw[if_neg eH]at iB;have IK:cU (l.take (k+(j+1)))=cU (l.take (k+j))++[x]:=iB;refine⟨by rw[IK,aj,<-hm];rfl,by rw[dd,he], ?_, ?_,by omega⟩
             · rw[IK,<-RQ,<-ar (by rw[dd];exact b5),oG (ai _)]
               simp
             · rw[oH (by omega)];exact hdr2
            have lG:fE (e.map A.str) m (.str x)=(e.set m x).map A.str:=by rw[lT,jX]
            have em:(e.map A.str)[m]? =some (.str e[m]):=by rw[aT,ae b5];rfl
            cases h3:x==y with
            |true=>
             obtain rfl:x=y:=by simpa using h3
             rw[if_pos rfl]at iB;simp-implicitDefEqProofs (disch:=(first|omega|decide)) only[go_sem,↓reduceIte,seval,RP,e1,e0,t0,b0,b3,h3,wrap_i64,aa,cT]
             exact⟨⟨(j+1,m,e),by show 1<=j+1;omega,by show k+(j+1)<=_;omega,by show m=(cU (l.take (k+j+1))).length;rw[iB,hm],he,by show e.take m=cU (l.take (k+j+1));rw[iB,RQ],hdr2,by show m<=k+(j+1)-1;omega⟩,⟨⟨rfl,by simp⟩,rfl⟩,by show l.length-(j+1)<l.length-j;omega⟩
            |false=>
             have eH:x≠y:=by simpa using h3
             simp-implicitDefEqProofs (disch:=(first|omega|decide)) only[go_sem,↓reduceIte,seval,RP,e1,e0,t0,b0,b3,b4,h3,em,lG,wrap_i64,aa,cT]
             exact⟨⟨(j+1,m+1,e.set m x),by show 1<=j+1;omega,by show k+(j+1)<=_;omega,next (fw eH)⟩,⟨⟨by simp,by simp⟩,rfl⟩,by show l.length-(j+1)<l.length-j;omega⟩
          · have RP: ¬(j:Int)<((l.length-k:Nat):Int):=by omega
            have b4:(m:Int)<=(l.length:Int):=by omega
            have tm:((l.length:Int)-(m:Int)).toNat=l.length-m:=by omega
            have mP:k+j=l.length:=by omega
            rw[mP,ad (ai _)]at hm RQ;have b6:m+(l.length-m)=l.length:=by omega
            have b7:l.length<=e.length:=by omega
            have b8:(e.map A.str).drop l.length=[]:=by rw[aC (by rw[aa];omega)]
            have tm0:((m:Int)-0).toNat=m:=by omega
            simp-implicitDefEqProofs (disch:=(first|omega|decide)) only[go_sem,↓reduceIte,seval,RP,b4,tm,tm0,b6,b7,b8,aa,cT]
            refine⟨hm, ?_⟩
            rw[bz,<-RQ,iw,l5,RQ,<-hm]
       |false=>
        have eH:x≠y:=by simpa using h3
        simp-implicitDefEqProofs (disch:=(first|omega|decide)) only[go_sem,↓reduceIte,seval,aH,e1,e0,t0,b0,b1,h3,wrap_i64,aa]
        exact⟨⟨k+1,by omega,bo,next (fw eH)⟩,by simp,by show l.length-(k+1)<l.length-k;omega⟩
     · have aH: ¬(k:Int)<(l.length:Int):=by omega
       have hc:cU l=l:=by rw[ad (by omega)]at hd;exact hd
       rw[hc]
       simp-implicitDefEqProofs (disch:=(first|omega|decide)) only[go_sem,↓reduceIte,seval,aH,aa]
       simp
theorem mT:aQ Tryz.prog z' Tryz.f256.ntmps (Tryz.f256.body.getD .skip)=true:=by kernel_rfl
theorem c_ins1(x:A):bp Tryz.prog 256 [.ay [x],.int .i64 0,.int .i64 1,.fn 170 []] (· = .fq []):=by
 refine ah kH mixed Tryz.func256 rfl (ab rfl) mT ?_;unfold Tryz.f256;simp-implicitDefEqProofs (disch:=(first|omega|decide)) only[go_sem,↓reduceIte,seval,wrap_i64]
 refine a_ [] (ι:=Unit) (fun _=>[(2,.int .i64 1),(8,.int .i64 1)]) (fun _=>[]) (fun _=>0) () (aw _) ?_ ?_
 · simp-implicitDefEqProofs (disch:=(first|omega|decide)) only[go_sem,↓reduceIte,seval]
 · intro _
   simp-implicitDefEqProofs (disch:=(first|omega|decide)) only[go_sem,↓reduceIte,seval,wrap_i64,GM]
   try rfl
def Uc:aW:=z'.add 256 (entry (fun(x:List UInt8)=>[.ay [.str x],.int .i64 0,.int .i64 1,.fn 170 []]) (fun x=>True) (fun x=> .fq []))
theorem P3:aN Tryz.prog Uc:=kH.dH Tryz.func256 (by kernel_rfl) (by kernel_rfl) fun x h=>c_ins1 (.str x)
@[go_sem] theorem T08s_s:Uc.pl z':=⟨fun _=>rfl,fun _=>rfl,rfl,fun _=>rfl,rfl,fun _=>rfl,rfl⟩
theorem mr(x:List UInt8)(h:True):Uc.f 256 [.ay [.str x],.int .i64 0,.int .i64 1,.fn 170 []]=some (.fq []):=aW.aZ (Γ:=z') (fun i j h=>by simpa[ag,and_assoc]using h) x h
@[go_sem] theorem t_ins1{x:List UInt8}:Uc.f 256 [.ay [.str x],.int .i64 0,.int .i64 1,.fn 170 []]=some (.fq []):=mr x trivial
theorem o9:aQ Tryz.prog Uc Tryz.f231.ntmps (Tryz.f231.body.getD .skip)=true:=by kernel_rfl
theorem c_pdq1(x:List UInt8)(n:Int):bp Tryz.prog 231 [.ay [.str x],.int .i64 0,.int .i64 1,.int .i64 n,.fn 170 []] (· = .fq []):=by
 refine ah P3 mixed Tryz.func231 rfl (ab rfl) o9 ?_;unfold Tryz.f231;simp-implicitDefEqProofs (disch:=(first|omega|decide)) only[go_sem,↓reduceIte,seval,wrap_i64]
 refine a_ [0] (ι:=Unit) (fun _=>[(1,.int .i64 0),(2,.int .i64 1),(4,.fn 170 [])]) (fun _=>[]) (fun _=>0) () (aw _) ?_ ?_
 · simp-implicitDefEqProofs (disch:=(first|omega|decide)) only[go_sem,↓reduceIte,seval]
 · intro _
   simp-implicitDefEqProofs (disch:=(first|omega|decide)) only[go_sem,↓reduceIte,seval,wrap_i64,GM]
   try rfl
theorem zo:aQ Tryz.prog Uc Tryz.f245.ntmps (Tryz.f245.body.getD .skip)=true:=by kernel_rfl
theorem c_len64:bp Tryz.prog 245 [.int .u64 1] (· = .int .i64 1):=by
 refine ah P3 mixed Tryz.func245 rfl (ab rfl) zo ?_;unfold Tryz.f245;have w8:IntKind.u8.wrap 1=1:=by decide
 have w64:IntKind.i64.wrap 1=1:=by decide
 simp-implicitDefEqProofs (disch:=(first|omega|decide)) only[go_sem,↓reduceIte,seval,w8,w64,nk]
 try decide
def Xg:aW:=Uc.add 231 (entry (fun(v:List UInt8×Int)=>[.ay [.str v.1],.int .i64 0,.int .i64 1,.int .i64 v.2,.fn 170 []]) (fun v=>True) (fun v=> .fq []))
theorem T08t_ok:aN Tryz.prog Xg:=P3.dH Tryz.func231 (by kernel_rfl) (by kernel_rfl) fun v h=>c_pdq1 v.1 v.2
theorem oh(v:List UInt8×Int)(h:True):Xg.f 231 [.ay [.str v.1],.int .i64 0,.int .i64 1,.int .i64 v.2,.fn 170 []]=some (.fq []):=aW.aZ (Γ:=Uc) (fun i j h=>by simpa[ag,and_assoc]using h) v h
@[go_sem] theorem t_pdq1{x:List UInt8}{n:Int}:Xg.f 231 [.ay [.str x],.int .i64 0,.int .i64 1,.int .i64 n,.fn 170 []]=some (.fq []):=oh (x,n) trivial
def Lv:aW:=Xg.add 245 (entry (fun(u:Unit)=>[.int .u64 1]) (fun u=>True) (fun u=> .int .i64 1))
theorem ZQ:aN Tryz.prog Lv:=T08t_ok.dH Tryz.func245 (by kernel_rfl) (by kernel_rfl) fun u h=>c_len64
@[go_sem] theorem T08u_old{g:FuncId}{xs:List A}(h:g≠245):Lv.f g xs=Xg.f g xs:=aW.aU h
@[go_sem] theorem T08u_s:Lv.pl Xg:=⟨fun _=>rfl,fun _=>rfl,rfl,fun _=>rfl,rfl,fun _=>rfl,rfl⟩
theorem wK(u:Unit)(h:True):Lv.f 245 [.int .u64 1]=some (.int .i64 1):=aW.aZ (Γ:=Xg) (fun i j h=>by first|(cases i;cases j;rfl;done)|simpa[ag,and_assoc]using h|(simp at h;omega)|(simp at h;exact jm h.1 (jm h.2.1 (by omega)))) u h
@[go_sem] theorem t_len64:Lv.f 245 [.int .u64 1]=some (.int .i64 1):=wK () trivial
theorem CE:aQ Tryz.prog Lv Tryz.f222.ntmps (Tryz.f222.body.getD .skip)=true:=by kernel_rfl
theorem c_len:bp Tryz.prog 222 [.int .u64 1] (· = .int .i64 1):=by refine ah ZQ mixed Tryz.func222 rfl (ab rfl) CE ?_;unfold Tryz.f222;simp-implicitDefEqProofs (disch:=(first|omega|decide)) only[go_sem,↓reduceIte,seval]
def Ud:aW:=Lv.add 222 (entry (fun(u:Unit)=>[.int .u64 1]) (fun u=>True) (fun u=> .int .i64 1))
theorem P4:aN Tryz.prog Ud:=ZQ.dH Tryz.func222 (by kernel_rfl) (by kernel_rfl) fun u h=>c_len
@[go_sem] theorem T08v_old{g:FuncId}{xs:List A}(h:g≠222):Ud.f g xs=Lv.f g xs:=aW.aU h
@[go_sem] theorem T08v_s:Ud.pl Lv:=⟨fun _=>rfl,fun _=>rfl,rfl,fun _=>rfl,rfl,fun _=>rfl,rfl⟩
theorem zp(u:Unit)(h:True):Ud.f 222 [.int .u64 1]=some (.int .i64 1):=aW.aZ (Γ:=Lv) (fun i j h=>by first|(cases i;cases j;rfl;done)|simpa[ag,and_assoc]using h|(simp at h;omega)|(simp at h;exact jm h.1 (jm h.2.1 (by omega)))) u h
@[go_sem] theorem t_len:Ud.f 222 [.int .u64 1]=some (.int .i64 1):=zp () trivial
theorem oQ:aQ Tryz.prog Ud Tryz.f214.ntmps (Tryz.f214.body.getD .skip)=true:=by kernel_rfl
theorem c_sort1(x:List UInt8):bp Tryz.prog 214 [.ay [.str x],.fn 170 []] (· = .fq []):=by
 refine ah P4 mixed Tryz.func214 rfl (ab rfl) oQ ?_;unfold Tryz.f214;have w64:IntKind.u64.wrap 1=1:=by decide
 simp-implicitDefEqProofs (disch:=(first|omega|decide)) only[go_sem,↓reduceIte,seval,w64,GM]
 try rfl
theorem c_comp1(x:List UInt8):bp Tryz.prog 215 [.ay [.str x]] (· = .ay [.str x]):=by refine ah P4 mixed Tryz.func215 rfl (ab rfl) (by kernel_rfl) ?_;unfold Tryz.f215;simp-implicitDefEqProofs (disch:=(first|omega|decide)) only[go_sem,↓reduceIte,seval]
theorem IL{E:Env}{es:List A}{ys:List A}{vs:List Value}(h:cH E (.clip es::ys) vs):cH E (.ay es::ys) vs:=by simp only[cH]at h⊢;obtain⟨v,qC,h1,h2,h3⟩:=h;exact⟨v,qC,h1,Pv h2,h3⟩
abbrev StI:=List x_ ⊕ List UInt8
def Aa:StI->List A
 | .inl l=>[.row 0 0 1 l.length false,.fn 170 []]
 | .inr x=>[.clip [.str x],.fn 170 []]
def yF:StI->List Go.dF.Obj
 | .inl l=>[.row 1 (l.map x_.enc)]
 | .inr _=>[]
def stK:StI->Prop
 | .inl l=>l.length<4611686018427387904
 | .inr _=>True
def Ue:StI->A×List Go.dF.Obj×List Nat
 | .inl l=>(.fq [],[.row 1 ((gZ cfS l).map x_.enc)],[])
 | .inr _=>(.fq [],[],[])
theorem strB_inj(x y:x_)(h:x.enc=y.enc):x=y:=wF (by simpa[x_.enc]using h)
theorem st_inj(i j:StI)(h:Aa i=Aa j)(h':yF i=yF j):i=j:=by
 cases i<;>cases j
 · simp only[yF,dr,Go.dF.Obj.row.injEq,true_and,and_true]at h'
   rw[map_inj strB_inj]at h';rw[h']
 · simp[yF]at h'
 · simp[yF]at h'
 · simp[Aa]at h
   rw[h]
abbrev CpI:=List (List UInt8) ⊕ List UInt8
def Em:CpI->List A
 | .inl l=>[.row 0 0 1 l.length false]
 | .inr x=>[.clip [.str x]]
def BO:CpI->List Go.dF.Obj
 | .inl l=>[.row 1 (l.map A.str)]
 | .inr _=>[]
def cpK:CpI->Prop
 | .inl l=>l.length<=4611686018427387903
 | .inr _=>True
def Uf:CpI->A×List Go.dF.Obj×List Nat
 | .inl l=>(.row 0 0 1 (cU l).length false,[.row 1 ((cU l++List.replicate (l.length-(cU l).length) ([]:List UInt8)).map A.str)],[])
 | .inr x=>(.ay [.str x],[],[])
theorem cp_inj(i j:CpI)(h:Em i=Em j)(h':BO i=BO j):i=j:=by
 cases i<;>cases j
 · simp only[BO,dr,Go.dF.Obj.row.injEq,true_and,and_true]at h'
   rw[SO]at h';rw[h']
 · simp[BO]at h'
 · simp[BO]at h'
 · simp[Em]at h
   rw[h]
def E8a:aW:=Ud.kz 214 (dG Aa yF stK Ue)
def E8b:aW:=E8a.kz 215 (dG Em BO cpK Uf)
def E8:aW:={E8b with sg:=fun f=>f==214||f==215}
theorem stH(i:StI)(h:stK i):jb Tryz.prog 214 (Aa i) (yF i) (Ue i).1 (Ue i).2.1 (Ue i).2.2:=by
 cases i with
 |inl l=>simpa only[Aa,yF,Ue]using IJ l h
 |inr x=>simpa only[Aa,yF,Ue]using H5 (c_sort1 x) (fun E vs=>IL) rfl
theorem cpH(i:CpI)(h:cpK i):jb Tryz.prog 215 (Em i) (BO i) (Uf i).1 (Uf i).2.1 (Uf i).2.2:=by
 cases i with
 |inl l=>simpa only[Em,BO,Uf]using Lu l h
 |inr x=>simpa only[Em,BO,Uf]using H5 (c_comp1 x) (fun E vs=>IL) rfl
theorem E8a_ok:aN Tryz.prog E8a:=P4.kz (dE Tryz.func214 (by kernel_rfl) (by kernel_rfl)) (gm stH)
theorem E8b_ok:aN Tryz.prog E8b:=E8a_ok.kz (dE Tryz.func215 (by kernel_rfl) (by kernel_rfl)) (gm cpH)
theorem E8_ok:aN Tryz.prog E8:=⟨E8b_ok.f,E8b_ok.hp⟩
@[go_sem] theorem E8_eff{g:FuncId}:E8.sg g=(g==214||g==215):=rfl
@[go_sem] theorem E8_frz{g:FuncId}:E8.xk g=Ud.xk g:=rfl
@[go_sem] theorem E8_fix{n:Nat}:E8.fix n=false:=rfl
@[go_sem] theorem E8_ords{n:Nat}:E8.fS n=[]:=rfl
theorem E8_st(i:StI)(h:stK i):E8.hp 214 (Aa i) (yF i)=some (Ue i):=by
 have h1:E8b.hp 214 (Aa i) (yF i)=E8a.hp 214 (Aa i) (yF i):=aW.xB (by decide)
 have h2:E8a.hp 214 (Aa i) (yF i)=dG Aa yF stK Ue (Aa i) (yF i):=aW.jK;have h3:=gn (enc:=Aa) (Kx:=yF) (ok:=stK) (spec:=Ue) (fun i j h h'=>st_inj i j h h') i h;exact(show E8.hp 214 (Aa i) (yF i)=E8b.hp 214 (Aa i) (yF i)from rfl).trans (h1.trans (h2.trans h3))
theorem E8_cp(i:CpI)(h:cpK i):E8.hp 215 (Em i) (BO i)=some (Uf i):=by have h2:E8b.hp 215 (Em i) (BO i)=dG Em BO cpK Uf (Em i) (BO i):=aW.jK;have h3:=gn (enc:=Em) (Kx:=BO) (ok:=cpK) (spec:=Uf) (fun i j h h'=>cp_inj i j h h') i h;exact(show E8.hp 215 (Em i) (BO i)=E8b.hp 215 (Em i) (BO i)from rfl).trans (h2.trans h3)
def zq(es:List (List UInt8))(r:bk):List (List UInt8):=es++(if r.op then [r.lo]else [r.lo,r.hi])
def gz(es:List (List UInt8))(l:List bk):List (List UInt8):=l.foldl zq es
theorem rawE_step(l:List bk)(es:List (List UInt8))(k:Nat)(h:k<l.length):gz es (l.take (k+1))=zq (gz es (l.take k)) l[k]:=by unfold gz;rw[<-ar h,cp];rfl
theorem lN: ∀(l:List bk) (es:List (List UInt8)),es.length<=(gz es l).length/\(gz es l).length<=es.length+2*l.length
 | [],es=>by simp[gz]
 |r::l,es=>by
  have h1:=lN l (zq es r)
  have h2:es.length+1<=(zq es r).length/\(zq es r).length<=es.length+2:=by unfold zq;rw[aj];split<;>simp
  have e:gz es (r::l)=gz (zq es r) l:=rfl;rw[e];simp only[aG];omega
theorem nw: ∀(l:List bk) (es:List (List UInt8)) (x:List UInt8),x∈gz es l ↔ x∈es\/ ∃r∈l,x=r.lo\/(r.op=false/\x=r.hi)
 | [],es,x=>by simp[gz]
 |r::l,es,x=>by
  have e:gz es (r::l)=gz (zq es r) l:=rfl;rw[e,nw l]
  unfold zq;cases ho:r.op<;>simp[ho,or_assoc]
theorem wL(a b:List bk)(es:List (List UInt8)):gz es (a++b)=gz (gz es a) b:=by unfold gz;rw[cp]
def nK(a b:List bk):List (List UInt8):=cU (oP (gz [[]] (a++b)))
def Gj(E:List (List UInt8)):A:=if E.length=1 then .clip [.str []]else .row 1 0 1 E.length false
def Ug(E:List (List UInt8)):List Go.dF.Obj:=if E.length=1 then []else [.box [.any,.any,.any],.row 1 (E.map .str)]
theorem zr{E:List (List UInt8)}(h:E.length=1):Gj E= .clip [.str []]/\Ug E=[]:=by simp[Gj,Ug,h]
theorem qS{E:List (List UInt8)}(h:E.length≠1):Gj E= .row 1 0 1 E.length false/\Ug E=[.box [.any,.any,.any],.row 1 (E.map .str)]:=by simp[Gj,Ug,h]
theorem Uh{E:List (List UInt8)}:(Gj E).under (Ug E).length=true:=by
 by_cases h:E.length=1
 · rw[(zr h).1];simp[A.under]
 · rw[(qS h).1,(qS h).2];simp[A.under]
def vw(a b:List bk)(o:Nat):List (List UInt8):=gz [[]] (if o=0 then []else if o=1 then a else a++b)
theorem accE0(a b:List bk):vw a b 0=[[]]:=rfl
theorem acc_get(a b:List bk)(o:Nat)(h:o<2): ∃l,(List.drop o [A.ay (a.map bk.enc),A.ay (b.map bk.enc)]).head? =some (.ay (l.map bk.enc))/\gz (vw a b o) l=vw a b (o+1)/\(l=a\/l=b):=by
 rcases(by omega:o=0\/o=1)with rfl|rfl
 · exact⟨a,rfl,rfl,.inl rfl⟩
 · exact⟨b,rfl,(wL a b [[]]).symm,.inr rfl⟩
theorem Gk{m:List bk}(h:(gz [[]] m).length=1):gz [[]] m=[[]]:=by
 cases m with
 |nil=>rfl
 |cons r l=>
  have h1:=(lN l (zq [[]] r)).1;have h2:2<=(zq [[]] r).length:=by unfold zq;split<;>simp
  have e:gz [[]] (r::l)=gz (zq [[]] r) l:=rfl;rw[e]at h;omega
theorem acc_raw(a b:List bk)(o:Nat): ∃m,vw a b o=gz [[]] m:=⟨_,rfl⟩
theorem EY:aQ Tryz.prog E8 Tryz.f255.ntmps (Tryz.f255.body.getD .skip)=true:=by kernel_rfl
theorem IM(a b:List bk)(ha:a.length<=1000000)(hb:b.length<=1000000)(ra: ∀r∈a,bw r=true)(rb: ∀r∈b,bw r=true):bp Tryz.prog 255 [.ay (a.map bk.enc),.ay (b.map bk.enc)] (· = .ay ((nK a b).map .str)):=by
 refine ah E8_ok mixed Tryz.func255 rfl (ab rfl) EY ?_;unfold Tryz.f255;simp-implicitDefEqProofs (disch:=(first|omega|decide)) only[go_sem,↓reduceIte,seval,aa]
 refine xo [4,13] (ι:={o:Nat//o<=2}) (fun p=>[(14,.int .i64 p.1),(5,Gj (vw a b p.1))]) (fun p=>Ug (vw a b p.1)) (fun p=>2-p.1) ⟨0,by omega⟩ (fun _=>aw _) ?_ ?_
 · simp only[accE0]
   simp-implicitDefEqProofs (disch:=(first|omega|decide)) only[go_sem,↓reduceIte,seval,Gj,Ug]
 · rintro⟨o,ho⟩
   simp only;by_cases ho2:o<2
   · have B5:(o:Int)<2:=by omega
     have ho0:(0:Int)<=(o:Int):=by omega
     obtain⟨l,hd,hacc,hl⟩:=acc_get a b o ho2;have RT:l.length<=1000000:=by rcases hl with rfl|rfl<;>assumption
     have hlr: ∀r∈l,bw r=true:=by rcases hl with rfl|rfl<;>assumption
     obtain⟨m0,hm0⟩:=acc_raw a b o
     have hel:(vw a b o).length<=3000001:=by
      unfold vw;have h1:=(lN (if o=0 then []else if o=1 then a else a++b) [[]]).2
      have h2:(if o=0 then []else if o=1 then a else a++b).length<=1000000:=by
       rcases(by omega:o=0\/o=1)with rfl|rfl
       · simp
       · simpa using ha
      simp only[dw]at h1;omega
     have nr: ∃j:{o:Nat//o<=2},(o:Int)+1=(j.1:Int)/\vw a b (o+1)=vw a b j.1/\2-j.1<2-o:=⟨⟨o+1,ho2⟩,by simp,rfl,by show 2-(o+1)<2-o;omega⟩
     rw[<-hacc]at nr;generalize vw a b o=E0 at*;have hE5:(Gj E0).under (Ug E0).length=true:=Uh
     have hE5b:yp (Ug E0).length (Ug E0) (Ug E0):=by
      by_cases hE0:E0.length=1
      · rw[(zr hE0).2];simp[yp]
      · rw[(qS hE0).2];simp[yp,Y4,RI]
     simp-implicitDefEqProofs (disch:=(first|omega|decide)) only[go_sem,↓reduceIte,seval,B5,ho0,hd,mG,aa]
     refine xo [4,13,14,17,18] (ι:={j:Nat//j<=l.length}) (fun p=>[(19,.int .i64 p.1),(5,Gj (gz E0 (l.take p.1)))]) (fun p=>Ug (gz E0 (l.take p.1))) (fun p=>l.length-p.1) ⟨0,by omega⟩ (fun _=>aw _) ?_ ?_
     · have e:gz E0 (l.take 0)=E0:=rfl
       simp only[e]
       simp-implicitDefEqProofs (disch:=(first|omega|decide)) only[go_sem,↓reduceIte,seval,hE5,hE5b]
     · rintro⟨j,hj⟩
       simp only;obtain⟨m1,hm1⟩: ∃m,gz E0 (l.take j)=gz [[]] m:=⟨m0++l.take j,by rw[hm0,wL]⟩
       have hlenE:=(lN (l.take j) E0).2;rw[aK,fZ hj]at hlenE;have hgeE:=(lN m1 [[]]).1;rw[<-hm1,dw]at hgeE;by_cases bo:j<l.length
       · have aH:(j:Int)<(l.length:Int):=by omega
         have e1:=im bo;have hrr:=hlr _ (ao bo)
         have eO:=rawE_step l E0 j bo;have next: ∀E',gz E0 (l.take (j+1))=E'->E'.length≠1-> ∃i:{j:Nat//j<=l.length},(j:Int)+1=(i.1:Int)/\(Gj (gz E0 (l.take i.1))= .row 1 0 1 E'.length false/\Ug (gz E0 (l.take i.1))=[.box [.any,.any,.any],.row 1 (E'.map .str)])/\l.length-i.1<l.length-j:=fun E' h1 h2=>⟨⟨j+1,bo⟩,by simp,by rw[h1];exact qS h2,by show l.length-(j+1)<l.length-j;omega⟩
         generalize gz E0 (l.take j)=E at*;generalize hx:l[j]=x at*;obtain⟨lo,hi,op⟩:=x;unfold zq at eO;by_cases hE:E.length=1
         · have hE1:E=[[]]:=by rw[hm1]at hE⊢;exact Gk hE
           rw[(zr hE).1,(zr hE).2]
           subst hE1;cases op with
           |true=>
            obtain⟨i,n1,⟨n2,n3⟩,n4⟩:=next _ eO (by simp)
            simp-implicitDefEqProofs (disch:=(first|omega|decide)) only[go_sem,↓reduceIte,seval,aH,e1,wrap_i64,aa]
            refine⟨i, ?_,n4⟩
            rw[n2,n3]
            simp-implicitDefEqProofs (disch:=(first|omega|decide)) only[go_sem,↓reduceIte,seval,n1]
            try simp
           |false=>
            obtain⟨i,n1,⟨n2,n3⟩,n4⟩:=next _ eO (by simp)
            simp-implicitDefEqProofs (disch:=(first|omega|decide)) only[go_sem,↓reduceIte,seval,aH,e1,wrap_i64,aa]
            refine⟨i, ?_,n4⟩
            rw[n2,n3]
            simp-implicitDefEqProofs (disch:=(first|omega|decide)) only[go_sem,↓reduceIte,seval,n1]
            try simp
         · rw[(qS hE).1,(qS hE).2]
           have tl:(E.map A.str).take E.length=E.map A.str:=ad (by simp)
           have tl2:(E.map A.str++[A.str lo]).take (E.length+1)=E.map A.str++[A.str lo]:=ad (by simp)
           have ll2:(E.map A.str++[A.str lo]).length=E.length+1:=by simp
           cases op with
           |true=>
            obtain⟨i,n1,⟨n2,n3⟩,n4⟩:=next _ eO (by rw[aj];show E.length+1≠1;omega)
            simp-implicitDefEqProofs (disch:=(first|omega|decide)) only[go_sem,↓reduceIte,seval,aH,e1,tl,wrap_i64,aa]
            refine⟨⟨ai _,by omega⟩,i, ?_,n4⟩
            rw[n2,n3]
            simp-implicitDefEqProofs (disch:=(first|omega|decide)) only[go_sem,↓reduceIte,seval,n1]
            try simp
           |false=>
            obtain⟨i,n1,⟨n2,n3⟩,n4⟩:=next _ eO (by simp)
            simp-implicitDefEqProofs (disch:=(first|omega|decide)) only[go_sem,↓reduceIte,seval,aH,e1,tl,tl2,ll2,wrap_i64,aa]
            refine⟨⟨ai _,by omega⟩,⟨ai _,by omega⟩,i, ?_,n4⟩
            rw[n2,n3]
            simp-implicitDefEqProofs (disch:=(first|omega|decide)) only[go_sem,↓reduceIte,seval,n1]
            try simp
       · have aH: ¬(j:Int)<(l.length:Int):=by omega
         rw[ad (by omega)]at*;obtain⟨i,n1,n2,n3⟩:=nr;rw[n2]
         have hU:(Gj (vw a b i.1)).under (Ug (vw a b i.1)).length=true:=Uh
         have hUb:yp (Ug (vw a b i.1)).length (Ug (vw a b i.1)) (Ug (vw a b i.1)):=by
          by_cases hE0:(vw a b i.1).length=1
          · rw[(zr hE0).2];simp[yp]
          · rw[(qS hE0).2];simp[yp,Y4,RI]
         have w:IntKind.i64.wrap ((o:Int)+1)=(o:Int)+1:=wrap_i64 (by omega)
         simp-implicitDefEqProofs (disch:=(first|omega|decide)) only[go_sem,↓reduceIte,seval,aH,w,aa]
         refine⟨i, ?_,n3⟩
         simp-implicitDefEqProofs (disch:=(first|omega|decide)) only[go_sem,↓reduceIte,seval,n1,hU,hUb]
   · have B5: ¬(o:Int)<2:=by omega
     have ho2':o=2:=by omega
     subst ho2';have hE2:vw a b 2=gz [[]] (a++b):=rfl
     have h17: ∀s∈gz [[]] (a++b),s.length<=17:=fun s hs=>by
      rcases(nw _ _ _).1 hs with h|⟨r,hr,h⟩
      · simp at h;subst h;simp
      · have hrr:bw r=true:=by
          rcases aJ.1 hr with hr|hr
          · exact ra r hr
          · exact rb r hr
        obtain⟨k1,k2,_,_⟩:=fy hrr;rcases h with rfl|⟨_,rfl⟩
        · exact k1
        · exact k2
     have hel:=(lN (a++b) [[]]).2;rw[aj,dw]at hel;rw[hE2]
     unfold nK;have gw:= @Gk (a++b)
     generalize gz [[]] (a++b)=E at*;by_cases hE:E.length=1
     · have hE1:=gw hE
       rw[(zr hE).1,(zr hE).2]
       subst hE1;have s1:=E8_st (.inr []) trivial;have s2:=E8_cp (.inr []) trivial;simp only[Aa,yF,Ue]at s1;simp only[Em,BO,Uf]at s2;have hs:oP [[]]=[[]]:=by have:=(kq h17).1;exact(uQ (n:=1) (a:=([]:List UInt8))).1 this
       rw[hs]
       simp-implicitDefEqProofs (disch:=(first|omega|decide)) only[go_sem,↓reduceIte,seval,B5,s1,s2,cU,cx,cr,aa]
     · rw[(qS hE).1,(qS hE).2]
       have s1:=E8_st (.inl (asB E h17)) (by show(asB E h17).length<_;rw[Gi];omega)
       simp only[Aa,yF,Ue,ZP,Gi,NS]at s1;have hp:=(kq h17).1.length_eq;have s2:=E8_cp (.inl (oP E)) (by show(oP E).length<=_;rw[hp];omega)
       simp only[Em,BO,Uf,hp]at s2;have o6:(cU (oP E)).length=((cU (oP E)).map A.str).length:=by simp
       simp-implicitDefEqProofs (disch:=(first|omega|decide)) only[go_sem,↓reduceIte,seval,B5,s1,s2,cx,cr,aa]
       refine⟨by rw[aj];omega, ?_⟩
       rw[bz,cO (by simp),ad (by simp)]
end Go.Proofs.YtfnohjheonlnmaaGreat
