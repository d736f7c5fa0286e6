/- What the laws of this claim rest on: the abstract executor, its soundness, and what the functions compute on pure data. No condition. -/
import Derived.Test.YtihgnfmoafjakaaGreatU5
import Derived.Shelf.SlSortCmp.NoneTotal
import Derived.Ground.SlsfProg
import Derived.Test.YtihgnfmoafjakaaGreatProg
noncomputable section
set_option linter.unusedVariables false
set_option linter.unusedSimpArgs false
namespace Go.Proofs.YtihgnfmoafjakaaGreat
open Go.bJ
set_option linter.unusedSimpArgs false
set_option linter.unusedVariables false
set_option maxRecDepth 20000
set_option maxHeartbeats 8000000
@[go_sem] theorem ab.sm{n:Int}{rs:List aC}:ab.enc ⟨n,rs⟩= .agg [.int .i64 n,.ad (rs.map aC.enc)]:=rfl
theorem ab.d_(v w:ab)(h:v.enc=w.enc):v=w:=by cases v;cases w;simpa[ab.enc,ab.cells]using h
@[simp] theorem Ef{l m:List ab}:(l.map ab.enc=m.map ab.enc)=(l=m):=map_inj ab.d_
theorem eB{l:List ab}{k:Nat}(h:k<l.length):(l.map ab.enc)[k]? =some (.agg [.int .i64 l[k].n,.ad (l[k].rs.map aC.enc)]):=by rw[List.getElem?_map,List.getElem?_eq_getElem h];rfl
theorem yw:ai Tryz.prog sy Tryz.f178.ntmps (Tryz.f178.body.getD .skip)=true:=by kernel_rfl
theorem T1(n:Int):az Tryz.prog 178 [.int .i64 n] (· = .bool (bI n)):=by
 refine aa GG mixed Tryz.func178 rfl (Nat.le_of_ble_eq_true rfl) yw ?_;unfold Tryz.f178;by_cases h1:1<=n
 · simp-implicitDefEqProofs (disch:=(first|omega|decide)) only[go_sem,↓reduceIte,seval,h1,bI]
 · simp-implicitDefEqProofs (disch:=(first|omega|decide)) only[go_sem,↓reduceIte,seval,h1,bI]
def Pj:aj:=sy.add 178 (entry (fun(n:Int)=>[.int .i64 n]) (fun n=>True) (fun n=> .bool (bI n)))
theorem aa1:ag Tryz.prog Pj:=GG.bG Tryz.func178 (by kernel_rfl) (by kernel_rfl) fun n h=>T1 n
@[go_sem] theorem K14a_old{g:FuncId}{xs:List A}(h:g≠178):Pj.f g xs=sy.f g xs:=aj.ak h
theorem uq(n:Int)(h:True):Pj.f 178 [.int .i64 n]=some (.bool (bI n)):=aj.an (Γ:=sy) (fun i j h=>by simpa[Prod.ext_iff,and_assoc]using h) n h
@[go_sem] theorem k_replica{n:Int}:Pj.f 178 [.int .i64 n]=some (.bool (bI n)):=uq n trivial
def Mc:aj:=Pj.add 125 (entry (fun(v:Int×Int)=>[.agg [.int .i64 v.1,.int .i64 v.2]]) (fun v=>True) (fun v=> .bool (aL ⟨v.1,v.2⟩)))
theorem aa2:ag Tryz.prog Mc:=aa1.bG Tryz.func125 (by kernel_rfl) (by kernel_rfl) fun v h=>ot v.1 v.2
@[go_sem] theorem K14b_old{g:FuncId}{xs:List A}(h:g≠125):Mc.f g xs=Pj.f g xs:=aj.ak h
theorem sB(v:Int×Int)(h:True):Mc.f 125 [.agg [.int .i64 v.1,.int .i64 v.2]]=some (.bool (aL ⟨v.1,v.2⟩)):=aj.an (Γ:=Pj) (fun i j h=>by simpa[Prod.ext_iff,and_assoc]using h) v h
def yx:aj:=Mc.add 94 (entry (fun(v:Int×Int)=>[.agg [.int .i64 v.1,.int .i64 v.2]]) (fun v=>True) (fun v=> .bool (aL ⟨v.1,v.2⟩)))
theorem ur:ag Tryz.prog yx:=aa2.bG Tryz.func94 (by kernel_rfl) (by kernel_rfl) fun v h=>mg v.1 v.2
@[go_sem] theorem K14c_old{g:FuncId}{xs:List A}(h:g≠94):yx.f g xs=Mc.f g xs:=aj.ak h
@[go_sem] theorem K14c_s:yx.pl Mc:=⟨fun _=>rfl,fun _=>rfl,rfl,fun _=>rfl,rfl,fun _=>rfl,rfl⟩
theorem vR(v:Int×Int)(h:True):yx.f 94 [.agg [.int .i64 v.1,.int .i64 v.2]]=some (.bool (aL ⟨v.1,v.2⟩)):=aj.an (Γ:=Mc) (fun i j h=>by simpa[Prod.ext_iff,and_assoc]using h) v h
@[go_sem] theorem Vm{r c:Int}:Mc.f 125 [.agg [.int .i64 r,.int .i64 c]]=some (.bool (aL ⟨r,c⟩)):=sB (r,c) trivial
@[go_sem] theorem ZD{r c:Int}:yx.f 94 [.agg [.int .i64 r,.int .i64 c]]=some (.bool (aL ⟨r,c⟩)):=vR (r,c) trivial
def bj(s:List ab):Nat:=(s.map fun k=>k.rs.length).sum
def aG(s:List ab):Prop:=s.length<=1000000/\bj s<=1000000
theorem lq{s:List ab}{k:ab}(h:k∈s):k.rs.length<=bj s:=by
 induction s with
 |nil=>cases h
 |cons q s ih=>
  simp only[bj,List.map_cons,List.sum_cons]
  rcases List.mem_cons.1 h with rfl|h
  · omega
  · have:=ih h;simp only[bj]at this;omega
theorem fG(s:List ab)(n:Int):(aB s n).length<=bj s:=by
 induction s with
 |nil=>simp[aB,bj]
 |cons q s ih=>
  simp only[aB,bj,List.map_cons,List.sum_cons]at ih⊢;split
  · rw[List.length_append];omega
  · omega
theorem e_(s t:List ab):bj (s++t)=bj s+bj t:=by simp[bj]
theorem GH{s:List ab}{k:Nat}(h:k<s.length):bj (s.take k)+s[k].rs.length<=bj s:=by
 have e:s=s.take k++s[k]::s.drop (k+1):=by rw[<-List.drop_eq_getElem_cons h,List.take_append_drop]
 have h2:bj s=bj (s.take k)+bj (s[k]::s.drop (k+1)):=by rw[<-e_,<-e]
 have h3:bj (s[k]::s.drop (k+1))=s[k].rs.length+bj (s.drop (k+1)):=by unfold bj;rw[List.map_cons,List.sum_cons]
 omega
theorem Eg:ai Tryz.prog yx Tryz.f143.ntmps (Tryz.f143.body.getD .skip)=true:=by kernel_rfl
theorem Io(s:List ab)(hs:aG s):az Tryz.prog 143 [.ad (s.map ab.enc)] (· = .bool (aZ s)):=by
 refine aa ur mixed Tryz.func143 rfl (Nat.le_of_ble_eq_true rfl) Eg ?_;unfold Tryz.f143;obtain⟨hs1,hs2⟩:=hs;simp-implicitDefEqProofs (disch:=(first|omega|decide)) only[go_sem,↓reduceIte,seval,List.length_map]
 refine ao [0,6,7] (ι:={q:Nat×Int//q.1<=s.length/\aZ s=Bp q.2 (s.drop q.1)}) (fun q=>[(8,.int .i64 q.1.1),(3,.int .i64 q.1.2)]) (fun _=>[]) (fun q=>s.length-q.1.1) ⟨(0,0),by simp,rfl⟩ (Nat.zero_le _) ?_ ?_
 · simp-implicitDefEqProofs (disch:=(first|omega|decide)) only[go_sem,↓reduceIte,seval]
 · rintro⟨⟨k,p⟩,hk,hd⟩
   simp only at hk hd⊢;by_cases aw:k<s.length
   · have ae:(k:Int)<(s.length:Int):=by omega
     have e1:=eB aw;have hm:=lq (List.getElem_mem aw)
     rw[List.drop_eq_getElem_cons aw]at hd;generalize hx:s[k]=x at*;obtain⟨n,rs⟩:=x;simp only[Bp,LJ]at hd hm;have next:aZ s=Bp n (s.drop (k+1))-> ∃j:{q:Nat×Int//q.1<=s.length/\aZ s=Bp q.2 (s.drop q.1)},((k:Int)+1=(j.1.1:Int)/\n=j.1.2)/\s.length-j.1.1<s.length-k:=fun h=>⟨⟨(k+1,n),aw,h⟩,⟨by simp,rfl⟩,by show s.length-(k+1)<s.length-k;omega⟩
     cases h1:bI n with
     |false=>
      have hh:aZ s=false:=by rw[hd,h1];simp
      simp-implicitDefEqProofs (disch:=(first|omega|decide)) only[go_sem,↓reduceIte,seval,ae,e1,h1,hh,List.length_map]
     |true=>
      by_cases h2:n<=p
      · have hh:aZ s=false:=by rw[hd,decide_eq_false (show¬p<n by omega)];simp
        simp-implicitDefEqProofs (disch:=(first|omega|decide)) only[go_sem,↓reduceIte,seval,ae,e1,h1,h2,hh,List.length_map]
      · cases h3:((rs.length:Int)==0)with
        |true=>
          have:rs=[]:=List.length_eq_zero_iff.1 (by have:(rs.length:Int)=0:=by simpa using h3
                                                    omega)
          have hh:aZ s=false:=by rw[hd,this];simp
          simp-implicitDefEqProofs (disch:=(first|omega|decide)) only[go_sem,↓reduceIte,seval,ae,e1,h1,h2,h3,hh,List.length_map]
        |false=>
          have bU:rs.isEmpty=false:=by
           cases rs with
           |nil=>simp at h3
           |cons _ _=>rfl
          cases h4:bm rs with
          |false=>
           have hh:aZ s=false:=by rw[hd,h4];simp
           simp-implicitDefEqProofs (disch:=(first|omega|decide)) only[go_sem,↓reduceIte,seval,ae,e1,h1,h2,h3,h4,hh,List.length_map]
          |true=>
           have hh:aZ s=Bp n (s.drop (k+1)):=by rw[hd,h1,h4,bU,decide_eq_true (show p<n by omega)];simp
           simp-implicitDefEqProofs (disch:=(first|omega|decide)) only[go_sem,↓reduceIte,seval,ae,e1,h1,h2,h3,h4,wrap_i64,List.length_map]
           exact next hh
   · have ae: ¬(k:Int)<(s.length:Int):=by omega
     have hh:aZ s=true:=by rw[hd,List.drop_of_length_le (by omega)];rfl
     simp-implicitDefEqProofs (disch:=(first|omega|decide)) only[go_sem,↓reduceIte,seval,ae,hh,List.length_map]
end Go.Proofs.YtihgnfmoafjakaaGreat
namespace Go.Proofs.YtihgnfmoafjakaaGreat
open Go.bJ
set_option linter.unusedSimpArgs false
set_option linter.unusedVariables false
set_option maxRecDepth 20000
set_option maxHeartbeats 8000000
def xR(s:List ab)(k:Nat):Int:=if k=0 then 0 else s[k-1]!.n
theorem BN:ai Tryz.prog yx Tryz.f133.ntmps (Tryz.f133.body.getD .skip)=true:=by kernel_rfl
theorem Eh(s:List ab)(hs:aG s):az Tryz.prog 133 [.ad (s.map ab.enc)] (· = .bool (aZ s)):=by
 refine aa ur mixed Tryz.func133 rfl (Nat.le_of_ble_eq_true rfl) BN ?_;unfold Tryz.f133;obtain⟨hs1,hs2⟩:=hs;simp-implicitDefEqProofs (disch:=(first|omega|decide)) only[go_sem,↓reduceIte,seval,List.length_map]
 refine ao [0] (ι:={k:Nat//k<=s.length/\aZ s=Bp (xR s k) (s.drop k)}) (fun q=>[(3,.int .i64 q.1)]) (fun _=>[]) (fun q=>s.length-q.1) ⟨0,by omega,rfl⟩ (Nat.zero_le _) ?_ ?_
 · simp-implicitDefEqProofs (disch:=(first|omega|decide)) only[go_sem,↓reduceIte,seval]
 · rintro⟨k,hk,hd⟩
   simp only at hk hd⊢;by_cases aw:k<s.length
   · have ae:(k:Int)<(s.length:Int):=by omega
     have e1:=eB aw;have hm:=lq (List.getElem_mem aw)
     have hp:xR s (k+1)=s[k].n:=by unfold xR;rw[if_neg (by omega),Nat.add_sub_cancel,getElem!_pos s k aw]
     rw[List.drop_eq_getElem_cons aw]at hd;generalize hx:s[k]=x at*;obtain⟨n,rs⟩:=x;simp only[Bp,LJ]at hd hm hp;have next:aZ s=Bp n (s.drop (k+1))-> ∃j:{k:Nat//k<=s.length/\aZ s=Bp (xR s k) (s.drop k)},(k:Int)+1=(j.1:Int)/\s.length-j.1<s.length-k:=fun h=>⟨⟨k+1,aw,by rw[hp];exact h⟩,by simp,by show s.length-(k+1)<s.length-k;omega⟩
     by_cases h1:n<1
     · have hh:aZ s=false:=by
        rw[hd,show bI n=false by rw[<-Bool.not_eq_true,bL];omega];simp
       simp-implicitDefEqProofs (disch:=(first|omega|decide)) only[go_sem,↓reduceIte,seval,ae,e1,h1,hh,List.length_map]
     · by_cases h2:16<n
       · have hh:aZ s=false:=by
          rw[hd,show bI n=false by rw[<-Bool.not_eq_true,bL];omega];simp
         simp-implicitDefEqProofs (disch:=(first|omega|decide)) only[go_sem,↓reduceIte,seval,ae,e1,h1,h2,hh,List.length_map]
       · have hr:bI n=true:=bL.2 (by omega)
         have rest:xR s k<n-> ∀(c:Bool),c=(!rs.isEmpty&&bm rs)->aZ s=(c&&Bp n (s.drop (k+1))):=fun hp c hc=>by rw[hd,hr,decide_eq_true hp,hc];simp[Bool.and_assoc]
         by_cases ye:k=0
         · have hz: ¬(0:Int)<(k:Int):=by omega
           have BO:=rest (by unfold xR;rw[if_pos ye];omega)
           cases h3:((rs.length:Int)==0)with
           |true=>
            have:rs=[]:=List.length_eq_zero_iff.1 (by have:(rs.length:Int)=0:=by simpa using h3
                                                      omega)
            have hh:aZ s=false:=by rw[BO false (by rw[this];rfl)];rfl
            simp-implicitDefEqProofs (disch:=(first|omega|decide)) only[go_sem,↓reduceIte,seval,ae,e1,h1,h2,hz,h3,hh,List.length_map]
           |false=>
            have bU:rs.isEmpty=false:=by
             cases rs with
             |nil=>simp at h3
             |cons _ _=>rfl
            cases h4:bm rs with
            |false=>
             have hh:aZ s=false:=by rw[BO false (by rw[bU,h4];rfl)];rfl
             simp-implicitDefEqProofs (disch:=(first|omega|decide)) only[go_sem,↓reduceIte,seval,ae,e1,h1,h2,hz,h3,h4,hh,List.length_map]
            |true=>
             have hh:=BO true (by rw[bU,h4];rfl)
             simp-implicitDefEqProofs (disch:=(first|omega|decide)) only[go_sem,↓reduceIte,seval,ae,e1,h1,h2,hz,h3,h4,wrap_i64,List.length_map]
             exact next hh
         · have hz:(0:Int)<(k:Int):=by omega
           have kh:k-1<s.length:=by omega
           have e2:=eB kh;have N5:xR s k=s[k-1].n:=by unfold xR;rw[if_neg ye,getElem!_pos s (k-1) kh]
           generalize hy:s[k-1]=y at*;obtain⟨n',rs'⟩:=y;simp only at N5;have c1:((k:Int)-1).toNat=k-1:=by omega
           have c2:(0:Int)<=(k:Int)-1:=by omega
           by_cases h5:n<=n'
           · have hh:aZ s=false:=by rw[hd,N5,decide_eq_false (show¬n'<n by omega)];simp
             simp-implicitDefEqProofs (disch:=(first|omega|decide)) only[go_sem,↓reduceIte,seval,ae,e1,h1,h2,hz,e2,c1,c2,h5,hh,wrap_i64,List.length_map]
           · have BO:=rest (by rw[N5];omega)
             cases h3:((rs.length:Int)==0)with
             |true=>
              have:rs=[]:=List.length_eq_zero_iff.1 (by have:(rs.length:Int)=0:=by simpa using h3
                                                        omega)
              have hh:aZ s=false:=by rw[BO false (by rw[this];rfl)];rfl
              simp-implicitDefEqProofs (disch:=(first|omega|decide)) only[go_sem,↓reduceIte,seval,ae,e1,h1,h2,hz,e2,c1,c2,h5,h3,hh,wrap_i64,List.length_map]
             |false=>
              have bU:rs.isEmpty=false:=by
               cases rs with
               |nil=>simp at h3
               |cons _ _=>rfl
              cases h4:bm rs with
              |false=>
               have hh:aZ s=false:=by rw[BO false (by rw[bU,h4];rfl)];rfl
               simp-implicitDefEqProofs (disch:=(first|omega|decide)) only[go_sem,↓reduceIte,seval,ae,e1,h1,h2,hz,e2,c1,c2,h5,h3,h4,hh,wrap_i64,List.length_map]
              |true=>
               have hh:=BO true (by rw[bU,h4];rfl)
               simp-implicitDefEqProofs (disch:=(first|omega|decide)) only[go_sem,↓reduceIte,seval,ae,e1,h1,h2,hz,e2,c1,c2,h5,h3,h4,wrap_i64,List.length_map]
               exact next hh
   · have ae: ¬(k:Int)<(s.length:Int):=by omega
     have hh:aZ s=true:=by rw[hd,List.drop_of_length_le (by omega)];rfl
     simp-implicitDefEqProofs (disch:=(first|omega|decide)) only[go_sem,↓reduceIte,seval,ae,hh,List.length_map]
theorem T2{n c:Int}:aL ⟨n,c⟩=(bI n&&(decide (1<=c)&&decide (c<=1099511627776))):=by simp[aL,bI,Bool.and_assoc]
theorem RG{s:List ab}{n c:Int}:(aL ⟨n,c⟩&&ah (aB s n) c)=nL s n c:=by
 rw[T2];unfold nL
 cases h:ah (aB s n) c with
 |false=>simp
 |true=>have:=TJ h;simp[this]
theorem Md:ai Tryz.prog yx Tryz.f129.ntmps (Tryz.f129.body.getD .skip)=true:=by kernel_rfl
theorem Pk(s:List ab)(n c:Int)(hs:aG s):az Tryz.prog 129 [.ad (s.map ab.enc),.agg [.int .i64 n,.int .i64 c]] (· = .bool (nL s n c)):=by
 refine aa ur mixed Tryz.func129 rfl (Nat.le_of_ble_eq_true rfl) Md ?_;unfold Tryz.f129;obtain⟨hs1,hs2⟩:=hs;have hv:=RG (s:=s) (n:=n) (c:=c)
 cases h1:aL ⟨n,c⟩with
 |false=>
  rw[h1,Bool.false_and]at hv;simp-implicitDefEqProofs (disch:=(first|omega|decide)) only[go_sem,↓reduceIte,seval,h1,<-hv,List.length_map]
 |true=>
  rw[h1,Bool.true_and]at hv;simp-implicitDefEqProofs (disch:=(first|omega|decide)) only[go_sem,↓reduceIte,seval,h1,<-hv,List.length_map]
  refine ao [0,3,10,11] (ι:={k:Nat//k<=s.length/\ah (aB s n) c=ah (aB (s.drop k) n) c}) (fun p=>[(12,.int .i64 p.1)]) (fun _=>[]) (fun p=>s.length-p.1) ⟨0,by omega,rfl⟩ (Nat.zero_le _) ?_ ?_
  · simp-implicitDefEqProofs (disch:=(first|omega|decide)) only[go_sem,↓reduceIte,seval]
  · rintro⟨k,hk,hd⟩
    simp only at hk hd⊢;by_cases aw:k<s.length
    · have ae:(k:Int)<(s.length:Int):=by omega
      have e1:=eB aw;have hm:=lq (List.getElem_mem aw)
      rw[List.drop_eq_getElem_cons aw]at hd;generalize hx:s[k]=x at*;obtain⟨m,rs⟩:=x;simp only[aB]at hd hm;have next:ah (aB s n) c=ah (aB (s.drop (k+1)) n) c-> ∃j:{k:Nat//k<=s.length/\ah (aB s n) c=ah (aB (s.drop k) n) c},(k:Int)+1=(j.1:Int)/\s.length-j.1<s.length-k:=fun h=>⟨⟨k+1,aw,h⟩,by simp,by show s.length-(k+1)<s.length-k;omega⟩
      cases h2:m==n with
      |false=>
       have:m≠n:=by simpa using h2
       rw[if_neg this]at hd;simp-implicitDefEqProofs (disch:=(first|omega|decide)) only[go_sem,↓reduceIte,seval,ae,e1,h2,wrap_i64,List.length_map]
       exact next hd
      |true=>
       have:m=n:=by simpa using h2
       rw[if_pos this,fg]at hd;cases h3:ah rs c with
       |true=>
        have hh:ah (aB s n) c=true:=by rw[hd,h3];rfl
        simp-implicitDefEqProofs (disch:=(first|omega|decide)) only[go_sem,↓reduceIte,seval,ae,e1,h2,h3,hh,List.length_map]
       |false=>
        rw[h3,Bool.false_or]at hd;simp-implicitDefEqProofs (disch:=(first|omega|decide)) only[go_sem,↓reduceIte,seval,ae,e1,h2,h3,wrap_i64,List.length_map]
        exact next hd
    · have ae: ¬(k:Int)<(s.length:Int):=by omega
      have hh:ah (aB s n) c=false:=by rw[hd,List.drop_of_length_le (by omega)];rfl
      simp-implicitDefEqProofs (disch:=(first|omega|decide)) only[go_sem,↓reduceIte,seval,ae,hh,List.length_map]
theorem Xl(l:List aC):((l.map aC.enc).isEmpty||bT (l.map aC.enc)==2)=true:=by cases l<;>rfl
theorem sC{s:List ab}{k:Nat}(h:k<s.length)(n:Int):aB (s.take (k+1)) n=aB (s.take k) n++(if s[k].n=n then s[k].rs else []):=by
 rw[<-List.take_append_getElem h,de]
 simp only[aB,List.append_nil]
theorem Ei:ai Tryz.prog yx Tryz.f168.ntmps (Tryz.f168.body.getD .skip)=true:=by kernel_rfl
theorem Ip(s:List ab)(n:Int)(hs:aG s):az Tryz.prog 168 [.ad (s.map ab.enc),.int .i64 n] (· = .ad ((aB s n).map aC.enc)):=by
 refine aa ur mixed Tryz.func168 rfl (Nat.le_of_ble_eq_true rfl) Ei ?_;unfold Tryz.f168;obtain⟨hs1,hs2⟩:=hs;simp-implicitDefEqProofs (disch:=(first|omega|decide)) only[go_sem,↓reduceIte,seval,List.length_map]
 refine aU 5 2 rfl ?_;refine ao [0,1] (ι:={k:Nat//k<=s.length}) (fun p=>[(6,.int .i64 p.1),(5,.row 0 0 2 (aB (s.take p.1) n).length false)]) (fun p=>[(0,.row 2 ((aB (s.take p.1) n).map aC.enc))]) (fun p=>s.length-p.1) ⟨0,by omega⟩ (Nat.zero_le _) ?_ ?_
 · simp-implicitDefEqProofs (disch:=(first|omega|decide)) only[go_sem,↓reduceIte,seval]
   simp[aB]
 · rintro⟨k,hk⟩
   simp only;have ZA:=fG (s.take k) n;by_cases aw:k<s.length
   · have ae:(k:Int)<(s.length:Int):=by omega
     have e1:=eB aw;have hm:=GH aw;have iN:=sC aw n;generalize hx:s[k]=x at*;obtain⟨m,rs⟩:=x;simp only at hm iN;have st:=Xl rs;cases h2:m==n with
     |false=>
      have:m≠n:=by simpa using h2
      rw[if_neg this,List.append_nil]at iN;simp-implicitDefEqProofs (disch:=(first|omega|decide)) only[go_sem,↓reduceIte,seval,ae,e1,h2,wrap_i64,List.length_map]
      exact⟨⟨k+1,aw⟩,⟨⟨by simp,by rw[iN]⟩,by rw[iN]⟩,by show s.length-(k+1)<s.length-k;omega⟩
     |true=>
      have:m=n:=by simpa using h2
      rw[if_pos this]at iN;simp-implicitDefEqProofs (disch:=(first|omega|decide)) only[go_sem,↓reduceIte,seval,ae,e1,h2,st,wrap_i64,List.length_map]
      exact⟨⟨Nat.le_refl _,by omega⟩,⟨k+1,aw⟩,⟨⟨by simp,by rw[iN,List.length_append]⟩,by rw[iN,List.map_append,List.take_of_length_le (by simp)]⟩,by show s.length-(k+1)<s.length-k;omega⟩
   · have ae: ¬(k:Int)<(s.length:Int):=by omega
     rw[List.take_of_length_le (by omega)]at*;simp-implicitDefEqProofs (disch:=(first|omega|decide)) only[go_sem,↓reduceIte,seval,ae,List.length_map]
     exact⟨Nat.le_refl _,by rw[List.take_of_length_le (by simp)]⟩
def Pm:aj:=yx.add 143 (entry (fun(s:List ab)=>[.ad (s.map ab.enc)]) (fun s=>aG s) (fun s=> .bool (aZ s)))
theorem aa3:ag Tryz.prog Pm:=ur.bG Tryz.func143 (by kernel_rfl) (by kernel_rfl) fun s h=>Io s h
@[go_sem] theorem K14d_old{g:FuncId}{xs:List A}(h:g≠143):Pm.f g xs=yx.f g xs:=aj.ak h
theorem yy(s:List ab)(h:aG s):Pm.f 143 [.ad (s.map ab.enc)]=some (.bool (aZ s)):=aj.an (Γ:=yx) (fun i j h=>by simpa[Prod.ext_iff,and_assoc]using h) s h
def Pn:aj:=Pm.add 133 (entry (fun(s:List ab)=>[.ad (s.map ab.enc)]) (fun s=>aG s) (fun s=> .bool (aZ s)))
theorem aa4:ag Tryz.prog Pn:=aa3.bG Tryz.func133 (by kernel_rfl) (by kernel_rfl) fun s h=>Eh s h
@[go_sem] theorem K14e_old{g:FuncId}{xs:List A}(h:g≠133):Pn.f g xs=Pm.f g xs:=aj.ak h
theorem vS(s:List ab)(h:aG s):Pn.f 133 [.ad (s.map ab.enc)]=some (.bool (aZ s)):=aj.an (Γ:=Pm) (fun i j h=>by simpa[Prod.ext_iff,and_assoc]using h) s h
def Me:aj:=Pn.add 129 (entry (fun(v:List ab×Int×Int)=>[.ad (v.1.map ab.enc),.agg [.int .i64 v.2.1,.int .i64 v.2.2]]) (fun v=>aG v.1) (fun v=> .bool (nL v.1 v.2.1 v.2.2)))
theorem aa5:ag Tryz.prog Me:=aa4.bG Tryz.func129 (by kernel_rfl) (by kernel_rfl) fun v h=>Pk v.1 v.2.1 v.2.2 h
@[go_sem] theorem K14f_old{g:FuncId}{xs:List A}(h:g≠129):Me.f g xs=Pn.f g xs:=aj.ak h
theorem Ej(v:List ab×Int×Int)(h:aG v.1):Me.f 129 [.ad (v.1.map ab.enc),.agg [.int .i64 v.2.1,.int .i64 v.2.2]]=some (.bool (nL v.1 v.2.1 v.2.2)):=aj.an (Γ:=Pn) (fun i j h=>by simpa[Prod.ext_iff,and_assoc]using h) v h
def Ek:aj:=Me.add 168 (entry (fun(v:List ab×Int)=>[.ad (v.1.map ab.enc),.int .i64 v.2]) (fun v=>aG v.1) (fun v=> .ad ((aB v.1 v.2).map aC.enc)))
theorem RH:ag Tryz.prog Ek:=aa5.bG Tryz.func168 (by kernel_rfl) (by kernel_rfl) fun v h=>Ip v.1 v.2 h
@[go_sem] theorem K14g_old{g:FuncId}{xs:List A}(h:g≠168):Ek.f g xs=Me.f g xs:=aj.ak h
@[go_sem] theorem K14g_s:Ek.pl Me:=⟨fun _=>rfl,fun _=>rfl,rfl,fun _=>rfl,rfl,fun _=>rfl,rfl⟩
theorem yz(v:List ab×Int)(h:aG v.1):Ek.f 168 [.ad (v.1.map ab.enc),.int .i64 v.2]=some (.ad ((aB v.1 v.2).map aC.enc)):=aj.an (Γ:=Me) (fun i j h=>by simpa[Prod.ext_iff,and_assoc]using h) v h
@[go_sem] theorem Iq{s:List ab}(h:aG s):Pm.f 143 [.ad (s.map ab.enc)]=some (.bool (aZ s)):=yy s h
@[go_sem] theorem Em{s:List ab}(h:aG s):Pn.f 133 [.ad (s.map ab.enc)]=some (.bool (aZ s)):=vS s h
@[go_sem] theorem Po{s:List ab}{n c:Int}(h:aG s):Me.f 129 [.ad (s.map ab.enc),.agg [.int .i64 n,.int .i64 c]]=some (.bool (nL s n c)):=Ej (s,n,c) h
@[go_sem] theorem nP{s:List ab}{n:Int}(h:aG s):Ek.f 168 [.ad (s.map ab.enc),.int .i64 n]=some (.ad ((aB s n).map aC.enc)):=yz (s,n) h
theorem Ir:ai Tryz.prog Ek Tryz.f131.ntmps (Tryz.f131.body.getD .skip)=true:=by kernel_rfl
theorem Mf(s:List ab)(n c:Int)(hs:aG s):az Tryz.prog 131 [.ad (s.map ab.enc),.agg [.int .i64 n,.int .i64 c]] (· = .bool (nL s n c)):=by
 refine aa RH mixed Tryz.func131 rfl (Nat.le_of_ble_eq_true rfl) Ir ?_;unfold Tryz.f131;have hl:=fG s n;have Vy:=hs.2;have hv:=RG (s:=s) (n:=n) (c:=c)
 have hr:=nP (n:=n) hs;cases h1:aL ⟨n,c⟩with
 |false=>
  rw[h1,Bool.false_and]at hv;simp-implicitDefEqProofs (disch:=(first|omega|decide)) only[go_sem,↓reduceIte,seval,h1,hr,<-hv,List.length_map]
 |true=>
  rw[h1,Bool.true_and]at hv;simp-implicitDefEqProofs (disch:=(first|omega|decide)) only[go_sem,↓reduceIte,seval,h1,hr,<-hv,List.length_map]
def En:aj:=Ek.add 131 (entry (fun(v:List ab×Int×Int)=>[.ad (v.1.map ab.enc),.agg [.int .i64 v.2.1,.int .i64 v.2.2]]) (fun v=>aG v.1) (fun v=> .bool (nL v.1 v.2.1 v.2.2)))
theorem RI:ag Tryz.prog En:=RH.bG Tryz.func131 (by kernel_rfl) (by kernel_rfl) fun v h=>Mf v.1 v.2.1 v.2.2 h
@[go_sem] theorem K14h_old{g:FuncId}{xs:List A}(h:g≠131):En.f g xs=Ek.f g xs:=aj.ak h
@[go_sem] theorem K14h_s:En.pl Ek:=⟨fun _=>rfl,fun _=>rfl,rfl,fun _=>rfl,rfl,fun _=>rfl,rfl⟩
theorem BP(v:List ab×Int×Int)(h:aG v.1):En.f 131 [.ad (v.1.map ab.enc),.agg [.int .i64 v.2.1,.int .i64 v.2.2]]=some (.bool (nL v.1 v.2.1 v.2.2)):=aj.an (Γ:=Ek) (fun i j h=>by simpa[Prod.ext_iff,and_assoc]using h) v h
@[go_sem] theorem Mg{s:List ab}{n c:Int}(h:aG s):En.f 131 [.ad (s.map ab.enc),.agg [.int .i64 n,.int .i64 c]]=some (.bool (nL s n c)):=BP (s,n,c) h
end Go.Proofs.YtihgnfmoafjakaaGreat
namespace Go.Proofs.YtihgnfmoafjakaaGreat
open Go.bJ
set_option linter.unusedSimpArgs false
set_option linter.unusedVariables false
set_option maxRecDepth 20000
set_option maxHeartbeats 8000000
def bQ(a b:List ab):Bool:=decide (a=b)
def xS(x y:ab):Bool:=x.n==y.n&&fy x.rs y.rs
theorem GI{x y:ab}:xS x y=true ↔ x=y:=by cases x;cases y;simp[xS,fy]
theorem eh:ai Tryz.prog En Tryz.f114.ntmps (Tryz.f114.body.getD .skip)=true:=by kernel_rfl
theorem Mh(a b:List aC)(hl:a.length<=4398046511104)(hb:b.length<=4398046511104):az Tryz.prog 114 [.ad (a.map aC.enc),.ad (b.map aC.enc)] (· = .bool (fy a b)):=by
 refine aa RI mixed Tryz.func114 rfl (Nat.le_of_ble_eq_true rfl) eh ?_;unfold Tryz.f114;cases h0:((a.length:Int)==(b.length:Int))with
 |false=>
  have bU:a.length≠b.length:=by
   have:(a.length:Int)≠(b.length:Int):=by simpa using h0
   omega
  have hh:fy a b=false:=by unfold fy;simp;intro e;exact bU (by rw[e])
  simp-implicitDefEqProofs (disch:=(first|omega|decide)) only[go_sem,↓reduceIte,seval,h0,hh,List.length_map]
 |true=>
  have he:a.length=b.length:=by
   have:(a.length:Int)=(b.length:Int):=by simpa using h0
   omega
  simp-implicitDefEqProofs (disch:=(first|omega|decide)) only[go_sem,↓reduceIte,seval,h0,List.length_map]
  refine ao [0,1,12] (ι:={k:Nat//k<=a.length/\a.take k=b.take k}) (fun p=>[(13,.int .i64 p.1)]) (fun _=>[]) (fun p=>a.length-p.1) ⟨0,by omega,rfl⟩ (Nat.zero_le _) ?_ ?_
  · simp-implicitDefEqProofs (disch:=(first|omega|decide)) only[go_sem,↓reduceIte,seval]
  · rintro⟨k,hk,hd⟩
    simp only;by_cases aw:k<a.length
    · have ae:(k:Int)<(a.length:Int):=by omega
      have nQ:(k:Int)<(b.length:Int):=by omega
      have gQ:k<b.length:=by omega
      have e1:=run_get aw;have e2:=run_get gQ;have t1:=(List.take_append_getElem aw).symm;have t2:=(List.take_append_getElem gQ).symm;have qF:a[k]≠b[k]->fy a b=false:=fun h=>by unfold fy;simp;intro e;subst e;exact h rfl
      generalize hx:a[k]=x at*;generalize hy:b[k]=y at*;obtain⟨f,t⟩:=x;obtain⟨f',t'⟩:=y;cases h1:f==f' with
      |false=>
       have hh:=qF (by have:f≠f':=by simpa using h1
                       simp[this])
       simp-implicitDefEqProofs (disch:=(first|omega|decide)) only[go_sem,↓reduceIte,seval,ae,nQ,e1,e2,h1,hh,List.length_map]
      |true=>
       cases h2:t==t' with
       |false=>
        have hh:=qF (by have:t≠t':=by simpa using h2
                        simp[this])
        simp-implicitDefEqProofs (disch:=(first|omega|decide)) only[go_sem,↓reduceIte,seval,ae,nQ,e1,e2,h1,h2,hh,List.length_map]
       |true=>
        obtain rfl:f=f':=by simpa using h1
        obtain rfl:t=t':=by simpa using h2
        simp-implicitDefEqProofs (disch:=(first|omega|decide)) only[go_sem,↓reduceIte,seval,ae,nQ,e1,e2,h1,h2,wrap_i64,List.length_map]
        exact⟨⟨k+1,aw,by rw[t1,t2,hd]⟩,by simp,by show a.length-(k+1)<a.length-k;omega⟩
    · have ae: ¬(k:Int)<(a.length:Int):=by omega
      have hh:fy a b=true:=by rw[List.take_of_length_le (by omega),List.take_of_length_le (by omega)]at hd;simp[fy,hd]
      simp-implicitDefEqProofs (disch:=(first|omega|decide)) only[go_sem,↓reduceIte,seval,ae,hh,List.length_map]
def Eo:aj:=En.add 114 (entry (fun(v:List aC×List aC)=>[.ad (v.1.map aC.enc),.ad (v.2.map aC.enc)]) (fun v=>v.1.length<=4398046511104/\v.2.length<=4398046511104) (fun v=> .bool (fy v.1 v.2)))
theorem RJ:ag Tryz.prog Eo:=RI.bG Tryz.func114 (by kernel_rfl) (by kernel_rfl) fun v h=>Mh v.1 v.2 h.1 h.2
@[go_sem] theorem K14i_old{g:FuncId}{xs:List A}(h:g≠114):Eo.f g xs=En.f g xs:=aj.ak h
@[go_sem] theorem K14i_s:Eo.pl En:=⟨fun _=>rfl,fun _=>rfl,rfl,fun _=>rfl,rfl,fun _=>rfl,rfl⟩
theorem dS(v:List aC×List aC)(h:v.1.length<=4398046511104/\v.2.length<=4398046511104):Eo.f 114 [.ad (v.1.map aC.enc),.ad (v.2.map aC.enc)]=some (.bool (fy v.1 v.2)):=aj.an (Γ:=En) (fun i j h=>by simpa[Prod.ext_iff,and_assoc]using h) v h
@[go_sem] theorem k_Equal_Run{a b:List aC}(ha:a.length<=4398046511104)(hb:b.length<=4398046511104):Eo.f 114 [.ad (a.map aC.enc),.ad (b.map aC.enc)]=some (.bool (fy a b)):=dS (a,b) ⟨ha,hb⟩
theorem BQ:ai Tryz.prog Eo Tryz.f180.ntmps (Tryz.f180.body.getD .skip)=true:=by kernel_rfl
theorem Is(x y:ab)(hx:x.rs.length<=4398046511104)(hy:y.rs.length<=4398046511104):az Tryz.prog 180 [.agg [.int .i64 x.n,.ad (x.rs.map aC.enc)],.agg [.int .i64 y.n,.ad (y.rs.map aC.enc)]] (· = .bool (xS x y)):=by
 refine aa RJ mixed Tryz.func180 rfl (Nat.le_of_ble_eq_true rfl) BQ ?_;unfold Tryz.f180;unfold xS;cases h1:x.n==y.n with
 |false=>simp-implicitDefEqProofs (disch:=(first|omega|decide)) only[go_sem,↓reduceIte,seval,h1,List.length_map]
 |true=>simp-implicitDefEqProofs (disch:=(first|omega|decide)) only[go_sem,↓reduceIte,seval,h1,hx,hy,List.length_map]
def yA:aj:=Eo.add 180 (entry (fun(v:(Int×List aC)×(Int×List aC))=>[.agg [.int .i64 v.1.1,.ad (v.1.2.map aC.enc)],.agg [.int .i64 v.2.1,.ad (v.2.2.map aC.enc)]]) (fun v=>v.1.2.length<=4398046511104/\v.2.2.length<=4398046511104) (fun v=> .bool (xS ⟨v.1.1,v.1.2⟩ ⟨v.2.1,v.2.2⟩)))
theorem uu:ag Tryz.prog yA:=RJ.bG Tryz.func180 (by kernel_rfl) (by kernel_rfl) fun v h=>Is ⟨v.1.1,v.1.2⟩ ⟨v.2.1,v.2.2⟩ h.1 h.2
@[go_sem] theorem K14j_old{g:FuncId}{xs:List A}(h:g≠180):yA.f g xs=Eo.f g xs:=aj.ak h
@[go_sem] theorem K14j_s:yA.pl Eo:=⟨fun _=>rfl,fun _=>rfl,rfl,fun _=>rfl,rfl,fun _=>rfl,rfl⟩
theorem vT(v:(Int×List aC)×(Int×List aC))(h:v.1.2.length<=4398046511104/\v.2.2.length<=4398046511104):yA.f 180 [.agg [.int .i64 v.1.1,.ad (v.1.2.map aC.enc)],.agg [.int .i64 v.2.1,.ad (v.2.2.map aC.enc)]]=some (.bool (xS ⟨v.1.1,v.1.2⟩ ⟨v.2.1,v.2.2⟩)):=aj.an (Γ:=Eo) (fun i j h=>by simpa[Prod.ext_iff,and_assoc]using h) v h
@[go_sem] theorem aa6{n m:Int}{rs qs:List aC}(ha:rs.length<=4398046511104)(hb:qs.length<=4398046511104):yA.f 180 [.agg [.int .i64 n,.ad (rs.map aC.enc)],.agg [.int .i64 m,.ad (qs.map aC.enc)]]=some (.bool (xS ⟨n,rs⟩ ⟨m,qs⟩)):=vT ((n,rs),(m,qs)) ⟨ha,hb⟩
theorem bB:ai Tryz.prog yA Tryz.f112.ntmps (Tryz.f112.body.getD .skip)=true:=by kernel_rfl
theorem Mi(a b:List ab)(ha:aG a)(hb:aG b):az Tryz.prog 112 [.ad (a.map ab.enc),.ad (b.map ab.enc),.fn 180 []] (· = .bool (bQ a b)):=by
 refine aa uu mixed Tryz.func112 rfl (Nat.le_of_ble_eq_true rfl) bB ?_;unfold Tryz.f112;obtain⟨ha1,ha2⟩:=ha;obtain⟨Vg,Zp⟩:=hb;cases h0:((a.length:Int)==(b.length:Int))with
 |false=>
  have bU:a.length≠b.length:=by
   have:(a.length:Int)≠(b.length:Int):=by simpa using h0
   omega
  have hh:bQ a b=false:=by unfold bQ;simp;intro e;exact bU (by rw[e])
  simp-implicitDefEqProofs (disch:=(first|omega|decide)) only[go_sem,↓reduceIte,seval,h0,hh,List.length_map]
 |true=>
  have he:a.length=b.length:=by
   have:(a.length:Int)=(b.length:Int):=by simpa using h0
   omega
  simp-implicitDefEqProofs (disch:=(first|omega|decide)) only[go_sem,↓reduceIte,seval,h0,List.length_map]
  refine ao [0,1,2,15,16] (ι:={k:Nat//k<=a.length/\a.take k=b.take k}) (fun p=>[(17,.int .i64 p.1)]) (fun _=>[]) (fun p=>a.length-p.1) ⟨0,by omega,rfl⟩ (Nat.zero_le _) ?_ ?_
  · simp-implicitDefEqProofs (disch:=(first|omega|decide)) only[go_sem,↓reduceIte,seval]
  · rintro⟨k,hk,hd⟩
    simp only;by_cases aw:k<a.length
    · have ae:(k:Int)<(a.length:Int):=by omega
      have nQ:(k:Int)<(b.length:Int):=by omega
      have gQ:k<b.length:=by omega
      have e1:=eB aw;have e2:=eB gQ;have m1:=lq (List.getElem_mem aw)
      have m2:=lq (List.getElem_mem gQ)
      have t1:=(List.take_append_getElem aw).symm;have t2:=(List.take_append_getElem gQ).symm;have qF:a[k]≠b[k]->bQ a b=false:=fun h=>by unfold bQ;simp;intro e;subst e;exact h rfl
      generalize hx:a[k]=x at*;generalize hy:b[k]=y at*;obtain⟨n,rs⟩:=x;obtain⟨n',rs'⟩:=y;simp only at m1 m2;cases h1:xS ⟨n,rs⟩ ⟨n',rs'⟩with
      |false=>
       have hh:=qF (fun e=>by rw[GI.2 e]at h1;cases h1)
       simp-implicitDefEqProofs (disch:=(first|omega|decide)) only[go_sem,↓reduceIte,seval,ae,nQ,e1,e2,h1,hh,List.length_map]
      |true=>
       have e:=GI.1 h1;simp-implicitDefEqProofs (disch:=(first|omega|decide)) only[go_sem,↓reduceIte,seval,ae,nQ,e1,e2,h1,wrap_i64,List.length_map]
       exact⟨⟨k+1,aw,by rw[t1,t2,hd,e]⟩,by simp,by show a.length-(k+1)<a.length-k;omega⟩
    · have ae: ¬(k:Int)<(a.length:Int):=by omega
      have hh:bQ a b=true:=by rw[List.take_of_length_le (by omega),List.take_of_length_le (by omega)]at hd;simp[bQ,hd]
      simp-implicitDefEqProofs (disch:=(first|omega|decide)) only[go_sem,↓reduceIte,seval,ae,hh,List.length_map]
theorem Ep:ai Tryz.prog yA Tryz.f84.ntmps (Tryz.f84.body.getD .skip)=true:=by kernel_rfl
theorem Iu(a b:List ab)(ha:aG a)(hb:aG b):az Tryz.prog 84 [.ad (a.map ab.enc),.ad (b.map ab.enc)] (· = .bool (bQ a b)):=by
 refine aa uu mixed Tryz.func84 rfl (Nat.le_of_ble_eq_true rfl) Ep ?_;unfold Tryz.f84;obtain⟨ha1,ha2⟩:=ha;obtain⟨Vg,Zp⟩:=hb;cases h0:((a.length:Int)==(b.length:Int))with
 |false=>
  have bU:a.length≠b.length:=by
   have:(a.length:Int)≠(b.length:Int):=by simpa using h0
   omega
  have hh:bQ a b=false:=by unfold bQ;simp;intro e;exact bU (by rw[e])
  simp-implicitDefEqProofs (disch:=(first|omega|decide)) only[go_sem,↓reduceIte,seval,h0,hh,List.length_map]
 |true=>
  have he:a.length=b.length:=by
   have:(a.length:Int)=(b.length:Int):=by simpa using h0
   omega
  simp-implicitDefEqProofs (disch:=(first|omega|decide)) only[go_sem,↓reduceIte,seval,h0,List.length_map]
  refine ao [0,1] (ι:={k:Nat//k<=a.length/\a.take k=b.take k}) (fun p=>[(5,.int .i64 p.1)]) (fun _=>[]) (fun p=>a.length-p.1) ⟨0,by omega,rfl⟩ (Nat.zero_le _) ?_ ?_
  · simp-implicitDefEqProofs (disch:=(first|omega|decide)) only[go_sem,↓reduceIte,seval]
  · rintro⟨k,hk,hd⟩
    simp only;by_cases aw:k<a.length
    · have ae:(k:Int)<(a.length:Int):=by omega
      have nQ:(k:Int)<(b.length:Int):=by omega
      have gQ:k<b.length:=by omega
      have e1:=eB aw;have e2:=eB gQ;have m1:=lq (List.getElem_mem aw)
      have m2:=lq (List.getElem_mem gQ)
      have t1:=(List.take_append_getElem aw).symm;have t2:=(List.take_append_getElem gQ).symm;have qF:a[k]≠b[k]->bQ a b=false:=fun h=>by unfold bQ;simp;intro e;subst e;exact h rfl
      generalize hx:a[k]=x at*;generalize hy:b[k]=y at*;obtain⟨n,rs⟩:=x;obtain⟨n',rs'⟩:=y;simp only at m1 m2;cases h1:n==n' with
      |false=>
       have hh:=qF (by have:n≠n':=by simpa using h1
                       simp[this])
       simp-implicitDefEqProofs (disch:=(first|omega|decide)) only[go_sem,↓reduceIte,seval,ae,nQ,e1,e2,h1,hh,List.length_map]
      |true=>
       obtain rfl:n=n':=by simpa using h1
       cases h2:fy rs rs' with
       |false=>
        have hh:=qF (by have:rs≠rs':=by simpa[fy]using h2
                        simp[this])
        simp-implicitDefEqProofs (disch:=(first|omega|decide)) only[go_sem,↓reduceIte,seval,ae,nQ,e1,e2,h1,h2,hh,List.length_map]
       |true=>
        obtain rfl:rs=rs':=by simpa[fy]using h2
        simp-implicitDefEqProofs (disch:=(first|omega|decide)) only[go_sem,↓reduceIte,seval,ae,nQ,e1,e2,h1,h2,wrap_i64,List.length_map]
        exact⟨⟨k+1,aw,by rw[t1,t2,hd]⟩,by simp,by show a.length-(k+1)<a.length-k;omega⟩
    · have ae: ¬(k:Int)<(a.length:Int):=by omega
      have hh:bQ a b=true:=by rw[List.take_of_length_le (by omega),List.take_of_length_le (by omega)]at hd;simp[bQ,hd]
      simp-implicitDefEqProofs (disch:=(first|omega|decide)) only[go_sem,↓reduceIte,seval,ae,hh,List.length_map]
def l0(s:List ab)(m:Int):Bool:=decide (m<(s.length:Int))||s.any fun k=>decide (m<(k.rs.length:Int))
theorem Er:ai Tryz.prog yA Tryz.f123.ntmps (Tryz.f123.body.getD .skip)=true:=by kernel_rfl
theorem Iw(s:List ab)(m:Int)(hs:s.length<=9223372036854775807):az Tryz.prog 123 [.ad (s.map ab.enc),.int .i64 m] (· = .bool (l0 s m)):=by
 refine aa uu mixed Tryz.func123 rfl (Nat.le_of_ble_eq_true rfl) Er ?_;unfold Tryz.f123;by_cases h0:m<(s.length:Int)
 · have hh:l0 s m=true:=by unfold l0;rw[decide_eq_true h0];rfl
   simp-implicitDefEqProofs (disch:=(first|omega|decide)) only[go_sem,↓reduceIte,seval,h0,hh,List.length_map]
 · simp-implicitDefEqProofs (disch:=(first|omega|decide)) only[go_sem,↓reduceIte,seval,h0,List.length_map]
   refine ao [0,1] (ι:={k:Nat//k<=s.length/\l0 s m=(s.drop k).any fun k=>decide (m<(k.rs.length:Int))}) (fun p=>[(5,.int .i64 p.1)]) (fun _=>[]) (fun p=>s.length-p.1) ⟨0,by omega,by unfold l0;rw[decide_eq_false h0,Bool.false_or];rfl⟩ (Nat.zero_le _) ?_ ?_
   · simp-implicitDefEqProofs (disch:=(first|omega|decide)) only[go_sem,↓reduceIte,seval]
   · rintro⟨k,hk,hd⟩
     simp only at hk hd⊢;by_cases aw:k<s.length
     · have ae:(k:Int)<(s.length:Int):=by omega
       have e1:=eB aw;rw[List.drop_eq_getElem_cons aw,List.any_cons]at hd;generalize hx:s[k]=x at*;obtain⟨n,rs⟩:=x;simp only at hd;by_cases h1:m<(rs.length:Int)
       · have hh:l0 s m=true:=by rw[hd,decide_eq_true h1];rfl
         simp-implicitDefEqProofs (disch:=(first|omega|decide)) only[go_sem,↓reduceIte,seval,ae,e1,h1,hh,List.length_map]
       · rw[decide_eq_false h1,Bool.false_or]at hd
         simp-implicitDefEqProofs (disch:=(first|omega|decide)) only[go_sem,↓reduceIte,seval,ae,e1,h1,wrap_i64,List.length_map]
         exact⟨⟨k+1,aw,hd⟩,by simp,by show s.length-(k+1)<s.length-k;omega⟩
     · have ae: ¬(k:Int)<(s.length:Int):=by omega
       have hh:l0 s m=false:=by rw[hd,List.drop_of_length_le (by omega)];rfl
       simp-implicitDefEqProofs (disch:=(first|omega|decide)) only[go_sem,↓reduceIte,seval,ae,hh,List.length_map]
theorem Ix:ai Tryz.prog yA Tryz.f188.ntmps (Tryz.f188.body.getD .skip)=true:=by kernel_rfl
theorem Mj(n c:Int):az Tryz.prog 188 [.agg [.int .i64 n,.int .i64 c]] (· = .ad ([⟨n,[⟨c,c⟩]⟩].map ab.enc)):=by refine aa uu mixed Tryz.func188 rfl (Nat.le_of_ble_eq_true rfl) Ix ?_;unfold Tryz.f188;simp-implicitDefEqProofs (disch:=(first|omega|decide)) only[go_sem,↓reduceIte,seval,List.map_cons,List.map_nil]
def Pp:aj:=yA.add 112 (entry (fun(v:List ab×List ab)=>[.ad (v.1.map ab.enc),.ad (v.2.map ab.enc),.fn 180 []]) (fun v=>aG v.1/\aG v.2) (fun v=> .bool (bQ v.1 v.2)))
theorem aa7:ag Tryz.prog Pp:=uu.bG Tryz.func112 (by kernel_rfl) (by kernel_rfl) fun v h=>Mi v.1 v.2 h.1 h.2
@[go_sem] theorem K14k_old{g:FuncId}{xs:List A}(h:g≠112):Pp.f g xs=yA.f g xs:=aj.ak h
theorem bx(v:List ab×List ab)(h:aG v.1/\aG v.2):Pp.f 112 [.ad (v.1.map ab.enc),.ad (v.2.map ab.enc),.fn 180 []]=some (.bool (bQ v.1 v.2)):=aj.an (Γ:=yA) (fun i j h=>by simpa[Prod.ext_iff,and_assoc]using h) v h
def Pq:aj:=Pp.add 84 (entry (fun(v:List ab×List ab)=>[.ad (v.1.map ab.enc),.ad (v.2.map ab.enc)]) (fun v=>aG v.1/\aG v.2) (fun v=> .bool (bQ v.1 v.2)))
theorem aa8:ag Tryz.prog Pq:=aa7.bG Tryz.func84 (by kernel_rfl) (by kernel_rfl) fun v h=>Iu v.1 v.2 h.1 h.2
@[go_sem] theorem K14l_old{g:FuncId}{xs:List A}(h:g≠84):Pq.f g xs=Pp.f g xs:=aj.ak h
theorem yB(v:List ab×List ab)(h:aG v.1/\aG v.2):Pq.f 84 [.ad (v.1.map ab.enc),.ad (v.2.map ab.enc)]=some (.bool (bQ v.1 v.2)):=aj.an (Γ:=Pp) (fun i j h=>by simpa[Prod.ext_iff,and_assoc]using h) v h
def Mk:aj:=Pq.add 123 (entry (fun(v:List ab×Int)=>[.ad (v.1.map ab.enc),.int .i64 v.2]) (fun v=>v.1.length<=9223372036854775807) (fun v=> .bool (l0 v.1 v.2)))
theorem aa9:ag Tryz.prog Mk:=aa8.bG Tryz.func123 (by kernel_rfl) (by kernel_rfl) fun v h=>Iw v.1 v.2 h
@[go_sem] theorem K14m_old{g:FuncId}{xs:List A}(h:g≠123):Mk.f g xs=Pq.f g xs:=aj.ak h
theorem yC(v:List ab×Int)(h:v.1.length<=9223372036854775807):Mk.f 123 [.ad (v.1.map ab.enc),.int .i64 v.2]=some (.bool (l0 v.1 v.2)):=aj.an (Γ:=Pq) (fun i j h=>by simpa[Prod.ext_iff,and_assoc]using h) v h
def BR:aj:=Mk.add 188 (entry (fun(v:Int×Int)=>[.agg [.int .i64 v.1,.int .i64 v.2]]) (fun v=>True) (fun v=> .ad ([⟨v.1,[⟨v.2,v.2⟩]⟩].map ab.enc)))
theorem Iy:ag Tryz.prog BR:=aa9.bG Tryz.func188 (by kernel_rfl) (by kernel_rfl) fun v h=>Mj v.1 v.2
@[go_sem] theorem K14n_old{g:FuncId}{xs:List A}(h:g≠188):BR.f g xs=Mk.f g xs:=aj.ak h
@[go_sem] theorem K14n_s:BR.pl Mk:=⟨fun _=>rfl,fun _=>rfl,rfl,fun _=>rfl,rfl,fun _=>rfl,rfl⟩
theorem BS(v:Int×Int)(h:True):BR.f 188 [.agg [.int .i64 v.1,.int .i64 v.2]]=some (.ad ([⟨v.1,[⟨v.2,v.2⟩]⟩].map ab.enc)):=aj.an (Γ:=Mk) (fun i j h=>by simpa[Prod.ext_iff,and_assoc]using h) v h
@[go_sem] theorem Ml{a b:List ab}(ha:aG a)(hb:aG b):Pp.f 112 [.ad (a.map ab.enc),.ad (b.map ab.enc),.fn 180 []]=some (.bool (bQ a b)):=bx (a,b) ⟨ha,hb⟩
@[go_sem] theorem kt{a b:List ab}(ha:aG a)(hb:aG b):Pq.f 84 [.ad (a.map ab.enc),.ad (b.map ab.enc)]=some (.bool (bQ a b)):=yB (a,b) ⟨ha,hb⟩
@[go_sem] theorem Iz{s:List ab}{m:Int}(hs:s.length<=9223372036854775807):Mk.f 123 [.ad (s.map ab.enc),.int .i64 m]=some (.bool (l0 s m)):=yC (s,m) hs
@[go_sem] theorem k_ref14_One{n c:Int}:BR.f 188 [.agg [.int .i64 n,.int .i64 c]]=some (.ad ([⟨n,[⟨c,c⟩]⟩].map ab.enc)):=BS (n,c) trivial
end Go.Proofs.YtihgnfmoafjakaaGreat
namespace Go.Proofs.YtihgnfmoafjakaaGreat
open Go.bJ
set_option linter.unusedSimpArgs false
set_option linter.unusedVariables false
set_option maxRecDepth 20000
set_option maxHeartbeats 8000000
def eS(l:List aC):A:= .ad (l.map aC.enc)
theorem Xm(l m:List aC)(h:eS l=eS m):l=m:=by simpa[eS]using h
@[simp] theorem aa_{L M:List (List aC)}:(L.map eS=M.map eS)=(L=M):=map_inj Xm
def g_(s:List ab):List (List aC):=(List.range 16).map fun i=>aB s ((i:Nat)+1)
theorem hI(s:List ab):(g_ s).length=16:=by simp[g_]
theorem lx(s:List ab){i:Nat}(h:i<16):(g_ s)[i]? =some (aB s (i+1)):=by simp[g_,h]
theorem Mm{L:List (List aC)}{s:List ab}(hl:L.length=16)(h: ∀i:Nat,i<16->L[i]? =some (aB s (i+1))):L=g_ s:=by
 apply List.ext_getElem?;intro i;rcases Nat.lt_or_ge i 16 with hi|hi
 · rw[h i hi,lx s hi]
 · rw[List.getElem?_eq_none (by omega),List.getElem?_eq_none (by rw[hI];omega)]
theorem T3{s:List ab}{k:Nat}(h:k<s.length)(hr:bI s[k].n=true):g_ (s.take (k+1))=(g_ (s.take k)).set (s[k].n-1).toNat (aB (s.take k) s[k].n++s[k].rs):=by
 rw[bL]at hr;symm;refine Mm (by rw[List.length_set,hI]) fun i hi=> ?_;rw[List.getElem?_set,hI,lx _ hi,sC h]
 by_cases e:(s[k].n-1).toNat=i
 · have e2:s[k].n=(i:Int)+1:=by omega
   rw[if_pos e,if_pos (by omega),if_pos e2,<-e2]
 · rw[if_neg e,if_neg (by omega),List.append_nil]
theorem T4{s:List ab}{k:Nat}(h:k<s.length)(hr:bI s[k].n=false):g_ (s.take (k+1))=g_ (s.take k):=by
 symm;refine Mm (by rw[hI]) fun i hi=> ?_;rw[lx _ hi,sC h,if_neg,List.append_nil]
 intro e;rw[<-Bool.not_eq_true,bL]at hr;omega
theorem uv{L:List (List aC)}{i:Nat}{l:List aC}(h:L[i]? =some l):((L.map eS).drop (i*1)).head? =some (.ad (l.map aC.enc)):=by rw[Nat.mul_one,List.head?_drop,List.getElem?_map,h];rfl
theorem BT{cs:List A}{i:Nat}{x:A}(h:i<cs.length):dY cs i [x]=cs.set i x:=by unfold dY;rw[List.set_eq_take_append_cons_drop,if_pos h];simp
theorem mM{m:Nat}: ∀{cs:List A},A.under.fX m cs=true->Ki m cs cs
 | [],_=>by simp[Ki]
 |c::cs,h=>by
  simp only[A.under.fX,Bool.and_eq_true]at h;simp only[Ki]
  exact⟨.inr ⟨trivial,h.1⟩,mM h.2⟩
theorem mN{m:Nat}(L:List (List aC)):A.under.fX m (L.map eS)=true:=by
 induction L with
 |nil=>rfl
 |cons l L ih=>simp only[List.map_cons,A.under.fX,ih,Bool.and_true];rfl
theorem aa'{ρ:List Nat}{H:List Go.bJ.Obj}(L:List (List aC)):(L.map eS).map (lL ρ H)=L.map eS:=by
 rw[List.map_map]
 apply List.map_congr_left;intro l _;show lL ρ H (.ad (l.map aC.enc))= .ad (l.map aC.enc)
 unfold lL;rw[if_neg]
 simp[A.meets,A.mem]
theorem GJ{n:Nat}(L:List (List aC)):(L.map eS).map (dT n)=L.map eS:=by
 rw[List.map_map]
 apply List.map_congr_left;intro l _;show dT n (.ad (l.map aC.enc))= .ad (l.map aC.enc)
 unfold dT;rw[if_neg]
 simp[A.mem]
theorem BU{H:List Go.bJ.Obj}(L:List (List aC)):ep H (L.map eS)=some (L.map eS):=by
 induction L with
 |nil=>rfl
 |cons l L ih=>simp only[List.map_cons,ep,ih];rfl
theorem BV{L:List (List aC)}(h:L.length=16):List.take 16 (L.map eS)=L.map eS:=List.take_of_length_le (by simp[h])
theorem aba{n len i:Nat}{es:List A}(L:List (List aC))(hi:i<L.length)(hl:len<=es.length):
 List.map (lL [n] [Go.bJ.Obj.row 2 es]) (List.take (i*1) (L.map eS)++[A.row n 0 2 len false]++List.drop (i*1+1) (L.map eS))=(L.map eS).set i (.ad (es.take len)):=by
 rw[Nat.mul_one,List.map_append,List.map_append,List.map_take,List.map_drop,aa',List.set_eq_take_append_cons_drop,if_pos (by simp[hi])]
 have e:lL [n] [Go.bJ.Obj.row 2 es] (A.row n 0 2 len false)= .ad (es.take len):=by simp[lL,A.meets,A.mem,A.iQ,idx,view,kO,jL,fN,bX,hl]
 simp[e]
def Xn:aj:=BR.eP 206 (bo (fun l:List aC=>[.ad (l.map aC.enc)]) (fun _=>[]) (fun l=>l.length<=4398046511104) (fun l=>(.row 0 0 2 l.length false,[.row 2 (l.map aC.enc)],[])))
def pR:aj:={Xn with l_:=fun f=>f==206,c6:=fun n=>if n=7 then
 [[1,2,3,0,4,5,6,7,8,9],[1,2,3,0,5,4,6,7,8,9],[1,2,3,0,5,6,4,7,8,9],[1,2,3,4,5,6,0,7,8,9],[1,2,3,4,5,6,7,0,8,9],[1,2,3,5,0,4,6,7,8,9],
  [1,2,3,5,0,6,4,7,8,9],[1,2,3,5,4,6,0,7,8,9],[1,2,3,5,4,6,7,0,8,9],[1,2,3,5,6,0,4,7,8,9],[1,2,3,5,6,4,0,7,8,9],[1,2,3,5,6,4,7,0,8,9]]else []}
theorem Mn:ag Tryz.prog Xn:=Iy.eP (bn Tryz.func206 (by kernel_rfl) (by kernel_rfl)) (cL fun l h=>xP l h)
theorem abb:ag Tryz.prog pR:=⟨Mn.f,Mn.hp⟩
@[go_sem] theorem K14F_f:pR.f=BR.f:=rfl
@[go_sem] theorem K14F_eff{g:FuncId}:pR.l_ g=(g==206):=rfl
@[go_sem] theorem K14F_frz{g:FuncId}:pR.qU g=false:=rfl
@[go_sem] theorem K14F_fix{n:Nat}:pR.fix n=false:=rfl
@[go_sem] theorem K14F_ords0:pR.c6 0=[]:=rfl
@[go_sem] theorem K14F_ords1:pR.c6 1=[]:=rfl
@[go_sem] theorem K14F_ords2:pR.c6 2=[]:=rfl
@[go_sem] theorem K14F_ords3:pR.c6 3=[]:=rfl
@[go_sem] theorem K14F_ords4:pR.c6 4=[]:=rfl
@[go_sem] theorem K14F_ords5:pR.c6 5=[]:=rfl
@[go_sem] theorem K14F_ords6:pR.c6 6=[]:=rfl
@[go_sem] theorem K14F_ords7:pR.c6 7=[[1,2,3,0,4,5,6,7,8,9],[1,2,3,0,5,4,6,7,8,9],[1,2,3,0,5,6,4,7,8,9],[1,2,3,4,5,6,0,7,8,9],[1,2,3,4,5,6,7,0,8,9],[1,2,3,5,0,4,6,7,8,9],
 [1,2,3,5,0,6,4,7,8,9],[1,2,3,5,4,6,0,7,8,9],[1,2,3,5,4,6,7,0,8,9],[1,2,3,5,6,0,4,7,8,9],[1,2,3,5,6,4,0,7,8,9],[1,2,3,5,6,4,7,0,8,9]]:=rfl
@[go_sem] theorem K14F_ords8:pR.c6 8=[]:=rfl
@[go_sem] theorem K14F_ords9:pR.c6 9=[]:=rfl
theorem Pr{l:List aC}(h:l.length<=4398046511104):pR.hp 206 [.ad (l.map aC.enc)] []=some (.row 0 0 2 l.length false,[.row 2 (l.map aC.enc)],[]):=by have h0:Xn.hp 206 [.ad (l.map aC.enc)] []=bo (fun l:List aC=>[A.ad (l.map aC.enc)]) (fun _=>[]) (fun l=>l.length<=4398046511104) (fun l=>(.row 0 0 2 l.length false,[.row 2 (l.map aC.enc)],[])) [.ad (l.map aC.enc)] []:=aj.dZ;exact h0.trans (cM (enc:=fun l:List aC=>[A.ad (l.map aC.enc)]) (DE:=fun _=>[]) (fun i j h _=>by simpa using h) l h)
theorem IA:ai Tryz.prog pR Tryz.f182.ntmps (Tryz.f182.body.getD .skip)=true:=by kernel_rfl
theorem Mo(s:List ab)(hs:aG s):az Tryz.prog 182 [.ad (s.map ab.enc)] (· = .agg ((g_ s).map eS)):=by
 refine aa abb mixed Tryz.func182 rfl (Nat.le_of_ble_eq_true rfl) IA ?_;unfold Tryz.f182;obtain⟨hs1,hs2⟩:=hs;simp-implicitDefEqProofs (disch:=(first|omega|decide)) only[go_sem,↓reduceIte,seval,List.length_map]
 refine DI 1 _ rfl ?_;refine S3 [4] (by simp) (fun _ _=>Nat.zero_le _) [0,2,3,7,8] (ι:={k:Nat//k<=s.length}) (fun p=>[(9,.int .i64 p.1)]) (fun p=>[(1,.box ((g_ (s.take p.1)).map eS))]) (fun p=>s.length-p.1) ⟨0,by omega⟩ (Nat.zero_le _) ?_ ?_
 · simp-implicitDefEqProofs (disch:=(first|omega|decide)) only[go_sem,↓reduceIte,seval]
   exact mM (cs:=(g_ (s.take 0)).map eS) (mN _)
 · rintro⟨k,hk⟩
   simp only;have tl:((g_ (s.take k)).map eS).length=16:=by rw[List.length_map,hI]
   by_cases aw:k<s.length
   · have ae:(k:Int)<(s.length:Int):=by omega
     have e1:=eB aw;have hm:=GH aw;have iN:=T3 aw;have hsk:=T4 aw;generalize hx:s[k]=x at*;obtain⟨n,rs⟩:=x;simp only at hm iN hsk;cases h1:bI n with
     |false=>
      have hsk':=hsk h1;simp-implicitDefEqProofs (disch:=(first|omega|decide)) only[go_sem,↓reduceIte,seval,ae,e1,h1,wrap_i64,List.length_map]
      exact⟨⟨k+1,aw⟩,.inl ⟨by simp,by rw[hsk'];exact mM (mN _)⟩,by show s.length-(k+1)<s.length-k;omega⟩
     |true=>
      have hsn':=iN h1;have st:=Xl rs;rw[bL]at h1;have h2:bI n=true:=bL.2 h1;have g1:=uv (lx (s.take k) (i:=(n-1).toNat) (by omega))
      rw[show(((n-1).toNat:Nat):Int)+1=n by omega]at g1;have Gq:=fG (s.take k) n;have jg:=Pr (l:=aB (s.take k) n) (by omega)
      have c1:(0:Int)<=n-1:=by omega
      have c2:n-1<16:=by omega
      have sp: ∀x:A,dY ((g_ (s.take k)).map eS) ((n-1).toNat*1) [x]=((g_ (s.take k)).map eS).set (n-1).toNat x:=fun x=>by rw[Nat.mul_one];exact BT (by rw[tl];omega)
      simp-implicitDefEqProofs (maxSteps:=600000) (disch:=(first|omega|decide)) only[go_sem,↓reduceIte,seval,ae,e1,h2,st,g1,jg,c1,c2,sp,tl,wrap_i64,List.length_map,List.contains_nil,List.contains_cons]
      refine⟨⟨Nat.le_refl _,by omega⟩,by omega,⟨k+1,aw⟩,.inr ⟨by simp, ?_⟩,by show s.length-(k+1)<s.length-k;omega⟩
      have An:(List.take (aB (s.take k) n).length ((aB (s.take k) n).map aC.enc)++rs.map aC.enc)=(aB (s.take k) n++rs).map aC.enc:=by rw[List.take_of_length_le (by simp),List.map_append]
      rw[GJ,An,aba _ (by rw[hI];omega) (by simp),hsn',List.map_set]
      have Kp:((aB (s.take k) n++rs).map aC.enc).take ((aB (s.take k) n).length+rs.length)=(aB (s.take k) n++rs).map aC.enc:=List.take_of_length_le (by simp)
      rw[Kp]
      have:=mN (m:=2) ((g_ (s.take k)).set (n-1).toNat (aB (s.take k) n++rs))
      rw[List.map_set]at this;exact mM this
   · have ae: ¬(k:Int)<(s.length:Int):=by omega
     rw[List.take_of_length_le (by omega)]at*;have tl':=hI s;have tk:=BV tl';have vt: ∀H,ep H ((g_ s).map eS)=some ((g_ s).map eS):=fun H=>BU _;have dn:List.drop 16 [A.bK,A.bK,A.bK,A.bK,A.bK,A.bK,A.bK,A.bK,A.bK,A.bK,A.bK,A.bK,A.bK,A.bK,A.bK,A.bK]=[]:=rfl;simp-implicitDefEqProofs (disch:=(first|omega|decide)) only[go_sem,↓reduceIte,seval,ae,tl',tk,vt,dn,List.append_nil,List.length_map]
end Go.Proofs.YtihgnfmoafjakaaGreat
namespace Go.Proofs.YtihgnfmoafjakaaGreat
open Go.bJ
set_option linter.unusedSimpArgs false
set_option linter.unusedVariables false
set_option maxRecDepth 20000
set_option maxHeartbeats 8000000
def BW(L:List (List aC))(n:Int):List aC:=L.getD (n-1).toNat []
def T5(L:List (List aC)):List ab:=lM fun n=>cw (ah (BW L n))
theorem T6{L:List (List aC)}{k:Nat}{l:List aC}(h:L[k]? =some l):BW L ((k:Int)+1)=l:=by unfold BW;rw[show((k:Int)+1-1).toNat=k by omega,List.getD_eq_getElem?_getD,h];rfl
theorem Mp{t:Int->List aC}{k:Nat}:lX t (k+1)=if(t (k+1)).isEmpty then lX t k else lX t k++[⟨k+1,t (k+1)⟩]:=rfl
theorem Mq(p:Int->Bool):(cw p).length<=1099511627776:=Rs (f_ p)
theorem IB{n:Nat}(L:List (List aC)):A.mem.fI n (L.map eS)=false:=by
 induction L with
 |nil=>rfl
 |cons l L ih=>simp only[List.map_cons,A.mem.fI,ih,Bool.or_false];rfl
theorem ly:ai Tryz.prog BR Tryz.f190.ntmps (Tryz.f190.body.getD .skip)=true:=by kernel_rfl
theorem Mr(L:List (List aC))(hL:L.length=16)(hl: ∀l∈L,l.length<=4398046511104):az Tryz.prog 190 [.agg (L.map eS)] (· = .ad ((T5 L).map ab.enc)):=by
 refine aa Iy mixed Tryz.func190 rfl (Nat.le_of_ble_eq_true rfl) ly ?_;unfold Tryz.f190;have tk:=BV hL;have tl:(L.map eS).length=16:=by rw[List.length_map,hL]
 have hu:=mN (m:=2) L;have hle:=mM hu;have hsc:=GJ (n:=1) L;have hme:=IB (n:=1) L;simp-implicitDefEqProofs (disch:=(first|omega|decide)) only[go_sem,↓reduceIte,seval,tk,tl]
 refine aU 3 2 rfl ?_;refine ao [0,1,2,6] (ι:={k:Nat//k<=16}) (fun p=>[(7,.int .i64 p.1),(3,.row 1 0 2 (lX (fun n=>cw (ah (BW L n))) p.1).length false)]) (fun p=>[(1,.row 2 ((lX (fun n=>cw (ah (BW L n))) p.1).map ab.enc))]) (fun p=>16-p.1) ⟨0,by omega⟩ (Nat.zero_le _) ?_ ?_
 · simp-implicitDefEqProofs (disch:=(first|omega|decide)) only[go_sem,↓reduceIte,seval,hu,hle]
   simp[lX]
 · rintro⟨k,hk⟩
   simp only;have qx:=nM (fun n=>cw (ah (BW L n))) k;by_cases aw:k<16
   · have ae:(k:Int)<16:=by omega
     have Vn:k<L.length:=by omega
     have hg:L[k]? =some L[k]:=List.getElem?_eq_getElem Vn;have g1:=uv hg;have LX:=hl L[k] (List.getElem_mem Vn)
     have bR:=Mp (t:=fun n=>cw (ah (BW L n))) (k:=k)
     simp only[T6 hg]at bR;have oP:=Mq (ah L[k])
     generalize L[k]=x at*;have c1:(0:Int)<=(k:Int):=by omega
     cases hr:cw (ah x)with
     |nil=>
      rw[hr]at bR oP;simp only[List.isEmpty_nil,if_true]at bR;simp-implicitDefEqProofs (disch:=(first|omega|decide)) only[go_sem,↓reduceIte,seval,hu,hle,ae,c1,g1,hr,wrap_i64,List.length_map,List.map_nil]
      exact⟨⟨k+1,by omega⟩,⟨⟨by simp,by rw[bR]⟩,by rw[bR]⟩,by show 16-(k+1)<16-k;omega⟩
     |cons r rs=>
      rw[hr]at bR oP;simp only[List.isEmpty_cons,Bool.false_eq_true,if_false]at bR;have c2:(0:Int)<((rs.length+1:Nat):Int):=by omega
      simp-implicitDefEqProofs (disch:=(first|omega|decide)) only[go_sem,↓reduceIte,seval,hu,hle,hsc,hme,ae,c1,c2,g1,hr,wrap_i64,List.length_map,List.map_cons,List.length_cons]
      exact⟨⟨Nat.le_refl _,by omega⟩,⟨k+1,by omega⟩,⟨⟨by simp,by rw[bR,List.length_append];rfl⟩,by rw[bR,List.map_append,List.take_of_length_le (by simp)];rfl⟩,by show 16-(k+1)<16-k;omega⟩
   · have ae: ¬(k:Int)<16:=by omega
     obtain rfl:k=16:=by omega
     simp-implicitDefEqProofs (disch:=(first|omega|decide)) only[go_sem,↓reduceIte,seval,ae,List.length_map]
     exact⟨Nat.le_refl _,by rw[List.take_of_length_le (by simp)];rfl⟩
end Go.Proofs.YtihgnfmoafjakaaGreat
namespace Go.Proofs.YtihgnfmoafjakaaGreat
open Go.bJ
set_option linter.unusedSimpArgs false
set_option linter.unusedVariables false
set_option maxRecDepth 20000
set_option maxHeartbeats 8000000
def Ms:aj:=BR.add 182 (entry (fun(s:List ab)=>[.ad (s.map ab.enc)]) (fun s=>aG s) (fun s=> .agg ((g_ s).map eS)))
theorem abc:ag Tryz.prog Ms:=Iy.bG Tryz.func182 (by kernel_rfl) (by kernel_rfl) fun s h=>Mo s h
@[go_sem] theorem K14o_old{g:FuncId}{xs:List A}(h:g≠182):Ms.f g xs=BR.f g xs:=aj.ak h
theorem BX(s:List ab)(h:aG s):Ms.f 182 [.ad (s.map ab.enc)]=some (.agg ((g_ s).map eS)):=aj.an (Γ:=BR) (fun i j h=>by simpa[Prod.ext_iff,and_assoc]using h) s h
@[go_sem] theorem pS{s:List ab}(h:aG s):Ms.f 182 [.ad (s.map ab.enc)]=some (.agg ((g_ s).map eS)):=BX s h
def BY:aj:=Ms.add 190 (entry (fun(L:List (List aC))=>[.agg (L.map eS)]) (fun L=>L.length=16/\ ∀l∈L,l.length<=4398046511104) (fun L=> .ad ((T5 L).map ab.enc)))
theorem IC:ag Tryz.prog BY:=abc.bG Tryz.func190 (by kernel_rfl) (by kernel_rfl) fun L h=>Mr L h.1 h.2
@[go_sem] theorem K14p_old{g:FuncId}{xs:List A}(h:g≠190):BY.f g xs=Ms.f g xs:=aj.ak h
@[go_sem] theorem K14p_s:BY.pl Ms:=⟨fun _=>rfl,fun _=>rfl,rfl,fun _=>rfl,rfl,fun _=>rfl,rfl⟩
theorem j6(L:List (List aC))(h:L.length=16/\ ∀l∈L,l.length<=4398046511104):BY.f 190 [.agg (L.map eS)]=some (.ad ((T5 L).map ab.enc)):=aj.an (Γ:=Ms) (fun i j h=>by simpa[Prod.ext_iff,and_assoc]using h) L h
theorem xT{L:List (List aC)}(h1:L.length=16)(h2: ∀l∈L,l.length<=4398046511104):BY.f 190 [.agg (L.map eS)]=some (.ad ((T5 L).map ab.enc)):=j6 L ⟨h1,h2⟩
theorem Xo{s:List ab}{l:List aC}(h:l∈g_ s):l.length<=bj s:=by unfold g_ at h;obtain⟨i,_,rfl⟩:=List.mem_map.1 h;exact fG s _
theorem Xp{s:List ab}{n:Int}(h:bI n=true):BW (g_ s) n=aB s n:=by
 rw[bL]at h;unfold BW;rw[List.getD_eq_getElem?_getD,lx s (by omega)]
 show aB s _=_;rw[show(((n-1).toNat:Nat):Int)+1=n by omega]
def dF(s:List ab):List ab:=lM fun n=>cw (ah (aB s n))
theorem Xq(s:List ab):T5 (g_ s)=dF s:=iv fun n h=>by simp only[Xp h]
def N6(op:Int)(a b:List ab):List ab:=lM fun n=>cw (iP op (aB a n) (aB b n))
theorem Ps:ai Tryz.prog BY Tryz.f176.ntmps (Tryz.f176.body.getD .skip)=true:=by kernel_rfl
theorem T7(s:List ab)(hs:aG s):az Tryz.prog 176 [.ad (s.map ab.enc)] (· = .ad ((dF s).map ab.enc)):=by
 refine aa IC mixed Tryz.func176 rfl (Nat.le_of_ble_eq_true rfl) Ps ?_;unfold Tryz.f176;have h1:=pS hs;have h2:=xT (L:=g_ s) (hI s) (fun l hl=>by have:=Xo hl;have:=hs.2;omega)
 rw[Xq]at h2;have hme:=fun n=>IB (n:=n) (g_ s)
 have hvt:=fun H=>BU (H:=H) (g_ s)
 have hp:A.pure.aY ((g_ s).map eS)=true:=by
  generalize g_ s=L;induction L with
  |nil=>rfl
  |cons l L ih=>simp only[List.map_cons,A.pure.aY,ih,Bool.and_true];rfl
 simp-implicitDefEqProofs (disch:=(first|omega|decide)) only[go_sem,↓reduceIte,seval,h1,h2,hme,hvt,hp]
theorem Mt(L:List (List aC)):A.pure.aY (L.map eS)=true:=by
 induction L with
 |nil=>rfl
 |cons l L ih=>simp only[List.map_cons,A.pure.aY,ih,Bool.and_true];rfl
end Go.Proofs.YtihgnfmoafjakaaGreat
namespace Go.Proofs.YtihgnfmoafjakaaGreat
open Go.bJ
set_option linter.unusedSimpArgs false
set_option linter.unusedVariables false
set_option maxRecDepth 20000
set_option maxHeartbeats 8000000
theorem ku(l:List aC):(cw (ah l)).length<=l.length:=by
 rw[<-L8,List.length_reverse]
 have h1:=BD (yr l) []
 have h2:=(vM l).length_eq;have h3:=List.length_filter_le cq l;simp only[List.length_nil]at h1;omega
theorem Mu(op:Int)(a b:List aC):(cw (iP op a b)).length<=2*a.length+2*b.length:=by
 rw[<-H4,List.length_reverse]
 have h1:=H3 (iP op a b) (bf a b) ((bf a b).length-1)
 have h2:=Bo a b;omega
theorem Mv{t:Int->List aC}{B:Nat}(h: ∀n,(t n).length<=B): ∀k,bj (lX t k)<=k*B
 |0=>by simp[lX,bj]
 |k+1=>by
  have ih:=Mv h k;have h1:=h (k+1)
  rw[Nat.succ_mul]
  simp only[lX];split
  · omega
  · rw[e_]
    have e:bj [⟨(k:Int)+1,t (k+1)⟩]=(t (k+1)).length:=by simp[bj]
    omega
theorem T8{t:Int->List aC}{B:Nat}(h: ∀n,(t n).length<=B):bj (lM t)<=16*B/\(lM t).length<=16:=⟨Mv h 16,nM t 16⟩
theorem RK{s:List ab}{B:Nat}(hs:bj s<=B):bj (dF s)<=16*B/\(dF s).length<=16:=
 T8 (t:=fun n=>cw (ah (aB s n))) fun n=>by
  have h1:=ku (aB s n)
  have h2:=fG s n;omega
def lz(s:List ab):Prop:=aG s/\ ∀n,(aB s n).length<=50000
theorem Xr{s:List ab}(h:s.length<=1000000)(h':bj s<=50000):lz s:=⟨⟨h,by omega⟩,fun n=>by have:=fG s n;omega⟩
theorem RL{s:List ab}(h:bj s<=50000):lz (dF s):=by
 have h1:=RK h;refine⟨⟨by omega,by omega⟩,fun n=> ?_⟩
 unfold dF;rw[qK]
 split
 · have h2:=ku (aB s n)
   have h3:=fG s n;omega
 · simp
theorem Es:ai Tryz.prog BY Tryz.f170.ntmps (Tryz.f170.body.getD .skip)=true:=by kernel_rfl
theorem ID(op:Int)(a b:List ab)(hop:Ia op)(ha:lz a)(hb:lz b):az Tryz.prog 170 [.int .i64 op,.ad (a.map ab.enc),.ad (b.map ab.enc)] (· = .ad ((N6 op a b).map ab.enc)):=by
 refine aa IC mixed Tryz.func170 rfl (Nat.le_of_ble_eq_true rfl) Es ?_;unfold Tryz.f170;simp-implicitDefEqProofs (disch:=(first|omega|decide)) only[go_sem,↓reduceIte,seval,List.length_map]
 refine aU 7 2 rfl ?_;refine ao [0,1,2] (ι:={k:Nat//k<=16}) (fun p=>[(8,.int .i64 ((p.1:Int)+1)),(7,.row 0 0 2 (lX (fun n=>cw (iP op (aB a n) (aB b n))) p.1).length false)]) (fun p=>[(0,.row 2 ((lX (fun n=>cw (iP op (aB a n) (aB b n))) p.1).map ab.enc))]) (fun p=>16-p.1) ⟨0,by omega⟩ (Nat.zero_le _) ?_ ?_
 · simp-implicitDefEqProofs (disch:=(first|omega|decide)) only[go_sem,↓reduceIte,seval]
   simp[lX]
 · rintro⟨k,hk⟩
   simp only;have qx:=nM (fun n=>cw (iP op (aB a n) (aB b n))) k;by_cases aw:k<16
   · have ae:(k:Int)+1<=16:=by omega
     have r1:=nP (n:=(k:Int)+1) ha.1;have r2:=nP (n:=(k:Int)+1) hb.1;have hM:=yt (op,aB a ((k:Int)+1),aB b ((k:Int)+1)) ⟨hop,ha.2 _,hb.2 _⟩
     simp only at hM;have bR:=Mp (t:=fun n=>cw (iP op (aB a n) (aB b n))) (k:=k)
     have oP:=Mq (iP op (aB a ((k:Int)+1)) (aB b ((k:Int)+1)))
     cases hr:cw (iP op (aB a ((k:Int)+1)) (aB b ((k:Int)+1)))with
     |nil=>
      rw[hr]at bR oP;simp only[List.isEmpty_nil,if_true]at bR;simp-implicitDefEqProofs (disch:=(first|omega|decide)) only[go_sem,↓reduceIte,seval,ae,r1,r2,hM,hr,wrap_i64,List.length_map,List.map_nil]
      exact⟨⟨k+1,by omega⟩,⟨⟨by simp,by rw[bR]⟩,by rw[bR]⟩,by show 16-(k+1)<16-k;omega⟩
     |cons r rs=>
      rw[hr]at bR oP;simp only[List.isEmpty_cons,Bool.false_eq_true,if_false]at bR;have c2:(0:Int)<((rs.length+1:Nat):Int):=by omega
      simp-implicitDefEqProofs (disch:=(first|omega|decide)) only[go_sem,↓reduceIte,seval,ae,c2,r1,r2,hM,hr,wrap_i64,List.length_map,List.map_cons,List.length_cons]
      exact⟨⟨Nat.le_refl _,by omega⟩,⟨k+1,by omega⟩,⟨⟨by simp,by rw[bR,List.length_append];rfl⟩,by rw[bR,List.map_append,List.take_of_length_le (by simp)];rfl⟩,by show 16-(k+1)<16-k;omega⟩
   · have ae: ¬(k:Int)+1<=16:=by omega
     obtain rfl:k=16:=by omega
     simp-implicitDefEqProofs (disch:=(first|omega|decide)) only[go_sem,↓reduceIte,seval,ae,List.length_map]
     exact⟨Nat.le_refl _,by rw[List.take_of_length_le (by simp)];rfl⟩
def Et:aj:=BY.add 170 (entry (fun(v:Int×List ab×List ab)=>[.int .i64 v.1,.ad (v.2.1.map ab.enc),.ad (v.2.2.map ab.enc)]) (fun v=>Ia v.1/\lz v.2.1/\lz v.2.2) (fun v=> .ad ((N6 v.1 v.2.1 v.2.2).map ab.enc)))
theorem RM:ag Tryz.prog Et:=IC.bG Tryz.func170 (by kernel_rfl) (by kernel_rfl) fun v h=>ID v.1 v.2.1 v.2.2 h.1 h.2.1 h.2.2
@[go_sem] theorem K14q_old{g:FuncId}{xs:List A}(h:g≠170):Et.f g xs=BY.f g xs:=aj.ak h
@[go_sem] theorem K14q_s:Et.pl BY:=⟨fun _=>rfl,fun _=>rfl,rfl,fun _=>rfl,rfl,fun _=>rfl,rfl⟩
theorem yD(v:Int×List ab×List ab)(h:Ia v.1/\lz v.2.1/\lz v.2.2):Et.f 170 [.int .i64 v.1,.ad (v.2.1.map ab.enc),.ad (v.2.2.map ab.enc)]=some (.ad ((N6 v.1 v.2.1 v.2.2).map ab.enc)):=aj.an (Γ:=BY) (fun i j h=>by simpa[Prod.ext_iff,and_assoc]using h) v h
theorem kv{op:Int}{a b:List ab}(ho:Ia op)(ha:lz a)(hb:lz b):Et.f 170 [.int .i64 op,.ad (a.map ab.enc),.ad (b.map ab.enc)]=some (.ad ((N6 op a b).map ab.enc)):=yD (op,a,b) ⟨ho,ha,hb⟩
theorem IE:lz []:=⟨⟨by simp,by simp[bj]⟩,fun n=>by simp[aB]⟩
theorem Xs(x:List aC):iP 1 x []=ah x:=by
 funext n;simp[iP,Vj,ah]
theorem Xt(s:List ab):N6 1 s []=dF s:=iv fun n _=>by simp only[aB,Xs]
theorem Xu:Ia 1:= .inl rfl
theorem opOK3:Ia 3:= .inr (.inr rfl)
theorem Mw:ai Tryz.prog Et Tryz.f134.ntmps (Tryz.f134.body.getD .skip)=true:=by kernel_rfl
theorem Pt(s:List ab)(hs:lz s):az Tryz.prog 134 [.ad (s.map ab.enc)] (· = .ad ((dF s).map ab.enc)):=by refine aa RM mixed Tryz.func134 rfl (Nat.le_of_ble_eq_true rfl) Mw ?_;unfold Tryz.f134;have h:=kv Xu hs IE;rw[Xt,List.map_nil]at h;simp-implicitDefEqProofs (disch:=(first|omega|decide)) only[go_sem,↓reduceIte,seval,h]
def Mx:aj:=Et.add 134 (entry (fun(s:List ab)=>[.ad (s.map ab.enc)]) (fun s=>lz s) (fun s=> .ad ((dF s).map ab.enc)))
theorem RN:ag Tryz.prog Mx:=RM.bG Tryz.func134 (by kernel_rfl) (by kernel_rfl) fun s h=>Pt s h
@[go_sem] theorem K14r_old{g:FuncId}{xs:List A}(h:g≠134):Mx.f g xs=Et.f g xs:=aj.ak h
@[go_sem] theorem K14r_s:Mx.pl Et:=⟨fun _=>rfl,fun _=>rfl,rfl,fun _=>rfl,rfl,fun _=>rfl,rfl⟩
theorem rK(s:List ab)(h:lz s):Mx.f 134 [.ad (s.map ab.enc)]=some (.ad ((dF s).map ab.enc)):=aj.an (Γ:=Et) (fun i j h=>by simpa[Prod.ext_iff,and_assoc]using h) s h
theorem BZ{s:List ab}(h:lz s):Mx.f 134 [.ad (s.map ab.enc)]=some (.ad ((dF s).map ab.enc)):=rK s h
def cG(l:List bS):List ab:=(l.filter aL).map fun v=>⟨v.r,[⟨v.c,v.c⟩]⟩
theorem pT(l m:List bS):cG (l++m)=cG l++cG m:=by simp[cG]
theorem Xv(l:List bS):(cG l).length<=l.length/\bj (cG l)<=l.length:=by
 induction l with
 |nil=>simp[cG,bj]
 |cons v l ih=>
  have e:cG (v::l)=cG [v]++cG l:=by rw[<-pT];rfl
  rw[e,e_,List.length_append,List.length_cons]
  have:(cG [v]).length<=1/\bj (cG [v])<=1:=by
   unfold cG;by_cases h:aL v=true
   · simp[h,bj]
   · simp[h,bj]
  omega
theorem vU{l:List bS}{k:Nat}(h:k<l.length):cG (l.take (k+1))=cG (l.take k)++(if aL l[k]=true then [⟨l[k].r,[⟨l[k].c,l[k].c⟩]⟩]else []):=by
 rw[<-List.take_append_getElem h,pT]
 congr 1
 unfold cG;by_cases h:aL l[k]=true
 · simp[h]
 · simp[h]
theorem opK_of(t u:List ab):N6 1 (dF t) u=dF (t++u):=iv fun n h=>by
 have e:iP 1 (aB (dF t) n) (aB u n)=ah (aB (t++u) n):=by
  funext c
  unfold dF;rw[qK,if_pos h,de,fg]
  show Vj 1 _ _=_;rw[mJ (zG _)];rfl
 simp only[e]
theorem RO{l:List bS}{k:Nat}(h:k<l.length):(l.map bS.enc)[k]? =some (.agg [.int .i64 l[k].r,.int .i64 l[k].c]):=by rw[List.getElem?_map,List.getElem?_eq_getElem h];rfl
theorem abd(n c:Int):lz [⟨n,[⟨c,c⟩]⟩]:=Xr (by simp) (by simp[bj])
theorem IF:ai Tryz.prog Mx Tryz.f151.ntmps (Tryz.f151.body.getD .skip)=true:=by kernel_rfl
theorem My(s:List ab)(l:List bS)(hs:lz s)(hl:bj s+l.length<=50000):az Tryz.prog 151 [.ad (s.map ab.enc),.ad (l.map bS.enc)] (· = .ad ((dF (s++cG l)).map ab.enc)):=by
 refine aa RN mixed Tryz.func151 rfl (Nat.le_of_ble_eq_true rfl) IF ?_;unfold Tryz.f151;have h0:=BZ hs;simp-implicitDefEqProofs (disch:=(first|omega|decide)) only[go_sem,↓reduceIte,seval,h0,List.length_map]
 refine ao [0,1] (ι:={k:Nat//k<=l.length}) (fun p=>[(6,.int .i64 p.1),(5,.ad ((dF (s++cG (l.take p.1))).map ab.enc))]) (fun _=>[]) (fun p=>l.length-p.1) ⟨0,by omega⟩ (Nat.zero_le _) ?_ ?_
 · simp-implicitDefEqProofs (disch:=(first|omega|decide)) only[go_sem,↓reduceIte,seval]
   simp[cG]
 · rintro⟨k,hk⟩
   simp only;by_cases aw:k<l.length
   · have ae:(k:Int)<(l.length:Int):=by omega
     have e1:=RO aw;have iN:=vU aw;have oN:=Xv (l.take k)
     rw[List.length_take]at oN;have hm:=RL (s:=s++cG (l.take k)) (by rw[e_];omega)
     generalize hx:l[k]=x at*;obtain⟨r,c⟩:=x;simp only at iN;cases h1:aL ⟨r,c⟩with
     |false=>
      rw[h1,if_neg (by simp),List.append_nil]at iN;simp-implicitDefEqProofs (disch:=(first|omega|decide)) only[go_sem,↓reduceIte,seval,ae,e1,h1,wrap_i64,List.length_map]
      exact⟨⟨k+1,aw⟩,⟨by simp,by rw[iN]⟩,by show l.length-(k+1)<l.length-k;omega⟩
     |true=>
      rw[h1,if_pos rfl]at iN;have hM:=kv Xu hm (abd r c)
      rw[opK_of,List.append_assoc,<-iN]at hM;simp only[List.map_cons,List.map_nil,ab.sm,aC.sm]at hM;simp-implicitDefEqProofs (disch:=(first|omega|decide)) only[go_sem,↓reduceIte,seval,ae,e1,h1,hM,wrap_i64,List.length_map,List.map_cons,List.map_nil]
      exact⟨⟨k+1,aw⟩,⟨by simp,rfl⟩,by show l.length-(k+1)<l.length-k;omega⟩
   · have ae: ¬(k:Int)<(l.length:Int):=by omega
     rw[List.take_of_length_le (by omega)]at*;simp-implicitDefEqProofs (disch:=(first|omega|decide)) only[go_sem,↓reduceIte,seval,ae,List.length_map]
end Go.Proofs.YtihgnfmoafjakaaGreat
namespace Go.Proofs.YtihgnfmoafjakaaGreat
open Go.bJ
set_option linter.unusedSimpArgs false
set_option linter.unusedVariables false
set_option maxRecDepth 20000
set_option maxHeartbeats 8000000
def Xw:aj:=Mx
theorem abe:ag Tryz.prog Xw:=RN
@[go_sem] theorem K14s_old{g:FuncId}{xs:List A}:Xw.f g xs=Mx.f g xs:=rfl
def T9:aj:=Xw.add 176 (entry (fun(s:List ab)=>[.ad (s.map ab.enc)]) (fun s=>aG s) (fun s=> .ad ((dF s).map ab.enc)))
theorem abf:ag Tryz.prog T9:=abe.bG Tryz.func176 (by kernel_rfl) (by kernel_rfl) fun s h=>T7 s h
@[go_sem] theorem K14t_old{g:FuncId}{xs:List A}(h:g≠176):T9.f g xs=Xw.f g xs:=aj.ak h
theorem IG(s:List ab)(h:aG s):T9.f 176 [.ad (s.map ab.enc)]=some (.ad ((dF s).map ab.enc)):=aj.an (Γ:=Xw) (fun i j h=>by simpa[Prod.ext_iff,and_assoc]using h) s h
def abg:aj:=T9
theorem abh:ag Tryz.prog abg:=abf
@[go_sem] theorem K14u_old{g:FuncId}{xs:List A}:abg.f g xs=T9.f g xs:=rfl
def Xx:aj:=abg
theorem abi:ag Tryz.prog Xx:=abh
@[go_sem] theorem K14v_old{g:FuncId}{xs:List A}:Xx.f g xs=abg.f g xs:=rfl
def Mz:aj:=Xx
theorem zI:ag Tryz.prog Mz:=abi
@[go_sem] theorem K14w_old{g:FuncId}{xs:List A}:Mz.f g xs=Xx.f g xs:=rfl
@[go_sem] theorem K14w_s:Mz.pl Xx:=⟨fun _=>rfl,fun _=>rfl,rfl,fun _=>rfl,rfl,fun _=>rfl,rfl⟩
theorem qO{s:List ab}(h:aG s):T9.f 176 [.ad (s.map ab.enc)]=some (.ad ((dF s).map ab.enc)):=IG s h
theorem IH:ai Tryz.prog Mz Tryz.f145.ntmps (Tryz.f145.body.getD .skip)=true:=by kernel_rfl
theorem MA(a b:List ab)(ha:aG a)(hb:aG b)(Hz:aG (dF a))(o9:aG (dF b)):az Tryz.prog 145 [.ad (a.map ab.enc),.ad (b.map ab.enc)] (· = .bool (bQ (dF a) (dF b))):=by refine aa zI mixed Tryz.func145 rfl (Nat.le_of_ble_eq_true rfl) IH ?_;unfold Tryz.f145;have h1:=qO ha;have h2:=qO hb;have h3:=Ml Hz o9;simp-implicitDefEqProofs (disch:=(first|omega|decide)) only[go_sem,↓reduceIte,seval,h1,h2,h3]
theorem c_ind{n:Int}(h:bI n=true):((n-1).toNat:Int)+1=n:=by rw[bL]at h;omega
theorem II:ai Tryz.prog Mz Tryz.f146.ntmps (Tryz.f146.body.getD .skip)=true:=by kernel_rfl
theorem MB(s:List ab)(n:Int)(hs:aG s):az Tryz.prog 146 [.ad (s.map ab.enc),.int .i64 n] (· = .int .i64 (if bI n=true then eI (cw (ah (aB s n)))else 0)):=by
 refine aa zI mixed Tryz.func146 rfl (Nat.le_of_ble_eq_true rfl) II ?_;unfold Tryz.f146;cases h1:bI n with
 |false=>simp-implicitDefEqProofs (disch:=(first|omega|decide)) only[go_sem,↓reduceIte,seval,h1]
 |true=>
  have h:=bL.1 h1;have h2:=pS hs;have g1:=uv (lx s (i:=(n-1).toNat) (by omega))
  rw[c_ind h1]at g1;have hl:=fG s n;have Vy:=hs.2;have c1:(0:Int)<=n-1:=by omega
  have c2:n-1<16:=by omega
  simp-implicitDefEqProofs (disch:=(first|omega|decide)) only[go_sem,↓reduceIte,seval,h1,h2,g1,c1,c2,wrap_i64,List.length_map]
end Go.Proofs.YtihgnfmoafjakaaGreat
namespace Go.Proofs.YtihgnfmoafjakaaGreat
open Go.bJ
set_option linter.unusedSimpArgs false
set_option linter.unusedVariables false
set_option maxRecDepth 20000
set_option maxHeartbeats 8000000
def B0(s:List ab)(l:List bS)(k:Nat)(L:List (List aC)):Prop:=
 L.length=16/\ ∀i:Nat,i<16-> ∃x,L[i]? =some x/\x.length<=bj s+k/\ ∀c,ah x c=ah (aB (s++cG (l.take k)) ((i:Int)+1)) c
theorem Pu(s:List ab)(l:List bS):B0 s l 0 (g_ s):=⟨hI s,fun i hi=>⟨_,lx s hi,fG _ _,fun c=>by simp[cG]⟩⟩
theorem Pv{s:List ab}{l:List bS}{k:Nat}{L:List (List aC)}(h:B0 s l k L)(hk:k<l.length)(hr:aL l[k]=false):B0 s l (k+1) L:=⟨h.1,fun i hi=>by
 obtain⟨x,h1,h2,h3⟩:=h.2 i hi;refine⟨x,h1,by omega,fun c=> ?_⟩
 rw[vU hk,hr,if_neg (by simp),List.append_nil];exact h3 c⟩
theorem Pw{s:List ab}{l:List bS}{k:Nat}{L:List (List aC)}(h:B0 s l k L)(hk:k<l.length)(hr:aL l[k]=true){x:List aC}(hx:L[(l[k].r-1).toNat]? =some x):
 B0 s l (k+1) (L.set (l[k].r-1).toNat (cw (ah (x++lN [l[k].c])))):=⟨by rw[List.length_set];exact h.1,fun i hi=>by
 obtain⟨y,h1,h2,h3⟩:=h.2 i hi;have Ti:1<=l[k].r:=by have:=hr;simp[aL]at this;omega
 rw[vU hk,hr,if_pos rfl,<-List.append_assoc]
 rw[List.getElem?_set,h.1]
 by_cases e:(l[k].r-1).toNat=i
 · rw[if_pos e,if_pos (by omega)]
   rw[e,h1]at hx;obtain rfl:=Option.some.inj hx;refine⟨_,rfl, ?_,fun c=> ?_⟩
   · have:=ku (y++lN [l[k].c])
     simp only[lN,List.length_append,List.length_map,List.length_cons,List.length_nil]at this;simp only[lN]at*;omega
   · have e2:l[k].r=(i:Int)+1:=by omega
     rw[mJ (zG _),fg,h3,de (s++cG (l.take k)),fg (aB (s++cG (l.take k)) _)]
     congr 1
     simp only[aB,e2,if_true,List.append_nil];rfl
 · rw[if_neg e]
   refine⟨y,h1,by omega,fun c=> ?_⟩
   rw[h3,de _ [_],fg]
   have e2: ¬l[k].r=(i:Int)+1:=by omega
   simp only[aB,e2,if_false,qH,Bool.or_false]⟩
theorem T_{s:List ab}{l:List bS}{L:List (List aC)}(h:B0 s l l.length L):T5 L=dF (s++cG l):=iv fun n hn=>by
 have jw:=bL.1 hn;obtain⟨x,h1,h2,h3⟩:=h.2 (n-1).toNat (by omega)
 rw[List.take_length,c_ind hn]at h3;have e:BW L n=x:=by unfold BW;rw[List.getD_eq_getElem?_getD,h1];rfl
 have e2:ah x=ah (aB (s++cG l) n):=funext h3;rw[e,e2]
theorem MC:ai Tryz.prog Mz Tryz.f153.ntmps (Tryz.f153.body.getD .skip)=true:=by kernel_rfl
theorem Px(s:List ab)(l:List bS)(hs:aG s)(hl:bj s+l.length<=1000000):az Tryz.prog 153 [.ad (s.map ab.enc),.ad (l.map bS.enc)] (· = .ad ((dF (s++cG l)).map ab.enc)):=by
 refine aa zI mixed Tryz.func153 rfl (Nat.le_of_ble_eq_true rfl) MC ?_;unfold Tryz.f153;have h2:=pS hs;have t16:=hI s;have pt:=fun L=>Mt L;simp-implicitDefEqProofs (disch:=(first|omega|decide)) only[go_sem,↓reduceIte,seval,h2,t16,List.length_map,List.append_nil]
 have Vy:=hs.2;have hu:=fun m (L:List (List aC))=>mN (m:=m) L;have hle:=fun m (L:List (List aC))=>mM (hu m L)
 refine ao [0,1,4,5,10,11] (ι:={p:Nat×List (List aC)//p.1<=l.length/\B0 s l p.1 p.2}) (fun p=>[(12,.int .i64 p.1.1)]) (fun p=>[(0,.box (p.1.2.map eS))]) (fun p=>l.length-p.1.1) ⟨(0,g_ s),Nat.zero_le _,Pu s l⟩ (Nat.zero_le _) ?_ ?_
 · simp-implicitDefEqProofs (disch:=(first|omega|decide)) only[go_sem,↓reduceIte,seval,hle]
 · rintro⟨⟨k,L⟩,hk,hg⟩
   simp only at hk hg⊢;have tl:(L.map eS).length=16:=by rw[List.length_map,hg.1]
   by_cases aw:k<l.length
   · have ae:(k:Int)<(l.length:Int):=by omega
     have e1:=RO aw;have hskip:=Pv hg aw;have dv:=fun hr x hx=>Pw (x:=x) hg aw hr hx;generalize hv:l[k]=v at*;obtain⟨r,c⟩:=v;simp only at hskip dv;cases h1:aL ⟨r,c⟩with
     |false=>
      simp-implicitDefEqProofs (disch:=(first|omega|decide)) only[go_sem,↓reduceIte,seval,ae,e1,h1,hle,wrap_i64,List.length_map]
      exact⟨⟨(k+1,L),aw,hskip h1⟩,⟨by simp,hle _ _⟩,by show l.length-(k+1)<l.length-k;omega⟩
     |true=>
      have hr:1<=r/\r<=16/\1<=c/\c<=1099511627776:=by simpa[aL,and_assoc]using h1
      obtain⟨x,hx,Z0,_⟩:=hg.2 (r-1).toNat (by omega)
      have g1:=uv hx;have hA:=Il (a:=x) (b:=[c]) ⟨by omega,by simp⟩
      simp only[List.map_cons,List.map_nil]at hA;have c1:(0:Int)<=r-1:=by omega
      have c2:r-1<16:=by omega
      have sp:dY (L.map eS) ((r-1).toNat*1) [.ad ((cw (ah (x++lN [c]))).map aC.enc)]=(L.set (r-1).toNat (cw (ah (x++lN [c])))).map eS:=by rw[Nat.mul_one,BT (by rw[tl];omega),List.map_set];rfl
      simp-implicitDefEqProofs (disch:=(first|omega|decide)) only[go_sem,↓reduceIte,seval,ae,e1,h1,c1,c2,g1,hA,sp,tl,hle,wrap_i64,List.length_map]
      exact⟨by omega,⟨(k+1,_),aw,dv h1 x hx⟩,⟨by simp,hle _ _⟩,by show l.length-(k+1)<l.length-k;omega⟩
   · have ae: ¬(k:Int)<(l.length:Int):=by omega
     obtain rfl:k=l.length:=by omega
     have tk:=BV hg.1;have bR:=xT (L:=L) hg.1 (fun x hx=>by obtain⟨i,hi,rfl⟩:=List.mem_iff_getElem.1 hx;rw[hg.1]at hi;obtain⟨y,hy,hyl,_⟩:=hg.2 i hi;rw[List.getElem?_eq_getElem (by rw[hg.1];exact hi)]at hy;rw[Option.some.inj hy];omega)
     rw[T_ hg]at bR;have pt:=Mt L;have hvt:=fun H=>BU (H:=H) L;have qx:=fun n=>IB (n:=n) L;simp-implicitDefEqProofs (disch:=(first|omega|decide)) only[go_sem,↓reduceIte,seval,ae,tl,tk,bR,pt,hvt,qx,List.length_map]
end Go.Proofs.YtihgnfmoafjakaaGreat
namespace Go.Proofs.YtihgnfmoafjakaaGreat
open Go.bJ
set_option linter.unusedSimpArgs false
set_option linter.unusedVariables false
set_option maxRecDepth 20000
set_option maxHeartbeats 8000000
def Xy:aj:=Mz
theorem abj:ag Tryz.prog Xy:=zI
@[go_sem] theorem L14a_old{g:FuncId}{xs:List A}:Xy.f g xs=Mz.f g xs:=rfl
def Py:aj:=Xy.add 145 (entry (fun(v:List ab×List ab)=>[.ad (v.1.map ab.enc),.ad (v.2.map ab.enc)]) (fun v=>aG v.1/\aG v.2/\aG (dF v.1)/\aG (dF v.2)) (fun v=> .bool (bQ (dF v.1) (dF v.2))))
theorem abk:ag Tryz.prog Py:=abj.bG Tryz.func145 (by kernel_rfl) (by kernel_rfl) fun v h=>MA v.1 v.2 h.1 h.2.1 h.2.2.1 h.2.2.2
@[go_sem] theorem L14b_old{g:FuncId}{xs:List A}(h:g≠145):Py.f g xs=Xy.f g xs:=aj.ak h
theorem B4(v:List ab×List ab)(h:aG v.1/\aG v.2/\aG (dF v.1)/\aG (dF v.2)):Py.f 145 [.ad (v.1.map ab.enc),.ad (v.2.map ab.enc)]=some (.bool (bQ (dF v.1) (dF v.2))):=aj.an (Γ:=Xy) (fun i j h=>by simpa[Prod.ext_iff,and_assoc]using h) v h
def Ua:aj:=Py.add 146 (entry (fun(v:List ab×Int)=>[.ad (v.1.map ab.enc),.int .i64 v.2]) (fun v=>aG v.1) (fun v=> .int .i64 (if bI v.2=true then eI (cw (ah (aB v.1 v.2)))else 0)))
theorem abl:ag Tryz.prog Ua:=abk.bG Tryz.func146 (by kernel_rfl) (by kernel_rfl) fun v h=>MB v.1 v.2 h
@[go_sem] theorem L14c_old{g:FuncId}{xs:List A}(h:g≠146):Ua.f g xs=Py.f g xs:=aj.ak h
theorem B5(v:List ab×Int)(h:aG v.1):Ua.f 146 [.ad (v.1.map ab.enc),.int .i64 v.2]=some (.int .i64 (if bI v.2=true then eI (cw (ah (aB v.1 v.2)))else 0)):=aj.an (Γ:=Py) (fun i j h=>by simpa[Prod.ext_iff,and_assoc]using h) v h
def Xz:aj:=Ua
theorem abm:ag Tryz.prog Xz:=abl
@[go_sem] theorem L14d_old{g:FuncId}{xs:List A}:Xz.f g xs=Ua.f g xs:=rfl
def Pz:aj:=Xz.add 153 (entry (fun(v:List ab×List bS)=>[.ad (v.1.map ab.enc),.ad (v.2.map bS.enc)]) (fun v=>aG v.1/\bj v.1+v.2.length<=1000000) (fun v=> .ad ((dF (v.1++cG v.2)).map ab.enc)))
theorem abn:ag Tryz.prog Pz:=abm.bG Tryz.func153 (by kernel_rfl) (by kernel_rfl) fun v h=>Px v.1 v.2 h.1 h.2
@[go_sem] theorem L14e_old{g:FuncId}{xs:List A}(h:g≠153):Pz.f g xs=Xz.f g xs:=aj.ak h
theorem Eu(v:List ab×List bS)(h:aG v.1/\bj v.1+v.2.length<=1000000):Pz.f 153 [.ad (v.1.map ab.enc),.ad (v.2.map bS.enc)]=some (.ad ((dF (v.1++cG v.2)).map ab.enc)):=aj.an (Γ:=Xz) (fun i j h=>by simpa[Prod.ext_iff,and_assoc]using h) v h
def Ub:aj:=Pz.add 151 (entry (fun(v:List ab×List bS)=>[.ad (v.1.map ab.enc),.ad (v.2.map bS.enc)]) (fun v=>lz v.1/\bj v.1+v.2.length<=50000) (fun v=> .ad ((dF (v.1++cG v.2)).map ab.enc)))
theorem abo:ag Tryz.prog Ub:=abn.bG Tryz.func151 (by kernel_rfl) (by kernel_rfl) fun v h=>My v.1 v.2 h.1 h.2
@[go_sem] theorem L14f_old{g:FuncId}{xs:List A}(h:g≠151):Ub.f g xs=Pz.f g xs:=aj.ak h
theorem B6(v:List ab×List bS)(h:lz v.1/\bj v.1+v.2.length<=50000):Ub.f 151 [.ad (v.1.map ab.enc),.ad (v.2.map bS.enc)]=some (.ad ((dF (v.1++cG v.2)).map ab.enc)):=aj.an (Γ:=Pz) (fun i j h=>by simpa[Prod.ext_iff,and_assoc]using h) v h
theorem IJ{a b:List ab}(ha:aG a)(hb:aG b)(Hz:aG (dF a))(o9:aG (dF b)):Py.f 145 [.ad (a.map ab.enc),.ad (b.map ab.enc)]=some (.bool (bQ (dF a) (dF b))):=B4 (a,b) ⟨ha,hb,Hz,o9⟩
theorem l_Most{s:List ab}{n:Int}(h:aG s):Ua.f 146 [.ad (s.map ab.enc),.int .i64 n]=some (.int .i64 (if bI n=true then eI (cw (ah (aB s n)))else 0)):=B5 (s,n) h
theorem l_Add{s:List ab}{l:List bS}(h:aG s)(h':bj s+l.length<=1000000):Pz.f 153 [.ad (s.map ab.enc),.ad (l.map bS.enc)]=some (.ad ((dF (s++cG l)).map ab.enc)):=Eu (s,l) ⟨h,h'⟩
theorem l_rAdd{s:List ab}{l:List bS}(h:lz s)(h':bj s+l.length<=50000):Ub.f 151 [.ad (s.map ab.enc),.ad (l.map bS.enc)]=some (.ad ((dF (s++cG l)).map ab.enc)):=B6 (s,l) ⟨h,h'⟩
theorem MD{x:A}(h:fits (.rows [.int .i64,.rows [.int .i64,.int .i64]]) x): ∃l:List ab,x= .ad (l.map ab.enc)/\l.length<=maxLen/\ ∀k∈l,k.rs.length<=maxLen:=by
 simp only[fits]at h;obtain⟨es,rfl,hl,he⟩:=h;obtain⟨l,rfl,hk⟩:=qD (f:=ab.enc) (P:=fun k=>k.rs.length<=maxLen) (es:=es) (fun e hx=>by obtain⟨ys,rfl,hy⟩:=he e hx;simp only[cJ]at hy;obtain⟨y,zs,rfl,h1,y2,zs2,rfl,h2,rfl⟩:=hy;simp only[fits]at h1;obtain⟨n,rfl,_⟩:=h1;obtain⟨rs,rfl,hr⟩:=TZ h2;exact⟨⟨n,rs⟩,rfl,hr⟩)
 exact⟨l,rfl,by simpa using hl,hk⟩
theorem sD{s:List ab}{m:Nat}(h:l0 s m=false):s.length<=m/\bj s<=m*m:=by
 unfold l0 at h;rw[Bool.or_eq_false_iff]at h;obtain⟨h1,h2⟩:=h;have mb:s.length<=m:=by have:=of_decide_eq_false h1;omega
 refine⟨mb, ?_⟩
 have h3: ∀k∈s,k.rs.length<=m:=fun k hk=>by rw[List.any_eq_false]at h2;have:=h2 k hk;simp at this;omega
 have h4: ∀l:List ab,(∀k∈l,k.rs.length<=m)->bj l<=l.length*m:=fun l=>by
  induction l with
  |nil=>intro _;simp[bj]
  |cons k l ih=>
   intro hk;have a:=ih fun q hq=>hk q (by simp[hq])
   have b:=hk k (by simp)
   have e:bj (k::l)=k.rs.length+bj l:=by unfold bj;rw[List.map_cons,List.sum_cons]
   rw[e,List.length_cons,Nat.succ_mul];omega
 exact Nat.le_trans (h4 s h3) (Nat.mul_le_mul_right m mb)
theorem Uc(s:List ab):aZ (dF s)=true:=Bq fun n=>f_ _
def XA:aj:=Ub
theorem abp:ag Tryz.prog XA:=abo
@[go_sem] theorem L14g_old{g:FuncId}{xs:List A}:XA.f g xs=Ub.f g xs:=rfl
end Go.Proofs.YtihgnfmoafjakaaGreat
namespace Go.Proofs.YtihgnfmoafjakaaGreat
open Go.bJ
set_option linter.unusedSimpArgs false
set_option linter.unusedVariables false
set_option maxRecDepth 20000
set_option maxHeartbeats 8000000
def hk(s:List ab)(n c:Int):Bool:=ah (aB s n) c
theorem hk_op{op:Int}{a b:List ab}{n:Int}(h:bI n=true)(c:Int):hk (N6 op a b) n c=Vj op (hk a n c) (hk b n c):=by unfold hk N6;rw[qK,if_pos h,mJ (WT _ _ _)];rfl
theorem RP{s:List ab}{n:Int}(h:bI n=true)(c:Int):hk (dF s) n c=hk s n c:=by unfold hk dF;rw[qK,if_pos h,mJ (zG _)]
theorem GK{p:Int->Bool}(h: ∀c,p c=false):cw p=[]:=(qJ (l:=[]) rfl fun c=>by rw[h];rfl).symm
theorem RQ{t:Int->List aC}(h: ∀n,bI n=true->t n=[]):lM t=[]:=by
 have e:lM t=lM (aB []):=iv fun n hn=>by rw[h n hn];rfl
 rw[e];exact Br (s:=[]) rfl
theorem B7{a b:List ab}:dF a=dF b ↔∀n,bI n=true-> ∀c,hk a n c=hk b n c:=by
 constructor
 · intro h n hn c
   rw[<-RP hn,<-RP (s:=b) hn,h]
 · intro h
   exact iv fun n hn=>by have e:ah (aB a n)=ah (aB b n):=funext fun c=>h n hn c;simp only[e]
end Go.Proofs.YtihgnfmoafjakaaGreat
namespace Go.Proofs.YtihgnfmoafjakaaGreat
open Go.bJ
set_option linter.unusedSimpArgs false
set_option linter.unusedVariables false
set_option maxRecDepth 20000
set_option maxHeartbeats 8000000
end Go.Proofs.YtihgnfmoafjakaaGreat
namespace Go.Proofs.YtihgnfmoafjakaaGreat
open Go.bJ
set_option linter.unusedSimpArgs false
set_option linter.unusedVariables false
set_option maxRecDepth 20000
set_option maxHeartbeats 4000000
def dp(l:List ax):Prop:= ∀r∈l,r.ok
theorem dw{l:List ax}{k:Nat}(h:k<l.length):(l.map ax.enc)[k]? =some (.agg [.str l[k].lo,.str l[k].hi,.bool l[k].op]):=by rw[List.getElem?_map,List.getElem?_eq_getElem h];rfl
theorem ja{l:List ax}{k:Nat}(h:dp l)(hk:k<l.length):l[k].lo.length<=9223372036854775807/\l[k].hi.length<=9223372036854775807:=h _ (List.getElem_mem hk)
@[simp] theorem map_rng_inj{l m:List ax}:(l.map ax.enc=m.map ax.enc)=(l=m):=map_inj ax.d_
def l4(l:List ax)(k:Nat):Option ax:=if k=0 then none else l[k-1]?
theorem B8{l:List ax}{k:Nat}(h:k<l.length):l4 l (k+1)=some l[k]:=by unfold l4;rw[if_neg (by omega),show k+1-1=k by omega,List.getElem?_eq_getElem h]
theorem yE:ai Tryz.prog tQ Tryz.f109.ntmps (Tryz.f109.body.getD .skip)=true:=by kernel_rfl
theorem pU(l:List ax)(hl:l.length<=4611686018427387904)(fF:dp l):az Tryz.prog 109 [.ad (l.map ax.enc)] (· = .bool (aO l)):=by
 refine aa ff mixed Tryz.func109 rfl (Nat.le_of_ble_eq_true rfl) yE ?_;unfold Tryz.f109;simp-implicitDefEqProofs (disch:=(first|omega|decide)) only[go_sem,↓reduceIte,seval,List.length_map]
 refine ao [0,5,6] (ι:={k:Nat//k<=l.length/\aO l=nG (l4 l k) (l.drop k)}) (fun p=>[(7,.int .i64 p.1),(2,.bool false)]) (fun _=>[]) (fun p=>l.length-p.1) ⟨0,by omega,rfl⟩ (Nat.zero_le _) ?_ ?_
 · simp-implicitDefEqProofs (disch:=(first|omega|decide)) only[go_sem,↓reduceIte,seval]
 · rintro⟨k,hk,hd⟩
   simp only;by_cases aw:k<l.length
   · have ae:(k:Int)<(l.length:Int):=by omega
     have e1:=dw aw;have lA:=ja fF aw;have Bk:=B8 aw;rw[List.drop_eq_getElem_cons aw]at hd;simp only[nG]at hd;have next:aO l=nG (some l[k]) (l.drop (k+1))-> ∃j:{k:Nat//k<=l.length/\aO l=nG (l4 l k) (l.drop k)},(k:Int)+1=(j.1:Int)/\l.length-j.1<l.length-k:=fun h=>⟨⟨k+1,aw,by rw[Bk];exact h⟩,by simp,by show l.length-(k+1)<l.length-k;omega⟩
     generalize hx:l[k]=x at*;obtain⟨lo,hi,op⟩:=x;simp only at lA;cases h1:ay ⟨lo,hi,op⟩with
     |false=>
      have hh:aO l=false:=by rw[hd,h1];rfl
      simp-implicitDefEqProofs (disch:=(first|omega|decide)) only[go_sem,↓reduceIte,seval,ae,e1,lA,h1,hh,wrap_i64,List.length_map]
     |true=>
      by_cases h0:0<k
      · have D7:(0:Int)<(k:Int):=by omega
        have ke:k-1<l.length:=by omega
        have e0:=dw ke;have ok0:=ja fF ke;have hpt:l4 l k=some l[k-1]:=by unfold l4;rw[if_neg (by omega),List.getElem?_eq_getElem ke]
        have t0:((k:Int)-1).toNat=k-1:=by omega
        have b0:(0:Int)<=(k:Int)-1:=by omega
        have b1:(k:Int)-1<(l.length:Int):=by omega
        rw[hpt]at hd;generalize hy:l[k-1]=y at*;obtain⟨gm,eW,lW⟩:=y;simp only at ok0 hd;cases h2:lW with
        |true=>
          subst h2;have hh:aO l=false:=by rw[hd];simp
          simp-implicitDefEqProofs (disch:=(first|omega|decide)) only[go_sem,↓reduceIte,seval,ae,e1,e0,ok0,lA,h1,D7,t0,b0,b1,hh,wrap_i64,List.length_map]
        |false=>
          subst h2;cases h3:aQ eW lo with
          |false=>
           have hh:aO l=false:=by rw[hd,h3];simp
           simp-implicitDefEqProofs (disch:=(first|omega|decide)) only[go_sem,↓reduceIte,seval,ae,e1,e0,ok0,lA,h1,h3,D7,t0,b0,b1,hh,wrap_i64,List.length_map]
          |true=>
           simp-implicitDefEqProofs (disch:=(first|omega|decide)) only[go_sem,↓reduceIte,seval,ae,e1,e0,ok0,lA,h1,h3,D7,t0,b0,b1,wrap_i64,List.length_map]
           exact next (by rw[hd,h1,h3];simp)
      · have D7: ¬(0:Int)<(k:Int):=by omega
        simp-implicitDefEqProofs (disch:=(first|omega|decide)) only[go_sem,↓reduceIte,seval,ae,e1,lA,h1,D7,wrap_i64,List.length_map]
        have ye:k=0:=by omega
        exact next (by rw[hd,h1];simp[l4,ye])
   · have ae: ¬(k:Int)<(l.length:Int):=by omega
     have hh:aO l=true:=by rw[hd,List.drop_of_length_le (by omega)];cases l4 l k<;>rfl
     simp-implicitDefEqProofs (disch:=(first|omega|decide)) only[go_sem,↓reduceIte,seval,ae,hh,List.length_map]
theorem B9:ai Tryz.prog tQ Tryz.f76.ntmps (Tryz.f76.body.getD .skip)=true:=by kernel_rfl
theorem Ev(l:List ax)(hl:l.length<=4611686018427387904)(fF:dp l):az Tryz.prog 76 [.ad (l.map ax.enc)] (· = .bool (aO l)):=by
 refine aa ff mixed Tryz.func76 rfl (Nat.le_of_ble_eq_true rfl) B9 ?_;unfold Tryz.f76;simp-implicitDefEqProofs (disch:=(first|omega|decide)) only[go_sem,↓reduceIte,seval,List.length_map]
 refine ao [0] (ι:={k:Nat//k<=l.length/\aO l=nG (l4 l k) (l.drop k)}) (fun p=>[(3,.int .i64 p.1),(2,.bool false)]) (fun _=>[]) (fun p=>l.length-p.1) ⟨0,by omega,rfl⟩ (Nat.zero_le _) ?_ ?_
 · simp-implicitDefEqProofs (disch:=(first|omega|decide)) only[go_sem,↓reduceIte,seval]
 · rintro⟨k,hk,hd⟩
   simp only;by_cases aw:k<l.length
   · have ae:(k:Int)<(l.length:Int):=by omega
     have e1:=dw aw;have lA:=ja fF aw;have Bk:=B8 aw;rw[List.drop_eq_getElem_cons aw]at hd;simp only[nG]at hd;have next:aO l=nG (some l[k]) (l.drop (k+1))-> ∃j:{k:Nat//k<=l.length/\aO l=nG (l4 l k) (l.drop k)},(k:Int)+1=(j.1:Int)/\l.length-j.1<l.length-k:=fun h=>⟨⟨k+1,aw,by rw[Bk];exact h⟩,by simp,by show l.length-(k+1)<l.length-k;omega⟩
     generalize hx:l[k]=x at*;obtain⟨lo,hi,op⟩:=x;simp only at lA;cases h1:ay ⟨lo,hi,op⟩with
     |false=>
      have hh:aO l=false:=by rw[hd,h1];rfl
      simp-implicitDefEqProofs (disch:=(first|omega|decide)) only[go_sem,↓reduceIte,seval,ae,e1,lA,h1,hh,wrap_i64,List.length_map]
     |true=>
      by_cases h0:0<k
      · have D7:(0:Int)<(k:Int):=by omega
        have ke:k-1<l.length:=by omega
        have e0:=dw ke;have ok0:=ja fF ke;have hpt:l4 l k=some l[k-1]:=by unfold l4;rw[if_neg (by omega),List.getElem?_eq_getElem ke]
        have t0:((k:Int)-1).toNat=k-1:=by omega
        have b0:(0:Int)<=(k:Int)-1:=by omega
        have b1:(k:Int)-1<(l.length:Int):=by omega
        rw[hpt]at hd;generalize hy:l[k-1]=y at*;obtain⟨gm,eW,lW⟩:=y;simp only at ok0 hd;cases h2:lW with
        |true=>
          subst h2;have hh:aO l=false:=by rw[hd];simp
          simp-implicitDefEqProofs (disch:=(first|omega|decide)) only[go_sem,↓reduceIte,seval,ae,e1,e0,ok0,lA,h1,D7,t0,b0,b1,hh,wrap_i64,List.length_map]
        |false=>
          subst h2;cases h3:aQ eW lo with
          |false=>
           have hh:aO l=false:=by rw[hd,h3];simp
           simp-implicitDefEqProofs (disch:=(first|omega|decide)) only[go_sem,↓reduceIte,seval,ae,e1,e0,ok0,lA,h1,h3,D7,t0,b0,b1,hh,wrap_i64,List.length_map]
          |true=>
           simp-implicitDefEqProofs (disch:=(first|omega|decide)) only[go_sem,↓reduceIte,seval,ae,e1,e0,ok0,lA,h1,h3,D7,t0,b0,b1,wrap_i64,List.length_map]
           exact next (by rw[hd,h1,h3];simp)
      · have D7: ¬(0:Int)<(k:Int):=by omega
        simp-implicitDefEqProofs (disch:=(first|omega|decide)) only[go_sem,↓reduceIte,seval,ae,e1,lA,h1,D7,wrap_i64,List.length_map]
        have ye:k=0:=by omega
        exact next (by rw[hd,h1];simp[l4,ye])
   · have ae: ¬(k:Int)<(l.length:Int):=by omega
     have hh:aO l=true:=by rw[hd,List.drop_of_length_le (by omega)];cases l4 l k<;>rfl
     simp-implicitDefEqProofs (disch:=(first|omega|decide)) only[go_sem,↓reduceIte,seval,ae,hh,List.length_map]
theorem IK:ai Tryz.prog tQ Tryz.f36.ntmps (Tryz.f36.body.getD .skip)=true:=by kernel_rfl
theorem ME(l:List ax)(s:List UInt8)(hl:l.length<=4611686018427387904)(fF:dp l)(hs:s.length<=9223372036854775807):az Tryz.prog 36 [.ad (l.map ax.enc),.str s] (· = .bool (ar l s)):=by
 refine aa ff mixed Tryz.func36 rfl (Nat.le_of_ble_eq_true rfl) IK ?_;unfold Tryz.f36;simp-implicitDefEqProofs (disch:=(first|omega|decide)) only[go_sem,↓reduceIte,seval,List.length_map]
 refine ao [0,1] (ι:={k:Nat//k<=l.length/\ar l s=ar (l.drop k) s}) (fun p=>[(5,.int .i64 p.1),(4,.bool false)]) (fun _=>[]) (fun p=>l.length-p.1) ⟨0,by omega,rfl⟩ (Nat.zero_le _) ?_ ?_
 · simp-implicitDefEqProofs (disch:=(first|omega|decide)) only[go_sem,↓reduceIte,seval]
 · rintro⟨k,hk,hd⟩
   simp only;by_cases aw:k<l.length
   · have ae:(k:Int)<(l.length:Int):=by omega
     have e1:=dw aw;have lA:=ja fF aw;rw[List.drop_eq_getElem_cons aw,il]at hd;generalize hx:l[k]=x at*;obtain⟨lo,hi,op⟩:=x;simp only at lA;cases h1:cg ⟨lo,hi,op⟩ s with
     |true=>
      have hh:ar l s=true:=by rw[hd,h1];rfl
      simp-implicitDefEqProofs (disch:=(first|omega|decide)) only[go_sem,↓reduceIte,seval,ae,e1,lA,h1,hh,wrap_i64,List.length_map]
     |false=>
      simp-implicitDefEqProofs (disch:=(first|omega|decide)) only[go_sem,↓reduceIte,seval,ae,e1,lA,h1,wrap_i64,List.length_map]
      exact⟨⟨k+1,aw,by rw[hd,h1];rfl⟩,by simp,by show l.length-(k+1)<l.length-k;omega⟩
   · have ae: ¬(k:Int)<(l.length:Int):=by omega
     have hh:ar l s=false:=by rw[hd,List.drop_of_length_le (by omega)];rfl
     simp-implicitDefEqProofs (disch:=(first|omega|decide)) only[go_sem,↓reduceIte,seval,ae,hh,List.length_map]
def fL(l:List ax)(m:Int):Bool:=decide (m<(l.length:Int))||l.any fun r=>decide (40<r.lo.length)||decide (40<r.hi.length)
theorem rL:ai Tryz.prog tQ Tryz.f66.ntmps (Tryz.f66.body.getD .skip)=true:=by kernel_rfl
theorem IL(l:List ax)(m:Int)(hl:l.length<=4611686018427387904):az Tryz.prog 66 [.ad (l.map ax.enc),.int .i64 m] (· = .bool (fL l m)):=by
 refine aa ff mixed Tryz.func66 rfl (Nat.le_of_ble_eq_true rfl) rL ?_;unfold Tryz.f66;by_cases h0:m<(l.length:Int)
 · have hh:fL l m=true:=by simp[fL,h0]
   simp-implicitDefEqProofs (disch:=(first|omega|decide)) only[go_sem,↓reduceIte,seval,h0,hh,List.length_map]
 · have hh:fL l m=l.any fun r=>decide (40<r.lo.length)||decide (40<r.hi.length):=by simp[fL,h0]
   simp-implicitDefEqProofs (disch:=(first|omega|decide)) only[go_sem,↓reduceIte,seval,h0,List.length_map]
   rw[hh]
   refine ao [0] (ι:={k:Nat//k<=l.length/\(l.any fun r=>decide (40<r.lo.length)||decide (40<r.hi.length))=((l.drop k).any fun r=>decide (40<r.lo.length)||decide (40<r.hi.length))}) (fun p=>[(5,.int .i64 p.1),(4,.bool false)]) (fun _=>[]) (fun p=>l.length-p.1) ⟨0,by omega,rfl⟩ (Nat.zero_le _) ?_ ?_
   · simp-implicitDefEqProofs (disch:=(first|omega|decide)) only[go_sem,↓reduceIte,seval]
   · rintro⟨k,hk,hd⟩
     simp only;by_cases aw:k<l.length
     · have ae:(k:Int)<(l.length:Int):=by omega
       have e1:=dw aw;rw[List.drop_eq_getElem_cons aw,List.any_cons]at hd;generalize hx:l[k]=x at*;obtain⟨lo,hi,op⟩:=x;simp only at hd;by_cases h1:40<lo.length
       · have mb:(40:Int)<(lo.length:Int):=by omega
         rw[decide_eq_true h1,Bool.true_or,Bool.true_or]at hd;simp-implicitDefEqProofs (disch:=(first|omega|decide)) only[go_sem,↓reduceIte,seval,ae,e1,mb,hd,wrap_i64,List.length_map]
       · have mb: ¬(40:Int)<(lo.length:Int):=by omega
         by_cases h2:40<hi.length
         · have mB:(40:Int)<(hi.length:Int):=by omega
           rw[decide_eq_true h2,Bool.or_true,Bool.true_or]at hd;simp-implicitDefEqProofs (disch:=(first|omega|decide)) only[go_sem,↓reduceIte,seval,ae,e1,mb,mB,hd,wrap_i64,List.length_map]
         · have mB: ¬(40:Int)<(hi.length:Int):=by omega
           rw[decide_eq_false h1,decide_eq_false h2,Bool.or_false,Bool.false_or]at hd;simp-implicitDefEqProofs (disch:=(first|omega|decide)) only[go_sem,↓reduceIte,seval,ae,e1,mb,mB,wrap_i64,List.length_map]
           exact⟨⟨k+1,aw,hd⟩,by simp,by show l.length-(k+1)<l.length-k;omega⟩
     · have ae: ¬(k:Int)<(l.length:Int):=by omega
       rw[List.drop_of_length_le (by omega)]at hd;simp-implicitDefEqProofs (disch:=(first|omega|decide)) only[go_sem,↓reduceIte,seval,ae,hd,List.length_map]
def jE(a b:List ax):Bool:=decide (a=b)
theorem Ew:ai Tryz.prog tQ Tryz.f68.ntmps (Tryz.f68.body.getD .skip)=true:=by kernel_rfl
theorem IM(a b:List ax)(hl:a.length<=4611686018427387904)(hb:b.length<=4611686018427387904):az Tryz.prog 68 [.ad (a.map ax.enc),.ad (b.map ax.enc)] (· = .bool (jE a b)):=by
 refine aa ff mixed Tryz.func68 rfl (Nat.le_of_ble_eq_true rfl) Ew ?_;unfold Tryz.f68;cases h0:((a.length:Int)==(b.length:Int))with
 |false=>
  have bU:a.length≠b.length:=by
   have:(a.length:Int)≠(b.length:Int):=by simpa using h0
   omega
  have hh:jE a b=false:=by unfold jE;simp;intro e;exact bU (by rw[e])
  simp-implicitDefEqProofs (disch:=(first|omega|decide)) only[go_sem,↓reduceIte,seval,h0,hh,List.length_map]
 |true=>
  have he:a.length=b.length:=by
   have:(a.length:Int)=(b.length:Int):=by simpa using h0
   omega
  simp-implicitDefEqProofs (disch:=(first|omega|decide)) only[go_sem,↓reduceIte,seval,h0,List.length_map]
  refine ao [0,1] (ι:={k:Nat//k<=a.length/\a.take k=b.take k}) (fun p=>[(5,.int .i64 p.1)]) (fun _=>[]) (fun p=>a.length-p.1) ⟨0,by omega,rfl⟩ (Nat.zero_le _) ?_ ?_
  · simp-implicitDefEqProofs (disch:=(first|omega|decide)) only[go_sem,↓reduceIte,seval]
  · rintro⟨k,hk,hd⟩
    simp only;by_cases aw:k<a.length
    · have ae:(k:Int)<(a.length:Int):=by omega
      have kh:(k:Int)<(b.length:Int):=by omega
      have gQ:k<b.length:=by omega
      have e1:=dw aw;have e2:=dw gQ;have t1:=(List.take_append_getElem aw).symm;have t2:=(List.take_append_getElem gQ).symm;have qF:a[k]≠b[k]->jE a b=false:=fun h=>by unfold jE;simp;intro e;subst e;exact h rfl
      generalize hx:a[k]=x at*;generalize hy:b[k]=y at*;obtain⟨f,t,o⟩:=x;obtain⟨f',t',o'⟩:=y;cases h1:f==f' with
      |false=>
       have hh:=qF (by have:f≠f':=by simpa using h1
                       simp[this])
       simp-implicitDefEqProofs (disch:=(first|omega|decide)) only[go_sem,↓reduceIte,seval,ae,kh,e1,e2,h1,hh,List.length_map]
      |true=>
       cases h2:t==t' with
       |false=>
        have hh:=qF (by have:t≠t':=by simpa using h2
                        simp[this])
        simp-implicitDefEqProofs (disch:=(first|omega|decide)) only[go_sem,↓reduceIte,seval,ae,kh,e1,e2,h1,h2,hh,List.length_map]
       |true=>
        cases h3:o==o' with
        |false=>
           have hh:=qF (by have:o≠o':=by simpa using h3
                           simp[this])
           simp-implicitDefEqProofs (disch:=(first|omega|decide)) only[go_sem,↓reduceIte,seval,ae,kh,e1,e2,h1,h2,h3,hh,List.length_map]
        |true=>
           obtain rfl:f=f':=by simpa using h1
           obtain rfl:t=t':=by simpa using h2
           obtain rfl:o=o':=by simpa using h3
           simp-implicitDefEqProofs (disch:=(first|omega|decide)) only[go_sem,↓reduceIte,seval,ae,kh,e1,e2,h1,h2,h3,wrap_i64,List.length_map]
           exact⟨⟨k+1,aw,by rw[t1,t2,hd]⟩,by simp,by show a.length-(k+1)<a.length-k;omega⟩
    · have ae: ¬(k:Int)<(a.length:Int):=by omega
      have hh:jE a b=true:=by rw[List.take_of_length_le (by omega),List.take_of_length_le (by omega)]at hd;simp[jE,hd]
      simp-implicitDefEqProofs (disch:=(first|omega|decide)) only[go_sem,↓reduceIte,seval,ae,hh,List.length_map]
end Go.Proofs.YtihgnfmoafjakaaGreat
namespace Go.Proofs.YtihgnfmoafjakaaGreat
set_option linter.unusedSimpArgs false
set_option linter.unusedVariables false
def aT{α:Type} [DecidableEq α]:List α->List α
 | []=>[]
 | [x]=>[x]
 |x::y::l=>if x=y then aT (y::l)else x::aT (y::l)
section
variable{α:Type} [DecidableEq α]
theorem B_: ∀(l:List α) (x y:α),aT (l++[x,y])=if x=y then aT (l++[x])else aT (l++[x])++[y]
 | [],x,y=>by by_cases h:x=y<;>simp[aT,h]
 | [z],x,y=>by
  by_cases h:x=y
  · by_cases h2:z=x<;>simp[aT,h,h2]
  · by_cases h2:z=x<;>simp[aT,h,h2]
 |z::w::l,x,y=>by
  have ih:=B_ (w::l) x y;simp only[List.cons_append,aT]at ih⊢;by_cases h2:z=w
  · rw[if_pos h2,if_pos h2];exact ih
  · rw[if_neg h2,if_neg h2,ih]
    by_cases h:x=y<;>simp[h]
theorem qP: ∀l:List α,(aT l).length<=l.length
 | []=>by simp[aT]
 | [x]=>by simp[aT]
 |x::y::l=>by
  have:=qP (y::l)
  simp only[aT]
  split<;>simp at* <;>omega
theorem kM: ∀{l:List α} {z:α},z∈aT l ↔ z∈l
 | [],z=>by simp[aT]
 | [x],z=>by simp[aT]
 |x::y::l,z=>by
  have ih:= @kM (y::l) z;simp only[aT]
  split
  · rename_i h;subst h;rw[ih];simp
  · rw[List.mem_cons,ih,List.mem_cons (l:=y::l)]
theorem GL: ∀l:List α,(aT l).Sublist l
 | []=>by simp[aT]
 | [x]=>by simp[aT]
 |x::y::l=>by
  have ih:=GL (y::l)
  simp only[aT]
  split
  · exact ih.cons x
  · exact ih.cons_cons x
end
theorem nR{α:Type} [DecidableEq α]{l:List α}{k:Nat}(h1:1<=k)(h:k<l.length):aT (l.take (k+1))=if l[k-1]=l[k]then aT (l.take k)else aT (l.take k)++[l[k]]:=by
 have e1:l.take k=l.take (k-1)++[l[k-1]]:=by
  have:=List.take_append_getElem (l:=l) (i:=k-1) (by omega)
  rw[show k-1+1=k by omega]at this;exact this.symm
 have e2:l.take (k+1)=l.take (k-1)++[l[k-1],l[k]]:=by rw[<-List.take_append_getElem h,e1,List.append_assoc];rfl
 rw[e2,B_,<-e1]
end Go.Proofs.YtihgnfmoafjakaaGreat
namespace Go.Proofs
open Go.Shelf
def YtihgnfmoafjakaaGreat.MF:Go.Shelf.Ren:=⟨fun|6=>174|15=>203|14=>204|28=>224|29=>225|20=>226|21=>227|22=>228|23=>229|24=>230|25=>231|26=>232|27=>233|46=>252|47=>248|48=>249|49=>253|50=>254|57=>261|n=>n,fun|22=>121|24=>9|25=>149|3=>3|39=>199|0=>0|53=>46|55=>220|4=>4|46=>212|45=>211|50=>216|5=>5|9=>9|66=>234|70=>238|76=>246|77=>247|n=>n,fun|n=>n⟩
theorem YtihgnfmoafjakaaGreat.sortStr:Go.Proofs.SlLaysF.n6 Tryz.prog YtihgnfmoafjakaaGreat.MF:={
 mixed:=by kernel_rfl
 f6:=⟨Tryz.f174.name,by decide,Tryz.func174.trans (congrArg some (by kernel_rfl))⟩
 f14:=⟨Tryz.f204.name,by decide,Tryz.func204.trans (congrArg some (by kernel_rfl))⟩
 f15:=Tryz.func203.trans (congrArg some (by kernel_rfl))
 f20:=⟨Tryz.f226.name,by decide,Tryz.func226.trans (congrArg some (by kernel_rfl))⟩
 f21:=⟨Tryz.f227.name,by decide,Tryz.func227.trans (congrArg some (by kernel_rfl))⟩
 f22:=⟨Tryz.f228.name,by decide,Tryz.func228.trans (congrArg some (by kernel_rfl))⟩
 f23:=⟨Tryz.f229.name,by decide,Tryz.func229.trans (congrArg some (by kernel_rfl))⟩
 f24:=⟨Tryz.f230.name,by decide,Tryz.func230.trans (congrArg some (by kernel_rfl))⟩
 f25:=⟨Tryz.f231.name,by decide,Tryz.func231.trans (congrArg some (by kernel_rfl))⟩
 f26:=⟨Tryz.f232.name,by decide,Tryz.func232.trans (congrArg some (by kernel_rfl))⟩
 f27:=⟨Tryz.f233.name,by decide,Tryz.func233.trans (congrArg some (by kernel_rfl))⟩
 f28:=Tryz.func224.trans (congrArg some (by kernel_rfl))
 f29:=Tryz.func225.trans (congrArg some (by kernel_rfl))
 f46:=⟨Tryz.f252.name,by decide,Tryz.func252.trans (congrArg some (by kernel_rfl))⟩
 f47:=Tryz.func248.trans (congrArg some (by kernel_rfl))
 f48:=Tryz.func249.trans (congrArg some (by kernel_rfl))
 f49:=⟨Tryz.f253.name,by decide,Tryz.func253.trans (congrArg some (by kernel_rfl))⟩
 f50:=⟨Tryz.f254.name,by decide,Tryz.func254.trans (congrArg some (by kernel_rfl))⟩
 f57:=⟨Tryz.f261.name,by decide,Tryz.func261.trans (congrArg some (by kernel_rfl))⟩
 t0:=Tryz.underlying0
 a0:=Tryz.isAgg0
 z0:=Tryz.sizeOf0
 v0:=Tryz.zeroValue0
 t3:=Tryz.underlying3
 a3:=Tryz.isAgg3
 z3:=Tryz.sizeOf3
 v3:=Tryz.zeroValue3
 t4:=Tryz.underlying4
 a4:=Tryz.isAgg4
 z4:=Tryz.sizeOf4
 v4:=Tryz.zeroValue4
 t5:=Tryz.underlying5
 a5:=Tryz.isAgg5
 z5:=Tryz.sizeOf5
 v5:=Tryz.zeroValue5
 t9:=Tryz.underlying9
 a9:=Tryz.isAgg9
 z9:=Tryz.sizeOf9
 v9:=Tryz.zeroValue9
 t22:=Tryz.underlying121
 a22:=Tryz.isAgg121
 z22:=Tryz.sizeOf121
 v22:=Tryz.zeroValue121
 a24:=Tryz.isAgg9
 z24:=Tryz.sizeOf9
 t25:=Tryz.underlying149
 a25:=Tryz.isAgg149
 z25:=Tryz.sizeOf149
 v25:=Tryz.zeroValue149
 t39:=Tryz.underlying199
 a39:=Tryz.isAgg199
 z39:=Tryz.sizeOf199
 v39:=Tryz.zeroValue199
 t45:=Tryz.underlying211
 a45:=Tryz.isAgg211
 z45:=Tryz.sizeOf211
 v45:=Tryz.zeroValue211
 t46:=Tryz.underlying212
 a46:=Tryz.isAgg212
 z46:=Tryz.sizeOf212
 v46:=Tryz.zeroValue212
 t50:=Tryz.underlying216
 a50:=Tryz.isAgg216
 z50:=Tryz.sizeOf216
 v50:=Tryz.zeroValue216
 t53:=Tryz.underlying46
 a53:=Tryz.isAgg46
 z53:=Tryz.sizeOf46
 v53:=Tryz.zeroValue46
 t55:=Tryz.underlying220
 a55:=Tryz.isAgg220
 z55:=Tryz.sizeOf220
 v55:=Tryz.zeroValue220
 t66:=Tryz.underlying234
 a66:=Tryz.isAgg234
 z66:=Tryz.sizeOf234
 v66:=Tryz.zeroValue234
 t70:=Tryz.underlying238
 a70:=Tryz.isAgg238
 z70:=Tryz.sizeOf238
 v70:=Tryz.zeroValue238
 t76:=Tryz.underlying246
 a76:=Tryz.isAgg246
 z76:=Tryz.sizeOf246
 v76:=Tryz.zeroValue246
 t77:=Tryz.underlying247
 a77:=Tryz.isAgg247
 z77:=Tryz.sizeOf247
 v77:=Tryz.zeroValue247}
def YtihgnfmoafjakaaGreat.IN:Go.Shelf.Ren:=⟨fun|6=>174|15=>203|14=>204|28=>224|29=>225|20=>226|21=>227|22=>228|23=>229|24=>230|25=>231|26=>232|27=>233|46=>252|47=>248|48=>249|49=>253|50=>254|57=>261|n=>n,fun|22=>121|24=>9|25=>149|3=>3|39=>199|0=>0|53=>46|55=>220|4=>4|46=>212|45=>211|50=>216|5=>5|9=>9|66=>234|70=>238|76=>246|77=>247|n=>n,fun|n=>n⟩
theorem YtihgnfmoafjakaaGreat.XB:Go.Proofs.SlLaysF0.n6 Tryz.prog YtihgnfmoafjakaaGreat.IN:={
 mixed:=by kernel_rfl
 f6:=⟨Tryz.f174.name,by decide,Tryz.func174.trans (congrArg some (by kernel_rfl))⟩
 f14:=⟨Tryz.f204.name,by decide,Tryz.func204.trans (congrArg some (by kernel_rfl))⟩
 f15:=Tryz.func203.trans (congrArg some (by kernel_rfl))
 f20:=⟨Tryz.f226.name,by decide,Tryz.func226.trans (congrArg some (by kernel_rfl))⟩
 f21:=⟨Tryz.f227.name,by decide,Tryz.func227.trans (congrArg some (by kernel_rfl))⟩
 f22:=⟨Tryz.f228.name,by decide,Tryz.func228.trans (congrArg some (by kernel_rfl))⟩
 f23:=⟨Tryz.f229.name,by decide,Tryz.func229.trans (congrArg some (by kernel_rfl))⟩
 f24:=⟨Tryz.f230.name,by decide,Tryz.func230.trans (congrArg some (by kernel_rfl))⟩
 f25:=⟨Tryz.f231.name,by decide,Tryz.func231.trans (congrArg some (by kernel_rfl))⟩
 f26:=⟨Tryz.f232.name,by decide,Tryz.func232.trans (congrArg some (by kernel_rfl))⟩
 f27:=⟨Tryz.f233.name,by decide,Tryz.func233.trans (congrArg some (by kernel_rfl))⟩
 f28:=Tryz.func224.trans (congrArg some (by kernel_rfl))
 f29:=Tryz.func225.trans (congrArg some (by kernel_rfl))
 f46:=⟨Tryz.f252.name,by decide,Tryz.func252.trans (congrArg some (by kernel_rfl))⟩
 f47:=Tryz.func248.trans (congrArg some (by kernel_rfl))
 f48:=Tryz.func249.trans (congrArg some (by kernel_rfl))
 f49:=⟨Tryz.f253.name,by decide,Tryz.func253.trans (congrArg some (by kernel_rfl))⟩
 f50:=⟨Tryz.f254.name,by decide,Tryz.func254.trans (congrArg some (by kernel_rfl))⟩
 f57:=⟨Tryz.f261.name,by decide,Tryz.func261.trans (congrArg some (by kernel_rfl))⟩
 t0:=Tryz.underlying0
 a0:=Tryz.isAgg0
 z0:=Tryz.sizeOf0
 v0:=Tryz.zeroValue0
 t3:=Tryz.underlying3
 a3:=Tryz.isAgg3
 z3:=Tryz.sizeOf3
 v3:=Tryz.zeroValue3
 t4:=Tryz.underlying4
 a4:=Tryz.isAgg4
 z4:=Tryz.sizeOf4
 v4:=Tryz.zeroValue4
 t5:=Tryz.underlying5
 a5:=Tryz.isAgg5
 z5:=Tryz.sizeOf5
 v5:=Tryz.zeroValue5
 t9:=Tryz.underlying9
 a9:=Tryz.isAgg9
 z9:=Tryz.sizeOf9
 v9:=Tryz.zeroValue9
 t22:=Tryz.underlying121
 a22:=Tryz.isAgg121
 z22:=Tryz.sizeOf121
 v22:=Tryz.zeroValue121
 t25:=Tryz.underlying149
 a25:=Tryz.isAgg149
 z25:=Tryz.sizeOf149
 v25:=Tryz.zeroValue149
 t39:=Tryz.underlying199
 a39:=Tryz.isAgg199
 z39:=Tryz.sizeOf199
 v39:=Tryz.zeroValue199
 t45:=Tryz.underlying211
 a45:=Tryz.isAgg211
 z45:=Tryz.sizeOf211
 v45:=Tryz.zeroValue211
 t46:=Tryz.underlying212
 a46:=Tryz.isAgg212
 z46:=Tryz.sizeOf212
 v46:=Tryz.zeroValue212
 t50:=Tryz.underlying216
 a50:=Tryz.isAgg216
 z50:=Tryz.sizeOf216
 v50:=Tryz.zeroValue216
 t53:=Tryz.underlying46
 a53:=Tryz.isAgg46
 z53:=Tryz.sizeOf46
 v53:=Tryz.zeroValue46
 t55:=Tryz.underlying220
 a55:=Tryz.isAgg220
 z55:=Tryz.sizeOf220
 v55:=Tryz.zeroValue220
 t66:=Tryz.underlying234
 a66:=Tryz.isAgg234
 z66:=Tryz.sizeOf234
 v66:=Tryz.zeroValue234
 t70:=Tryz.underlying238
 a70:=Tryz.isAgg238
 z70:=Tryz.sizeOf238
 v70:=Tryz.zeroValue238
 t76:=Tryz.underlying246
 a76:=Tryz.isAgg246
 z76:=Tryz.sizeOf246
 v76:=Tryz.zeroValue246
 t77:=Tryz.underlying247
 a77:=Tryz.isAgg247
 z77:=Tryz.sizeOf247
 v77:=Tryz.zeroValue247}
end Go.Proofs
namespace Go.Proofs.YtihgnfmoafjakaaGreat
open Go.bJ
set_option linter.unusedSimpArgs false
set_option linter.unusedVariables false
set_option maxRecDepth 20000
set_option maxHeartbeats 8000000
abbrev qZ:={s:List UInt8//s.length<=17}
instance:Inhabited qZ:=⟨⟨[],by decide⟩⟩
def cfS(a b:qZ):Int:=ck a.1 b.1
def qZ.enc(s:qZ):A:= .str s.1
theorem swoS:Go.Sort.SWO (Go.Proofs.ltOf cfS):=by
 have hl: ∀a b,Go.Proofs.ltOf cfS a b=aQ a.1 b.1:=fun a b=>by unfold Go.Proofs.ltOf cfS;exact tO
 refine⟨fun x=> ?_,fun x y z h1 h2=> ?_,fun x y z h1 h2=> ?_⟩
 · rw[hl];exact lt_irrefl _
 · rw[hl]at*;exact bW h1 h2
 · rw[hl]at*;exact kj h2 h1
theorem Ca(l:List qZ)(hl:l.length<4611686018427387904):dG Tryz.prog 174 [.row 0 0 1 l.length false,.fn 141 []] [.row 1 (l.map qZ.enc)]
 (.cx []) [.row 1 ((cW cfS l).map qZ.enc)] []:=
 L4 Go.Proofs.YtihgnfmoafjakaaGreat.sortStr Go.Proofs.YtihgnfmoafjakaaGreat.XB qZ.enc (fun _=>rfl) cfS swoS (bn Tryz.func141 (by kernel_rfl) (by kernel_rfl)) (fun x y=>vz x.1 y.1 (by have:=x.2;omega) (by have:=y.2;omega)) l hl false
def Vo:(l:List (List UInt8))->(∀s∈l,s.length<=17)->List qZ
 | [],_=>[]
 |s::l,h=>⟨s,h s (by simp)⟩::Vo l (fun x hx=>h x (by simp[hx]))
theorem zJ: ∀(l:List (List UInt8)) (h: ∀s∈l,s.length<=17),(Vo l h).map (·.1)=l
 | [],_=>rfl
 |s::l,h=>by simp[Vo,zJ l]
theorem RT(l:List (List UInt8))(h: ∀s∈l,s.length<=17):(Vo l h).map qZ.enc=l.map A.str:=by
 have:=zJ l h
 conv=>rhs;rw[<-this]
 rw[List.map_map];rfl
theorem zK(l:List (List UInt8))(h: ∀s∈l,s.length<=17):(Vo l h).length=l.length:=by
 have:=congrArg List.length (zJ l h)
 simpa using this
open Classical in
/-- Texts, sorted. -/
def jb(l:List (List UInt8)):List (List UInt8):=if h: ∀s∈l,s.length<=17 then(cW cfS (Vo l h)).map (·.1)else l
theorem eO{l:List (List UInt8)}(h: ∀s∈l,s.length<=17):(jb l).Perm l/\(jb l).Pairwise (fun x y=>aQ y x=false):=by
 unfold jb;rw[dif_pos h]
 obtain⟨h1,h2⟩:=dC swoS (Vo l h)
 refine⟨?_, ?_⟩
 · have:=h1.map (·.1)
   rwa [zJ]at this
 · rw[List.pairwise_map]
   exact h2.imp fun{x y} hh=>by unfold cfS at hh;have:= @tO y.1 x.1;rw[<-this];exact decide_eq_false hh
theorem GM{l:List (List UInt8)}(h: ∀s∈l,s.length<=17):(cW cfS (Vo l h)).map qZ.enc=(jb l).map A.str:=by unfold jb;rw[dif_pos h,List.map_map];rfl
theorem IP: ∀{l:List (List UInt8)},l.Pairwise (fun x y=>aQ y x=false)->(aT l).Pairwise (fun x y=>aQ x y=true)
 | [],_=>by simp[aT]
 | [x],_=>by simp[aT]
 |x::y::l,h=>by
  rw[List.pairwise_cons]at h;have ih:=IP h.2;simp only[aT]
  split
  · exact ih
  · rename_i bU
    have LW:aQ x y=true:=by
     rcases me x y with h1|h1|h1
     · exact h1
     · exact absurd h1 bU
     · have:=h.1 y (by simp);rw[h1]at this;cases this
    rw[List.pairwise_cons]
    refine⟨fun z hz=> ?_,ih⟩
    rw[kM]at hz;rcases List.mem_cons.1 hz with rfl|hz
    · exact LW
    · exact tR LW ((List.pairwise_cons.1 h.2).1 z hz)
def TCs:aj:={tQ with fix:=fun n=>n==0,nf:=1}
theorem TCs_ok:ag Tryz.prog TCs:=⟨ff.f,ff.hp⟩
@[go_sem] theorem TCs_ords{n:Nat}:TCs.c6 n=[]:=rfl
theorem jk:ai Tryz.prog TCs Tryz.f175.ntmps (Tryz.f175.body.getD .skip)=true:=by kernel_rfl
theorem Ey(l:List (List UInt8))(hl:l.length<=4611686018427387903):dG Tryz.prog 175 [.row 0 0 1 l.length false] [.row 1 (l.map A.str)]
 (.row 0 0 1 (aT l).length false) [.row 1 ((aT l++List.replicate (l.length-(aT l).length) ([]:List UInt8)).map A.str)] []:=by
 refine bV TCs_ok mixed Tryz.func175 rfl (Nat.le_of_ble_eq_true rfl) (fun n h _=>by simp at h;subst h;rfl) (by show _<=1;simp) (by show 1<=_;simp) jk ?_;unfold Tryz.f175;by_cases h2:(l.length:Int)<2
 · have hc:aT l=l:=by
    match l,h2 with
    | [],_=>rfl
    | [x],_=>rfl
    |_::_::_,h=>simp at h;omega
   rw[hc]
   simp-implicitDefEqProofs (disch:=(first|omega|decide)) only[go_sem,↓reduceIte,seval,h2,List.length_map]
   simp
 · simp-implicitDefEqProofs (disch:=(first|omega|decide)) only[go_sem,↓reduceIte,seval,h2,List.length_map]
   refine ao [0] (ι:={k:Nat//1<=k/\k<=l.length/\aT (l.take k)=l.take k}) (fun p=>[(3,.int .i64 p.1)]) (fun _=>[]) (fun p=>l.length-p.1) ⟨1,by omega,by omega,by match l with| []=>rfl| [x]=>rfl|x::y::l=>rfl⟩ (by show 1<=_;simp) ?_ ?_
   · simp-implicitDefEqProofs (disch:=(first|omega|decide)) only[go_sem,↓reduceIte,seval]
   · rintro⟨k,ke,hk,hd⟩
     simp only;by_cases aw:k<l.length
     · have ae:(k:Int)<(l.length:Int):=by omega
       have dv:=nR ke aw;have e1:(l.map A.str)[k]? =some (.str l[k]):=by rw[List.getElem?_map,List.getElem?_eq_getElem aw];rfl
       have e0:(l.map A.str)[k-1]? =some (.str l[k-1]):=by rw[List.getElem?_map,List.getElem?_eq_getElem (by omega)];rfl
       have t0:((k:Int)-1).toNat=k-1:=by omega
       have b0:(0:Int)<=(k:Int)-1:=by omega
       have b1:(k:Int)-1<(l.length:Int):=by omega
       generalize hx:l[k]=x at e1 dv;generalize hy:l[k-1]=y at e0 dv;have next:y≠x->aT (l.take (k+1))=l.take (k+1):=fun bU=>by rw[dv,if_neg bU,hd,<-hx];exact List.take_append_getElem aw
       cases h3:x==y with
       |true=>
        obtain rfl:x=y:=by simpa using h3
        have b2:(k:Int)<=(l.length:Int):=by omega
        rw[if_pos rfl]at dv;have hlen:(aT (l.take (k+1))).length=k:=by rw[dv,hd,List.length_take];omega
        have tk:((l.length:Int)-(k:Int)).toNat=l.length-k:=by omega
        simp-implicitDefEqProofs (disch:=(first|omega|decide)) only[go_sem,↓reduceIte,seval,ae,e1,e0,t0,b0,b1,b2,tk,h3,wrap_i64,List.length_map,Int.le_refl]
        clear next e1 e0 hx hy h3 t0 b0
        refine ao [0,4] (ι:={p:Nat×Nat×List (List UInt8)//1<=p.1/\k+p.1<=l.length/\p.2.1=(aT (l.take (k+p.1))).length/\p.2.2.length=l.length/\p.2.2.take p.2.1=aT (l.take (k+p.1))/\p.2.2.drop (k+p.1-1)=l.drop (k+p.1-1)/\p.2.1<=k+p.1-1}) (fun p=>[(3,.int .i64 p.1.2.1),(5,.int .i64 p.1.1)]) (fun p=>[(0,.row 1 (p.1.2.2.map A.str))]) (fun p=>l.length-p.1.1) ⟨(1,k,l),by omega,aw,hlen.symm,rfl,by rw[dv,hd],rfl,by show k<=k+1-1;omega⟩ (by show 1<=_;simp) ?_ ?_
        · simp-implicitDefEqProofs (disch:=(first|omega|decide)) only[go_sem,↓reduceIte,seval]
        · rintro⟨⟨j,m,e⟩,hj1,hj,hm,he,Kp,hdr,hmj⟩
          simp only at hj1 hj hm he Kp hdr hmj
          have get: ∀i,k+j-1<=i->e[i]? =l[i]? :=fun i hi=>by
            have:=congrArg (fun x:List (List UInt8)=>x[i-(k+j-1)]?) hdr;simp only[List.getElem?_drop]at this
            rwa [show k+j-1+(i-(k+j-1))=i by omega]at this
          by_cases hq:k+j<l.length
          · have Ko:(j:Int)<((l.length-k:Nat):Int):=by omega
            have dv:=nR (l:=l) (k:=k+j) (by omega) hq;have e1:(e.map A.str)[k+j]? =some (.str l[k+j]):=by rw[List.getElem?_map,get _ (by omega),List.getElem?_eq_getElem hq];rfl
            have e0:(e.map A.str)[k+(j-1)]? =some (.str l[k+j-1]):=by rw[List.getElem?_map,get _ (by omega),show k+(j-1)=k+j-1 by omega,List.getElem?_eq_getElem (by omega)];rfl
            have t0:((j:Int)-1).toNat=j-1:=by omega
            have b0:(0:Int)<=(j:Int)-1:=by omega
            have b3:(j:Int)-1<((l.length-k:Nat):Int):=by omega
            generalize hx:l[k+j]=x at e1 dv;generalize hy:l[k+j-1]=y at e0 dv
            have XC:e.drop (k+(j+1)-1)=l.drop (k+(j+1)-1):=by
             have:=congrArg (List.drop 1) hdr
             rwa [List.drop_drop,List.drop_drop,show k+j-1+1=k+(j+1)-1 by omega]at this
            have b4:(m:Int)<(l.length:Int):=by omega
            have b5:m<e.length:=by omega
            have next:y≠x->(m+1=(aT (l.take (k+(j+1)))).length/\(e.set m x).length=l.length/\(e.set m x).take (m+1)=aT (l.take (k+(j+1)))/\(e.set m x).drop (k+(j+1)-1)=l.drop (k+(j+1)-1)/\m+1<=k+(j+1)-1):=fun bU=>by
             rw[if_neg bU]at dv;have Cb:aT (l.take (k+(j+1)))=aT (l.take (k+j))++[x]:=dv;refine⟨by rw[Cb,List.length_append,<-hm];rfl,by rw[List.length_set,he], ?_, ?_,by omega⟩
             · rw[Cb,<-Kp,<-List.take_append_getElem (by rw[List.length_set];exact b5),List.take_set_of_le (Nat.le_refl _)]
               simp
             · rw[List.drop_set_of_lt (by omega)];exact XC
            have fQ:cn (e.map A.str) m (.str x)=(e.set m x).map A.str:=by rw[fE,List.map_set]
            have em:(e.map A.str)[m]? =some (.str e[m]):=by rw[List.getElem?_map,List.getElem?_eq_getElem b5];rfl
            cases h3:x==y with
            |true=>
             obtain rfl:x=y:=by simpa using h3
             rw[if_pos rfl]at dv;simp-implicitDefEqProofs (disch:=(first|omega|decide)) only[go_sem,↓reduceIte,seval,Ko,e1,e0,t0,b0,b3,h3,wrap_i64,List.length_map,Int.le_refl]
             exact⟨⟨(j+1,m,e),by show 1<=j+1;omega,by show k+(j+1)<=_;omega,by show m=(aT (l.take (k+j+1))).length;rw[dv,hm],he,by show e.take m=aT (l.take (k+j+1));rw[dv,Kp],XC,by show m<=k+(j+1)-1;omega⟩,⟨⟨rfl,by simp⟩,rfl⟩,by show l.length-(j+1)<l.length-j;omega⟩
            |false=>
             have bU:x≠y:=by simpa using h3
             simp-implicitDefEqProofs (disch:=(first|omega|decide)) only[go_sem,↓reduceIte,seval,Ko,e1,e0,t0,b0,b3,b4,h3,em,fQ,wrap_i64,List.length_map,Int.le_refl]
             exact⟨⟨(j+1,m+1,e.set m x),by show 1<=j+1;omega,by show k+(j+1)<=_;omega,next (Ne.symm bU)⟩,⟨⟨by simp,by simp⟩,rfl⟩,by show l.length-(j+1)<l.length-j;omega⟩
          · have Ko: ¬(j:Int)<((l.length-k:Nat):Int):=by omega
            have b4:(m:Int)<=(l.length:Int):=by omega
            have tm:((l.length:Int)-(m:Int)).toNat=l.length-m:=by omega
            have zB:k+j=l.length:=by omega
            rw[zB,List.take_of_length_le (Nat.le_refl _)]at hm Kp;have b6:m+(l.length-m)=l.length:=by omega
            have b7:l.length<=e.length:=by omega
            have b8:(e.map A.str).drop l.length=[]:=by rw[List.drop_of_length_le (by rw[List.length_map];omega)]
            have tm0:((m:Int)-0).toNat=m:=by omega
            simp-implicitDefEqProofs (disch:=(first|omega|decide)) only[go_sem,↓reduceIte,seval,Ko,b4,tm,tm0,b6,b7,b8,List.length_map,Int.le_refl]
            refine⟨hm, ?_⟩
            rw[List.map_append,<-Kp,List.map_take,List.map_replicate,Kp,<-hm]
       |false=>
        have bU:x≠y:=by simpa using h3
        simp-implicitDefEqProofs (disch:=(first|omega|decide)) only[go_sem,↓reduceIte,seval,ae,e1,e0,t0,b0,b1,h3,wrap_i64,List.length_map]
        exact⟨⟨k+1,by omega,aw,next (Ne.symm bU)⟩,by simp,by show l.length-(k+1)<l.length-k;omega⟩
     · have ae: ¬(k:Int)<(l.length:Int):=by omega
       have hc:aT l=l:=by rw[List.take_of_length_le (by omega)]at hd;exact hd
       rw[hc]
       simp-implicitDefEqProofs (disch:=(first|omega|decide)) only[go_sem,↓reduceIte,seval,ae,List.length_map]
       simp
theorem gE:ai Tryz.prog tQ Tryz.f226.ntmps (Tryz.f226.body.getD .skip)=true:=by kernel_rfl
theorem c_ins1(x:A):az Tryz.prog 226 [.ad [x],.int .i64 0,.int .i64 1,.fn 141 []] (· = .cx []):=by
 refine aa ff mixed Tryz.func226 rfl (Nat.le_of_ble_eq_true rfl) gE ?_;unfold Tryz.f226;simp-implicitDefEqProofs (disch:=(first|omega|decide)) only[go_sem,↓reduceIte,seval,wrap_i64]
 refine ao [] (ι:=Unit) (fun _=>[(2,.int .i64 1),(8,.int .i64 1)]) (fun _=>[]) (fun _=>0) () (Nat.zero_le _) ?_ ?_
 · simp-implicitDefEqProofs (disch:=(first|omega|decide)) only[go_sem,↓reduceIte,seval]
 · intro _
   simp-implicitDefEqProofs (disch:=(first|omega|decide)) only[go_sem,↓reduceIte,seval,wrap_i64,Ab]
   try rfl
def MG:aj:=tQ.add 226 (entry (fun(x:List UInt8)=>[.ad [.str x],.int .i64 0,.int .i64 1,.fn 141 []]) (fun x=>True) (fun x=> .cx []))
theorem IQ:ag Tryz.prog MG:=ff.bG Tryz.func226 (by kernel_rfl) (by kernel_rfl) fun x h=>c_ins1 (.str x)
@[go_sem] theorem T08s_s:MG.pl tQ:=⟨fun _=>rfl,fun _=>rfl,rfl,fun _=>rfl,rfl,fun _=>rfl,rfl⟩
theorem fS(x:List UInt8)(h:True):MG.f 226 [.ad [.str x],.int .i64 0,.int .i64 1,.fn 141 []]=some (.cx []):=aj.an (Γ:=tQ) (fun i j h=>by simpa[Prod.ext_iff,and_assoc]using h) x h
@[go_sem] theorem t_ins1{x:List UInt8}:MG.f 226 [.ad [.str x],.int .i64 0,.int .i64 1,.fn 141 []]=some (.cx []):=fS x trivial
theorem jl:ai Tryz.prog MG Tryz.f204.ntmps (Tryz.f204.body.getD .skip)=true:=by kernel_rfl
theorem c_pdq1(x:List UInt8)(n:Int):az Tryz.prog 204 [.ad [.str x],.int .i64 0,.int .i64 1,.int .i64 n,.fn 141 []] (· = .cx []):=by
 refine aa IQ mixed Tryz.func204 rfl (Nat.le_of_ble_eq_true rfl) jl ?_;unfold Tryz.f204;simp-implicitDefEqProofs (disch:=(first|omega|decide)) only[go_sem,↓reduceIte,seval,wrap_i64]
 refine ao [0] (ι:=Unit) (fun _=>[(1,.int .i64 0),(2,.int .i64 1),(4,.fn 141 [])]) (fun _=>[]) (fun _=>0) () (Nat.zero_le _) ?_ ?_
 · simp-implicitDefEqProofs (disch:=(first|omega|decide)) only[go_sem,↓reduceIte,seval]
 · intro _
   simp-implicitDefEqProofs (disch:=(first|omega|decide)) only[go_sem,↓reduceIte,seval,wrap_i64,Ab]
   try rfl
theorem sF:ai Tryz.prog MG Tryz.f225.ntmps (Tryz.f225.body.getD .skip)=true:=by kernel_rfl
theorem c_len64:az Tryz.prog 225 [.int .u64 1] (· = .int .i64 1):=by
 refine aa IQ mixed Tryz.func225 rfl (Nat.le_of_ble_eq_true rfl) sF ?_;unfold Tryz.f225;have w8:IntKind.u8.wrap 1=1:=by decide
 have w64:IntKind.i64.wrap 1=1:=by decide
 simp-implicitDefEqProofs (disch:=(first|omega|decide)) only[go_sem,↓reduceIte,seval,w8,w64,gS]
 try decide
def PA:aj:=MG.add 204 (entry (fun(v:List UInt8×Int)=>[.ad [.str v.1],.int .i64 0,.int .i64 1,.int .i64 v.2,.fn 141 []]) (fun v=>True) (fun v=> .cx []))
theorem T08t_ok:ag Tryz.prog PA:=IQ.bG Tryz.func204 (by kernel_rfl) (by kernel_rfl) fun v h=>c_pdq1 v.1 v.2
theorem iO(v:List UInt8×Int)(h:True):PA.f 204 [.ad [.str v.1],.int .i64 0,.int .i64 1,.int .i64 v.2,.fn 141 []]=some (.cx []):=aj.an (Γ:=MG) (fun i j h=>by simpa[Prod.ext_iff,and_assoc]using h) v h
@[go_sem] theorem t_pdq1{x:List UInt8}{n:Int}:PA.f 204 [.ad [.str x],.int .i64 0,.int .i64 1,.int .i64 n,.fn 141 []]=some (.cx []):=iO (x,n) trivial
def Ez:aj:=PA.add 225 (entry (fun(u:Unit)=>[.int .u64 1]) (fun u=>True) (fun u=> .int .i64 1))
theorem RU:ag Tryz.prog Ez:=T08t_ok.bG Tryz.func225 (by kernel_rfl) (by kernel_rfl) fun u h=>c_len64
@[go_sem] theorem T08u_old{g:FuncId}{xs:List A}(h:g≠225):Ez.f g xs=PA.f g xs:=aj.ak h
@[go_sem] theorem T08u_s:Ez.pl PA:=⟨fun _=>rfl,fun _=>rfl,rfl,fun _=>rfl,rfl,fun _=>rfl,rfl⟩
theorem pV(u:Unit)(h:True):Ez.f 225 [.int .u64 1]=some (.int .i64 1):=aj.an (Γ:=PA) (fun i j h=>by first|(cases i;cases j;rfl;done)|simpa[Prod.ext_iff,and_assoc]using h|(simp at h;omega)|(simp at h;exact Prod.ext h.1 (Prod.ext h.2.1 (by omega)))) u h
@[go_sem] theorem t_len64:Ez.f 225 [.int .u64 1]=some (.int .i64 1):=pV () trivial
theorem vV:ai Tryz.prog Ez Tryz.f203.ntmps (Tryz.f203.body.getD .skip)=true:=by kernel_rfl
theorem c_len:az Tryz.prog 203 [.int .u64 1] (· = .int .i64 1):=by refine aa RU mixed Tryz.func203 rfl (Nat.le_of_ble_eq_true rfl) vV ?_;unfold Tryz.f203;simp-implicitDefEqProofs (disch:=(first|omega|decide)) only[go_sem,↓reduceIte,seval]
def MH:aj:=Ez.add 203 (entry (fun(u:Unit)=>[.int .u64 1]) (fun u=>True) (fun u=> .int .i64 1))
theorem IS:ag Tryz.prog MH:=RU.bG Tryz.func203 (by kernel_rfl) (by kernel_rfl) fun u h=>c_len
@[go_sem] theorem T08v_old{g:FuncId}{xs:List A}(h:g≠203):MH.f g xs=Ez.f g xs:=aj.ak h
@[go_sem] theorem T08v_s:MH.pl Ez:=⟨fun _=>rfl,fun _=>rfl,rfl,fun _=>rfl,rfl,fun _=>rfl,rfl⟩
theorem sG(u:Unit)(h:True):MH.f 203 [.int .u64 1]=some (.int .i64 1):=aj.an (Γ:=Ez) (fun i j h=>by first|(cases i;cases j;rfl;done)|simpa[Prod.ext_iff,and_assoc]using h|(simp at h;omega)|(simp at h;exact Prod.ext h.1 (Prod.ext h.2.1 (by omega)))) u h
@[go_sem] theorem t_len:MH.f 203 [.int .u64 1]=some (.int .i64 1):=sG () trivial
theorem jc:ai Tryz.prog MH Tryz.f174.ntmps (Tryz.f174.body.getD .skip)=true:=by kernel_rfl
theorem c_sort1(x:List UInt8):az Tryz.prog 174 [.ad [.str x],.fn 141 []] (· = .cx []):=by
 refine aa IS mixed Tryz.func174 rfl (Nat.le_of_ble_eq_true rfl) jc ?_;unfold Tryz.f174;have w64:IntKind.u64.wrap 1=1:=by decide
 simp-implicitDefEqProofs (disch:=(first|omega|decide)) only[go_sem,↓reduceIte,seval,w64,Ab]
 try rfl
theorem c_comp1(x:List UInt8):az Tryz.prog 175 [.ad [.str x]] (· = .ad [.str x]):=by refine aa IS mixed Tryz.func175 rfl (Nat.le_of_ble_eq_true rfl) (by kernel_rfl) ?_;unfold Tryz.f175;simp-implicitDefEqProofs (disch:=(first|omega|decide)) only[go_sem,↓reduceIte,seval]
theorem Cc{E:Env}{es:List A}{ys:List A}{vs:List Value}(h:aP E (.clip es::ys) vs):aP E (.ad es::ys) vs:=by simp only[aP]at h⊢;obtain⟨v,kc,h1,h2,h3⟩:=h;exact⟨v,kc,h1,Ie h2,h3⟩
abbrev StI:=List qZ ⊕ List UInt8
def s9:StI->List A
 | .inl l=>[.row 0 0 1 l.length false,.fn 141 []]
 | .inr x=>[.clip [.str x],.fn 141 []]
def rM:StI->List Go.bJ.Obj
 | .inl l=>[.row 1 (l.map qZ.enc)]
 | .inr _=>[]
def stK:StI->Prop
 | .inl l=>l.length<4611686018427387904
 | .inr _=>True
def MI:StI->A×List Go.bJ.Obj×List Nat
 | .inl l=>(.cx [],[.row 1 ((cW cfS l).map qZ.enc)],[])
 | .inr _=>(.cx [],[],[])
theorem XD(x y:qZ)(h:x.enc=y.enc):x=y:=Subtype.ext (by simpa[qZ.enc]using h)
theorem XE(i j:StI)(h:s9 i=s9 j)(h':rM i=rM j):i=j:=by
 cases i<;>cases j
 · simp only[rM,List.cons.injEq,Go.bJ.Obj.row.injEq,true_and,and_true]at h'
   rw[map_inj XD]at h';rw[h']
 · simp[rM]at h'
 · simp[rM]at h'
 · simp[s9]at h
   rw[h]
abbrev CpI:=List (List UInt8) ⊕ List UInt8
def xU:CpI->List A
 | .inl l=>[.row 0 0 1 l.length false]
 | .inr x=>[.clip [.str x]]
def u9:CpI->List Go.bJ.Obj
 | .inl l=>[.row 1 (l.map A.str)]
 | .inr _=>[]
def cpK:CpI->Prop
 | .inl l=>l.length<=4611686018427387903
 | .inr _=>True
def MJ:CpI->A×List Go.bJ.Obj×List Nat
 | .inl l=>(.row 0 0 1 (aT l).length false,[.row 1 ((aT l++List.replicate (l.length-(aT l).length) ([]:List UInt8)).map A.str)],[])
 | .inr x=>(.ad [.str x],[],[])
theorem XF(i j:CpI)(h:xU i=xU j)(h':u9 i=u9 j):i=j:=by
 cases i<;>cases j
 · simp only[u9,List.cons.injEq,Go.bJ.Obj.row.injEq,true_and,and_true]at h'
   rw[Lj]at h';rw[h']
 · simp[u9]at h'
 · simp[u9]at h'
 · simp[xU]at h
   rw[h]
def E8a:aj:=MH.eP 174 (bo s9 rM stK MI)
def E8b:aj:=E8a.eP 175 (bo xU u9 cpK MJ)
def E8:aj:={E8b with l_:=fun f=>f==174||f==175}
theorem stH(i:StI)(h:stK i):dG Tryz.prog 174 (s9 i) (rM i) (MI i).1 (MI i).2.1 (MI i).2.2:=by
 cases i with
 |inl l=>simpa only[s9,rM,MI]using Ca l h
 |inr x=>simpa only[s9,rM,MI]using Bz (c_sort1 x) (fun E vs=>Cc) rfl
theorem cpH(i:CpI)(h:cpK i):dG Tryz.prog 175 (xU i) (u9 i) (MJ i).1 (MJ i).2.1 (MJ i).2.2:=by
 cases i with
 |inl l=>simpa only[xU,u9,MJ]using Ey l h
 |inr x=>simpa only[xU,u9,MJ]using Bz (c_comp1 x) (fun E vs=>Cc) rfl
theorem E8a_ok:ag Tryz.prog E8a:=IS.eP (bn Tryz.func174 (by kernel_rfl) (by kernel_rfl)) (cL stH)
theorem XG:ag Tryz.prog E8b:=E8a_ok.eP (bn Tryz.func175 (by kernel_rfl) (by kernel_rfl)) (cL cpH)
theorem E8_ok:ag Tryz.prog E8:=⟨XG.f,XG.hp⟩
@[go_sem] theorem E8_eff{g:FuncId}:E8.l_ g=(g==174||g==175):=rfl
@[go_sem] theorem E8_frz{g:FuncId}:E8.qU g=MH.qU g:=rfl
@[go_sem] theorem E8_fix{n:Nat}:E8.fix n=false:=rfl
@[go_sem] theorem E8_ords{n:Nat}:E8.c6 n=[]:=rfl
theorem E8_st(i:StI)(h:stK i):E8.hp 174 (s9 i) (rM i)=some (MI i):=by
 have h1:E8b.hp 174 (s9 i) (rM i)=E8a.hp 174 (s9 i) (rM i):=aj.qC (by decide)
 have h2:E8a.hp 174 (s9 i) (rM i)=bo s9 rM stK MI (s9 i) (rM i):=aj.dZ;have h3:=cM (enc:=s9) (DE:=rM) (ok:=stK) (spec:=MI) (fun i j h h'=>XE i j h h') i h;exact(show E8.hp 174 (s9 i) (rM i)=E8b.hp 174 (s9 i) (rM i)from rfl).trans (h1.trans (h2.trans h3))
theorem E8_cp(i:CpI)(h:cpK i):E8.hp 175 (xU i) (u9 i)=some (MJ i):=by have h2:E8b.hp 175 (xU i) (u9 i)=bo xU u9 cpK MJ (xU i) (u9 i):=aj.dZ;have h3:=cM (enc:=xU) (DE:=u9) (ok:=cpK) (spec:=MJ) (fun i j h h'=>XF i j h h') i h;exact(show E8.hp 175 (xU i) (u9 i)=E8b.hp 175 (xU i) (u9 i)from rfl).trans (h2.trans h3)
def sH(es:List (List UInt8))(r:ax):List (List UInt8):=es++(if r.op then [r.lo]else [r.lo,r.hi])
def cS(es:List (List UInt8))(l:List ax):List (List UInt8):=l.foldl sH es
theorem Ud(l:List ax)(es:List (List UInt8))(k:Nat)(h:k<l.length):cS es (l.take (k+1))=sH (cS es (l.take k)) l[k]:=by unfold cS;rw[<-List.take_append_getElem h,List.foldl_append];rfl
theorem fB: ∀(l:List ax) (es:List (List UInt8)),es.length<=(cS es l).length/\(cS es l).length<=es.length+2*l.length
 | [],es=>by simp[cS]
 |r::l,es=>by
  have h1:=fB l (sH es r)
  have h2:es.length+1<=(sH es r).length/\(sH es r).length<=es.length+2:=by unfold sH;rw[List.length_append];split<;>simp
  have e:cS es (r::l)=cS (sH es r) l:=rfl;rw[e];simp only[List.length_cons];omega
theorem h_: ∀(l:List ax) (es:List (List UInt8)) (x:List UInt8),x∈cS es l ↔ x∈es\/ ∃r∈l,x=r.lo\/(r.op=false/\x=r.hi)
 | [],es,x=>by simp[cS]
 |r::l,es,x=>by
  have e:cS es (r::l)=cS (sH es r) l:=rfl;rw[e,h_ l]
  unfold sH;cases ho:r.op<;>simp[ho,or_assoc]
theorem pW(a b:List ax)(es:List (List UInt8)):cS es (a++b)=cS (cS es a) b:=by unfold cS;rw[List.foldl_append]
def iw(a b:List ax):List (List UInt8):=aT (jb (cS [[]] (a++b)))
def zL(E:List (List UInt8)):A:=if E.length=1 then .clip [.str []]else .row 1 0 1 E.length false
def MK(E:List (List UInt8)):List Go.bJ.Obj:=if E.length=1 then []else [.box [.any,.any,.any],.row 1 (E.map .str)]
theorem sI{E:List (List UInt8)}(h:E.length=1):zL E= .clip [.str []]/\MK E=[]:=by simp[zL,MK,h]
theorem kz{E:List (List UInt8)}(h:E.length≠1):zL E= .row 1 0 1 E.length false/\MK E=[.box [.any,.any,.any],.row 1 (E.map .str)]:=by simp[zL,MK,h]
theorem ML{E:List (List UInt8)}:(zL E).under (MK E).length=true:=by
 by_cases h:E.length=1
 · rw[(sI h).1];simp[A.under]
 · rw[(kz h).1,(kz h).2];simp[A.under]
def oO(a b:List ax)(o:Nat):List (List UInt8):=cS [[]] (if o=0 then []else if o=1 then a else a++b)
theorem accE0(a b:List ax):oO a b 0=[[]]:=rfl
theorem acc_get(a b:List ax)(o:Nat)(h:o<2): ∃l,(List.drop o [A.ad (a.map ax.enc),A.ad (b.map ax.enc)]).head? =some (.ad (l.map ax.enc))/\cS (oO a b o) l=oO a b (o+1)/\(l=a\/l=b):=by
 rcases(by omega:o=0\/o=1)with rfl|rfl
 · exact⟨a,rfl,rfl,.inl rfl⟩
 · exact⟨b,rfl,(pW a b [[]]).symm,.inr rfl⟩
theorem zM{m:List ax}(h:(cS [[]] m).length=1):cS [[]] m=[[]]:=by
 cases m with
 |nil=>rfl
 |cons r l=>
  have h1:=(fB l (sH [[]] r)).1;have h2:2<=(sH [[]] r).length:=by unfold sH;split<;>simp
  have e:cS [[]] (r::l)=cS (sH [[]] r) l:=rfl;rw[e]at h;omega
theorem acc_raw(a b:List ax)(o:Nat): ∃m,oO a b o=cS [[]] m:=⟨_,rfl⟩
theorem yF:ai Tryz.prog E8 Tryz.f245.ntmps (Tryz.f245.body.getD .skip)=true:=by kernel_rfl
theorem Cd(a b:List ax)(ha:a.length<=1000000)(hb:b.length<=1000000)(ra: ∀r∈a,ay r=true)(rb: ∀r∈b,ay r=true):az Tryz.prog 245 [.ad (a.map ax.enc),.ad (b.map ax.enc)] (· = .ad ((iw a b).map .str)):=by
 refine aa E8_ok mixed Tryz.func245 rfl (Nat.le_of_ble_eq_true rfl) yF ?_;unfold Tryz.f245;simp-implicitDefEqProofs (disch:=(first|omega|decide)) only[go_sem,↓reduceIte,seval,List.length_map]
 refine qp [4,13] (ι:={o:Nat//o<=2}) (fun p=>[(14,.int .i64 p.1),(5,zL (oO a b p.1))]) (fun p=>MK (oO a b p.1)) (fun p=>2-p.1) ⟨0,by omega⟩ (fun _=>Nat.zero_le _) ?_ ?_
 · simp only[accE0]
   simp-implicitDefEqProofs (disch:=(first|omega|decide)) only[go_sem,↓reduceIte,seval,zL,MK]
 · rintro⟨o,ho⟩
   simp only;by_cases Q0:o<2
   · have vm:(o:Int)<2:=by omega
     have ho0:(0:Int)<=(o:Int):=by omega
     obtain⟨l,hd,hacc,hl⟩:=acc_get a b o Q0;have LX:l.length<=1000000:=by rcases hl with rfl|rfl<;>assumption
     have hlr: ∀r∈l,ay r=true:=by rcases hl with rfl|rfl<;>assumption
     obtain⟨m0,hm0⟩:=acc_raw a b o
     have Zz:(oO a b o).length<=3000001:=by
      unfold oO;have h1:=(fB (if o=0 then []else if o=1 then a else a++b) [[]]).2
      have h2:(if o=0 then []else if o=1 then a else a++b).length<=1000000:=by
       rcases(by omega:o=0\/o=1)with rfl|rfl
       · simp
       · simpa using ha
      simp only[List.length_singleton]at h1;omega
     have dQ: ∃j:{o:Nat//o<=2},(o:Int)+1=(j.1:Int)/\oO a b (o+1)=oO a b j.1/\2-j.1<2-o:=⟨⟨o+1,Q0⟩,by simp,rfl,by show 2-(o+1)<2-o;omega⟩
     rw[<-hacc]at dQ;generalize oO a b o=E0 at*;have hE5:(zL E0).under (MK E0).length=true:=ML
     have hE5b:rq (MK E0).length (MK E0) (MK E0):=by
      by_cases hE0:E0.length=1
      · rw[(sI hE0).2];simp[rq]
      · rw[(kz hE0).2];simp[rq,QY,Ki]
     simp-implicitDefEqProofs (disch:=(first|omega|decide)) only[go_sem,↓reduceIte,seval,vm,ho0,hd,Nat.mul_one,List.length_map]
     refine qp [4,13,14,17,18] (ι:={j:Nat//j<=l.length}) (fun p=>[(19,.int .i64 p.1),(5,zL (cS E0 (l.take p.1)))]) (fun p=>MK (cS E0 (l.take p.1))) (fun p=>l.length-p.1) ⟨0,by omega⟩ (fun _=>Nat.zero_le _) ?_ ?_
     · have e:cS E0 (l.take 0)=E0:=rfl
       simp only[e]
       simp-implicitDefEqProofs (disch:=(first|omega|decide)) only[go_sem,↓reduceIte,seval,hE5,hE5b]
     · rintro⟨j,hj⟩
       simp only;obtain⟨m1,hm1⟩: ∃m,cS E0 (l.take j)=cS [[]] m:=⟨m0++l.take j,by rw[hm0,pW]⟩
       have hlenE:=(fB (l.take j) E0).2;rw[List.length_take,Nat.min_eq_left hj]at hlenE;have hgeE:=(fB m1 [[]]).1;rw[<-hm1,List.length_singleton]at hgeE;by_cases aw:j<l.length
       · have ae:(j:Int)<(l.length:Int):=by omega
         have e1:=dw aw;have Ti:=hlr _ (List.getElem_mem aw)
         have bR:=Ud l E0 j aw;have next: ∀E',cS E0 (l.take (j+1))=E'->E'.length≠1-> ∃i:{j:Nat//j<=l.length},(j:Int)+1=(i.1:Int)/\(zL (cS E0 (l.take i.1))= .row 1 0 1 E'.length false/\MK (cS E0 (l.take i.1))=[.box [.any,.any,.any],.row 1 (E'.map .str)])/\l.length-i.1<l.length-j:=fun E' h1 h2=>⟨⟨j+1,aw⟩,by simp,by rw[h1];exact kz h2,by show l.length-(j+1)<l.length-j;omega⟩
         generalize cS E0 (l.take j)=E at*;generalize hx:l[j]=x at*;obtain⟨lo,hi,op⟩:=x;unfold sH at bR;by_cases hE:E.length=1
         · have hE1:E=[[]]:=by rw[hm1]at hE⊢;exact zM hE
           rw[(sI hE).1,(sI hE).2]
           subst hE1;cases op with
           |true=>
            obtain⟨i,n1,⟨n2,n3⟩,n4⟩:=next _ bR (by simp)
            simp-implicitDefEqProofs (disch:=(first|omega|decide)) only[go_sem,↓reduceIte,seval,ae,e1,wrap_i64,List.length_map]
            refine⟨i, ?_,n4⟩
            rw[n2,n3]
            simp-implicitDefEqProofs (disch:=(first|omega|decide)) only[go_sem,↓reduceIte,seval,n1]
            try simp
           |false=>
            obtain⟨i,n1,⟨n2,n3⟩,n4⟩:=next _ bR (by simp)
            simp-implicitDefEqProofs (disch:=(first|omega|decide)) only[go_sem,↓reduceIte,seval,ae,e1,wrap_i64,List.length_map]
            refine⟨i, ?_,n4⟩
            rw[n2,n3]
            simp-implicitDefEqProofs (disch:=(first|omega|decide)) only[go_sem,↓reduceIte,seval,n1]
            try simp
         · rw[(kz hE).1,(kz hE).2]
           have tl:(E.map A.str).take E.length=E.map A.str:=List.take_of_length_le (by simp)
           have tl2:(E.map A.str++[A.str lo]).take (E.length+1)=E.map A.str++[A.str lo]:=List.take_of_length_le (by simp)
           have ll2:(E.map A.str++[A.str lo]).length=E.length+1:=by simp
           cases op with
           |true=>
            obtain⟨i,n1,⟨n2,n3⟩,n4⟩:=next _ bR (by rw[List.length_append];show E.length+1≠1;omega)
            simp-implicitDefEqProofs (disch:=(first|omega|decide)) only[go_sem,↓reduceIte,seval,ae,e1,tl,wrap_i64,List.length_map]
            refine⟨⟨Nat.le_refl _,by omega⟩,i, ?_,n4⟩
            rw[n2,n3]
            simp-implicitDefEqProofs (disch:=(first|omega|decide)) only[go_sem,↓reduceIte,seval,n1]
            try simp
           |false=>
            obtain⟨i,n1,⟨n2,n3⟩,n4⟩:=next _ bR (by simp)
            simp-implicitDefEqProofs (disch:=(first|omega|decide)) only[go_sem,↓reduceIte,seval,ae,e1,tl,tl2,ll2,wrap_i64,List.length_map]
            refine⟨⟨Nat.le_refl _,by omega⟩,⟨Nat.le_refl _,by omega⟩,i, ?_,n4⟩
            rw[n2,n3]
            simp-implicitDefEqProofs (disch:=(first|omega|decide)) only[go_sem,↓reduceIte,seval,n1]
            try simp
       · have ae: ¬(j:Int)<(l.length:Int):=by omega
         rw[List.take_of_length_le (by omega)]at*;obtain⟨i,n1,n2,n3⟩:=dQ;rw[n2]
         have hU:(zL (oO a b i.1)).under (MK (oO a b i.1)).length=true:=ML
         have hUb:rq (MK (oO a b i.1)).length (MK (oO a b i.1)) (MK (oO a b i.1)):=by
          by_cases hE0:(oO a b i.1).length=1
          · rw[(sI hE0).2];simp[rq]
          · rw[(kz hE0).2];simp[rq,QY,Ki]
         have w:IntKind.i64.wrap ((o:Int)+1)=(o:Int)+1:=wrap_i64 (by omega)
         simp-implicitDefEqProofs (disch:=(first|omega|decide)) only[go_sem,↓reduceIte,seval,ae,w,List.length_map]
         refine⟨i, ?_,n3⟩
         simp-implicitDefEqProofs (disch:=(first|omega|decide)) only[go_sem,↓reduceIte,seval,n1,hU,hUb]
   · have vm: ¬(o:Int)<2:=by omega
     have ho2':o=2:=by omega
     subst ho2';have hE2:oO a b 2=cS [[]] (a++b):=rfl
     have XH: ∀s∈cS [[]] (a++b),s.length<=17:=fun s hs=>by
      rcases(h_ _ _ _).1 hs with h|⟨r,hr,h⟩
      · simp at h;subst h;simp
      · have Ti:ay r=true:=by
          rcases List.mem_append.1 hr with hr|hr
          · exact ra r hr
          · exact rb r hr
        obtain⟨k1,k2,_,_⟩:=cj Ti;rcases h with rfl|⟨_,rfl⟩
        · exact k1
        · exact k2
     have Zz:=(fB (a++b) [[]]).2;rw[List.length_append,List.length_singleton]at Zz;rw[hE2]
     unfold iw;have cQ:= @zM (a++b)
     generalize cS [[]] (a++b)=E at*;by_cases hE:E.length=1
     · have hE1:=cQ hE
       rw[(sI hE).1,(sI hE).2]
       subst hE1;have s1:=E8_st (.inr []) trivial;have s2:=E8_cp (.inr []) trivial;simp only[s9,rM,MI]at s1;simp only[xU,u9,MJ]at s2;have hs:jb [[]]=[[]]:=by have:=(eO XH).1;exact(List.perm_replicate (n:=1) (a:=([]:List UInt8))).1 this
       rw[hs]
       simp-implicitDefEqProofs (disch:=(first|omega|decide)) only[go_sem,↓reduceIte,seval,vm,s1,s2,aT,List.contains_nil,List.contains_cons,List.length_map]
     · rw[(kz hE).1,(kz hE).2]
       have s1:=E8_st (.inl (Vo E XH)) (by show(Vo E XH).length<_;rw[zK];omega)
       simp only[s9,rM,MI,RT,zK,GM]at s1;have hp:=(eO XH).1.length_eq;have s2:=E8_cp (.inl (jb E)) (by show(jb E).length<=_;rw[hp];omega)
       simp only[xU,u9,MJ,hp]at s2;have jg:(aT (jb E)).length=((aT (jb E)).map A.str).length:=by simp
       simp-implicitDefEqProofs (disch:=(first|omega|decide)) only[go_sem,↓reduceIte,seval,vm,s1,s2,List.contains_nil,List.contains_cons,List.length_map]
       refine⟨by rw[List.length_append];omega, ?_⟩
       rw[List.map_append,List.take_append_of_le_length (by simp),List.take_of_length_le (by simp)]
set_option maxHeartbeats 4000000
def bk:List ax->List UInt8->Nat
 | [],_=>0
 |r::l,s=>if r.op||aQ s r.hi then 0 else bk l s+1
theorem pX: ∀(l:List ax) (s:List UInt8),bk l s<=l.length
 | [],_=>Nat.le_refl _
 |r::l,s=>by have:=pX l s;simp only[bk,List.length_cons];split<;>omega
theorem pY: ∀(l:List ax) (s:List UInt8) (i:Nat) (h:i<l.length),i<bk l s->l[i].op=false/\aQ s l[i].hi=false
 |r::l,s,i,h,hi=>by
  simp only[bk]at hi;split at hi
  · omega
  · rename_i hc
    cases i with
    |zero=>simpa using hc
    |succ i=>exact pY l s i (by simpa using h) (by omega)
theorem mO: ∀(l:List ax) (s:List UInt8) (h:bk l s<l.length),(l[bk l s].op||aQ s l[bk l s].hi)=true
 |r::l,s,h=>by
  by_cases hc:(r.op||aQ s r.hi)=true
  · have e:bk (r::l) s=0:=by simp only[bk];rw[if_pos hc]
    simp only[e];exact hc
  · have e:bk (r::l) s=bk l s+1:=by simp only[bk];rw[if_neg hc]
    simp only[e]at h⊢;exact mO l s (by simpa using h)
theorem MM{l:List ax}(h:aO l=true){s:List UInt8}: ∀(i j:Nat) (hi:i<l.length) (hj:j<l.length),i<=j->(l[i].op||aQ s l[i].hi)=true->(l[j].op||aQ s l[j].hi)=true:=by
 intro i j hi hj vw hc;obtain⟨h1,h2⟩:=eH.1 h;induction j with
 |zero=>have:i=0:=by omega
        subst this;exact hc
 |succ j ih=>
  rcases Nat.lt_or_eq_of_le vw with aw|heq
  · have u6:j<l.length:=by omega
    have ih:=ih u6 (by omega)
    -- neighbours
    have key: ∀(l:List ax),(∀r∈l,ay r=true)->Iv.Can aQ (l.map lK)-> ∀(j:Nat) (h:j+1<l.length),l[j].op=false/\aQ l[j].hi l[j+1].lo=true:=by
     intro l;induction l with
     |nil=>intro _ _ j h;simp at h
     |cons r l ih2=>
      intro g1 g2 j hj;cases j with
      |zero=>
       cases l with
       |nil=>simp at hj
       |cons q l=>
        obtain⟨_,⟨x,k1,k2⟩,_⟩:=g2;simp only[lK]at k1;cases ho:r.op with
        |true=>rw[ho]at k1;simp at k1
        |false=>
         rw[ho]at k1;simp at k1;subst k1;exact⟨ho,k2⟩
      |succ j=>exact ih2 (fun q hq=>g1 q (by simp[hq])) (Iv.lh oL g2) j (by simpa using hj)
    obtain⟨k1,k2⟩:=key l h1 h2 j hj;rw[k1,Bool.false_or]at ih;have hr:=h1 _ (List.getElem_mem hj)
    cases ho:l[j+1].op with
    |true=>rfl
    |false=>
     rw[Bool.false_or]
     exact bW (bW ih k2) ((cj hr).2.2.2 ho)
  · subst heq;exact hc
theorem pZ{l:List ax}(h:aO l=true){s:List UInt8}{i:Nat}(hi:i<l.length):(l[i].op||aQ s l[i].hi)=decide (bk l s<=i):=by
 by_cases hc:bk l s<=i
 · rw[decide_eq_true hc]
   exact MM h _ _ (by omega) hi hc (mO l s (by omega))
 · rw[decide_eq_false hc]
   obtain⟨h1,h2⟩:=pY l s i hi (by omega)
   rw[h1,h2];rfl
theorem uw{l:List ax}(h:aO l=true)(s:List UInt8):ar l s=(if h:bk l s<l.length then !aQ s l[bk l s].lo else false):=by
 obtain⟨h1,h2⟩:=eH.1 h;split
 · rename_i aw
   have AA:=mO l s aw;have hr:=h1 _ (List.getElem_mem aw)
   cases hc:aQ s l[bk l s].lo with
   |false=>
    rw[Bool.not_false,iL]
    refine⟨_,List.getElem_mem aw, ?_⟩
    rw[jK,hr,hc]
    unfold Lt;rw[AA];rfl
   |true=>
    rw[Bool.not_true,<-Bool.not_eq_true,iL]
    rintro⟨r,Ak,hh⟩
    obtain⟨j,hj,rfl⟩:=List.mem_iff_getElem.1 Ak;rw[jK]at hh;simp only[Bool.and_eq_true,Bool.not_eq_true']at hh;obtain⟨g1,g2,g3⟩:=hh;have g3':(l[j].op||aQ s l[j].hi)=true:=g3;rw[pZ h hj,decide_eq_true_iff]at g3';rcases Nat.lt_or_eq_of_le g3' with g|g
    · -- a later one begins above
      have key: ∀(l:List ax),(∀r∈l,ay r=true)->Iv.Can aQ (l.map lK)-> ∀(i j:Nat) (hi:i<l.length) (hj:j<l.length),i<j->aQ l[i].lo l[j].lo=true:=by
       intro l;induction l with
       |nil=>intro _ _ i j hi;simp at hi
       |cons r l ih=>
        intro a1 a2 i j hi hj vw;cases j with
        |zero=>omega
        |succ j=>
         have u6:j<l.length:=by simpa using hj
         have gW:Iv.mem aQ (l.map lK) (l[j]'u6).lo=true:=by
          have:ar l (l[j]'u6).lo=true:=iL.2 ⟨l[j]'u6,List.getElem_mem _,tS (a1 _ (by simp))⟩
          rwa [tW,km (fun q hq=>a1 q (by simp[hq]))]at this
         cases i with
         |zero=>
          cases l with
          |nil=>simp at hj
          |cons q l=>
           have low:=Iv.tT oL (Iv.lh oL a2) gW;obtain⟨b1,⟨x,k1,k2⟩,_⟩:=a2;have b1':aQ r.lo x=true:=by rw[k1]at b1;exact b1
           exact tR (bW b1' k2) low
         |succ i=>exact ih (fun q hq=>a1 q (by simp[hq])) (Iv.lh oL a2) i j (by simpa using hi) (by simpa using hj) (by omega)
      have:=key l h1 h2 _ j aw hj g;have:=bW hc this;rw[this]at g2;cases g2
    · have e:l[j]=l[bk l s]:=by congr 1;exact g.symm
      rw[e,hc]at g2;cases g2
 · rename_i Te
   rw[<-Bool.not_eq_true,iL]
   rintro⟨r,Ak,hh⟩
   obtain⟨j,hj,rfl⟩:=List.mem_iff_getElem.1 Ak;rw[jK]at hh;simp only[Bool.and_eq_true]at hh;have g3':(l[j].op||aQ s l[j].hi)=true:=hh.2.2;rw[pZ h hj,decide_eq_true_iff]at g3';omega
theorem Ce:ai Tryz.prog tQ Tryz.f127.ntmps (Tryz.f127.body.getD .skip)=true:=by kernel_rfl
theorem EA(l:List ax)(s:List UInt8)(hl:l.length<=4611686018427387903)(fF:dp l)(hs:s.length<=9223372036854775807)(hr:aO l=true):az Tryz.prog 127 [.ad (l.map ax.enc),.str s] (· = .int .i64 (bk l s)):=by
 refine aa ff mixed Tryz.func127 rfl (Nat.le_of_ble_eq_true rfl) Ce ?_;unfold Tryz.f127;simp-implicitDefEqProofs (disch:=(first|omega|decide)) only[go_sem,↓reduceIte,seval,List.length_map]
 have hfl:=pX l s;refine ao [0,1,4] (ι:={p:Nat×Nat//p.1<=bk l s/\bk l s<=p.2/\p.2<=l.length}) (fun p=>[(5,.int .i64 p.1.1),(6,.int .i64 p.1.2)]) (fun _=>[]) (fun p=>p.1.2-p.1.1) ⟨(0,l.length),Nat.zero_le _,hfl,Nat.le_refl _⟩ (Nat.zero_le _) ?_ ?_
 · simp-implicitDefEqProofs (disch:=(first|omega|decide)) only[go_sem,↓reduceIte,seval]
 · rintro⟨⟨a,b⟩,h1,h2,h3⟩
   simp only at h1 h2 h3⊢;by_cases Rj:a<b
   · have c1:(a:Int)<(b:Int):=by omega
     have hm:(a:Int)+((b:Int)-(a:Int)).tdiv 2=((a+(b-a)/2:Nat):Int):=by
      have:((b:Int)-(a:Int))=((b-a:Nat):Int):=by omega
      rw[this]
      have e:((b-a:Nat):Int).tdiv 2=(((b-a)/2:Nat):Int):=rfl;rw[e];omega
     have hw:IntKind.i64.wrap (((b:Int)-(a:Int)).tdiv 2)=((b:Int)-(a:Int)).tdiv 2:=by
      have:((b:Int)-(a:Int))=((b-a:Nat):Int):=by omega
      rw[this]
      have e:((b-a:Nat):Int).tdiv 2=(((b-a)/2:Nat):Int):=rfl;rw[e]
      exact wrap_i64 (by omega)
     have hmb:a+(b-a)/2<b:=by omega
     have hma:a<=a+(b-a)/2:=by omega
     generalize a+(b-a)/2=m at*;have aw:m<l.length:=by omega
     have ae:(m:Int)<(l.length:Int):=by omega
     have e1:=dw aw;have lA:=ja fF aw;have hsp:=pZ hr (s:=s) aw;have hw2:IntKind.i64.wrap ((m:Nat):Int)=(m:Int):=wrap_i64 (by omega)
     have z2: ¬(2:Int)=0:=by omega
     generalize hx:l[m]=x at*;obtain⟨lo,hi,op⟩:=x;simp only at lA hsp;have left:bk l s<=m-> ∃j:{p:Nat×Nat//p.1<=bk l s/\bk l s<=p.2/\p.2<=l.length},((a:Int)=(j.1.1:Int)/\(m:Int)=(j.1.2:Int))/\j.1.2-j.1.1<b-a:=fun h=>⟨⟨(a,m),h1,h,by omega⟩,⟨rfl,rfl⟩,by show m-a<b-a;omega⟩
     have rightw: ¬bk l s<=m-> ∃j:{p:Nat×Nat//p.1<=bk l s/\bk l s<=p.2/\p.2<=l.length},((m:Int)+1=(j.1.1:Int)/\(b:Int)=(j.1.2:Int))/\j.1.2-j.1.1<b-a:=fun h=>⟨⟨(m+1,b),by show m+1<=_;omega,h2,h3⟩,⟨by simp,rfl⟩,by show b-(m+1)<b-a;omega⟩
     cases op with
     |true=>
      have hle:bk l s<=m:=by simpa using hsp
      simp-implicitDefEqProofs (disch:=(first|omega|decide)) only[go_sem,↓reduceIte,seval,c1,hm,hw,hw2,ae,e1,lA,z2,wrap_i64,List.length_map]
      exact left hle
     |false=>
      cases h4:aQ s hi with
      |true=>
       rw[h4]at hsp;have hle:bk l s<=m:=by simpa using hsp
       simp-implicitDefEqProofs (disch:=(first|omega|decide)) only[go_sem,↓reduceIte,seval,c1,hm,hw,hw2,ae,e1,lA,h4,z2,wrap_i64,List.length_map]
       exact left hle
      |false=>
       rw[h4]at hsp;have hle: ¬bk l s<=m:=by simpa using hsp
       simp-implicitDefEqProofs (disch:=(first|omega|decide)) only[go_sem,↓reduceIte,seval,c1,hm,hw,hw2,ae,e1,lA,h4,z2,wrap_i64,List.length_map]
       exact rightw hle
   · have e:a=bk l s:=by omega
     subst e;have c1: ¬((bk l s:Nat):Int)<(b:Int):=by omega
     simp-implicitDefEqProofs (disch:=(first|omega|decide)) only[go_sem,↓reduceIte,seval,c1,List.length_map]
end Go.Proofs.YtihgnfmoafjakaaGreat
