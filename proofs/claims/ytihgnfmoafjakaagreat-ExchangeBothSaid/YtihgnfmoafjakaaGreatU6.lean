/- What the laws of this claim rest on: the abstract executor, its soundness, and what the functions compute on pure data. No condition. -/
import Derived.Test.YtihgnfmoafjakaaGreatU5
import Derived.Shelf.SlSortCmp.NoneTotal
import Derived.Ground.SlsfProg
import Derived.Test.YtihgnfmoafjakaaGreatProg
noncomputable section
set_option linter.unusedVariables false
set_option linter.unusedSimpArgs false
namespace Go.Proofs.YtihgnfmoafjakaaGreat
open Go.bo
set_option linter.unusedSimpArgs false
set_option linter.unusedVariables false
set_option maxRecDepth 20000
set_option maxHeartbeats 8000000
@[go_sem] theorem ad.tV{n:Int}{rs:List aF}:ad.enc ⟨n,rs⟩= .agg [.int .i64 n,.ab (rs.map aF.enc)]:=rfl
theorem ad.eD(v w:ad)(h:v.enc=w.enc):v=w:=by cases v;cases w;simpa[ad.enc,ad.cells]using h
@[simp] theorem Gt{l m:List ad}:(l.map ad.enc=m.map ad.enc)=(l=m):=map_inj ad.eD
theorem eP{l:List ad}{k:Nat}(h:k<l.length):(l.map ad.enc)[k]? =some (.agg [.int .i64 l[k].n,.ab (l[k].rs.map aF.enc)]):=by rw[List.getElem?_map,List.getElem?_eq_getElem h];rfl
theorem Ap:ah Tryz.prog ud Tryz.f178.ntmps (Tryz.f178.body.getD .skip)=true:=by kernel_rfl
theorem Wk(n:Int):ay Tryz.prog 178 [.int .i64 n] (· = .bool (bE n)):=by
 refine aa IN mixed Tryz.func178 rfl (Nat.le_of_ble_eq_true rfl) Ap ?_;unfold Tryz.f178;by_cases h1:1<=n
 · simp-implicitDefEqProofs (disch:=(first|omega|decide)) only[go_sem,↓reduceIte,seval,h1,bE]
 · simp-implicitDefEqProofs (disch:=(first|omega|decide)) only[go_sem,↓reduceIte,seval,h1,bE]
def Rt:an:=ud.add 178 (entry (fun(n:Int)=>[.int .i64 n]) (fun n=>True) (fun n=> .bool (bE n)))
theorem K14a_ok:ag Tryz.prog Rt:=IN.bN Tryz.func178 (by kernel_rfl) (by kernel_rfl) fun n h=>Wk n
@[go_sem] theorem K14a_old{g:FuncId}{xs:List A}(h:g≠178):Rt.f g xs=ud.f g xs:=an.ak h
theorem vQ(n:Int)(h:True):Rt.f 178 [.int .i64 n]=some (.bool (bE n)):=an.ao (Γ:=ud) (fun i j h=>by simpa[Prod.ext_iff,and_assoc]using h) n h
@[go_sem] theorem k_replica{n:Int}:Rt.f 178 [.int .i64 n]=some (.bool (bE n)):=vQ n trivial
def Oj:an:=Rt.add 125 (entry (fun(v:Int×Int)=>[.agg [.int .i64 v.1,.int .i64 v.2]]) (fun v=>True) (fun v=> .bool (aN ⟨v.1,v.2⟩)))
theorem K14b_ok:ag Tryz.prog Oj:=K14a_ok.bN Tryz.func125 (by kernel_rfl) (by kernel_rfl) fun v h=>pv v.1 v.2
@[go_sem] theorem K14b_old{g:FuncId}{xs:List A}(h:g≠125):Oj.f g xs=Rt.f g xs:=an.ak h
theorem uf(v:Int×Int)(h:True):Oj.f 125 [.agg [.int .i64 v.1,.int .i64 v.2]]=some (.bool (aN ⟨v.1,v.2⟩)):=an.ao (Γ:=Rt) (fun i j h=>by simpa[Prod.ext_iff,and_assoc]using h) v h
def Aq:an:=Oj.add 94 (entry (fun(v:Int×Int)=>[.agg [.int .i64 v.1,.int .i64 v.2]]) (fun v=>True) (fun v=> .bool (aN ⟨v.1,v.2⟩)))
theorem vR:ag Tryz.prog Aq:=K14b_ok.bN Tryz.func94 (by kernel_rfl) (by kernel_rfl) fun v h=>nu v.1 v.2
@[go_sem] theorem K14c_old{g:FuncId}{xs:List A}(h:g≠94):Aq.f g xs=Oj.f g xs:=an.ak h
@[go_sem] theorem K14c_s:Aq.pl Oj:=⟨fun _=>rfl,fun _=>rfl,rfl,fun _=>rfl,rfl,fun _=>rfl,rfl⟩
theorem xM(v:Int×Int)(h:True):Aq.f 94 [.agg [.int .i64 v.1,.int .i64 v.2]]=some (.bool (aN ⟨v.1,v.2⟩)):=an.ao (Γ:=Oj) (fun i j h=>by simpa[Prod.ext_iff,and_assoc]using h) v h
@[go_sem] theorem XD{r c:Int}:Oj.f 125 [.agg [.int .i64 r,.int .i64 c]]=some (.bool (aN ⟨r,c⟩)):=uf (r,c) trivial
@[go_sem] theorem k_ref12_Right{r c:Int}:Aq.f 94 [.agg [.int .i64 r,.int .i64 c]]=some (.bool (aN ⟨r,c⟩)):=xM (r,c) trivial
def bA(s:List ad):Nat:=(s.map fun k=>k.rs.length).sum
def aK(s:List ad):Prop:=s.length<=1000000/\bA s<=1000000
theorem mn{s:List ad}{k:ad}(h:k∈s):k.rs.length<=bA s:=by
 induction s with
 |nil=>cases h
 |cons q s ih=>
  simp only[bA,List.map_cons,List.sum_cons]
  rcases List.mem_cons.1 h with rfl|h
  · omega
  · have:=ih h;simp only[bA]at this;omega
theorem gh(s:List ad)(n:Int):(aD s n).length<=bA s:=by
 induction s with
 |nil=>simp[aD,bA]
 |cons q s ih=>
  simp only[aD,bA,List.map_cons,List.sum_cons]at ih⊢;split
  · rw[List.length_append];omega
  · omega
theorem dZ(s t:List ad):bA (s++t)=bA s+bA t:=by simp[bA]
theorem IP{s:List ad}{k:Nat}(h:k<s.length):bA (s.take k)+s[k].rs.length<=bA s:=by
 have e:s=s.take k++s[k]::s.drop (k+1):=by rw[<-List.drop_eq_getElem_cons h,List.take_append_drop]
 have h2:bA s=bA (s.take k)+bA (s[k]::s.drop (k+1)):=by rw[<-dZ,<-e]
 have h3:bA (s[k]::s.drop (k+1))=s[k].rs.length+bA (s.drop (k+1)):=by unfold bA;rw[List.map_cons,List.sum_cons]
 omega
theorem Gu:ah Tryz.prog Aq Tryz.f143.ntmps (Tryz.f143.body.getD .skip)=true:=by kernel_rfl
theorem Kr(s:List ad)(hs:aK s):ay Tryz.prog 143 [.ab (s.map ad.enc)] (· = .bool (bc s)):=by
 refine aa vR mixed Tryz.func143 rfl (Nat.le_of_ble_eq_true rfl) Gu ?_;unfold Tryz.f143;obtain⟨hs1,hs2⟩:=hs;simp-implicitDefEqProofs (disch:=(first|omega|decide)) only[go_sem,↓reduceIte,seval,List.length_map]
 refine ar [0,6,7] (ι:={q:Nat×Int//q.1<=s.length/\bc s=Df q.2 (s.drop q.1)}) (fun q=>[(8,.int .i64 q.1.1),(3,.int .i64 q.1.2)]) (fun _=>[]) (fun q=>s.length-q.1.1) ⟨(0,0),by simp,rfl⟩ (Nat.zero_le _) ?_ ?_
 · simp-implicitDefEqProofs (disch:=(first|omega|decide)) only[go_sem,↓reduceIte,seval]
 · rintro⟨⟨k,p⟩,hk,hd⟩
   simp only at hk hd⊢;by_cases aw:k<s.length
   · have ae:(k:Int)<(s.length:Int):=by omega
     have e1:=eP aw;have hm:=mn (List.getElem_mem aw)
     rw[List.drop_eq_getElem_cons aw]at hd;generalize hx:s[k]=x at*;obtain⟨n,rs⟩:=x;simp only[Df,NU]at hd hm;have next:bc s=Df n (s.drop (k+1))-> ∃j:{q:Nat×Int//q.1<=s.length/\bc s=Df q.2 (s.drop q.1)},((k:Int)+1=(j.1.1:Int)/\n=j.1.2)/\s.length-j.1.1<s.length-k:=fun h=>⟨⟨(k+1,n),aw,h⟩,⟨by simp,rfl⟩,by show s.length-(k+1)<s.length-k;omega⟩
     cases h1:bE n with
     |false=>
      have hh:bc s=false:=by rw[hd,h1];simp
      simp-implicitDefEqProofs (disch:=(first|omega|decide)) only[go_sem,↓reduceIte,seval,ae,e1,h1,hh,List.length_map]
     |true=>
      by_cases h2:n<=p
      · have hh:bc s=false:=by rw[hd,decide_eq_false (show¬p<n by omega)];simp
        simp-implicitDefEqProofs (disch:=(first|omega|decide)) only[go_sem,↓reduceIte,seval,ae,e1,h1,h2,hh,List.length_map]
      · cases h3:((rs.length:Int)==0)with
        |true=>
          have:rs=[]:=List.length_eq_zero_iff.1 (by have:(rs.length:Int)=0:=by simpa using h3
                                                    omega)
          have hh:bc s=false:=by rw[hd,this];simp
          simp-implicitDefEqProofs (disch:=(first|omega|decide)) only[go_sem,↓reduceIte,seval,ae,e1,h1,h2,h3,hh,List.length_map]
        |false=>
          have cg:rs.isEmpty=false:=by
           cases rs with
           |nil=>simp at h3
           |cons _ _=>rfl
          cases h4:bz rs with
          |false=>
           have hh:bc s=false:=by rw[hd,h4];simp
           simp-implicitDefEqProofs (disch:=(first|omega|decide)) only[go_sem,↓reduceIte,seval,ae,e1,h1,h2,h3,h4,hh,List.length_map]
          |true=>
           have hh:bc s=Df n (s.drop (k+1)):=by rw[hd,h1,h4,cg,decide_eq_true (show p<n by omega)];simp
           simp-implicitDefEqProofs (disch:=(first|omega|decide)) only[go_sem,↓reduceIte,seval,ae,e1,h1,h2,h3,h4,wrap_i64,List.length_map]
           exact next hh
   · have ae: ¬(k:Int)<(s.length:Int):=by omega
     have hh:bc s=true:=by rw[hd,List.drop_of_length_le (by omega)];rfl
     simp-implicitDefEqProofs (disch:=(first|omega|decide)) only[go_sem,↓reduceIte,seval,ae,hh,List.length_map]
end Go.Proofs.YtihgnfmoafjakaaGreat
namespace Go.Proofs.YtihgnfmoafjakaaGreat
open Go.bo
set_option linter.unusedSimpArgs false
set_option linter.unusedVariables false
set_option maxRecDepth 20000
set_option maxHeartbeats 8000000
def zN(s:List ad)(k:Nat):Int:=if k=0 then 0 else s[k-1]!.n
theorem DE:ah Tryz.prog Aq Tryz.f133.ntmps (Tryz.f133.body.getD .skip)=true:=by kernel_rfl
theorem Gv(s:List ad)(hs:aK s):ay Tryz.prog 133 [.ab (s.map ad.enc)] (· = .bool (bc s)):=by
 refine aa vR mixed Tryz.func133 rfl (Nat.le_of_ble_eq_true rfl) DE ?_;unfold Tryz.f133;obtain⟨hs1,hs2⟩:=hs;simp-implicitDefEqProofs (disch:=(first|omega|decide)) only[go_sem,↓reduceIte,seval,List.length_map]
 refine ar [0] (ι:={k:Nat//k<=s.length/\bc s=Df (zN s k) (s.drop k)}) (fun q=>[(3,.int .i64 q.1)]) (fun _=>[]) (fun q=>s.length-q.1) ⟨0,by omega,rfl⟩ (Nat.zero_le _) ?_ ?_
 · simp-implicitDefEqProofs (disch:=(first|omega|decide)) only[go_sem,↓reduceIte,seval]
 · rintro⟨k,hk,hd⟩
   simp only at hk hd⊢;by_cases aw:k<s.length
   · have ae:(k:Int)<(s.length:Int):=by omega
     have e1:=eP aw;have hm:=mn (List.getElem_mem aw)
     have hp:zN s (k+1)=s[k].n:=by unfold zN;rw[if_neg (by omega),Nat.add_sub_cancel,getElem!_pos s k aw]
     rw[List.drop_eq_getElem_cons aw]at hd;generalize hx:s[k]=x at*;obtain⟨n,rs⟩:=x;simp only[Df,NU]at hd hm hp;have next:bc s=Df n (s.drop (k+1))-> ∃j:{k:Nat//k<=s.length/\bc s=Df (zN s k) (s.drop k)},(k:Int)+1=(j.1:Int)/\s.length-j.1<s.length-k:=fun h=>⟨⟨k+1,aw,by rw[hp];exact h⟩,by simp,by show s.length-(k+1)<s.length-k;omega⟩
     by_cases h1:n<1
     · have hh:bc s=false:=by
        rw[hd,show bE n=false by rw[<-Bool.not_eq_true,bL];omega];simp
       simp-implicitDefEqProofs (disch:=(first|omega|decide)) only[go_sem,↓reduceIte,seval,ae,e1,h1,hh,List.length_map]
     · by_cases h2:16<n
       · have hh:bc s=false:=by
          rw[hd,show bE n=false by rw[<-Bool.not_eq_true,bL];omega];simp
         simp-implicitDefEqProofs (disch:=(first|omega|decide)) only[go_sem,↓reduceIte,seval,ae,e1,h1,h2,hh,List.length_map]
       · have hr:bE n=true:=bL.2 (by omega)
         have rest:zN s k<n-> ∀(c:Bool),c=(!rs.isEmpty&&bz rs)->bc s=(c&&Df n (s.drop (k+1))):=fun hp c hc=>by rw[hd,hr,decide_eq_true hp,hc];simp[Bool.and_assoc]
         by_cases xg:k=0
         · have hz: ¬(0:Int)<(k:Int):=by omega
           have DF:=rest (by unfold zN;rw[if_pos xg];omega)
           cases h3:((rs.length:Int)==0)with
           |true=>
            have:rs=[]:=List.length_eq_zero_iff.1 (by have:(rs.length:Int)=0:=by simpa using h3
                                                      omega)
            have hh:bc s=false:=by rw[DF false (by rw[this];rfl)];rfl
            simp-implicitDefEqProofs (disch:=(first|omega|decide)) only[go_sem,↓reduceIte,seval,ae,e1,h1,h2,hz,h3,hh,List.length_map]
           |false=>
            have cg:rs.isEmpty=false:=by
             cases rs with
             |nil=>simp at h3
             |cons _ _=>rfl
            cases h4:bz rs with
            |false=>
             have hh:bc s=false:=by rw[DF false (by rw[cg,h4];rfl)];rfl
             simp-implicitDefEqProofs (disch:=(first|omega|decide)) only[go_sem,↓reduceIte,seval,ae,e1,h1,h2,hz,h3,h4,hh,List.length_map]
            |true=>
             have hh:=DF true (by rw[cg,h4];rfl)
             simp-implicitDefEqProofs (disch:=(first|omega|decide)) only[go_sem,↓reduceIte,seval,ae,e1,h1,h2,hz,h3,h4,wrap_i64,List.length_map]
             exact next hh
         · have hz:(0:Int)<(k:Int):=by omega
           have lF:k-1<s.length:=by omega
           have e2:=eP lF;have Qg:zN s k=s[k-1].n:=by unfold zN;rw[if_neg xg,getElem!_pos s (k-1) lF]
           generalize hy:s[k-1]=y at*;obtain⟨n',rs'⟩:=y;simp only at Qg;have c1:((k:Int)-1).toNat=k-1:=by omega
           have c2:(0:Int)<=(k:Int)-1:=by omega
           by_cases h5:n<=n'
           · have hh:bc s=false:=by rw[hd,Qg,decide_eq_false (show¬n'<n by omega)];simp
             simp-implicitDefEqProofs (disch:=(first|omega|decide)) only[go_sem,↓reduceIte,seval,ae,e1,h1,h2,hz,e2,c1,c2,h5,hh,wrap_i64,List.length_map]
           · have DF:=rest (by rw[Qg];omega)
             cases h3:((rs.length:Int)==0)with
             |true=>
              have:rs=[]:=List.length_eq_zero_iff.1 (by have:(rs.length:Int)=0:=by simpa using h3
                                                        omega)
              have hh:bc s=false:=by rw[DF false (by rw[this];rfl)];rfl
              simp-implicitDefEqProofs (disch:=(first|omega|decide)) only[go_sem,↓reduceIte,seval,ae,e1,h1,h2,hz,e2,c1,c2,h5,h3,hh,wrap_i64,List.length_map]
             |false=>
              have cg:rs.isEmpty=false:=by
               cases rs with
               |nil=>simp at h3
               |cons _ _=>rfl
              cases h4:bz rs with
              |false=>
               have hh:bc s=false:=by rw[DF false (by rw[cg,h4];rfl)];rfl
               simp-implicitDefEqProofs (disch:=(first|omega|decide)) only[go_sem,↓reduceIte,seval,ae,e1,h1,h2,hz,e2,c1,c2,h5,h3,h4,hh,wrap_i64,List.length_map]
              |true=>
               have hh:=DF true (by rw[cg,h4];rfl)
               simp-implicitDefEqProofs (disch:=(first|omega|decide)) only[go_sem,↓reduceIte,seval,ae,e1,h1,h2,hz,e2,c1,c2,h5,h3,h4,wrap_i64,List.length_map]
               exact next hh
   · have ae: ¬(k:Int)<(s.length:Int):=by omega
     have hh:bc s=true:=by rw[hd,List.drop_of_length_le (by omega)];rfl
     simp-implicitDefEqProofs (disch:=(first|omega|decide)) only[go_sem,↓reduceIte,seval,ae,hh,List.length_map]
theorem Wl{n c:Int}:aN ⟨n,c⟩=(bE n&&(decide (1<=c)&&decide (c<=1099511627776))):=by simp[aN,bE,Bool.and_assoc]
theorem Uc{s:List ad}{n c:Int}:(aN ⟨n,c⟩&&ai (aD s n) c)=oS s n c:=by
 rw[Wl];unfold oS
 cases h:ai (aD s n) c with
 |false=>simp
 |true=>have:=V7 h;simp[this]
theorem Ol:ah Tryz.prog Aq Tryz.f129.ntmps (Tryz.f129.body.getD .skip)=true:=by kernel_rfl
theorem Ru(s:List ad)(n c:Int)(hs:aK s):ay Tryz.prog 129 [.ab (s.map ad.enc),.agg [.int .i64 n,.int .i64 c]] (· = .bool (oS s n c)):=by
 refine aa vR mixed Tryz.func129 rfl (Nat.le_of_ble_eq_true rfl) Ol ?_;unfold Tryz.f129;obtain⟨hs1,hs2⟩:=hs;have hv:=Uc (s:=s) (n:=n) (c:=c)
 cases h1:aN ⟨n,c⟩with
 |false=>
  rw[h1,Bool.false_and]at hv;simp-implicitDefEqProofs (disch:=(first|omega|decide)) only[go_sem,↓reduceIte,seval,h1,<-hv,List.length_map]
 |true=>
  rw[h1,Bool.true_and]at hv;simp-implicitDefEqProofs (disch:=(first|omega|decide)) only[go_sem,↓reduceIte,seval,h1,<-hv,List.length_map]
  refine ar [0,3,10,11] (ι:={k:Nat//k<=s.length/\ai (aD s n) c=ai (aD (s.drop k) n) c}) (fun p=>[(12,.int .i64 p.1)]) (fun _=>[]) (fun p=>s.length-p.1) ⟨0,by omega,rfl⟩ (Nat.zero_le _) ?_ ?_
  · simp-implicitDefEqProofs (disch:=(first|omega|decide)) only[go_sem,↓reduceIte,seval]
  · rintro⟨k,hk,hd⟩
    simp only at hk hd⊢;by_cases aw:k<s.length
    · have ae:(k:Int)<(s.length:Int):=by omega
      have e1:=eP aw;have hm:=mn (List.getElem_mem aw)
      rw[List.drop_eq_getElem_cons aw]at hd;generalize hx:s[k]=x at*;obtain⟨m,rs⟩:=x;simp only[aD]at hd hm;have next:ai (aD s n) c=ai (aD (s.drop (k+1)) n) c-> ∃j:{k:Nat//k<=s.length/\ai (aD s n) c=ai (aD (s.drop k) n) c},(k:Int)+1=(j.1:Int)/\s.length-j.1<s.length-k:=fun h=>⟨⟨k+1,aw,h⟩,by simp,by show s.length-(k+1)<s.length-k;omega⟩
      cases h2:m==n with
      |false=>
       have:m≠n:=by simpa using h2
       rw[if_neg this]at hd;simp-implicitDefEqProofs (disch:=(first|omega|decide)) only[go_sem,↓reduceIte,seval,ae,e1,h2,wrap_i64,List.length_map]
       exact next hd
      |true=>
       have:m=n:=by simpa using h2
       rw[if_pos this,fL]at hd;cases h3:ai rs c with
       |true=>
        have hh:ai (aD s n) c=true:=by rw[hd,h3];rfl
        simp-implicitDefEqProofs (disch:=(first|omega|decide)) only[go_sem,↓reduceIte,seval,ae,e1,h2,h3,hh,List.length_map]
       |false=>
        rw[h3,Bool.false_or]at hd;simp-implicitDefEqProofs (disch:=(first|omega|decide)) only[go_sem,↓reduceIte,seval,ae,e1,h2,h3,wrap_i64,List.length_map]
        exact next hd
    · have ae: ¬(k:Int)<(s.length:Int):=by omega
      have hh:ai (aD s n) c=false:=by rw[hd,List.drop_of_length_le (by omega)];rfl
      simp-implicitDefEqProofs (disch:=(first|omega|decide)) only[go_sem,↓reduceIte,seval,ae,hh,List.length_map]
theorem ZD(l:List aF):((l.map aF.enc).isEmpty||cd (l.map aF.enc)==2)=true:=by cases l<;>rfl
theorem ug{s:List ad}{k:Nat}(h:k<s.length)(n:Int):aD (s.take (k+1)) n=aD (s.take k) n++(if s[k].n=n then s[k].rs else []):=by
 rw[<-List.take_append_getElem h,dw]
 simp only[aD,List.append_nil]
theorem Gw:ah Tryz.prog Aq Tryz.f168.ntmps (Tryz.f168.body.getD .skip)=true:=by kernel_rfl
theorem Ks(s:List ad)(n:Int)(hs:aK s):ay Tryz.prog 168 [.ab (s.map ad.enc),.int .i64 n] (· = .ab ((aD s n).map aF.enc)):=by
 refine aa vR mixed Tryz.func168 rfl (Nat.le_of_ble_eq_true rfl) Gw ?_;unfold Tryz.f168;obtain⟨hs1,hs2⟩:=hs;simp-implicitDefEqProofs (disch:=(first|omega|decide)) only[go_sem,↓reduceIte,seval,List.length_map]
 refine aW 5 2 rfl ?_;refine ar [0,1] (ι:={k:Nat//k<=s.length}) (fun p=>[(6,.int .i64 p.1),(5,.row 0 0 2 (aD (s.take p.1) n).length false)]) (fun p=>[(0,.row 2 ((aD (s.take p.1) n).map aF.enc))]) (fun p=>s.length-p.1) ⟨0,by omega⟩ (Nat.zero_le _) ?_ ?_
 · simp-implicitDefEqProofs (disch:=(first|omega|decide)) only[go_sem,↓reduceIte,seval]
   simp[aD]
 · rintro⟨k,hk⟩
   simp only;have Zi:=gh (s.take k) n;by_cases aw:k<s.length
   · have ae:(k:Int)<(s.length:Int):=by omega
     have e1:=eP aw;have hm:=IP aw;have eZ:=ug aw n;generalize hx:s[k]=x at*;obtain⟨m,rs⟩:=x;simp only at hm eZ;have st:=ZD rs;cases h2:m==n with
     |false=>
      have:m≠n:=by simpa using h2
      rw[if_neg this,List.append_nil]at eZ;simp-implicitDefEqProofs (disch:=(first|omega|decide)) only[go_sem,↓reduceIte,seval,ae,e1,h2,wrap_i64,List.length_map]
      exact⟨⟨k+1,aw⟩,⟨⟨by simp,by rw[eZ]⟩,by rw[eZ]⟩,by show s.length-(k+1)<s.length-k;omega⟩
     |true=>
      have:m=n:=by simpa using h2
      rw[if_pos this]at eZ;simp-implicitDefEqProofs (disch:=(first|omega|decide)) only[go_sem,↓reduceIte,seval,ae,e1,h2,st,wrap_i64,List.length_map]
      exact⟨⟨Nat.le_refl _,by omega⟩,⟨k+1,aw⟩,⟨⟨by simp,by rw[eZ,List.length_append]⟩,by rw[eZ,List.map_append,List.take_of_length_le (by simp)]⟩,by show s.length-(k+1)<s.length-k;omega⟩
   · have ae: ¬(k:Int)<(s.length:Int):=by omega
     rw[List.take_of_length_le (by omega)]at*;simp-implicitDefEqProofs (disch:=(first|omega|decide)) only[go_sem,↓reduceIte,seval,ae,List.length_map]
     exact⟨Nat.le_refl _,by rw[List.take_of_length_le (by simp)]⟩
def Rv:an:=Aq.add 143 (entry (fun(s:List ad)=>[.ab (s.map ad.enc)]) (fun s=>aK s) (fun s=> .bool (bc s)))
theorem K14d_ok:ag Tryz.prog Rv:=vR.bN Tryz.func143 (by kernel_rfl) (by kernel_rfl) fun s h=>Kr s h
@[go_sem] theorem K14d_old{g:FuncId}{xs:List A}(h:g≠143):Rv.f g xs=Aq.f g xs:=an.ak h
theorem Ar(s:List ad)(h:aK s):Rv.f 143 [.ab (s.map ad.enc)]=some (.bool (bc s)):=an.ao (Γ:=Aq) (fun i j h=>by simpa[Prod.ext_iff,and_assoc]using h) s h
def Rw:an:=Rv.add 133 (entry (fun(s:List ad)=>[.ab (s.map ad.enc)]) (fun s=>aK s) (fun s=> .bool (bc s)))
theorem K14e_ok:ag Tryz.prog Rw:=K14d_ok.bN Tryz.func133 (by kernel_rfl) (by kernel_rfl) fun s h=>Gv s h
@[go_sem] theorem K14e_old{g:FuncId}{xs:List A}(h:g≠133):Rw.f g xs=Rv.f g xs:=an.ak h
theorem xN(s:List ad)(h:aK s):Rw.f 133 [.ab (s.map ad.enc)]=some (.bool (bc s)):=an.ao (Γ:=Rv) (fun i j h=>by simpa[Prod.ext_iff,and_assoc]using h) s h
def Om:an:=Rw.add 129 (entry (fun(v:List ad×Int×Int)=>[.ab (v.1.map ad.enc),.agg [.int .i64 v.2.1,.int .i64 v.2.2]]) (fun v=>aK v.1) (fun v=> .bool (oS v.1 v.2.1 v.2.2)))
theorem K14f_ok:ag Tryz.prog Om:=K14e_ok.bN Tryz.func129 (by kernel_rfl) (by kernel_rfl) fun v h=>Ru v.1 v.2.1 v.2.2 h
@[go_sem] theorem K14f_old{g:FuncId}{xs:List A}(h:g≠129):Om.f g xs=Rw.f g xs:=an.ak h
theorem Gx(v:List ad×Int×Int)(h:aK v.1):Om.f 129 [.ab (v.1.map ad.enc),.agg [.int .i64 v.2.1,.int .i64 v.2.2]]=some (.bool (oS v.1 v.2.1 v.2.2)):=an.ao (Γ:=Rw) (fun i j h=>by simpa[Prod.ext_iff,and_assoc]using h) v h
def Gy:an:=Om.add 168 (entry (fun(v:List ad×Int)=>[.ab (v.1.map ad.enc),.int .i64 v.2]) (fun v=>aK v.1) (fun v=> .ab ((aD v.1 v.2).map aF.enc)))
theorem Ud:ag Tryz.prog Gy:=K14f_ok.bN Tryz.func168 (by kernel_rfl) (by kernel_rfl) fun v h=>Ks v.1 v.2 h
@[go_sem] theorem K14g_old{g:FuncId}{xs:List A}(h:g≠168):Gy.f g xs=Om.f g xs:=an.ak h
@[go_sem] theorem K14g_s:Gy.pl Om:=⟨fun _=>rfl,fun _=>rfl,rfl,fun _=>rfl,rfl,fun _=>rfl,rfl⟩
theorem As(v:List ad×Int)(h:aK v.1):Gy.f 168 [.ab (v.1.map ad.enc),.int .i64 v.2]=some (.ab ((aD v.1 v.2).map aF.enc)):=an.ao (Γ:=Om) (fun i j h=>by simpa[Prod.ext_iff,and_assoc]using h) v h
@[go_sem] theorem Kt{s:List ad}(h:aK s):Rv.f 143 [.ab (s.map ad.enc)]=some (.bool (bc s)):=Ar s h
@[go_sem] theorem Gz{s:List ad}(h:aK s):Rw.f 133 [.ab (s.map ad.enc)]=some (.bool (bc s)):=xN s h
@[go_sem] theorem Rx{s:List ad}{n c:Int}(h:aK s):Om.f 129 [.ab (s.map ad.enc),.agg [.int .i64 n,.int .i64 c]]=some (.bool (oS s n c)):=Gx (s,n,c) h
@[go_sem] theorem oW{s:List ad}{n:Int}(h:aK s):Gy.f 168 [.ab (s.map ad.enc),.int .i64 n]=some (.ab ((aD s n).map aF.enc)):=As (s,n) h
theorem Ku:ah Tryz.prog Gy Tryz.f131.ntmps (Tryz.f131.body.getD .skip)=true:=by kernel_rfl
theorem On(s:List ad)(n c:Int)(hs:aK s):ay Tryz.prog 131 [.ab (s.map ad.enc),.agg [.int .i64 n,.int .i64 c]] (· = .bool (oS s n c)):=by
 refine aa Ud mixed Tryz.func131 rfl (Nat.le_of_ble_eq_true rfl) Ku ?_;unfold Tryz.f131;have hl:=gh s n;have Qk:=hs.2;have hv:=Uc (s:=s) (n:=n) (c:=c)
 have hr:=oW (n:=n) hs;cases h1:aN ⟨n,c⟩with
 |false=>
  rw[h1,Bool.false_and]at hv;simp-implicitDefEqProofs (disch:=(first|omega|decide)) only[go_sem,↓reduceIte,seval,h1,hr,<-hv,List.length_map]
 |true=>
  rw[h1,Bool.true_and]at hv;simp-implicitDefEqProofs (disch:=(first|omega|decide)) only[go_sem,↓reduceIte,seval,h1,hr,<-hv,List.length_map]
def GA:an:=Gy.add 131 (entry (fun(v:List ad×Int×Int)=>[.ab (v.1.map ad.enc),.agg [.int .i64 v.2.1,.int .i64 v.2.2]]) (fun v=>aK v.1) (fun v=> .bool (oS v.1 v.2.1 v.2.2)))
theorem Ue:ag Tryz.prog GA:=Ud.bN Tryz.func131 (by kernel_rfl) (by kernel_rfl) fun v h=>On v.1 v.2.1 v.2.2 h
@[go_sem] theorem K14h_old{g:FuncId}{xs:List A}(h:g≠131):GA.f g xs=Gy.f g xs:=an.ak h
@[go_sem] theorem K14h_s:GA.pl Gy:=⟨fun _=>rfl,fun _=>rfl,rfl,fun _=>rfl,rfl,fun _=>rfl,rfl⟩
theorem DG(v:List ad×Int×Int)(h:aK v.1):GA.f 131 [.ab (v.1.map ad.enc),.agg [.int .i64 v.2.1,.int .i64 v.2.2]]=some (.bool (oS v.1 v.2.1 v.2.2)):=an.ao (Γ:=Gy) (fun i j h=>by simpa[Prod.ext_iff,and_assoc]using h) v h
@[go_sem] theorem Oo{s:List ad}{n c:Int}(h:aK s):GA.f 131 [.ab (s.map ad.enc),.agg [.int .i64 n,.int .i64 c]]=some (.bool (oS s n c)):=DG (s,n,c) h
end Go.Proofs.YtihgnfmoafjakaaGreat
namespace Go.Proofs.YtihgnfmoafjakaaGreat
open Go.bo
set_option linter.unusedSimpArgs false
set_option linter.unusedVariables false
set_option maxRecDepth 20000
set_option maxHeartbeats 8000000
def bZ(a b:List ad):Bool:=decide (a=b)
def zO(x y:ad):Bool:=x.n==y.n&&fV x.rs y.rs
theorem IQ{x y:ad}:zO x y=true ↔ x=y:=by cases x;cases y;simp[zO,fV]
theorem eG:ah Tryz.prog GA Tryz.f114.ntmps (Tryz.f114.body.getD .skip)=true:=by kernel_rfl
theorem Oq(a b:List aF)(hl:a.length<=4398046511104)(hb:b.length<=4398046511104):ay Tryz.prog 114 [.ab (a.map aF.enc),.ab (b.map aF.enc)] (· = .bool (fV a b)):=by
 refine aa Ue mixed Tryz.func114 rfl (Nat.le_of_ble_eq_true rfl) eG ?_;unfold Tryz.f114;cases h0:((a.length:Int)==(b.length:Int))with
 |false=>
  have cg:a.length≠b.length:=by
   have:(a.length:Int)≠(b.length:Int):=by simpa using h0
   omega
  have hh:fV a b=false:=by unfold fV;simp;intro e;exact cg (by rw[e])
  simp-implicitDefEqProofs (disch:=(first|omega|decide)) only[go_sem,↓reduceIte,seval,h0,hh,List.length_map]
 |true=>
  have he:a.length=b.length:=by
   have:(a.length:Int)=(b.length:Int):=by simpa using h0
   omega
  simp-implicitDefEqProofs (disch:=(first|omega|decide)) only[go_sem,↓reduceIte,seval,h0,List.length_map]
  refine ar [0,1,12] (ι:={k:Nat//k<=a.length/\a.take k=b.take k}) (fun p=>[(13,.int .i64 p.1)]) (fun _=>[]) (fun p=>a.length-p.1) ⟨0,by omega,rfl⟩ (Nat.zero_le _) ?_ ?_
  · simp-implicitDefEqProofs (disch:=(first|omega|decide)) only[go_sem,↓reduceIte,seval]
  · rintro⟨k,hk,hd⟩
    simp only;by_cases aw:k<a.length
    · have ae:(k:Int)<(a.length:Int):=by omega
      have oZ:(k:Int)<(b.length:Int):=by omega
      have iH:k<b.length:=by omega
      have e1:=run_get aw;have e2:=run_get iH;have t1:=(List.take_append_getElem aw).symm;have t2:=(List.take_append_getElem iH).symm;have sj:a[k]≠b[k]->fV a b=false:=fun h=>by unfold fV;simp;intro e;subst e;exact h rfl
      generalize hx:a[k]=x at*;generalize hy:b[k]=y at*;obtain⟨f,t⟩:=x;obtain⟨f',t'⟩:=y;cases h1:f==f' with
      |false=>
       have hh:=sj (by have:f≠f':=by simpa using h1
                       simp[this])
       simp-implicitDefEqProofs (disch:=(first|omega|decide)) only[go_sem,↓reduceIte,seval,ae,oZ,e1,e2,h1,hh,List.length_map]
      |true=>
       cases h2:t==t' with
       |false=>
        have hh:=sj (by have:t≠t':=by simpa using h2
                        simp[this])
        simp-implicitDefEqProofs (disch:=(first|omega|decide)) only[go_sem,↓reduceIte,seval,ae,oZ,e1,e2,h1,h2,hh,List.length_map]
       |true=>
        obtain rfl:f=f':=by simpa using h1
        obtain rfl:t=t':=by simpa using h2
        simp-implicitDefEqProofs (disch:=(first|omega|decide)) only[go_sem,↓reduceIte,seval,ae,oZ,e1,e2,h1,h2,wrap_i64,List.length_map]
        exact⟨⟨k+1,aw,by rw[t1,t2,hd]⟩,by simp,by show a.length-(k+1)<a.length-k;omega⟩
    · have ae: ¬(k:Int)<(a.length:Int):=by omega
      have hh:fV a b=true:=by rw[List.take_of_length_le (by omega),List.take_of_length_le (by omega)]at hd;simp[fV,hd]
      simp-implicitDefEqProofs (disch:=(first|omega|decide)) only[go_sem,↓reduceIte,seval,ae,hh,List.length_map]
def GB:an:=GA.add 114 (entry (fun(v:List aF×List aF)=>[.ab (v.1.map aF.enc),.ab (v.2.map aF.enc)]) (fun v=>v.1.length<=4398046511104/\v.2.length<=4398046511104) (fun v=> .bool (fV v.1 v.2)))
theorem Uf:ag Tryz.prog GB:=Ue.bN Tryz.func114 (by kernel_rfl) (by kernel_rfl) fun v h=>Oq v.1 v.2 h.1 h.2
@[go_sem] theorem K14i_old{g:FuncId}{xs:List A}(h:g≠114):GB.f g xs=GA.f g xs:=an.ak h
@[go_sem] theorem K14i_s:GB.pl GA:=⟨fun _=>rfl,fun _=>rfl,rfl,fun _=>rfl,rfl,fun _=>rfl,rfl⟩
theorem en(v:List aF×List aF)(h:v.1.length<=4398046511104/\v.2.length<=4398046511104):GB.f 114 [.ab (v.1.map aF.enc),.ab (v.2.map aF.enc)]=some (.bool (fV v.1 v.2)):=an.ao (Γ:=GA) (fun i j h=>by simpa[Prod.ext_iff,and_assoc]using h) v h
@[go_sem] theorem k_Equal_Run{a b:List aF}(ha:a.length<=4398046511104)(hb:b.length<=4398046511104):GB.f 114 [.ab (a.map aF.enc),.ab (b.map aF.enc)]=some (.bool (fV a b)):=en (a,b) ⟨ha,hb⟩
theorem DH:ah Tryz.prog GB Tryz.f180.ntmps (Tryz.f180.body.getD .skip)=true:=by kernel_rfl
theorem Kv(x y:ad)(hx:x.rs.length<=4398046511104)(hy:y.rs.length<=4398046511104):ay Tryz.prog 180 [.agg [.int .i64 x.n,.ab (x.rs.map aF.enc)],.agg [.int .i64 y.n,.ab (y.rs.map aF.enc)]] (· = .bool (zO x y)):=by
 refine aa Uf mixed Tryz.func180 rfl (Nat.le_of_ble_eq_true rfl) DH ?_;unfold Tryz.f180;unfold zO;cases h1:x.n==y.n with
 |false=>simp-implicitDefEqProofs (disch:=(first|omega|decide)) only[go_sem,↓reduceIte,seval,h1,List.length_map]
 |true=>simp-implicitDefEqProofs (disch:=(first|omega|decide)) only[go_sem,↓reduceIte,seval,h1,hx,hy,List.length_map]
def Au:an:=GB.add 180 (entry (fun(v:(Int×List aF)×(Int×List aF))=>[.agg [.int .i64 v.1.1,.ab (v.1.2.map aF.enc)],.agg [.int .i64 v.2.1,.ab (v.2.2.map aF.enc)]]) (fun v=>v.1.2.length<=4398046511104/\v.2.2.length<=4398046511104) (fun v=> .bool (zO ⟨v.1.1,v.1.2⟩ ⟨v.2.1,v.2.2⟩)))
theorem vS:ag Tryz.prog Au:=Uf.bN Tryz.func180 (by kernel_rfl) (by kernel_rfl) fun v h=>Kv ⟨v.1.1,v.1.2⟩ ⟨v.2.1,v.2.2⟩ h.1 h.2
@[go_sem] theorem K14j_old{g:FuncId}{xs:List A}(h:g≠180):Au.f g xs=GB.f g xs:=an.ak h
@[go_sem] theorem K14j_s:Au.pl GB:=⟨fun _=>rfl,fun _=>rfl,rfl,fun _=>rfl,rfl,fun _=>rfl,rfl⟩
theorem xO(v:(Int×List aF)×(Int×List aF))(h:v.1.2.length<=4398046511104/\v.2.2.length<=4398046511104):Au.f 180 [.agg [.int .i64 v.1.1,.ab (v.1.2.map aF.enc)],.agg [.int .i64 v.2.1,.ab (v.2.2.map aF.enc)]]=some (.bool (zO ⟨v.1.1,v.1.2⟩ ⟨v.2.1,v.2.2⟩)):=an.ao (Γ:=GB) (fun i j h=>by simpa[Prod.ext_iff,and_assoc]using h) v h
@[go_sem] theorem k_vset_Same1{n m:Int}{rs qs:List aF}(ha:rs.length<=4398046511104)(hb:qs.length<=4398046511104):Au.f 180 [.agg [.int .i64 n,.ab (rs.map aF.enc)],.agg [.int .i64 m,.ab (qs.map aF.enc)]]=some (.bool (zO ⟨n,rs⟩ ⟨m,qs⟩)):=xO ((n,rs),(m,qs)) ⟨ha,hb⟩
theorem bO:ah Tryz.prog Au Tryz.f112.ntmps (Tryz.f112.body.getD .skip)=true:=by kernel_rfl
theorem Ot(a b:List ad)(ha:aK a)(hb:aK b):ay Tryz.prog 112 [.ab (a.map ad.enc),.ab (b.map ad.enc),.fn 180 []] (· = .bool (bZ a b)):=by
 refine aa vS mixed Tryz.func112 rfl (Nat.le_of_ble_eq_true rfl) bO ?_;unfold Tryz.f112;obtain⟨ha1,ha2⟩:=ha;obtain⟨Xx,hb2⟩:=hb;cases h0:((a.length:Int)==(b.length:Int))with
 |false=>
  have cg:a.length≠b.length:=by
   have:(a.length:Int)≠(b.length:Int):=by simpa using h0
   omega
  have hh:bZ a b=false:=by unfold bZ;simp;intro e;exact cg (by rw[e])
  simp-implicitDefEqProofs (disch:=(first|omega|decide)) only[go_sem,↓reduceIte,seval,h0,hh,List.length_map]
 |true=>
  have he:a.length=b.length:=by
   have:(a.length:Int)=(b.length:Int):=by simpa using h0
   omega
  simp-implicitDefEqProofs (disch:=(first|omega|decide)) only[go_sem,↓reduceIte,seval,h0,List.length_map]
  refine ar [0,1,2,15,16] (ι:={k:Nat//k<=a.length/\a.take k=b.take k}) (fun p=>[(17,.int .i64 p.1)]) (fun _=>[]) (fun p=>a.length-p.1) ⟨0,by omega,rfl⟩ (Nat.zero_le _) ?_ ?_
  · simp-implicitDefEqProofs (disch:=(first|omega|decide)) only[go_sem,↓reduceIte,seval]
  · rintro⟨k,hk,hd⟩
    simp only;by_cases aw:k<a.length
    · have ae:(k:Int)<(a.length:Int):=by omega
      have oZ:(k:Int)<(b.length:Int):=by omega
      have iH:k<b.length:=by omega
      have e1:=eP aw;have e2:=eP iH;have m1:=mn (List.getElem_mem aw)
      have m2:=mn (List.getElem_mem iH)
      have t1:=(List.take_append_getElem aw).symm;have t2:=(List.take_append_getElem iH).symm;have sj:a[k]≠b[k]->bZ a b=false:=fun h=>by unfold bZ;simp;intro e;subst e;exact h rfl
      generalize hx:a[k]=x at*;generalize hy:b[k]=y at*;obtain⟨n,rs⟩:=x;obtain⟨n',rs'⟩:=y;simp only at m1 m2;cases h1:zO ⟨n,rs⟩ ⟨n',rs'⟩with
      |false=>
       have hh:=sj (fun e=>by rw[IQ.2 e]at h1;cases h1)
       simp-implicitDefEqProofs (disch:=(first|omega|decide)) only[go_sem,↓reduceIte,seval,ae,oZ,e1,e2,h1,hh,List.length_map]
      |true=>
       have e:=IQ.1 h1;simp-implicitDefEqProofs (disch:=(first|omega|decide)) only[go_sem,↓reduceIte,seval,ae,oZ,e1,e2,h1,wrap_i64,List.length_map]
       exact⟨⟨k+1,aw,by rw[t1,t2,hd,e]⟩,by simp,by show a.length-(k+1)<a.length-k;omega⟩
    · have ae: ¬(k:Int)<(a.length:Int):=by omega
      have hh:bZ a b=true:=by rw[List.take_of_length_le (by omega),List.take_of_length_le (by omega)]at hd;simp[bZ,hd]
      simp-implicitDefEqProofs (disch:=(first|omega|decide)) only[go_sem,↓reduceIte,seval,ae,hh,List.length_map]
theorem GC:ah Tryz.prog Au Tryz.f84.ntmps (Tryz.f84.body.getD .skip)=true:=by kernel_rfl
theorem Kw(a b:List ad)(ha:aK a)(hb:aK b):ay Tryz.prog 84 [.ab (a.map ad.enc),.ab (b.map ad.enc)] (· = .bool (bZ a b)):=by
 refine aa vS mixed Tryz.func84 rfl (Nat.le_of_ble_eq_true rfl) GC ?_;unfold Tryz.f84;obtain⟨ha1,ha2⟩:=ha;obtain⟨Xx,hb2⟩:=hb;cases h0:((a.length:Int)==(b.length:Int))with
 |false=>
  have cg:a.length≠b.length:=by
   have:(a.length:Int)≠(b.length:Int):=by simpa using h0
   omega
  have hh:bZ a b=false:=by unfold bZ;simp;intro e;exact cg (by rw[e])
  simp-implicitDefEqProofs (disch:=(first|omega|decide)) only[go_sem,↓reduceIte,seval,h0,hh,List.length_map]
 |true=>
  have he:a.length=b.length:=by
   have:(a.length:Int)=(b.length:Int):=by simpa using h0
   omega
  simp-implicitDefEqProofs (disch:=(first|omega|decide)) only[go_sem,↓reduceIte,seval,h0,List.length_map]
  refine ar [0,1] (ι:={k:Nat//k<=a.length/\a.take k=b.take k}) (fun p=>[(5,.int .i64 p.1)]) (fun _=>[]) (fun p=>a.length-p.1) ⟨0,by omega,rfl⟩ (Nat.zero_le _) ?_ ?_
  · simp-implicitDefEqProofs (disch:=(first|omega|decide)) only[go_sem,↓reduceIte,seval]
  · rintro⟨k,hk,hd⟩
    simp only;by_cases aw:k<a.length
    · have ae:(k:Int)<(a.length:Int):=by omega
      have oZ:(k:Int)<(b.length:Int):=by omega
      have iH:k<b.length:=by omega
      have e1:=eP aw;have e2:=eP iH;have m1:=mn (List.getElem_mem aw)
      have m2:=mn (List.getElem_mem iH)
      have t1:=(List.take_append_getElem aw).symm;have t2:=(List.take_append_getElem iH).symm;have sj:a[k]≠b[k]->bZ a b=false:=fun h=>by unfold bZ;simp;intro e;subst e;exact h rfl
      generalize hx:a[k]=x at*;generalize hy:b[k]=y at*;obtain⟨n,rs⟩:=x;obtain⟨n',rs'⟩:=y;simp only at m1 m2;cases h1:n==n' with
      |false=>
       have hh:=sj (by have:n≠n':=by simpa using h1
                       simp[this])
       simp-implicitDefEqProofs (disch:=(first|omega|decide)) only[go_sem,↓reduceIte,seval,ae,oZ,e1,e2,h1,hh,List.length_map]
      |true=>
       obtain rfl:n=n':=by simpa using h1
       cases h2:fV rs rs' with
       |false=>
        have hh:=sj (by have:rs≠rs':=by simpa[fV]using h2
                        simp[this])
        simp-implicitDefEqProofs (disch:=(first|omega|decide)) only[go_sem,↓reduceIte,seval,ae,oZ,e1,e2,h1,h2,hh,List.length_map]
       |true=>
        obtain rfl:rs=rs':=by simpa[fV]using h2
        simp-implicitDefEqProofs (disch:=(first|omega|decide)) only[go_sem,↓reduceIte,seval,ae,oZ,e1,e2,h1,h2,wrap_i64,List.length_map]
        exact⟨⟨k+1,aw,by rw[t1,t2,hd]⟩,by simp,by show a.length-(k+1)<a.length-k;omega⟩
    · have ae: ¬(k:Int)<(a.length:Int):=by omega
      have hh:bZ a b=true:=by rw[List.take_of_length_le (by omega),List.take_of_length_le (by omega)]at hd;simp[bZ,hd]
      simp-implicitDefEqProofs (disch:=(first|omega|decide)) only[go_sem,↓reduceIte,seval,ae,hh,List.length_map]
def mY(s:List ad)(m:Int):Bool:=decide (m<(s.length:Int))||s.any fun k=>decide (m<(k.rs.length:Int))
theorem GD:ah Tryz.prog Au Tryz.f123.ntmps (Tryz.f123.body.getD .skip)=true:=by kernel_rfl
theorem Kx(s:List ad)(m:Int)(hs:s.length<=9223372036854775807):ay Tryz.prog 123 [.ab (s.map ad.enc),.int .i64 m] (· = .bool (mY s m)):=by
 refine aa vS mixed Tryz.func123 rfl (Nat.le_of_ble_eq_true rfl) GD ?_;unfold Tryz.f123;by_cases h0:m<(s.length:Int)
 · have hh:mY s m=true:=by unfold mY;rw[decide_eq_true h0];rfl
   simp-implicitDefEqProofs (disch:=(first|omega|decide)) only[go_sem,↓reduceIte,seval,h0,hh,List.length_map]
 · simp-implicitDefEqProofs (disch:=(first|omega|decide)) only[go_sem,↓reduceIte,seval,h0,List.length_map]
   refine ar [0,1] (ι:={k:Nat//k<=s.length/\mY s m=(s.drop k).any fun k=>decide (m<(k.rs.length:Int))}) (fun p=>[(5,.int .i64 p.1)]) (fun _=>[]) (fun p=>s.length-p.1) ⟨0,by omega,by unfold mY;rw[decide_eq_false h0,Bool.false_or];rfl⟩ (Nat.zero_le _) ?_ ?_
   · simp-implicitDefEqProofs (disch:=(first|omega|decide)) only[go_sem,↓reduceIte,seval]
   · rintro⟨k,hk,hd⟩
     simp only at hk hd⊢;by_cases aw:k<s.length
     · have ae:(k:Int)<(s.length:Int):=by omega
       have e1:=eP aw;rw[List.drop_eq_getElem_cons aw,List.any_cons]at hd;generalize hx:s[k]=x at*;obtain⟨n,rs⟩:=x;simp only at hd;by_cases h1:m<(rs.length:Int)
       · have hh:mY s m=true:=by rw[hd,decide_eq_true h1];rfl
         simp-implicitDefEqProofs (disch:=(first|omega|decide)) only[go_sem,↓reduceIte,seval,ae,e1,h1,hh,List.length_map]
       · rw[decide_eq_false h1,Bool.false_or]at hd
         simp-implicitDefEqProofs (disch:=(first|omega|decide)) only[go_sem,↓reduceIte,seval,ae,e1,h1,wrap_i64,List.length_map]
         exact⟨⟨k+1,aw,hd⟩,by simp,by show s.length-(k+1)<s.length-k;omega⟩
     · have ae: ¬(k:Int)<(s.length:Int):=by omega
       have hh:mY s m=false:=by rw[hd,List.drop_of_length_le (by omega)];rfl
       simp-implicitDefEqProofs (disch:=(first|omega|decide)) only[go_sem,↓reduceIte,seval,ae,hh,List.length_map]
theorem Ky:ah Tryz.prog Au Tryz.f188.ntmps (Tryz.f188.body.getD .skip)=true:=by kernel_rfl
theorem Ou(n c:Int):ay Tryz.prog 188 [.agg [.int .i64 n,.int .i64 c]] (· = .ab ([⟨n,[⟨c,c⟩]⟩].map ad.enc)):=by refine aa vS mixed Tryz.func188 rfl (Nat.le_of_ble_eq_true rfl) Ky ?_;unfold Tryz.f188;simp-implicitDefEqProofs (disch:=(first|omega|decide)) only[go_sem,↓reduceIte,seval,List.map_cons,List.map_nil]
def Ry:an:=Au.add 112 (entry (fun(v:List ad×List ad)=>[.ab (v.1.map ad.enc),.ab (v.2.map ad.enc),.fn 180 []]) (fun v=>aK v.1/\aK v.2) (fun v=> .bool (bZ v.1 v.2)))
theorem K14k_ok:ag Tryz.prog Ry:=vS.bN Tryz.func112 (by kernel_rfl) (by kernel_rfl) fun v h=>Ot v.1 v.2 h.1 h.2
@[go_sem] theorem K14k_old{g:FuncId}{xs:List A}(h:g≠112):Ry.f g xs=Au.f g xs:=an.ak h
theorem bJ(v:List ad×List ad)(h:aK v.1/\aK v.2):Ry.f 112 [.ab (v.1.map ad.enc),.ab (v.2.map ad.enc),.fn 180 []]=some (.bool (bZ v.1 v.2)):=an.ao (Γ:=Au) (fun i j h=>by simpa[Prod.ext_iff,and_assoc]using h) v h
def Rz:an:=Ry.add 84 (entry (fun(v:List ad×List ad)=>[.ab (v.1.map ad.enc),.ab (v.2.map ad.enc)]) (fun v=>aK v.1/\aK v.2) (fun v=> .bool (bZ v.1 v.2)))
theorem K14l_ok:ag Tryz.prog Rz:=K14k_ok.bN Tryz.func84 (by kernel_rfl) (by kernel_rfl) fun v h=>Kw v.1 v.2 h.1 h.2
@[go_sem] theorem K14l_old{g:FuncId}{xs:List A}(h:g≠84):Rz.f g xs=Ry.f g xs:=an.ak h
theorem Av(v:List ad×List ad)(h:aK v.1/\aK v.2):Rz.f 84 [.ab (v.1.map ad.enc),.ab (v.2.map ad.enc)]=some (.bool (bZ v.1 v.2)):=an.ao (Γ:=Ry) (fun i j h=>by simpa[Prod.ext_iff,and_assoc]using h) v h
def Ov:an:=Rz.add 123 (entry (fun(v:List ad×Int)=>[.ab (v.1.map ad.enc),.int .i64 v.2]) (fun v=>v.1.length<=9223372036854775807) (fun v=> .bool (mY v.1 v.2)))
theorem K14m_ok:ag Tryz.prog Ov:=K14l_ok.bN Tryz.func123 (by kernel_rfl) (by kernel_rfl) fun v h=>Kx v.1 v.2 h
@[go_sem] theorem K14m_old{g:FuncId}{xs:List A}(h:g≠123):Ov.f g xs=Rz.f g xs:=an.ak h
theorem Aw(v:List ad×Int)(h:v.1.length<=9223372036854775807):Ov.f 123 [.ab (v.1.map ad.enc),.int .i64 v.2]=some (.bool (mY v.1 v.2)):=an.ao (Γ:=Rz) (fun i j h=>by simpa[Prod.ext_iff,and_assoc]using h) v h
def DI:an:=Ov.add 188 (entry (fun(v:Int×Int)=>[.agg [.int .i64 v.1,.int .i64 v.2]]) (fun v=>True) (fun v=> .ab ([⟨v.1,[⟨v.2,v.2⟩]⟩].map ad.enc)))
theorem Kz:ag Tryz.prog DI:=K14m_ok.bN Tryz.func188 (by kernel_rfl) (by kernel_rfl) fun v h=>Ou v.1 v.2
@[go_sem] theorem K14n_old{g:FuncId}{xs:List A}(h:g≠188):DI.f g xs=Ov.f g xs:=an.ak h
@[go_sem] theorem K14n_s:DI.pl Ov:=⟨fun _=>rfl,fun _=>rfl,rfl,fun _=>rfl,rfl,fun _=>rfl,rfl⟩
theorem DJ(v:Int×Int)(h:True):DI.f 188 [.agg [.int .i64 v.1,.int .i64 v.2]]=some (.ab ([⟨v.1,[⟨v.2,v.2⟩]⟩].map ad.enc)):=an.ao (Γ:=Ov) (fun i j h=>by simpa[Prod.ext_iff,and_assoc]using h) v h
@[go_sem] theorem Ow{a b:List ad}(ha:aK a)(hb:aK b):Ry.f 112 [.ab (a.map ad.enc),.ab (b.map ad.enc),.fn 180 []]=some (.bool (bZ a b)):=bJ (a,b) ⟨ha,hb⟩
@[go_sem] theorem lN{a b:List ad}(ha:aK a)(hb:aK b):Rz.f 84 [.ab (a.map ad.enc),.ab (b.map ad.enc)]=some (.bool (bZ a b)):=Av (a,b) ⟨ha,hb⟩
@[go_sem] theorem KA{s:List ad}{m:Int}(hs:s.length<=9223372036854775807):Ov.f 123 [.ab (s.map ad.enc),.int .i64 m]=some (.bool (mY s m)):=Aw (s,m) hs
@[go_sem] theorem k_ref14_One{n c:Int}:DI.f 188 [.agg [.int .i64 n,.int .i64 c]]=some (.ab ([⟨n,[⟨c,c⟩]⟩].map ad.enc)):=DJ (n,c) trivial
end Go.Proofs.YtihgnfmoafjakaaGreat
namespace Go.Proofs.YtihgnfmoafjakaaGreat
open Go.bo
set_option linter.unusedSimpArgs false
set_option linter.unusedVariables false
set_option maxRecDepth 20000
set_option maxHeartbeats 8000000
def fp(l:List aF):A:= .ab (l.map aF.enc)
theorem ZE(l m:List aF)(h:fp l=fp m):l=m:=by simpa[fp]using h
@[simp] theorem map_slcR_inj{L M:List (List aF)}:(L.map fp=M.map fp)=(L=M):=map_inj ZE
def iP(s:List ad):List (List aF):=(List.range 16).map fun i=>aD s ((i:Nat)+1)
theorem iQ(s:List ad):(iP s).length=16:=by simp[iP]
theorem mo(s:List ad){i:Nat}(h:i<16):(iP s)[i]? =some (aD s (i+1)):=by simp[iP,h]
theorem Ox{L:List (List aF)}{s:List ad}(hl:L.length=16)(h: ∀i:Nat,i<16->L[i]? =some (aD s (i+1))):L=iP s:=by
 apply List.ext_getElem?;intro i;rcases Nat.lt_or_ge i 16 with hi|hi
 · rw[h i hi,mo s hi]
 · rw[List.getElem?_eq_none (by omega),List.getElem?_eq_none (by rw[iQ];omega)]
theorem Wm{s:List ad}{k:Nat}(h:k<s.length)(hr:bE s[k].n=true):iP (s.take (k+1))=(iP (s.take k)).set (s[k].n-1).toNat (aD (s.take k) s[k].n++s[k].rs):=by
 rw[bL]at hr;symm;refine Ox (by rw[List.length_set,iQ]) fun i hi=> ?_;rw[List.getElem?_set,iQ,mo _ hi,ug h]
 by_cases e:(s[k].n-1).toNat=i
 · have e2:s[k].n=(i:Int)+1:=by omega
   rw[if_pos e,if_pos (by omega),if_pos e2,<-e2]
 · rw[if_neg e,if_neg (by omega),List.append_nil]
theorem Wn{s:List ad}{k:Nat}(h:k<s.length)(hr:bE s[k].n=false):iP (s.take (k+1))=iP (s.take k):=by
 symm;refine Ox (by rw[iQ]) fun i hi=> ?_;rw[mo _ hi,ug h,if_neg,List.append_nil]
 intro e;rw[<-Bool.not_eq_true,bL]at hr;omega
theorem vT{L:List (List aF)}{i:Nat}{l:List aF}(h:L[i]? =some l):((L.map fp).drop (i*1)).head? =some (.ab (l.map aF.enc)):=by rw[Nat.mul_one,List.head?_drop,List.getElem?_map,h];rfl
theorem DK{cs:List A}{i:Nat}{x:A}(h:i<cs.length):eB cs i [x]=cs.set i x:=by unfold eB;rw[List.set_eq_take_append_cons_drop,if_pos h];simp
theorem nR{m:Nat}: ∀{cs:List A},A.under.ib m cs=true->Mx m cs cs
 | [],_=>by simp[Mx]
 |c::cs,h=>by
  simp only[A.under.ib,Bool.and_eq_true]at h;simp only[Mx]
  exact⟨.inr ⟨trivial,h.1⟩,nR h.2⟩
theorem nS{m:Nat}(L:List (List aF)):A.under.ib m (L.map fp)=true:=by
 induction L with
 |nil=>rfl
 |cons l L ih=>simp only[List.map_cons,A.under.ib,ih,Bool.and_true];rfl
theorem frz_tab{ρ:List Nat}{H:List Go.bo.Obj}(L:List (List aF)):(L.map fp).map (mI ρ H)=L.map fp:=by
 rw[List.map_map]
 apply List.map_congr_left;intro l _;show mI ρ H (.ab (l.map aF.enc))= .ab (l.map aF.enc)
 unfold mI;rw[if_neg]
 simp[A.meets,A.mem]
theorem IS{n:Nat}(L:List (List aF)):(L.map fp).map (eo n)=L.map fp:=by
 rw[List.map_map]
 apply List.map_congr_left;intro l _;show eo n (.ab (l.map aF.enc))= .ab (l.map aF.enc)
 unfold eo;rw[if_neg]
 simp[A.mem]
theorem DL{H:List Go.bo.Obj}(L:List (List aF)):eK H (L.map fp)=some (L.map fp):=by
 induction L with
 |nil=>rfl
 |cons l L ih=>simp only[List.map_cons,eK,ih];rfl
theorem DM{L:List (List aF)}(h:L.length=16):List.take 16 (L.map fp)=L.map fp:=List.take_of_length_le (by simp[h])
theorem frz_set{n len i:Nat}{es:List A}(L:List (List aF))(hi:i<L.length)(hl:len<=es.length):
 List.map (mI [n] [Go.bo.Obj.row 2 es]) (List.take (i*1) (L.map fp)++[A.row n 0 2 len false]++List.drop (i*1+1) (L.map fp))=(L.map fp).set i (.ab (es.take len)):=by
 rw[Nat.mul_one,List.map_append,List.map_append,List.map_take,List.map_drop,frz_tab,List.set_eq_take_append_cons_drop,if_pos (by simp[hi])]
 have e:mI [n] [Go.bo.Obj.row 2 es] (A.row n 0 2 len false)= .ab (es.take len):=by simp[mI,A.meets,A.mem,A.jD,idx,view,l6,j4,gO,cn,hl]
 simp[e]
def ZF:an:=DI.fj 206 (bC (fun l:List aF=>[.ab (l.map aF.enc)]) (fun _=>[]) (fun l=>l.length<=4398046511104) (fun l=>(.row 0 0 2 l.length false,[.row 2 (l.map aF.enc)],[])))
def qS:an:={ZF with mH:=fun f=>f==206,c6:=fun n=>if n=7 then
 [[1,2,3,0,4,5,6,7,8,9],[1,2,3,0,5,4,6,7,8,9],[1,2,3,0,5,6,4,7,8,9],[1,2,3,4,5,6,0,7,8,9],[1,2,3,4,5,6,7,0,8,9],[1,2,3,5,0,4,6,7,8,9],
  [1,2,3,5,0,6,4,7,8,9],[1,2,3,5,4,6,0,7,8,9],[1,2,3,5,4,6,7,0,8,9],[1,2,3,5,6,0,4,7,8,9],[1,2,3,5,6,4,0,7,8,9],[1,2,3,5,6,4,7,0,8,9]]else []}
theorem Oy:ag Tryz.prog ZF:=Kz.fj (bB Tryz.func206 (by kernel_rfl) (by kernel_rfl)) (cX fun l h=>zL l h)
theorem K14F_ok:ag Tryz.prog qS:=⟨Oy.f,Oy.hp⟩
@[go_sem] theorem K14F_f:qS.f=DI.f:=rfl
@[go_sem] theorem K14F_eff{g:FuncId}:qS.mH g=(g==206):=rfl
@[go_sem] theorem K14F_frz{g:FuncId}:qS.pZ g=false:=rfl
@[go_sem] theorem K14F_fix{n:Nat}:qS.fix n=false:=rfl
@[go_sem] theorem K14F_ords0:qS.c6 0=[]:=rfl
@[go_sem] theorem K14F_ords1:qS.c6 1=[]:=rfl
@[go_sem] theorem K14F_ords2:qS.c6 2=[]:=rfl
@[go_sem] theorem K14F_ords3:qS.c6 3=[]:=rfl
@[go_sem] theorem K14F_ords4:qS.c6 4=[]:=rfl
@[go_sem] theorem K14F_ords5:qS.c6 5=[]:=rfl
@[go_sem] theorem K14F_ords6:qS.c6 6=[]:=rfl
@[go_sem] theorem K14F_ords7:qS.c6 7=[[1,2,3,0,4,5,6,7,8,9],[1,2,3,0,5,4,6,7,8,9],[1,2,3,0,5,6,4,7,8,9],[1,2,3,4,5,6,0,7,8,9],[1,2,3,4,5,6,7,0,8,9],[1,2,3,5,0,4,6,7,8,9],
 [1,2,3,5,0,6,4,7,8,9],[1,2,3,5,4,6,0,7,8,9],[1,2,3,5,4,6,7,0,8,9],[1,2,3,5,6,0,4,7,8,9],[1,2,3,5,6,4,0,7,8,9],[1,2,3,5,6,4,7,0,8,9]]:=rfl
@[go_sem] theorem K14F_ords8:qS.c6 8=[]:=rfl
@[go_sem] theorem K14F_ords9:qS.c6 9=[]:=rfl
theorem RA{l:List aF}(h:l.length<=4398046511104):qS.hp 206 [.ab (l.map aF.enc)] []=some (.row 0 0 2 l.length false,[.row 2 (l.map aF.enc)],[]):=by have h0:ZF.hp 206 [.ab (l.map aF.enc)] []=bC (fun l:List aF=>[A.ab (l.map aF.enc)]) (fun _=>[]) (fun l=>l.length<=4398046511104) (fun l=>(.row 0 0 2 l.length false,[.row 2 (l.map aF.enc)],[])) [.ab (l.map aF.enc)] []:=an.eC;exact h0.trans (cY (enc:=fun l:List aF=>[A.ab (l.map aF.enc)]) (FO:=fun _=>[]) (fun i j h _=>by simpa using h) l h)
theorem KB:ah Tryz.prog qS Tryz.f182.ntmps (Tryz.f182.body.getD .skip)=true:=by kernel_rfl
theorem Oz(s:List ad)(hs:aK s):ay Tryz.prog 182 [.ab (s.map ad.enc)] (· = .agg ((iP s).map fp)):=by
 refine aa K14F_ok mixed Tryz.func182 rfl (Nat.le_of_ble_eq_true rfl) KB ?_;unfold Tryz.f182;obtain⟨hs1,hs2⟩:=hs;simp-implicitDefEqProofs (disch:=(first|omega|decide)) only[go_sem,↓reduceIte,seval,List.length_map]
 refine FR 1 _ rfl ?_;refine Vp [4] (by simp) (fun _ _=>Nat.zero_le _) [0,2,3,7,8] (ι:={k:Nat//k<=s.length}) (fun p=>[(9,.int .i64 p.1)]) (fun p=>[(1,.box ((iP (s.take p.1)).map fp))]) (fun p=>s.length-p.1) ⟨0,by omega⟩ (Nat.zero_le _) ?_ ?_
 · simp-implicitDefEqProofs (disch:=(first|omega|decide)) only[go_sem,↓reduceIte,seval]
   exact nR (cs:=(iP (s.take 0)).map fp) (nS _)
 · rintro⟨k,hk⟩
   simp only;have tl:((iP (s.take k)).map fp).length=16:=by rw[List.length_map,iQ]
   by_cases aw:k<s.length
   · have ae:(k:Int)<(s.length:Int):=by omega
     have e1:=eP aw;have hm:=IP aw;have eZ:=Wm aw;have hsk:=Wn aw;generalize hx:s[k]=x at*;obtain⟨n,rs⟩:=x;simp only at hm eZ hsk;cases h1:bE n with
     |false=>
      have hsk':=hsk h1;simp-implicitDefEqProofs (disch:=(first|omega|decide)) only[go_sem,↓reduceIte,seval,ae,e1,h1,wrap_i64,List.length_map]
      exact⟨⟨k+1,aw⟩,.inl ⟨by simp,by rw[hsk'];exact nR (nS _)⟩,by show s.length-(k+1)<s.length-k;omega⟩
     |true=>
      have hsn':=eZ h1;have st:=ZD rs;rw[bL]at h1;have h2:bE n=true:=bL.2 h1;have g1:=vT (mo (s.take k) (i:=(n-1).toNat) (by omega))
      rw[show(((n-1).toNat:Nat):Int)+1=n by omega]at g1;have hrl:=gh (s.take k) n;have jV:=RA (l:=aD (s.take k) n) (by omega)
      have c1:(0:Int)<=n-1:=by omega
      have c2:n-1<16:=by omega
      have sp: ∀x:A,eB ((iP (s.take k)).map fp) ((n-1).toNat*1) [x]=((iP (s.take k)).map fp).set (n-1).toNat x:=fun x=>by rw[Nat.mul_one];exact DK (by rw[tl];omega)
      simp-implicitDefEqProofs (maxSteps:=600000) (disch:=(first|omega|decide)) only[go_sem,↓reduceIte,seval,ae,e1,h2,st,g1,jV,c1,c2,sp,tl,wrap_i64,List.length_map,List.contains_nil,List.contains_cons]
      refine⟨⟨Nat.le_refl _,by omega⟩,by omega,⟨k+1,aw⟩,.inr ⟨by simp, ?_⟩,by show s.length-(k+1)<s.length-k;omega⟩
      have Ci:(List.take (aD (s.take k) n).length ((aD (s.take k) n).map aF.enc)++rs.map aF.enc)=(aD (s.take k) n++rs).map aF.enc:=by rw[List.take_of_length_le (by simp),List.map_append]
      rw[IS,Ci,frz_set _ (by rw[iQ];omega) (by simp),hsn',List.map_set]
      have ME:((aD (s.take k) n++rs).map aF.enc).take ((aD (s.take k) n).length+rs.length)=(aD (s.take k) n++rs).map aF.enc:=List.take_of_length_le (by simp)
      rw[ME]
      have:=nS (m:=2) ((iP (s.take k)).set (n-1).toNat (aD (s.take k) n++rs))
      rw[List.map_set]at this;exact nR this
   · have ae: ¬(k:Int)<(s.length:Int):=by omega
     rw[List.take_of_length_le (by omega)]at*;have tl':=iQ s;have tk:=DM tl';have vt: ∀H,eK H ((iP s).map fp)=some ((iP s).map fp):=fun H=>DL _;have dn:List.drop 16 [A.bT,A.bT,A.bT,A.bT,A.bT,A.bT,A.bT,A.bT,A.bT,A.bT,A.bT,A.bT,A.bT,A.bT,A.bT,A.bT]=[]:=rfl;simp-implicitDefEqProofs (disch:=(first|omega|decide)) only[go_sem,↓reduceIte,seval,ae,tl',tk,vt,dn,List.append_nil,List.length_map]
end Go.Proofs.YtihgnfmoafjakaaGreat
namespace Go.Proofs.YtihgnfmoafjakaaGreat
open Go.bo
set_option linter.unusedSimpArgs false
set_option linter.unusedVariables false
set_option maxRecDepth 20000
set_option maxHeartbeats 8000000
def DN(L:List (List aF))(n:Int):List aF:=L.getD (n-1).toNat []
def Wo(L:List (List aF)):List ad:=mJ fun n=>cJ (ai (DN L n))
theorem Wp{L:List (List aF)}{k:Nat}{l:List aF}(h:L[k]? =some l):DN L ((k:Int)+1)=l:=by unfold DN;rw[show((k:Int)+1-1).toNat=k by omega,List.getD_eq_getElem?_getD,h];rfl
theorem OA{t:Int->List aF}{k:Nat}:mV t (k+1)=if(t (k+1)).isEmpty then mV t k else mV t k++[⟨k+1,t (k+1)⟩]:=rfl
theorem OB(p:Int->Bool):(cJ p).length<=1099511627776:=TY (ig p)
theorem KC{n:Nat}(L:List (List aF)):A.mem.gm n (L.map fp)=false:=by
 induction L with
 |nil=>rfl
 |cons l L ih=>simp only[List.map_cons,A.mem.gm,ih,Bool.or_false];rfl
theorem mq:ah Tryz.prog DI Tryz.f190.ntmps (Tryz.f190.body.getD .skip)=true:=by kernel_rfl
theorem OC(L:List (List aF))(hL:L.length=16)(hl: ∀l∈L,l.length<=4398046511104):ay Tryz.prog 190 [.agg (L.map fp)] (· = .ab ((Wo L).map ad.enc)):=by
 refine aa Kz mixed Tryz.func190 rfl (Nat.le_of_ble_eq_true rfl) mq ?_;unfold Tryz.f190;have tk:=DM hL;have tl:(L.map fp).length=16:=by rw[List.length_map,hL]
 have hu:=nS (m:=2) L;have hle:=nR hu;have hsc:=IS (n:=1) L;have hme:=KC (n:=1) L;simp-implicitDefEqProofs (disch:=(first|omega|decide)) only[go_sem,↓reduceIte,seval,tk,tl]
 refine aW 3 2 rfl ?_;refine ar [0,1,2,6] (ι:={k:Nat//k<=16}) (fun p=>[(7,.int .i64 p.1),(3,.row 1 0 2 (mV (fun n=>cJ (ai (DN L n))) p.1).length false)]) (fun p=>[(1,.row 2 ((mV (fun n=>cJ (ai (DN L n))) p.1).map ad.enc))]) (fun p=>16-p.1) ⟨0,by omega⟩ (Nat.zero_le _) ?_ ?_
 · simp-implicitDefEqProofs (disch:=(first|omega|decide)) only[go_sem,↓reduceIte,seval,hu,hle]
   simp[mV]
 · rintro⟨k,hk⟩
   simp only;have rX:=oT (fun n=>cJ (ai (DN L n))) k;by_cases aw:k<16
   · have ae:(k:Int)<16:=by omega
     have XE:k<L.length:=by omega
     have hg:L[k]? =some L[k]:=List.getElem?_eq_getElem XE;have g1:=vT hg;have Rn:=hl L[k] (List.getElem_mem XE)
     have b9:=OA (t:=fun n=>cJ (ai (DN L n))) (k:=k)
     simp only[Wp hg]at b9;have pW:=OB (ai L[k])
     generalize L[k]=x at*;have c1:(0:Int)<=(k:Int):=by omega
     cases hr:cJ (ai x)with
     |nil=>
      rw[hr]at b9 pW;simp only[List.isEmpty_nil,if_true]at b9;simp-implicitDefEqProofs (disch:=(first|omega|decide)) only[go_sem,↓reduceIte,seval,hu,hle,ae,c1,g1,hr,wrap_i64,List.length_map,List.map_nil]
      exact⟨⟨k+1,by omega⟩,⟨⟨by simp,by rw[b9]⟩,by rw[b9]⟩,by show 16-(k+1)<16-k;omega⟩
     |cons r rs=>
      rw[hr]at b9 pW;simp only[List.isEmpty_cons,Bool.false_eq_true,if_false]at b9;have c2:(0:Int)<((rs.length+1:Nat):Int):=by omega
      simp-implicitDefEqProofs (disch:=(first|omega|decide)) only[go_sem,↓reduceIte,seval,hu,hle,hsc,hme,ae,c1,c2,g1,hr,wrap_i64,List.length_map,List.map_cons,List.length_cons]
      exact⟨⟨Nat.le_refl _,by omega⟩,⟨k+1,by omega⟩,⟨⟨by simp,by rw[b9,List.length_append];rfl⟩,by rw[b9,List.map_append,List.take_of_length_le (by simp)];rfl⟩,by show 16-(k+1)<16-k;omega⟩
   · have ae: ¬(k:Int)<16:=by omega
     obtain rfl:k=16:=by omega
     simp-implicitDefEqProofs (disch:=(first|omega|decide)) only[go_sem,↓reduceIte,seval,ae,List.length_map]
     exact⟨Nat.le_refl _,by rw[List.take_of_length_le (by simp)];rfl⟩
end Go.Proofs.YtihgnfmoafjakaaGreat
namespace Go.Proofs.YtihgnfmoafjakaaGreat
open Go.bo
set_option linter.unusedSimpArgs false
set_option linter.unusedVariables false
set_option maxRecDepth 20000
set_option maxHeartbeats 8000000
def OD:an:=DI.add 182 (entry (fun(s:List ad)=>[.ab (s.map ad.enc)]) (fun s=>aK s) (fun s=> .agg ((iP s).map fp)))
theorem K14o_ok:ag Tryz.prog OD:=Kz.bN Tryz.func182 (by kernel_rfl) (by kernel_rfl) fun s h=>Oz s h
@[go_sem] theorem K14o_old{g:FuncId}{xs:List A}(h:g≠182):OD.f g xs=DI.f g xs:=an.ak h
theorem DO(s:List ad)(h:aK s):OD.f 182 [.ab (s.map ad.enc)]=some (.agg ((iP s).map fp)):=an.ao (Γ:=DI) (fun i j h=>by simpa[Prod.ext_iff,and_assoc]using h) s h
@[go_sem] theorem qT{s:List ad}(h:aK s):OD.f 182 [.ab (s.map ad.enc)]=some (.agg ((iP s).map fp)):=DO s h
def DP:an:=OD.add 190 (entry (fun(L:List (List aF))=>[.agg (L.map fp)]) (fun L=>L.length=16/\ ∀l∈L,l.length<=4398046511104) (fun L=> .ab ((Wo L).map ad.enc)))
theorem KD:ag Tryz.prog DP:=K14o_ok.bN Tryz.func190 (by kernel_rfl) (by kernel_rfl) fun L h=>OC L h.1 h.2
@[go_sem] theorem K14p_old{g:FuncId}{xs:List A}(h:g≠190):DP.f g xs=OD.f g xs:=an.ak h
@[go_sem] theorem K14p_s:DP.pl OD:=⟨fun _=>rfl,fun _=>rfl,rfl,fun _=>rfl,rfl,fun _=>rfl,rfl⟩
theorem kZ(L:List (List aF))(h:L.length=16/\ ∀l∈L,l.length<=4398046511104):DP.f 190 [.agg (L.map fp)]=some (.ab ((Wo L).map ad.enc)):=an.ao (Γ:=OD) (fun i j h=>by simpa[Prod.ext_iff,and_assoc]using h) L h
theorem zP{L:List (List aF)}(h1:L.length=16)(h2: ∀l∈L,l.length<=4398046511104):DP.f 190 [.agg (L.map fp)]=some (.ab ((Wo L).map ad.enc)):=kZ L ⟨h1,h2⟩
theorem ZG{s:List ad}{l:List aF}(h:l∈iP s):l.length<=bA s:=by unfold iP at h;obtain⟨i,_,rfl⟩:=List.mem_map.1 h;exact gh s _
theorem ZH{s:List ad}{n:Int}(h:bE n=true):DN (iP s) n=aD s n:=by
 rw[bL]at h;unfold DN;rw[List.getD_eq_getElem?_getD,mo s (by omega)]
 show aD s _=_;rw[show(((n-1).toNat:Nat):Int)+1=n by omega]
def dG(s:List ad):List ad:=mJ fun n=>cJ (ai (aD s n))
theorem ZI(s:List ad):Wo (iP s)=dG s:=jc fun n h=>by simp only[ZH h]
def RB(op:Int)(a b:List ad):List ad:=mJ fun n=>cJ (jA op (aD a n) (aD b n))
theorem RC:ah Tryz.prog DP Tryz.f176.ntmps (Tryz.f176.body.getD .skip)=true:=by kernel_rfl
theorem Wq(s:List ad)(hs:aK s):ay Tryz.prog 176 [.ab (s.map ad.enc)] (· = .ab ((dG s).map ad.enc)):=by
 refine aa KD mixed Tryz.func176 rfl (Nat.le_of_ble_eq_true rfl) RC ?_;unfold Tryz.f176;have h1:=qT hs;have h2:=zP (L:=iP s) (iQ s) (fun l hl=>by have:=ZG hl;have:=hs.2;omega)
 rw[ZI]at h2;have hme:=fun n=>KC (n:=n) (iP s)
 have hvt:=fun H=>DL (H:=H) (iP s)
 have hp:A.pure.a_ ((iP s).map fp)=true:=by
  generalize iP s=L;induction L with
  |nil=>rfl
  |cons l L ih=>simp only[List.map_cons,A.pure.a_,ih,Bool.and_true];rfl
 simp-implicitDefEqProofs (disch:=(first|omega|decide)) only[go_sem,↓reduceIte,seval,h1,h2,hme,hvt,hp]
theorem OE(L:List (List aF)):A.pure.a_ (L.map fp)=true:=by
 induction L with
 |nil=>rfl
 |cons l L ih=>simp only[List.map_cons,A.pure.a_,ih,Bool.and_true];rfl
end Go.Proofs.YtihgnfmoafjakaaGreat
namespace Go.Proofs.YtihgnfmoafjakaaGreat
open Go.bo
set_option linter.unusedSimpArgs false
set_option linter.unusedVariables false
set_option maxRecDepth 20000
set_option maxHeartbeats 8000000
theorem lO(l:List aF):(cJ (ai l)).length<=l.length:=by
 rw[<-Od,List.length_reverse]
 have h1:=Du (Al l) []
 have h2:=(xH l).length_eq;have h3:=List.length_filter_le cF l;simp only[List.length_nil]at h1;omega
theorem OF(op:Int)(a b:List aF):(cJ (jA op a b)).length<=2*a.length+2*b.length:=by
 rw[<-J',List.length_reverse]
 have h1:=J_ (jA op a b) (bh a b) ((bh a b).length-1)
 have h2:=De a b;omega
theorem OG{t:Int->List aF}{B:Nat}(h: ∀n,(t n).length<=B): ∀k,bA (mV t k)<=k*B
 |0=>by simp[mV,bA]
 |k+1=>by
  have ih:=OG h k;have h1:=h (k+1)
  rw[Nat.succ_mul]
  simp only[mV];split
  · omega
  · rw[dZ]
    have e:bA [⟨(k:Int)+1,t (k+1)⟩]=(t (k+1)).length:=by simp[bA]
    omega
theorem Wr{t:Int->List aF}{B:Nat}(h: ∀n,(t n).length<=B):bA (mJ t)<=16*B/\(mJ t).length<=16:=⟨OG h 16,oT t 16⟩
theorem Ug{s:List ad}{B:Nat}(hs:bA s<=B):bA (dG s)<=16*B/\(dG s).length<=16:=
 Wr (t:=fun n=>cJ (ai (aD s n))) fun n=>by
  have h1:=lO (aD s n)
  have h2:=gh s n;omega
def mr(s:List ad):Prop:=aK s/\ ∀n,(aD s n).length<=50000
theorem ZJ{s:List ad}(h:s.length<=1000000)(h':bA s<=50000):mr s:=⟨⟨h,by omega⟩,fun n=>by have:=gh s n;omega⟩
theorem Uh{s:List ad}(h:bA s<=50000):mr (dG s):=by
 have h1:=Ug h;refine⟨⟨by omega,by omega⟩,fun n=> ?_⟩
 unfold dG;rw[sq]
 split
 · have h2:=lO (aD s n)
   have h3:=gh s n;omega
 · simp
theorem GF:ah Tryz.prog DP Tryz.f170.ntmps (Tryz.f170.body.getD .skip)=true:=by kernel_rfl
theorem KE(op:Int)(a b:List ad)(hop:Kg op)(ha:mr a)(hb:mr b):ay Tryz.prog 170 [.int .i64 op,.ab (a.map ad.enc),.ab (b.map ad.enc)] (· = .ab ((RB op a b).map ad.enc)):=by
 refine aa KD mixed Tryz.func170 rfl (Nat.le_of_ble_eq_true rfl) GF ?_;unfold Tryz.f170;simp-implicitDefEqProofs (disch:=(first|omega|decide)) only[go_sem,↓reduceIte,seval,List.length_map]
 refine aW 7 2 rfl ?_;refine ar [0,1,2] (ι:={k:Nat//k<=16}) (fun p=>[(8,.int .i64 ((p.1:Int)+1)),(7,.row 0 0 2 (mV (fun n=>cJ (jA op (aD a n) (aD b n))) p.1).length false)]) (fun p=>[(0,.row 2 ((mV (fun n=>cJ (jA op (aD a n) (aD b n))) p.1).map ad.enc))]) (fun p=>16-p.1) ⟨0,by omega⟩ (Nat.zero_le _) ?_ ?_
 · simp-implicitDefEqProofs (disch:=(first|omega|decide)) only[go_sem,↓reduceIte,seval]
   simp[mV]
 · rintro⟨k,hk⟩
   simp only;have rX:=oT (fun n=>cJ (jA op (aD a n) (aD b n))) k;by_cases aw:k<16
   · have ae:(k:Int)+1<=16:=by omega
     have r1:=oW (n:=(k:Int)+1) ha.1;have r2:=oW (n:=(k:Int)+1) hb.1;have hM:=Am (op,aD a ((k:Int)+1),aD b ((k:Int)+1)) ⟨hop,ha.2 _,hb.2 _⟩
     simp only at hM;have b9:=OA (t:=fun n=>cJ (jA op (aD a n) (aD b n))) (k:=k)
     have pW:=OB (jA op (aD a ((k:Int)+1)) (aD b ((k:Int)+1)))
     cases hr:cJ (jA op (aD a ((k:Int)+1)) (aD b ((k:Int)+1)))with
     |nil=>
      rw[hr]at b9 pW;simp only[List.isEmpty_nil,if_true]at b9;simp-implicitDefEqProofs (disch:=(first|omega|decide)) only[go_sem,↓reduceIte,seval,ae,r1,r2,hM,hr,wrap_i64,List.length_map,List.map_nil]
      exact⟨⟨k+1,by omega⟩,⟨⟨by simp,by rw[b9]⟩,by rw[b9]⟩,by show 16-(k+1)<16-k;omega⟩
     |cons r rs=>
      rw[hr]at b9 pW;simp only[List.isEmpty_cons,Bool.false_eq_true,if_false]at b9;have c2:(0:Int)<((rs.length+1:Nat):Int):=by omega
      simp-implicitDefEqProofs (disch:=(first|omega|decide)) only[go_sem,↓reduceIte,seval,ae,c2,r1,r2,hM,hr,wrap_i64,List.length_map,List.map_cons,List.length_cons]
      exact⟨⟨Nat.le_refl _,by omega⟩,⟨k+1,by omega⟩,⟨⟨by simp,by rw[b9,List.length_append];rfl⟩,by rw[b9,List.map_append,List.take_of_length_le (by simp)];rfl⟩,by show 16-(k+1)<16-k;omega⟩
   · have ae: ¬(k:Int)+1<=16:=by omega
     obtain rfl:k=16:=by omega
     simp-implicitDefEqProofs (disch:=(first|omega|decide)) only[go_sem,↓reduceIte,seval,ae,List.length_map]
     exact⟨Nat.le_refl _,by rw[List.take_of_length_le (by simp)];rfl⟩
def GG:an:=DP.add 170 (entry (fun(v:Int×List ad×List ad)=>[.int .i64 v.1,.ab (v.2.1.map ad.enc),.ab (v.2.2.map ad.enc)]) (fun v=>Kg v.1/\mr v.2.1/\mr v.2.2) (fun v=> .ab ((RB v.1 v.2.1 v.2.2).map ad.enc)))
theorem Ui:ag Tryz.prog GG:=KD.bN Tryz.func170 (by kernel_rfl) (by kernel_rfl) fun v h=>KE v.1 v.2.1 v.2.2 h.1 h.2.1 h.2.2
@[go_sem] theorem K14q_old{g:FuncId}{xs:List A}(h:g≠170):GG.f g xs=DP.f g xs:=an.ak h
@[go_sem] theorem K14q_s:GG.pl DP:=⟨fun _=>rfl,fun _=>rfl,rfl,fun _=>rfl,rfl,fun _=>rfl,rfl⟩
theorem Ax(v:Int×List ad×List ad)(h:Kg v.1/\mr v.2.1/\mr v.2.2):GG.f 170 [.int .i64 v.1,.ab (v.2.1.map ad.enc),.ab (v.2.2.map ad.enc)]=some (.ab ((RB v.1 v.2.1 v.2.2).map ad.enc)):=an.ao (Γ:=DP) (fun i j h=>by simpa[Prod.ext_iff,and_assoc]using h) v h
theorem lP{op:Int}{a b:List ad}(ho:Kg op)(ha:mr a)(hb:mr b):GG.f 170 [.int .i64 op,.ab (a.map ad.enc),.ab (b.map ad.enc)]=some (.ab ((RB op a b).map ad.enc)):=Ax (op,a,b) ⟨ho,ha,hb⟩
theorem KF:mr []:=⟨⟨by simp,by simp[bA]⟩,fun n=>by simp[aD]⟩
theorem ZK(x:List aF):jA 1 x []=ai x:=by
 funext n;simp[jA,XA,ai]
theorem ZL(s:List ad):RB 1 s []=dG s:=jc fun n _=>by simp only[aD,ZK]
theorem ZM:Kg 1:= .inl rfl
theorem opOK3:Kg 3:= .inr (.inr rfl)
theorem OH:ah Tryz.prog GG Tryz.f134.ntmps (Tryz.f134.body.getD .skip)=true:=by kernel_rfl
theorem RD(s:List ad)(hs:mr s):ay Tryz.prog 134 [.ab (s.map ad.enc)] (· = .ab ((dG s).map ad.enc)):=by refine aa Ui mixed Tryz.func134 rfl (Nat.le_of_ble_eq_true rfl) OH ?_;unfold Tryz.f134;have h:=lP ZM hs KF;rw[ZL,List.map_nil]at h;simp-implicitDefEqProofs (disch:=(first|omega|decide)) only[go_sem,↓reduceIte,seval,h]
def OI:an:=GG.add 134 (entry (fun(s:List ad)=>[.ab (s.map ad.enc)]) (fun s=>mr s) (fun s=> .ab ((dG s).map ad.enc)))
theorem Uj:ag Tryz.prog OI:=Ui.bN Tryz.func134 (by kernel_rfl) (by kernel_rfl) fun s h=>RD s h
@[go_sem] theorem K14r_old{g:FuncId}{xs:List A}(h:g≠134):OI.f g xs=GG.f g xs:=an.ak h
@[go_sem] theorem K14r_s:OI.pl GG:=⟨fun _=>rfl,fun _=>rfl,rfl,fun _=>rfl,rfl,fun _=>rfl,rfl⟩
theorem tn(s:List ad)(h:mr s):OI.f 134 [.ab (s.map ad.enc)]=some (.ab ((dG s).map ad.enc)):=an.ao (Γ:=GG) (fun i j h=>by simpa[Prod.ext_iff,and_assoc]using h) s h
theorem DQ{s:List ad}(h:mr s):OI.f 134 [.ab (s.map ad.enc)]=some (.ab ((dG s).map ad.enc)):=tn s h
def cT(l:List ca):List ad:=(l.filter aN).map fun v=>⟨v.r,[⟨v.c,v.c⟩]⟩
theorem qU(l m:List ca):cT (l++m)=cT l++cT m:=by simp[cT]
theorem ZN(l:List ca):(cT l).length<=l.length/\bA (cT l)<=l.length:=by
 induction l with
 |nil=>simp[cT,bA]
 |cons v l ih=>
  have e:cT (v::l)=cT [v]++cT l:=by rw[<-qU];rfl
  rw[e,dZ,List.length_append,List.length_cons]
  have:(cT [v]).length<=1/\bA (cT [v])<=1:=by
   unfold cT;by_cases h:aN v=true
   · simp[h,bA]
   · simp[h,bA]
  omega
theorem xP{l:List ca}{k:Nat}(h:k<l.length):cT (l.take (k+1))=cT (l.take k)++(if aN l[k]=true then [⟨l[k].r,[⟨l[k].c,l[k].c⟩]⟩]else []):=by
 rw[<-List.take_append_getElem h,qU]
 congr 1
 unfold cT;by_cases h:aN l[k]=true
 · simp[h]
 · simp[h]
theorem opK_of(t u:List ad):RB 1 (dG t) u=dG (t++u):=jc fun n h=>by
 have e:jA 1 (aD (dG t) n) (aD u n)=ai (aD (t++u) n):=by
  funext c
  unfold dG;rw[sq,if_pos h,dw,fL]
  show XA 1 _ _=_;rw[nO (BB _)];rfl
 simp only[e]
theorem Uk{l:List ca}{k:Nat}(h:k<l.length):(l.map ca.enc)[k]? =some (.agg [.int .i64 l[k].r,.int .i64 l[k].c]):=by rw[List.getElem?_map,List.getElem?_eq_getElem h];rfl
theorem mid_one(n c:Int):mr [⟨n,[⟨c,c⟩]⟩]:=ZJ (by simp) (by simp[bA])
theorem KG:ah Tryz.prog OI Tryz.f151.ntmps (Tryz.f151.body.getD .skip)=true:=by kernel_rfl
theorem OJ(s:List ad)(l:List ca)(hs:mr s)(hl:bA s+l.length<=50000):ay Tryz.prog 151 [.ab (s.map ad.enc),.ab (l.map ca.enc)] (· = .ab ((dG (s++cT l)).map ad.enc)):=by
 refine aa Uj mixed Tryz.func151 rfl (Nat.le_of_ble_eq_true rfl) KG ?_;unfold Tryz.f151;have h0:=DQ hs;simp-implicitDefEqProofs (disch:=(first|omega|decide)) only[go_sem,↓reduceIte,seval,h0,List.length_map]
 refine ar [0,1] (ι:={k:Nat//k<=l.length}) (fun p=>[(6,.int .i64 p.1),(5,.ab ((dG (s++cT (l.take p.1))).map ad.enc))]) (fun _=>[]) (fun p=>l.length-p.1) ⟨0,by omega⟩ (Nat.zero_le _) ?_ ?_
 · simp-implicitDefEqProofs (disch:=(first|omega|decide)) only[go_sem,↓reduceIte,seval]
   simp[cT]
 · rintro⟨k,hk⟩
   simp only;by_cases aw:k<l.length
   · have ae:(k:Int)<(l.length:Int):=by omega
     have e1:=Uk aw;have eZ:=xP aw;have pO:=ZN (l.take k)
     rw[List.length_take]at pO;have hm:=Uh (s:=s++cT (l.take k)) (by rw[dZ];omega)
     generalize hx:l[k]=x at*;obtain⟨r,c⟩:=x;simp only at eZ;cases h1:aN ⟨r,c⟩with
     |false=>
      rw[h1,if_neg (by simp),List.append_nil]at eZ;simp-implicitDefEqProofs (disch:=(first|omega|decide)) only[go_sem,↓reduceIte,seval,ae,e1,h1,wrap_i64,List.length_map]
      exact⟨⟨k+1,aw⟩,⟨by simp,by rw[eZ]⟩,by show l.length-(k+1)<l.length-k;omega⟩
     |true=>
      rw[h1,if_pos rfl]at eZ;have hM:=lP ZM hm (mid_one r c)
      rw[opK_of,List.append_assoc,<-eZ]at hM;simp only[List.map_cons,List.map_nil,ad.tV,aF.tV]at hM;simp-implicitDefEqProofs (disch:=(first|omega|decide)) only[go_sem,↓reduceIte,seval,ae,e1,h1,hM,wrap_i64,List.length_map,List.map_cons,List.map_nil]
      exact⟨⟨k+1,aw⟩,⟨by simp,rfl⟩,by show l.length-(k+1)<l.length-k;omega⟩
   · have ae: ¬(k:Int)<(l.length:Int):=by omega
     rw[List.take_of_length_le (by omega)]at*;simp-implicitDefEqProofs (disch:=(first|omega|decide)) only[go_sem,↓reduceIte,seval,ae,List.length_map]
end Go.Proofs.YtihgnfmoafjakaaGreat
namespace Go.Proofs.YtihgnfmoafjakaaGreat
open Go.bo
set_option linter.unusedSimpArgs false
set_option linter.unusedVariables false
set_option maxRecDepth 20000
set_option maxHeartbeats 8000000
def ZO:an:=OI
theorem K14s_ok:ag Tryz.prog ZO:=Uj
@[go_sem] theorem K14s_old{g:FuncId}{xs:List A}:ZO.f g xs=OI.f g xs:=rfl
def Ws:an:=ZO.add 176 (entry (fun(s:List ad)=>[.ab (s.map ad.enc)]) (fun s=>aK s) (fun s=> .ab ((dG s).map ad.enc)))
theorem K14t_ok:ag Tryz.prog Ws:=K14s_ok.bN Tryz.func176 (by kernel_rfl) (by kernel_rfl) fun s h=>Wq s h
@[go_sem] theorem K14t_old{g:FuncId}{xs:List A}(h:g≠176):Ws.f g xs=ZO.f g xs:=an.ak h
theorem KH(s:List ad)(h:aK s):Ws.f 176 [.ab (s.map ad.enc)]=some (.ab ((dG s).map ad.enc)):=an.ao (Γ:=ZO) (fun i j h=>by simpa[Prod.ext_iff,and_assoc]using h) s h
def K14u:an:=Ws
theorem K14u_ok:ag Tryz.prog K14u:=K14t_ok
@[go_sem] theorem K14u_old{g:FuncId}{xs:List A}:K14u.f g xs=Ws.f g xs:=rfl
def ZP:an:=K14u
theorem K14v_ok:ag Tryz.prog ZP:=K14u_ok
@[go_sem] theorem K14v_old{g:FuncId}{xs:List A}:ZP.f g xs=K14u.f g xs:=rfl
def OK:an:=ZP
theorem BC:ag Tryz.prog OK:=K14v_ok
@[go_sem] theorem K14w_old{g:FuncId}{xs:List A}:OK.f g xs=ZP.f g xs:=rfl
@[go_sem] theorem K14w_s:OK.pl ZP:=⟨fun _=>rfl,fun _=>rfl,rfl,fun _=>rfl,rfl,fun _=>rfl,rfl⟩
theorem sx{s:List ad}(h:aK s):Ws.f 176 [.ab (s.map ad.enc)]=some (.ab ((dG s).map ad.enc)):=KH s h
theorem KI:ah Tryz.prog OK Tryz.f145.ntmps (Tryz.f145.body.getD .skip)=true:=by kernel_rfl
theorem OL(a b:List ad)(ha:aK a)(hb:aK b)(JG:aK (dG a))(qi:aK (dG b)):ay Tryz.prog 145 [.ab (a.map ad.enc),.ab (b.map ad.enc)] (· = .bool (bZ (dG a) (dG b))):=by refine aa BC mixed Tryz.func145 rfl (Nat.le_of_ble_eq_true rfl) KI ?_;unfold Tryz.f145;have h1:=sx ha;have h2:=sx hb;have h3:=Ow JG qi;simp-implicitDefEqProofs (disch:=(first|omega|decide)) only[go_sem,↓reduceIte,seval,h1,h2,h3]
theorem c_ind{n:Int}(h:bE n=true):((n-1).toNat:Int)+1=n:=by rw[bL]at h;omega
theorem KJ:ah Tryz.prog OK Tryz.f146.ntmps (Tryz.f146.body.getD .skip)=true:=by kernel_rfl
theorem OM(s:List ad)(n:Int)(hs:aK s):ay Tryz.prog 146 [.ab (s.map ad.enc),.int .i64 n] (· = .int .i64 (if bE n=true then eV (cJ (ai (aD s n)))else 0)):=by
 refine aa BC mixed Tryz.func146 rfl (Nat.le_of_ble_eq_true rfl) KJ ?_;unfold Tryz.f146;cases h1:bE n with
 |false=>simp-implicitDefEqProofs (disch:=(first|omega|decide)) only[go_sem,↓reduceIte,seval,h1]
 |true=>
  have h:=bL.1 h1;have h2:=qT hs;have g1:=vT (mo s (i:=(n-1).toNat) (by omega))
  rw[c_ind h1]at g1;have hl:=gh s n;have Qk:=hs.2;have c1:(0:Int)<=n-1:=by omega
  have c2:n-1<16:=by omega
  simp-implicitDefEqProofs (disch:=(first|omega|decide)) only[go_sem,↓reduceIte,seval,h1,h2,g1,c1,c2,wrap_i64,List.length_map]
end Go.Proofs.YtihgnfmoafjakaaGreat
namespace Go.Proofs.YtihgnfmoafjakaaGreat
open Go.bo
set_option linter.unusedSimpArgs false
set_option linter.unusedVariables false
set_option maxRecDepth 20000
set_option maxHeartbeats 8000000
def DR(s:List ad)(l:List ca)(k:Nat)(L:List (List aF)):Prop:=
 L.length=16/\ ∀i:Nat,i<16-> ∃x,L[i]? =some x/\x.length<=bA s+k/\ ∀c,ai x c=ai (aD (s++cT (l.take k)) ((i:Int)+1)) c
theorem RE(s:List ad)(l:List ca):DR s l 0 (iP s):=⟨iQ s,fun i hi=>⟨_,mo s hi,gh _ _,fun c=>by simp[cT]⟩⟩
theorem RG{s:List ad}{l:List ca}{k:Nat}{L:List (List aF)}(h:DR s l k L)(hk:k<l.length)(hr:aN l[k]=false):DR s l (k+1) L:=⟨h.1,fun i hi=>by
 obtain⟨x,h1,h2,h3⟩:=h.2 i hi;refine⟨x,h1,by omega,fun c=> ?_⟩
 rw[xP hk,hr,if_neg (by simp),List.append_nil];exact h3 c⟩
theorem RH{s:List ad}{l:List ca}{k:Nat}{L:List (List aF)}(h:DR s l k L)(hk:k<l.length)(hr:aN l[k]=true){x:List aF}(hx:L[(l[k].r-1).toNat]? =some x):
 DR s l (k+1) (L.set (l[k].r-1).toNat (cJ (ai (x++mK [l[k].c])))):=⟨by rw[List.length_set];exact h.1,fun i hi=>by
 obtain⟨y,h1,h2,h3⟩:=h.2 i hi;have VE:1<=l[k].r:=by have:=hr;simp[aN]at this;omega
 rw[xP hk,hr,if_pos rfl,<-List.append_assoc]
 rw[List.getElem?_set,h.1]
 by_cases e:(l[k].r-1).toNat=i
 · rw[if_pos e,if_pos (by omega)]
   rw[e,h1]at hx;obtain rfl:=Option.some.inj hx;refine⟨_,rfl, ?_,fun c=> ?_⟩
   · have:=lO (y++mK [l[k].c])
     simp only[mK,List.length_append,List.length_map,List.length_cons,List.length_nil]at this;simp only[mK]at*;omega
   · have e2:l[k].r=(i:Int)+1:=by omega
     rw[nO (BB _),fL,h3,dw (s++cT (l.take k)),fL (aD (s++cT (l.take k)) _)]
     congr 1
     simp only[aD,e2,if_true,List.append_nil];rfl
 · rw[if_neg e]
   refine⟨y,h1,by omega,fun c=> ?_⟩
   rw[h3,dw _ [_],fL]
   have e2: ¬l[k].r=(i:Int)+1:=by omega
   simp only[aD,e2,if_false,sm,Bool.or_false]⟩
theorem Wt{s:List ad}{l:List ca}{L:List (List aF)}(h:DR s l l.length L):Wo L=dG (s++cT l):=jc fun n hn=>by
 have ka:=bL.1 hn;obtain⟨x,h1,h2,h3⟩:=h.2 (n-1).toNat (by omega)
 rw[List.take_length,c_ind hn]at h3;have e:DN L n=x:=by unfold DN;rw[List.getD_eq_getElem?_getD,h1];rfl
 have e2:ai x=ai (aD (s++cT l) n):=funext h3;rw[e,e2]
theorem ON:ah Tryz.prog OK Tryz.f153.ntmps (Tryz.f153.body.getD .skip)=true:=by kernel_rfl
theorem RI(s:List ad)(l:List ca)(hs:aK s)(hl:bA s+l.length<=1000000):ay Tryz.prog 153 [.ab (s.map ad.enc),.ab (l.map ca.enc)] (· = .ab ((dG (s++cT l)).map ad.enc)):=by
 refine aa BC mixed Tryz.func153 rfl (Nat.le_of_ble_eq_true rfl) ON ?_;unfold Tryz.f153;have h2:=qT hs;have t16:=iQ s;have pt:=fun L=>OE L;simp-implicitDefEqProofs (disch:=(first|omega|decide)) only[go_sem,↓reduceIte,seval,h2,t16,List.length_map,List.append_nil]
 have Qk:=hs.2;have hu:=fun m (L:List (List aF))=>nS (m:=m) L;have hle:=fun m (L:List (List aF))=>nR (hu m L)
 refine ar [0,1,4,5,10,11] (ι:={p:Nat×List (List aF)//p.1<=l.length/\DR s l p.1 p.2}) (fun p=>[(12,.int .i64 p.1.1)]) (fun p=>[(0,.box (p.1.2.map fp))]) (fun p=>l.length-p.1.1) ⟨(0,iP s),Nat.zero_le _,RE s l⟩ (Nat.zero_le _) ?_ ?_
 · simp-implicitDefEqProofs (disch:=(first|omega|decide)) only[go_sem,↓reduceIte,seval,hle]
 · rintro⟨⟨k,L⟩,hk,hg⟩
   simp only at hk hg⊢;have tl:(L.map fp).length=16:=by rw[List.length_map,hg.1]
   by_cases aw:k<l.length
   · have ae:(k:Int)<(l.length:Int):=by omega
     have e1:=Uk aw;have hskip:=RG hg aw;have du:=fun hr x hx=>RH (x:=x) hg aw hr hx;generalize hv:l[k]=v at*;obtain⟨r,c⟩:=v;simp only at hskip du;cases h1:aN ⟨r,c⟩with
     |false=>
      simp-implicitDefEqProofs (disch:=(first|omega|decide)) only[go_sem,↓reduceIte,seval,ae,e1,h1,hle,wrap_i64,List.length_map]
      exact⟨⟨(k+1,L),aw,hskip h1⟩,⟨by simp,hle _ _⟩,by show l.length-(k+1)<l.length-k;omega⟩
     |true=>
      have hr:1<=r/\r<=16/\1<=c/\c<=1099511627776:=by simpa[aN,and_assoc]using h1
      obtain⟨x,hx,hxl,_⟩:=hg.2 (r-1).toNat (by omega)
      have g1:=vT hx;have hA:=Kp (a:=x) (b:=[c]) ⟨by omega,by simp⟩
      simp only[List.map_cons,List.map_nil]at hA;have c1:(0:Int)<=r-1:=by omega
      have c2:r-1<16:=by omega
      have sp:eB (L.map fp) ((r-1).toNat*1) [.ab ((cJ (ai (x++mK [c]))).map aF.enc)]=(L.set (r-1).toNat (cJ (ai (x++mK [c])))).map fp:=by rw[Nat.mul_one,DK (by rw[tl];omega),List.map_set];rfl
      simp-implicitDefEqProofs (disch:=(first|omega|decide)) only[go_sem,↓reduceIte,seval,ae,e1,h1,c1,c2,g1,hA,sp,tl,hle,wrap_i64,List.length_map]
      exact⟨by omega,⟨(k+1,_),aw,du h1 x hx⟩,⟨by simp,hle _ _⟩,by show l.length-(k+1)<l.length-k;omega⟩
   · have ae: ¬(k:Int)<(l.length:Int):=by omega
     obtain rfl:k=l.length:=by omega
     have tk:=DM hg.1;have b9:=zP (L:=L) hg.1 (fun x hx=>by obtain⟨i,hi,rfl⟩:=List.mem_iff_getElem.1 hx;rw[hg.1]at hi;obtain⟨y,hy,hyl,_⟩:=hg.2 i hi;rw[List.getElem?_eq_getElem (by rw[hg.1];exact hi)]at hy;rw[Option.some.inj hy];omega)
     rw[Wt hg]at b9;have pt:=OE L;have hvt:=fun H=>DL (H:=H) L;have rX:=fun n=>KC (n:=n) L;simp-implicitDefEqProofs (disch:=(first|omega|decide)) only[go_sem,↓reduceIte,seval,ae,tl,tk,b9,pt,hvt,rX,List.length_map]
end Go.Proofs.YtihgnfmoafjakaaGreat
namespace Go.Proofs.YtihgnfmoafjakaaGreat
open Go.bo
set_option linter.unusedSimpArgs false
set_option linter.unusedVariables false
set_option maxRecDepth 20000
set_option maxHeartbeats 8000000
def ZQ:an:=OK
theorem L14a_ok:ag Tryz.prog ZQ:=BC
@[go_sem] theorem L14a_old{g:FuncId}{xs:List A}:ZQ.f g xs=OK.f g xs:=rfl
def RJ:an:=ZQ.add 145 (entry (fun(v:List ad×List ad)=>[.ab (v.1.map ad.enc),.ab (v.2.map ad.enc)]) (fun v=>aK v.1/\aK v.2/\aK (dG v.1)/\aK (dG v.2)) (fun v=> .bool (bZ (dG v.1) (dG v.2))))
theorem L14b_ok:ag Tryz.prog RJ:=L14a_ok.bN Tryz.func145 (by kernel_rfl) (by kernel_rfl) fun v h=>OL v.1 v.2 h.1 h.2.1 h.2.2.1 h.2.2.2
@[go_sem] theorem L14b_old{g:FuncId}{xs:List A}(h:g≠145):RJ.f g xs=ZQ.f g xs:=an.ak h
theorem DS(v:List ad×List ad)(h:aK v.1/\aK v.2/\aK (dG v.1)/\aK (dG v.2)):RJ.f 145 [.ab (v.1.map ad.enc),.ab (v.2.map ad.enc)]=some (.bool (bZ (dG v.1) (dG v.2))):=an.ao (Γ:=ZQ) (fun i j h=>by simpa[Prod.ext_iff,and_assoc]using h) v h
def Wu:an:=RJ.add 146 (entry (fun(v:List ad×Int)=>[.ab (v.1.map ad.enc),.int .i64 v.2]) (fun v=>aK v.1) (fun v=> .int .i64 (if bE v.2=true then eV (cJ (ai (aD v.1 v.2)))else 0)))
theorem L14c_ok:ag Tryz.prog Wu:=L14b_ok.bN Tryz.func146 (by kernel_rfl) (by kernel_rfl) fun v h=>OM v.1 v.2 h
@[go_sem] theorem L14c_old{g:FuncId}{xs:List A}(h:g≠146):Wu.f g xs=RJ.f g xs:=an.ak h
theorem DT(v:List ad×Int)(h:aK v.1):Wu.f 146 [.ab (v.1.map ad.enc),.int .i64 v.2]=some (.int .i64 (if bE v.2=true then eV (cJ (ai (aD v.1 v.2)))else 0)):=an.ao (Γ:=RJ) (fun i j h=>by simpa[Prod.ext_iff,and_assoc]using h) v h
def ZR:an:=Wu
theorem L14d_ok:ag Tryz.prog ZR:=L14c_ok
@[go_sem] theorem L14d_old{g:FuncId}{xs:List A}:ZR.f g xs=Wu.f g xs:=rfl
def RK:an:=ZR.add 153 (entry (fun(v:List ad×List ca)=>[.ab (v.1.map ad.enc),.ab (v.2.map ca.enc)]) (fun v=>aK v.1/\bA v.1+v.2.length<=1000000) (fun v=> .ab ((dG (v.1++cT v.2)).map ad.enc)))
theorem L14e_ok:ag Tryz.prog RK:=L14d_ok.bN Tryz.func153 (by kernel_rfl) (by kernel_rfl) fun v h=>RI v.1 v.2 h.1 h.2
@[go_sem] theorem L14e_old{g:FuncId}{xs:List A}(h:g≠153):RK.f g xs=ZR.f g xs:=an.ak h
theorem GH(v:List ad×List ca)(h:aK v.1/\bA v.1+v.2.length<=1000000):RK.f 153 [.ab (v.1.map ad.enc),.ab (v.2.map ca.enc)]=some (.ab ((dG (v.1++cT v.2)).map ad.enc)):=an.ao (Γ:=ZR) (fun i j h=>by simpa[Prod.ext_iff,and_assoc]using h) v h
def Wv:an:=RK.add 151 (entry (fun(v:List ad×List ca)=>[.ab (v.1.map ad.enc),.ab (v.2.map ca.enc)]) (fun v=>mr v.1/\bA v.1+v.2.length<=50000) (fun v=> .ab ((dG (v.1++cT v.2)).map ad.enc)))
theorem L14f_ok:ag Tryz.prog Wv:=L14e_ok.bN Tryz.func151 (by kernel_rfl) (by kernel_rfl) fun v h=>OJ v.1 v.2 h.1 h.2
@[go_sem] theorem L14f_old{g:FuncId}{xs:List A}(h:g≠151):Wv.f g xs=RK.f g xs:=an.ak h
theorem DU(v:List ad×List ca)(h:mr v.1/\bA v.1+v.2.length<=50000):Wv.f 151 [.ab (v.1.map ad.enc),.ab (v.2.map ca.enc)]=some (.ab ((dG (v.1++cT v.2)).map ad.enc)):=an.ao (Γ:=RK) (fun i j h=>by simpa[Prod.ext_iff,and_assoc]using h) v h
theorem KK{a b:List ad}(ha:aK a)(hb:aK b)(JG:aK (dG a))(qi:aK (dG b)):RJ.f 145 [.ab (a.map ad.enc),.ab (b.map ad.enc)]=some (.bool (bZ (dG a) (dG b))):=DS (a,b) ⟨ha,hb,JG,qi⟩
theorem l_Most{s:List ad}{n:Int}(h:aK s):Wu.f 146 [.ab (s.map ad.enc),.int .i64 n]=some (.int .i64 (if bE n=true then eV (cJ (ai (aD s n)))else 0)):=DT (s,n) h
theorem l_Add{s:List ad}{l:List ca}(h:aK s)(h':bA s+l.length<=1000000):RK.f 153 [.ab (s.map ad.enc),.ab (l.map ca.enc)]=some (.ab ((dG (s++cT l)).map ad.enc)):=GH (s,l) ⟨h,h'⟩
theorem l_rAdd{s:List ad}{l:List ca}(h:mr s)(h':bA s+l.length<=50000):Wv.f 151 [.ab (s.map ad.enc),.ab (l.map ca.enc)]=some (.ab ((dG (s++cT l)).map ad.enc)):=DU (s,l) ⟨h,h'⟩
theorem OO{x:A}(h:fits (.rows [.int .i64,.rows [.int .i64,.int .i64]]) x): ∃l:List ad,x= .ab (l.map ad.enc)/\l.length<=maxLen/\ ∀k∈l,k.rs.length<=maxLen:=by
 simp only[fits]at h;obtain⟨es,rfl,hl,he⟩:=h;obtain⟨l,rfl,hk⟩:=sh (f:=ad.enc) (P:=fun k=>k.rs.length<=maxLen) (es:=es) (fun e hx=>by obtain⟨ys,rfl,hy⟩:=he e hx;simp only[cI]at hy;obtain⟨y,zs,rfl,h1,y2,zs2,rfl,h2,rfl⟩:=hy;simp only[fits]at h1;obtain⟨n,rfl,_⟩:=h1;obtain⟨rs,rfl,hr⟩:=Wj h2;exact⟨⟨n,rs⟩,rfl,hr⟩)
 exact⟨l,rfl,by simpa using hl,hk⟩
theorem DV{s:List ad}{m:Nat}(h:mY s m=false):s.length<=m/\bA s<=m*m:=by
 unfold mY at h;rw[Bool.or_eq_false_iff]at h;obtain⟨h1,h2⟩:=h;have nj:s.length<=m:=by have:=of_decide_eq_false h1;omega
 refine⟨nj, ?_⟩
 have h3: ∀k∈s,k.rs.length<=m:=fun k hk=>by rw[List.any_eq_false]at h2;have:=h2 k hk;simp at this;omega
 have h4: ∀l:List ad,(∀k∈l,k.rs.length<=m)->bA l<=l.length*m:=fun l=>by
  induction l with
  |nil=>intro _;simp[bA]
  |cons k l ih=>
   intro hk;have a:=ih fun q hq=>hk q (by simp[hq])
   have b:=hk k (by simp)
   have e:bA (k::l)=k.rs.length+bA l:=by unfold bA;rw[List.map_cons,List.sum_cons]
   rw[e,List.length_cons,Nat.succ_mul];omega
 exact Nat.le_trans (h4 s h3) (Nat.mul_le_mul_right m nj)
theorem IT(s:List ad):bc (dG s)=true:=Dg fun n=>ig _
def ZS:an:=Wv
theorem L14g_ok:ag Tryz.prog ZS:=L14f_ok
@[go_sem] theorem L14g_old{g:FuncId}{xs:List A}:ZS.f g xs=Wv.f g xs:=rfl
end Go.Proofs.YtihgnfmoafjakaaGreat
namespace Go.Proofs.YtihgnfmoafjakaaGreat
open Go.bo
set_option linter.unusedSimpArgs false
set_option linter.unusedVariables false
set_option maxRecDepth 20000
set_option maxHeartbeats 8000000
def hk(s:List ad)(n c:Int):Bool:=ai (aD s n) c
theorem hk_op{op:Int}{a b:List ad}{n:Int}(h:bE n=true)(c:Int):hk (RB op a b) n c=XA op (hk a n c) (hk b n c):=by unfold hk RB;rw[sq,if_pos h,nO (Y' _ _ _)];rfl
theorem DW{s:List ad}{n:Int}(h:bE n=true)(c:Int):hk (dG s) n c=hk s n c:=by unfold hk dG;rw[sq,if_pos h,nO (BB _)]
theorem IU{p:Int->Bool}(h: ∀c,p c=false):cJ p=[]:=(so (l:=[]) rfl fun c=>by rw[h];rfl).symm
theorem Ul{t:Int->List aF}(h: ∀n,bE n=true->t n=[]):mJ t=[]:=by
 have e:mJ t=mJ (aD []):=jc fun n hn=>by rw[h n hn];rfl
 rw[e];exact Dh (s:=[]) rfl
theorem uh{a b:List ad}:dG a=dG b ↔∀n,bE n=true-> ∀c,hk a n c=hk b n c:=by
 constructor
 · intro h n hn c
   rw[<-DW hn,<-DW (s:=b) hn,h]
 · intro h
   exact jc fun n hn=>by have e:ai (aD a n)=ai (aD b n):=funext fun c=>h n hn c;simp only[e]
end Go.Proofs.YtihgnfmoafjakaaGreat
namespace Go.Proofs.YtihgnfmoafjakaaGreat
open Go.bo
set_option linter.unusedSimpArgs false
set_option linter.unusedVariables false
set_option maxRecDepth 20000
set_option maxHeartbeats 8000000
end Go.Proofs.YtihgnfmoafjakaaGreat
namespace Go.Proofs.YtihgnfmoafjakaaGreat
open Go.bo
set_option linter.unusedSimpArgs false
set_option linter.unusedVariables false
set_option maxRecDepth 20000
set_option maxHeartbeats 4000000
def dB(l:List ax):Prop:= ∀r∈l,r.ok
theorem dJ{l:List ax}{k:Nat}(h:k<l.length):(l.map ax.enc)[k]? =some (.agg [.str l[k].lo,.str l[k].hi,.bool l[k].op]):=by rw[List.getElem?_map,List.getElem?_eq_getElem h];rfl
theorem jM{l:List ax}{k:Nat}(h:dB l)(hk:k<l.length):l[k].lo.length<=9223372036854775807/\l[k].hi.length<=9223372036854775807:=h _ (List.getElem_mem hk)
@[simp] theorem map_rng_inj{l m:List ax}:(l.map ax.enc=m.map ax.enc)=(l=m):=map_inj ax.eD
def mZ(l:List ax)(k:Nat):Option ax:=if k=0 then none else l[k-1]?
theorem DX{l:List ax}{k:Nat}(h:k<l.length):mZ l (k+1)=some l[k]:=by unfold mZ;rw[if_neg (by omega),show k+1-1=k by omega,List.getElem?_eq_getElem h]
theorem Ay:ah Tryz.prog vr Tryz.f109.ntmps (Tryz.f109.body.getD .skip)=true:=by kernel_rfl
theorem qV(l:List ax)(hl:l.length<=4611686018427387904)(g_:dB l):ay Tryz.prog 109 [.ab (l.map ax.enc)] (· = .bool (aP l)):=by
 refine aa fK mixed Tryz.func109 rfl (Nat.le_of_ble_eq_true rfl) Ay ?_;unfold Tryz.f109;simp-implicitDefEqProofs (disch:=(first|omega|decide)) only[go_sem,↓reduceIte,seval,List.length_map]
 refine ar [0,5,6] (ι:={k:Nat//k<=l.length/\aP l=oN (mZ l k) (l.drop k)}) (fun p=>[(7,.int .i64 p.1),(2,.bool false)]) (fun _=>[]) (fun p=>l.length-p.1) ⟨0,by omega,rfl⟩ (Nat.zero_le _) ?_ ?_
 · simp-implicitDefEqProofs (disch:=(first|omega|decide)) only[go_sem,↓reduceIte,seval]
 · rintro⟨k,hk,hd⟩
   simp only;by_cases aw:k<l.length
   · have ae:(k:Int)<(l.length:Int):=by omega
     have e1:=dJ aw;have mu:=jM g_ aw;have Da:=DX aw;rw[List.drop_eq_getElem_cons aw]at hd;simp only[oN]at hd;have next:aP l=oN (some l[k]) (l.drop (k+1))-> ∃j:{k:Nat//k<=l.length/\aP l=oN (mZ l k) (l.drop k)},(k:Int)+1=(j.1:Int)/\l.length-j.1<l.length-k:=fun h=>⟨⟨k+1,aw,by rw[Da];exact h⟩,by simp,by show l.length-(k+1)<l.length-k;omega⟩
     generalize hx:l[k]=x at*;obtain⟨lo,hi,op⟩:=x;simp only at mu;cases h1:aA ⟨lo,hi,op⟩with
     |false=>
      have hh:aP l=false:=by rw[hd,h1];rfl
      simp-implicitDefEqProofs (disch:=(first|omega|decide)) only[go_sem,↓reduceIte,seval,ae,e1,mu,h1,hh,wrap_i64,List.length_map]
     |true=>
      by_cases h0:0<k
      · have Gj:(0:Int)<(k:Int):=by omega
        have lC:k-1<l.length:=by omega
        have e0:=dJ lC;have ok0:=jM g_ lC;have hpt:mZ l k=some l[k-1]:=by unfold mZ;rw[if_neg (by omega),List.getElem?_eq_getElem lC]
        have t0:((k:Int)-1).toNat=k-1:=by omega
        have b0:(0:Int)<=(k:Int)-1:=by omega
        have b1:(k:Int)-1<(l.length:Int):=by omega
        rw[hpt]at hd;generalize hy:l[k-1]=y at*;obtain⟨iw,fB,mU⟩:=y;simp only at ok0 hd;cases h2:mU with
        |true=>
          subst h2;have hh:aP l=false:=by rw[hd];simp
          simp-implicitDefEqProofs (disch:=(first|omega|decide)) only[go_sem,↓reduceIte,seval,ae,e1,e0,ok0,mu,h1,Gj,t0,b0,b1,hh,wrap_i64,List.length_map]
        |false=>
          subst h2;cases h3:aV fB lo with
          |false=>
           have hh:aP l=false:=by rw[hd,h3];simp
           simp-implicitDefEqProofs (disch:=(first|omega|decide)) only[go_sem,↓reduceIte,seval,ae,e1,e0,ok0,mu,h1,h3,Gj,t0,b0,b1,hh,wrap_i64,List.length_map]
          |true=>
           simp-implicitDefEqProofs (disch:=(first|omega|decide)) only[go_sem,↓reduceIte,seval,ae,e1,e0,ok0,mu,h1,h3,Gj,t0,b0,b1,wrap_i64,List.length_map]
           exact next (by rw[hd,h1,h3];simp)
      · have Gj: ¬(0:Int)<(k:Int):=by omega
        simp-implicitDefEqProofs (disch:=(first|omega|decide)) only[go_sem,↓reduceIte,seval,ae,e1,mu,h1,Gj,wrap_i64,List.length_map]
        have xg:k=0:=by omega
        exact next (by rw[hd,h1];simp[mZ,xg])
   · have ae: ¬(k:Int)<(l.length:Int):=by omega
     have hh:aP l=true:=by rw[hd,List.drop_of_length_le (by omega)];cases mZ l k<;>rfl
     simp-implicitDefEqProofs (disch:=(first|omega|decide)) only[go_sem,↓reduceIte,seval,ae,hh,List.length_map]
theorem DY:ah Tryz.prog vr Tryz.f76.ntmps (Tryz.f76.body.getD .skip)=true:=by kernel_rfl
theorem GI(l:List ax)(hl:l.length<=4611686018427387904)(g_:dB l):ay Tryz.prog 76 [.ab (l.map ax.enc)] (· = .bool (aP l)):=by
 refine aa fK mixed Tryz.func76 rfl (Nat.le_of_ble_eq_true rfl) DY ?_;unfold Tryz.f76;simp-implicitDefEqProofs (disch:=(first|omega|decide)) only[go_sem,↓reduceIte,seval,List.length_map]
 refine ar [0] (ι:={k:Nat//k<=l.length/\aP l=oN (mZ l k) (l.drop k)}) (fun p=>[(3,.int .i64 p.1),(2,.bool false)]) (fun _=>[]) (fun p=>l.length-p.1) ⟨0,by omega,rfl⟩ (Nat.zero_le _) ?_ ?_
 · simp-implicitDefEqProofs (disch:=(first|omega|decide)) only[go_sem,↓reduceIte,seval]
 · rintro⟨k,hk,hd⟩
   simp only;by_cases aw:k<l.length
   · have ae:(k:Int)<(l.length:Int):=by omega
     have e1:=dJ aw;have mu:=jM g_ aw;have Da:=DX aw;rw[List.drop_eq_getElem_cons aw]at hd;simp only[oN]at hd;have next:aP l=oN (some l[k]) (l.drop (k+1))-> ∃j:{k:Nat//k<=l.length/\aP l=oN (mZ l k) (l.drop k)},(k:Int)+1=(j.1:Int)/\l.length-j.1<l.length-k:=fun h=>⟨⟨k+1,aw,by rw[Da];exact h⟩,by simp,by show l.length-(k+1)<l.length-k;omega⟩
     generalize hx:l[k]=x at*;obtain⟨lo,hi,op⟩:=x;simp only at mu;cases h1:aA ⟨lo,hi,op⟩with
     |false=>
      have hh:aP l=false:=by rw[hd,h1];rfl
      simp-implicitDefEqProofs (disch:=(first|omega|decide)) only[go_sem,↓reduceIte,seval,ae,e1,mu,h1,hh,wrap_i64,List.length_map]
     |true=>
      by_cases h0:0<k
      · have Gj:(0:Int)<(k:Int):=by omega
        have lC:k-1<l.length:=by omega
        have e0:=dJ lC;have ok0:=jM g_ lC;have hpt:mZ l k=some l[k-1]:=by unfold mZ;rw[if_neg (by omega),List.getElem?_eq_getElem lC]
        have t0:((k:Int)-1).toNat=k-1:=by omega
        have b0:(0:Int)<=(k:Int)-1:=by omega
        have b1:(k:Int)-1<(l.length:Int):=by omega
        rw[hpt]at hd;generalize hy:l[k-1]=y at*;obtain⟨iw,fB,mU⟩:=y;simp only at ok0 hd;cases h2:mU with
        |true=>
          subst h2;have hh:aP l=false:=by rw[hd];simp
          simp-implicitDefEqProofs (disch:=(first|omega|decide)) only[go_sem,↓reduceIte,seval,ae,e1,e0,ok0,mu,h1,Gj,t0,b0,b1,hh,wrap_i64,List.length_map]
        |false=>
          subst h2;cases h3:aV fB lo with
          |false=>
           have hh:aP l=false:=by rw[hd,h3];simp
           simp-implicitDefEqProofs (disch:=(first|omega|decide)) only[go_sem,↓reduceIte,seval,ae,e1,e0,ok0,mu,h1,h3,Gj,t0,b0,b1,hh,wrap_i64,List.length_map]
          |true=>
           simp-implicitDefEqProofs (disch:=(first|omega|decide)) only[go_sem,↓reduceIte,seval,ae,e1,e0,ok0,mu,h1,h3,Gj,t0,b0,b1,wrap_i64,List.length_map]
           exact next (by rw[hd,h1,h3];simp)
      · have Gj: ¬(0:Int)<(k:Int):=by omega
        simp-implicitDefEqProofs (disch:=(first|omega|decide)) only[go_sem,↓reduceIte,seval,ae,e1,mu,h1,Gj,wrap_i64,List.length_map]
        have xg:k=0:=by omega
        exact next (by rw[hd,h1];simp[mZ,xg])
   · have ae: ¬(k:Int)<(l.length:Int):=by omega
     have hh:aP l=true:=by rw[hd,List.drop_of_length_le (by omega)];cases mZ l k<;>rfl
     simp-implicitDefEqProofs (disch:=(first|omega|decide)) only[go_sem,↓reduceIte,seval,ae,hh,List.length_map]
theorem KL:ah Tryz.prog vr Tryz.f36.ntmps (Tryz.f36.body.getD .skip)=true:=by kernel_rfl
theorem OP(l:List ax)(s:List UInt8)(hl:l.length<=4611686018427387904)(g_:dB l)(hs:s.length<=9223372036854775807):ay Tryz.prog 36 [.ab (l.map ax.enc),.str s] (· = .bool (aj l s)):=by
 refine aa fK mixed Tryz.func36 rfl (Nat.le_of_ble_eq_true rfl) KL ?_;unfold Tryz.f36;simp-implicitDefEqProofs (disch:=(first|omega|decide)) only[go_sem,↓reduceIte,seval,List.length_map]
 refine ar [0,1] (ι:={k:Nat//k<=l.length/\aj l s=aj (l.drop k) s}) (fun p=>[(5,.int .i64 p.1),(4,.bool false)]) (fun _=>[]) (fun p=>l.length-p.1) ⟨0,by omega,rfl⟩ (Nat.zero_le _) ?_ ?_
 · simp-implicitDefEqProofs (disch:=(first|omega|decide)) only[go_sem,↓reduceIte,seval]
 · rintro⟨k,hk,hd⟩
   simp only;by_cases aw:k<l.length
   · have ae:(k:Int)<(l.length:Int):=by omega
     have e1:=dJ aw;have mu:=jM g_ aw;rw[List.drop_eq_getElem_cons aw,iZ]at hd;generalize hx:l[k]=x at*;obtain⟨lo,hi,op⟩:=x;simp only at mu;cases h1:b_ ⟨lo,hi,op⟩ s with
     |true=>
      have hh:aj l s=true:=by rw[hd,h1];rfl
      simp-implicitDefEqProofs (disch:=(first|omega|decide)) only[go_sem,↓reduceIte,seval,ae,e1,mu,h1,hh,wrap_i64,List.length_map]
     |false=>
      simp-implicitDefEqProofs (disch:=(first|omega|decide)) only[go_sem,↓reduceIte,seval,ae,e1,mu,h1,wrap_i64,List.length_map]
      exact⟨⟨k+1,aw,by rw[hd,h1];rfl⟩,by simp,by show l.length-(k+1)<l.length-k;omega⟩
   · have ae: ¬(k:Int)<(l.length:Int):=by omega
     have hh:aj l s=false:=by rw[hd,List.drop_of_length_le (by omega)];rfl
     simp-implicitDefEqProofs (disch:=(first|omega|decide)) only[go_sem,↓reduceIte,seval,ae,hh,List.length_map]
def gw(l:List ax)(m:Int):Bool:=decide (m<(l.length:Int))||l.any fun r=>decide (40<r.lo.length)||decide (40<r.hi.length)
theorem tp:ah Tryz.prog vr Tryz.f66.ntmps (Tryz.f66.body.getD .skip)=true:=by kernel_rfl
theorem KM(l:List ax)(m:Int)(hl:l.length<=4611686018427387904):ay Tryz.prog 66 [.ab (l.map ax.enc),.int .i64 m] (· = .bool (gw l m)):=by
 refine aa fK mixed Tryz.func66 rfl (Nat.le_of_ble_eq_true rfl) tp ?_;unfold Tryz.f66;by_cases h0:m<(l.length:Int)
 · have hh:gw l m=true:=by simp[gw,h0]
   simp-implicitDefEqProofs (disch:=(first|omega|decide)) only[go_sem,↓reduceIte,seval,h0,hh,List.length_map]
 · have hh:gw l m=l.any fun r=>decide (40<r.lo.length)||decide (40<r.hi.length):=by simp[gw,h0]
   simp-implicitDefEqProofs (disch:=(first|omega|decide)) only[go_sem,↓reduceIte,seval,h0,List.length_map]
   rw[hh]
   refine ar [0] (ι:={k:Nat//k<=l.length/\(l.any fun r=>decide (40<r.lo.length)||decide (40<r.hi.length))=((l.drop k).any fun r=>decide (40<r.lo.length)||decide (40<r.hi.length))}) (fun p=>[(5,.int .i64 p.1),(4,.bool false)]) (fun _=>[]) (fun p=>l.length-p.1) ⟨0,by omega,rfl⟩ (Nat.zero_le _) ?_ ?_
   · simp-implicitDefEqProofs (disch:=(first|omega|decide)) only[go_sem,↓reduceIte,seval]
   · rintro⟨k,hk,hd⟩
     simp only;by_cases aw:k<l.length
     · have ae:(k:Int)<(l.length:Int):=by omega
       have e1:=dJ aw;rw[List.drop_eq_getElem_cons aw,List.any_cons]at hd;generalize hx:l[k]=x at*;obtain⟨lo,hi,op⟩:=x;simp only at hd;by_cases h1:40<lo.length
       · have nj:(40:Int)<(lo.length:Int):=by omega
         rw[decide_eq_true h1,Bool.true_or,Bool.true_or]at hd;simp-implicitDefEqProofs (disch:=(first|omega|decide)) only[go_sem,↓reduceIte,seval,ae,e1,nj,hd,wrap_i64,List.length_map]
       · have nj: ¬(40:Int)<(lo.length:Int):=by omega
         by_cases h2:40<hi.length
         · have nI:(40:Int)<(hi.length:Int):=by omega
           rw[decide_eq_true h2,Bool.or_true,Bool.true_or]at hd;simp-implicitDefEqProofs (disch:=(first|omega|decide)) only[go_sem,↓reduceIte,seval,ae,e1,nj,nI,hd,wrap_i64,List.length_map]
         · have nI: ¬(40:Int)<(hi.length:Int):=by omega
           rw[decide_eq_false h1,decide_eq_false h2,Bool.or_false,Bool.false_or]at hd;simp-implicitDefEqProofs (disch:=(first|omega|decide)) only[go_sem,↓reduceIte,seval,ae,e1,nj,nI,wrap_i64,List.length_map]
           exact⟨⟨k+1,aw,hd⟩,by simp,by show l.length-(k+1)<l.length-k;omega⟩
     · have ae: ¬(k:Int)<(l.length:Int):=by omega
       rw[List.drop_of_length_le (by omega)]at hd;simp-implicitDefEqProofs (disch:=(first|omega|decide)) only[go_sem,↓reduceIte,seval,ae,hd,List.length_map]
def km(a b:List ax):Bool:=decide (a=b)
theorem GJ:ah Tryz.prog vr Tryz.f68.ntmps (Tryz.f68.body.getD .skip)=true:=by kernel_rfl
theorem KN(a b:List ax)(hl:a.length<=4611686018427387904)(hb:b.length<=4611686018427387904):ay Tryz.prog 68 [.ab (a.map ax.enc),.ab (b.map ax.enc)] (· = .bool (km a b)):=by
 refine aa fK mixed Tryz.func68 rfl (Nat.le_of_ble_eq_true rfl) GJ ?_;unfold Tryz.f68;cases h0:((a.length:Int)==(b.length:Int))with
 |false=>
  have cg:a.length≠b.length:=by
   have:(a.length:Int)≠(b.length:Int):=by simpa using h0
   omega
  have hh:km a b=false:=by unfold km;simp;intro e;exact cg (by rw[e])
  simp-implicitDefEqProofs (disch:=(first|omega|decide)) only[go_sem,↓reduceIte,seval,h0,hh,List.length_map]
 |true=>
  have he:a.length=b.length:=by
   have:(a.length:Int)=(b.length:Int):=by simpa using h0
   omega
  simp-implicitDefEqProofs (disch:=(first|omega|decide)) only[go_sem,↓reduceIte,seval,h0,List.length_map]
  refine ar [0,1] (ι:={k:Nat//k<=a.length/\a.take k=b.take k}) (fun p=>[(5,.int .i64 p.1)]) (fun _=>[]) (fun p=>a.length-p.1) ⟨0,by omega,rfl⟩ (Nat.zero_le _) ?_ ?_
  · simp-implicitDefEqProofs (disch:=(first|omega|decide)) only[go_sem,↓reduceIte,seval]
  · rintro⟨k,hk,hd⟩
    simp only;by_cases aw:k<a.length
    · have ae:(k:Int)<(a.length:Int):=by omega
      have lF:(k:Int)<(b.length:Int):=by omega
      have iH:k<b.length:=by omega
      have e1:=dJ aw;have e2:=dJ iH;have t1:=(List.take_append_getElem aw).symm;have t2:=(List.take_append_getElem iH).symm;have sj:a[k]≠b[k]->km a b=false:=fun h=>by unfold km;simp;intro e;subst e;exact h rfl
      generalize hx:a[k]=x at*;generalize hy:b[k]=y at*;obtain⟨f,t,o⟩:=x;obtain⟨f',t',o'⟩:=y;cases h1:f==f' with
      |false=>
       have hh:=sj (by have:f≠f':=by simpa using h1
                       simp[this])
       simp-implicitDefEqProofs (disch:=(first|omega|decide)) only[go_sem,↓reduceIte,seval,ae,lF,e1,e2,h1,hh,List.length_map]
      |true=>
       cases h2:t==t' with
       |false=>
        have hh:=sj (by have:t≠t':=by simpa using h2
                        simp[this])
        simp-implicitDefEqProofs (disch:=(first|omega|decide)) only[go_sem,↓reduceIte,seval,ae,lF,e1,e2,h1,h2,hh,List.length_map]
       |true=>
        cases h3:o==o' with
        |false=>
           have hh:=sj (by have:o≠o':=by simpa using h3
                           simp[this])
           simp-implicitDefEqProofs (disch:=(first|omega|decide)) only[go_sem,↓reduceIte,seval,ae,lF,e1,e2,h1,h2,h3,hh,List.length_map]
        |true=>
           obtain rfl:f=f':=by simpa using h1
           obtain rfl:t=t':=by simpa using h2
           obtain rfl:o=o':=by simpa using h3
           simp-implicitDefEqProofs (disch:=(first|omega|decide)) only[go_sem,↓reduceIte,seval,ae,lF,e1,e2,h1,h2,h3,wrap_i64,List.length_map]
           exact⟨⟨k+1,aw,by rw[t1,t2,hd]⟩,by simp,by show a.length-(k+1)<a.length-k;omega⟩
    · have ae: ¬(k:Int)<(a.length:Int):=by omega
      have hh:km a b=true:=by rw[List.take_of_length_le (by omega),List.take_of_length_le (by omega)]at hd;simp[km,hd]
      simp-implicitDefEqProofs (disch:=(first|omega|decide)) only[go_sem,↓reduceIte,seval,ae,hh,List.length_map]
end Go.Proofs.YtihgnfmoafjakaaGreat
namespace Go.Proofs.YtihgnfmoafjakaaGreat
set_option linter.unusedSimpArgs false
set_option linter.unusedVariables false
def aY{α:Type} [DecidableEq α]:List α->List α
 | []=>[]
 | [x]=>[x]
 |x::y::l=>if x=y then aY (y::l)else x::aY (y::l)
section
variable{α:Type} [DecidableEq α]
theorem DZ: ∀(l:List α) (x y:α),aY (l++[x,y])=if x=y then aY (l++[x])else aY (l++[x])++[y]
 | [],x,y=>by by_cases h:x=y<;>simp[aY,h]
 | [z],x,y=>by
  by_cases h:x=y
  · by_cases h2:z=x<;>simp[aY,h,h2]
  · by_cases h2:z=x<;>simp[aY,h,h2]
 |z::w::l,x,y=>by
  have ih:=DZ (w::l) x y;simp only[List.cons_append,aY]at ih⊢;by_cases h2:z=w
  · rw[if_pos h2,if_pos h2];exact ih
  · rw[if_neg h2,if_neg h2,ih]
    by_cases h:x=y<;>simp[h]
theorem sy: ∀l:List α,(aY l).length<=l.length
 | []=>by simp[aY]
 | [x]=>by simp[aY]
 |x::y::l=>by
  have:=sy (y::l)
  simp only[aY]
  split<;>simp at* <;>omega
theorem l0: ∀{l:List α} {z:α},z∈aY l ↔ z∈l
 | [],z=>by simp[aY]
 | [x],z=>by simp[aY]
 |x::y::l,z=>by
  have ih:= @l0 (y::l) z;simp only[aY]
  split
  · rename_i h;subst h;rw[ih];simp
  · rw[List.mem_cons,ih,List.mem_cons (l:=y::l)]
theorem IV: ∀l:List α,(aY l).Sublist l
 | []=>by simp[aY]
 | [x]=>by simp[aY]
 |x::y::l=>by
  have ih:=IV (y::l)
  simp only[aY]
  split
  · exact ih.cons x
  · exact ih.cons_cons x
end
theorem o0{α:Type} [DecidableEq α]{l:List α}{k:Nat}(h1:1<=k)(h:k<l.length):aY (l.take (k+1))=if l[k-1]=l[k]then aY (l.take k)else aY (l.take k)++[l[k]]:=by
 have e1:l.take k=l.take (k-1)++[l[k-1]]:=by
  have:=List.take_append_getElem (l:=l) (i:=k-1) (by omega)
  rw[show k-1+1=k by omega]at this;exact this.symm
 have e2:l.take (k+1)=l.take (k-1)++[l[k-1],l[k]]:=by rw[<-List.take_append_getElem h,e1,List.append_assoc];rfl
 rw[e2,DZ,<-e1]
end Go.Proofs.YtihgnfmoafjakaaGreat
namespace Go.Proofs
open Go.Shelf
def YtihgnfmoafjakaaGreat.OQ:Go.Shelf.Ren:=⟨fun|6=>174|15=>203|14=>204|28=>224|29=>225|20=>226|21=>227|22=>228|23=>229|24=>230|25=>231|26=>232|27=>233|46=>252|47=>248|48=>249|49=>253|50=>254|57=>261|n=>n,fun|22=>121|24=>9|25=>149|3=>3|39=>199|0=>0|53=>46|55=>220|4=>4|46=>212|45=>211|50=>216|5=>5|9=>9|66=>234|70=>238|76=>246|77=>247|n=>n,fun|n=>n⟩
theorem YtihgnfmoafjakaaGreat.sortStr:Go.Proofs.SlLaysF.n6 Tryz.prog YtihgnfmoafjakaaGreat.OQ:={
 mixed:=by kernel_rfl
 f6:=⟨Tryz.f174.name,by decide,Tryz.func174.trans (congrArg some (by kernel_rfl))⟩
 f14:=⟨Tryz.f204.name,by decide,Tryz.func204.trans (congrArg some (by kernel_rfl))⟩
 f15:=Tryz.func203.trans (congrArg some (by kernel_rfl))
 f20:=⟨Tryz.f226.name,by decide,Tryz.func226.trans (congrArg some (by kernel_rfl))⟩
 f21:=⟨Tryz.f227.name,by decide,Tryz.func227.trans (congrArg some (by kernel_rfl))⟩
 f22:=⟨Tryz.f228.name,by decide,Tryz.func228.trans (congrArg some (by kernel_rfl))⟩
 f23:=⟨Tryz.f229.name,by decide,Tryz.func229.trans (congrArg some (by kernel_rfl))⟩
 f24:=⟨Tryz.f230.name,by decide,Tryz.func230.trans (congrArg some (by kernel_rfl))⟩
 f25:=⟨Tryz.f231.name,by decide,Tryz.func231.trans (congrArg some (by kernel_rfl))⟩
 f26:=⟨Tryz.f232.name,by decide,Tryz.func232.trans (congrArg some (by kernel_rfl))⟩
 f27:=⟨Tryz.f233.name,by decide,Tryz.func233.trans (congrArg some (by kernel_rfl))⟩
 f28:=Tryz.func224.trans (congrArg some (by kernel_rfl))
 f29:=Tryz.func225.trans (congrArg some (by kernel_rfl))
 f46:=⟨Tryz.f252.name,by decide,Tryz.func252.trans (congrArg some (by kernel_rfl))⟩
 f47:=Tryz.func248.trans (congrArg some (by kernel_rfl))
 f48:=Tryz.func249.trans (congrArg some (by kernel_rfl))
 f49:=⟨Tryz.f253.name,by decide,Tryz.func253.trans (congrArg some (by kernel_rfl))⟩
 f50:=⟨Tryz.f254.name,by decide,Tryz.func254.trans (congrArg some (by kernel_rfl))⟩
 f57:=⟨Tryz.f261.name,by decide,Tryz.func261.trans (congrArg some (by kernel_rfl))⟩
 t0:=Tryz.underlying0
 a0:=Tryz.isAgg0
 z0:=Tryz.sizeOf0
 v0:=Tryz.zeroValue0
 t3:=Tryz.underlying3
 a3:=Tryz.isAgg3
 z3:=Tryz.sizeOf3
 v3:=Tryz.zeroValue3
 t4:=Tryz.underlying4
 a4:=Tryz.isAgg4
 z4:=Tryz.sizeOf4
 v4:=Tryz.zeroValue4
 t5:=Tryz.underlying5
 a5:=Tryz.isAgg5
 z5:=Tryz.sizeOf5
 v5:=Tryz.zeroValue5
 t9:=Tryz.underlying9
 a9:=Tryz.isAgg9
 z9:=Tryz.sizeOf9
 v9:=Tryz.zeroValue9
 t22:=Tryz.underlying121
 a22:=Tryz.isAgg121
 z22:=Tryz.sizeOf121
 v22:=Tryz.zeroValue121
 a24:=Tryz.isAgg9
 z24:=Tryz.sizeOf9
 t25:=Tryz.underlying149
 a25:=Tryz.isAgg149
 z25:=Tryz.sizeOf149
 v25:=Tryz.zeroValue149
 t39:=Tryz.underlying199
 a39:=Tryz.isAgg199
 z39:=Tryz.sizeOf199
 v39:=Tryz.zeroValue199
 t45:=Tryz.underlying211
 a45:=Tryz.isAgg211
 z45:=Tryz.sizeOf211
 v45:=Tryz.zeroValue211
 t46:=Tryz.underlying212
 a46:=Tryz.isAgg212
 z46:=Tryz.sizeOf212
 v46:=Tryz.zeroValue212
 t50:=Tryz.underlying216
 a50:=Tryz.isAgg216
 z50:=Tryz.sizeOf216
 v50:=Tryz.zeroValue216
 t53:=Tryz.underlying46
 a53:=Tryz.isAgg46
 z53:=Tryz.sizeOf46
 v53:=Tryz.zeroValue46
 t55:=Tryz.underlying220
 a55:=Tryz.isAgg220
 z55:=Tryz.sizeOf220
 v55:=Tryz.zeroValue220
 t66:=Tryz.underlying234
 a66:=Tryz.isAgg234
 z66:=Tryz.sizeOf234
 v66:=Tryz.zeroValue234
 t70:=Tryz.underlying238
 a70:=Tryz.isAgg238
 z70:=Tryz.sizeOf238
 v70:=Tryz.zeroValue238
 t76:=Tryz.underlying246
 a76:=Tryz.isAgg246
 z76:=Tryz.sizeOf246
 v76:=Tryz.zeroValue246
 t77:=Tryz.underlying247
 a77:=Tryz.isAgg247
 z77:=Tryz.sizeOf247
 v77:=Tryz.zeroValue247}
def YtihgnfmoafjakaaGreat.KO:Go.Shelf.Ren:=⟨fun|6=>174|15=>203|14=>204|28=>224|29=>225|20=>226|21=>227|22=>228|23=>229|24=>230|25=>231|26=>232|27=>233|46=>252|47=>248|48=>249|49=>253|50=>254|57=>261|n=>n,fun|22=>121|24=>9|25=>149|3=>3|39=>199|0=>0|53=>46|55=>220|4=>4|46=>212|45=>211|50=>216|5=>5|9=>9|66=>234|70=>238|76=>246|77=>247|n=>n,fun|n=>n⟩
theorem YtihgnfmoafjakaaGreat.ZT:Go.Proofs.SlLaysF0.n6 Tryz.prog YtihgnfmoafjakaaGreat.KO:={
 mixed:=by kernel_rfl
 f6:=⟨Tryz.f174.name,by decide,Tryz.func174.trans (congrArg some (by kernel_rfl))⟩
 f14:=⟨Tryz.f204.name,by decide,Tryz.func204.trans (congrArg some (by kernel_rfl))⟩
 f15:=Tryz.func203.trans (congrArg some (by kernel_rfl))
 f20:=⟨Tryz.f226.name,by decide,Tryz.func226.trans (congrArg some (by kernel_rfl))⟩
 f21:=⟨Tryz.f227.name,by decide,Tryz.func227.trans (congrArg some (by kernel_rfl))⟩
 f22:=⟨Tryz.f228.name,by decide,Tryz.func228.trans (congrArg some (by kernel_rfl))⟩
 f23:=⟨Tryz.f229.name,by decide,Tryz.func229.trans (congrArg some (by kernel_rfl))⟩
 f24:=⟨Tryz.f230.name,by decide,Tryz.func230.trans (congrArg some (by kernel_rfl))⟩
 f25:=⟨Tryz.f231.name,by decide,Tryz.func231.trans (congrArg some (by kernel_rfl))⟩
 f26:=⟨Tryz.f232.name,by decide,Tryz.func232.trans (congrArg some (by kernel_rfl))⟩
 f27:=⟨Tryz.f233.name,by decide,Tryz.func233.trans (congrArg some (by kernel_rfl))⟩
 f28:=Tryz.func224.trans (congrArg some (by kernel_rfl))
 f29:=Tryz.func225.trans (congrArg some (by kernel_rfl))
 f46:=⟨Tryz.f252.name,by decide,Tryz.func252.trans (congrArg some (by kernel_rfl))⟩
 f47:=Tryz.func248.trans (congrArg some (by kernel_rfl))
 f48:=Tryz.func249.trans (congrArg some (by kernel_rfl))
 f49:=⟨Tryz.f253.name,by decide,Tryz.func253.trans (congrArg some (by kernel_rfl))⟩
 f50:=⟨Tryz.f254.name,by decide,Tryz.func254.trans (congrArg some (by kernel_rfl))⟩
 f57:=⟨Tryz.f261.name,by decide,Tryz.func261.trans (congrArg some (by kernel_rfl))⟩
 t0:=Tryz.underlying0
 a0:=Tryz.isAgg0
 z0:=Tryz.sizeOf0
 v0:=Tryz.zeroValue0
 t3:=Tryz.underlying3
 a3:=Tryz.isAgg3
 z3:=Tryz.sizeOf3
 v3:=Tryz.zeroValue3
 t4:=Tryz.underlying4
 a4:=Tryz.isAgg4
 z4:=Tryz.sizeOf4
 v4:=Tryz.zeroValue4
 t5:=Tryz.underlying5
 a5:=Tryz.isAgg5
 z5:=Tryz.sizeOf5
 v5:=Tryz.zeroValue5
 t9:=Tryz.underlying9
 a9:=Tryz.isAgg9
 z9:=Tryz.sizeOf9
 v9:=Tryz.zeroValue9
 t22:=Tryz.underlying121
 a22:=Tryz.isAgg121
 z22:=Tryz.sizeOf121
 v22:=Tryz.zeroValue121
 t25:=Tryz.underlying149
 a25:=Tryz.isAgg149
 z25:=Tryz.sizeOf149
 v25:=Tryz.zeroValue149
 t39:=Tryz.underlying199
 a39:=Tryz.isAgg199
 z39:=Tryz.sizeOf199
 v39:=Tryz.zeroValue199
 t45:=Tryz.underlying211
 a45:=Tryz.isAgg211
 z45:=Tryz.sizeOf211
 v45:=Tryz.zeroValue211
 t46:=Tryz.underlying212
 a46:=Tryz.isAgg212
 z46:=Tryz.sizeOf212
 v46:=Tryz.zeroValue212
 t50:=Tryz.underlying216
 a50:=Tryz.isAgg216
 z50:=Tryz.sizeOf216
 v50:=Tryz.zeroValue216
 t53:=Tryz.underlying46
 a53:=Tryz.isAgg46
 z53:=Tryz.sizeOf46
 v53:=Tryz.zeroValue46
 t55:=Tryz.underlying220
 a55:=Tryz.isAgg220
 z55:=Tryz.sizeOf220
 v55:=Tryz.zeroValue220
 t66:=Tryz.underlying234
 a66:=Tryz.isAgg234
 z66:=Tryz.sizeOf234
 v66:=Tryz.zeroValue234
 t70:=Tryz.underlying238
 a70:=Tryz.isAgg238
 z70:=Tryz.sizeOf238
 v70:=Tryz.zeroValue238
 t76:=Tryz.underlying246
 a76:=Tryz.isAgg246
 z76:=Tryz.sizeOf246
 v76:=Tryz.zeroValue246
 t77:=Tryz.underlying247
 a77:=Tryz.isAgg247
 z77:=Tryz.sizeOf247
 v77:=Tryz.zeroValue247}
end Go.Proofs
namespace Go.Proofs.YtihgnfmoafjakaaGreat
open Go.bo
set_option linter.unusedSimpArgs false
set_option linter.unusedVariables false
set_option maxRecDepth 20000
set_option maxHeartbeats 8000000
abbrev sN:={s:List UInt8//s.length<=17}
instance:Inhabited sN:=⟨⟨[],by decide⟩⟩
def cfS(a b:sN):Int:=cA a.1 b.1
def sN.enc(s:sN):A:= .str s.1
theorem swoS:Go.Sort.SWO (Go.Proofs.ltOf cfS):=by
 have hl: ∀a b,Go.Proofs.ltOf cfS a b=aV a.1 b.1:=fun a b=>by unfold Go.Proofs.ltOf cfS;exact vp
 refine⟨fun x=> ?_,fun x y z h1 h2=> ?_,fun x y z h1 h2=> ?_⟩
 · rw[hl];exact lt_irrefl _
 · rw[hl]at*;exact ck h1 h2
 · rw[hl]at*;exact lH h2 h1
theorem D0(l:List sN)(hl:l.length<4611686018427387904):dR Tryz.prog 174 [.row 0 0 1 l.length false,.fn 141 []] [.row 1 (l.map sN.enc)]
 (.cD []) [.row 1 ((df cfS l).map sN.enc)] []:=
 N_ Go.Proofs.YtihgnfmoafjakaaGreat.sortStr Go.Proofs.YtihgnfmoafjakaaGreat.ZT sN.enc (fun _=>rfl) cfS swoS (bB Tryz.func141 (by kernel_rfl) (by kernel_rfl)) (fun x y=>xr x.1 y.1 (by have:=x.2;omega) (by have:=y.2;omega)) l hl false
def XF:(l:List (List UInt8))->(∀s∈l,s.length<=17)->List sN
 | [],_=>[]
 |s::l,h=>⟨s,h s (by simp)⟩::XF l (fun x hx=>h x (by simp[hx]))
theorem BD: ∀(l:List (List UInt8)) (h: ∀s∈l,s.length<=17),(XF l h).map (·.1)=l
 | [],_=>rfl
 |s::l,h=>by simp[XF,BD l]
theorem Um(l:List (List UInt8))(h: ∀s∈l,s.length<=17):(XF l h).map sN.enc=l.map A.str:=by
 have:=BD l h
 conv=>rhs;rw[<-this]
 rw[List.map_map];rfl
theorem BE(l:List (List UInt8))(h: ∀s∈l,s.length<=17):(XF l h).length=l.length:=by
 have:=congrArg List.length (BD l h)
 simpa using this
open Classical in
/-- Texts, sorted. -/
def jN(l:List (List UInt8)):List (List UInt8):=if h: ∀s∈l,s.length<=17 then(df cfS (XF l h)).map (·.1)else l
theorem ff{l:List (List UInt8)}(h: ∀s∈l,s.length<=17):(jN l).Perm l/\(jN l).Pairwise (fun x y=>aV y x=false):=by
 unfold jN;rw[dif_pos h]
 obtain⟨h1,h2⟩:=dO swoS (XF l h)
 refine⟨?_, ?_⟩
 · have:=h1.map (·.1)
   rwa [BD]at this
 · rw[List.pairwise_map]
   exact h2.imp fun{x y} hh=>by unfold cfS at hh;have:= @vp y.1 x.1;rw[<-this];exact decide_eq_false hh
theorem IW{l:List (List UInt8)}(h: ∀s∈l,s.length<=17):(df cfS (XF l h)).map sN.enc=(jN l).map A.str:=by unfold jN;rw[dif_pos h,List.map_map];rfl
theorem KP: ∀{l:List (List UInt8)},l.Pairwise (fun x y=>aV y x=false)->(aY l).Pairwise (fun x y=>aV x y=true)
 | [],_=>by simp[aY]
 | [x],_=>by simp[aY]
 |x::y::l,h=>by
  rw[List.pairwise_cons]at h;have ih:=KP h.2;simp only[aY]
  split
  · exact ih
  · rename_i cg
    have N6:aV x y=true:=by
     rcases np x y with h1|h1|h1
     · exact h1
     · exact absurd h1 cg
     · have:=h.1 y (by simp);rw[h1]at this;cases this
    rw[List.pairwise_cons]
    refine⟨fun z hz=> ?_,ih⟩
    rw[l0]at hz;rcases List.mem_cons.1 hz with rfl|hz
    · exact N6
    · exact vu N6 ((List.pairwise_cons.1 h.2).1 z hz)
def TCs:an:={vr with fix:=fun n=>n==0,nf:=1}
theorem TCs_ok:ag Tryz.prog TCs:=⟨fK.f,fK.hp⟩
@[go_sem] theorem TCs_ords{n:Nat}:TCs.c6 n=[]:=rfl
theorem jX:ah Tryz.prog TCs Tryz.f175.ntmps (Tryz.f175.body.getD .skip)=true:=by kernel_rfl
theorem GK(l:List (List UInt8))(hl:l.length<=4611686018427387903):dR Tryz.prog 175 [.row 0 0 1 l.length false] [.row 1 (l.map A.str)]
 (.row 0 0 1 (aY l).length false) [.row 1 ((aY l++List.replicate (l.length-(aY l).length) ([]:List UInt8)).map A.str)] []:=by
 refine cj TCs_ok mixed Tryz.func175 rfl (Nat.le_of_ble_eq_true rfl) (fun n h _=>by simp at h;subst h;rfl) (by show _<=1;simp) (by show 1<=_;simp) jX ?_;unfold Tryz.f175;by_cases h2:(l.length:Int)<2
 · have hc:aY l=l:=by
    match l,h2 with
    | [],_=>rfl
    | [x],_=>rfl
    |_::_::_,h=>simp at h;omega
   rw[hc]
   simp-implicitDefEqProofs (disch:=(first|omega|decide)) only[go_sem,↓reduceIte,seval,h2,List.length_map]
   simp
 · simp-implicitDefEqProofs (disch:=(first|omega|decide)) only[go_sem,↓reduceIte,seval,h2,List.length_map]
   refine ar [0] (ι:={k:Nat//1<=k/\k<=l.length/\aY (l.take k)=l.take k}) (fun p=>[(3,.int .i64 p.1)]) (fun _=>[]) (fun p=>l.length-p.1) ⟨1,by omega,by omega,by match l with| []=>rfl| [x]=>rfl|x::y::l=>rfl⟩ (by show 1<=_;simp) ?_ ?_
   · simp-implicitDefEqProofs (disch:=(first|omega|decide)) only[go_sem,↓reduceIte,seval]
   · rintro⟨k,lC,hk,hd⟩
     simp only;by_cases aw:k<l.length
     · have ae:(k:Int)<(l.length:Int):=by omega
       have du:=o0 lC aw;have e1:(l.map A.str)[k]? =some (.str l[k]):=by rw[List.getElem?_map,List.getElem?_eq_getElem aw];rfl
       have e0:(l.map A.str)[k-1]? =some (.str l[k-1]):=by rw[List.getElem?_map,List.getElem?_eq_getElem (by omega)];rfl
       have t0:((k:Int)-1).toNat=k-1:=by omega
       have b0:(0:Int)<=(k:Int)-1:=by omega
       have b1:(k:Int)-1<(l.length:Int):=by omega
       generalize hx:l[k]=x at e1 du;generalize hy:l[k-1]=y at e0 du;have next:y≠x->aY (l.take (k+1))=l.take (k+1):=fun cg=>by rw[du,if_neg cg,hd,<-hx];exact List.take_append_getElem aw
       cases h3:x==y with
       |true=>
        obtain rfl:x=y:=by simpa using h3
        have b2:(k:Int)<=(l.length:Int):=by omega
        rw[if_pos rfl]at du;have hlen:(aY (l.take (k+1))).length=k:=by rw[du,hd,List.length_take];omega
        have tk:((l.length:Int)-(k:Int)).toNat=l.length-k:=by omega
        simp-implicitDefEqProofs (disch:=(first|omega|decide)) only[go_sem,↓reduceIte,seval,ae,e1,e0,t0,b0,b1,b2,tk,h3,wrap_i64,List.length_map,Int.le_refl]
        clear next e1 e0 hx hy h3 t0 b0
        refine ar [0,4] (ι:={p:Nat×Nat×List (List UInt8)//1<=p.1/\k+p.1<=l.length/\p.2.1=(aY (l.take (k+p.1))).length/\p.2.2.length=l.length/\p.2.2.take p.2.1=aY (l.take (k+p.1))/\p.2.2.drop (k+p.1-1)=l.drop (k+p.1-1)/\p.2.1<=k+p.1-1}) (fun p=>[(3,.int .i64 p.1.2.1),(5,.int .i64 p.1.1)]) (fun p=>[(0,.row 1 (p.1.2.2.map A.str))]) (fun p=>l.length-p.1.1) ⟨(1,k,l),by omega,aw,hlen.symm,rfl,by rw[du,hd],rfl,by show k<=k+1-1;omega⟩ (by show 1<=_;simp) ?_ ?_
        · simp-implicitDefEqProofs (disch:=(first|omega|decide)) only[go_sem,↓reduceIte,seval]
        · rintro⟨⟨j,m,e⟩,hj1,hj,hm,he,ME,hdr,hmj⟩
          simp only at hj1 hj hm he ME hdr hmj
          have get: ∀i,k+j-1<=i->e[i]? =l[i]? :=fun i hi=>by
            have:=congrArg (fun x:List (List UInt8)=>x[i-(k+j-1)]?) hdr;simp only[List.getElem?_drop]at this
            rwa [show k+j-1+(i-(k+j-1))=i by omega]at this
          by_cases hq:k+j<l.length
          · have MD:(j:Int)<((l.length-k:Nat):Int):=by omega
            have du:=o0 (l:=l) (k:=k+j) (by omega) hq;have e1:(e.map A.str)[k+j]? =some (.str l[k+j]):=by rw[List.getElem?_map,get _ (by omega),List.getElem?_eq_getElem hq];rfl
            have e0:(e.map A.str)[k+(j-1)]? =some (.str l[k+j-1]):=by rw[List.getElem?_map,get _ (by omega),show k+(j-1)=k+j-1 by omega,List.getElem?_eq_getElem (by omega)];rfl
            have t0:((j:Int)-1).toNat=j-1:=by omega
            have b0:(0:Int)<=(j:Int)-1:=by omega
            have b3:(j:Int)-1<((l.length-k:Nat):Int):=by omega
            generalize hx:l[k+j]=x at e1 du;generalize hy:l[k+j-1]=y at e0 du
            have ZU:e.drop (k+(j+1)-1)=l.drop (k+(j+1)-1):=by
             have:=congrArg (List.drop 1) hdr
             rwa [List.drop_drop,List.drop_drop,show k+j-1+1=k+(j+1)-1 by omega]at this
            have b4:(m:Int)<(l.length:Int):=by omega
            have b5:m<e.length:=by omega
            have next:y≠x->(m+1=(aY (l.take (k+(j+1)))).length/\(e.set m x).length=l.length/\(e.set m x).take (m+1)=aY (l.take (k+(j+1)))/\(e.set m x).drop (k+(j+1)-1)=l.drop (k+(j+1)-1)/\m+1<=k+(j+1)-1):=fun cg=>by
             rw[if_neg cg]at du;have D1:aY (l.take (k+(j+1)))=aY (l.take (k+j))++[x]:=du;refine⟨by rw[D1,List.length_append,<-hm];rfl,by rw[List.length_set,he], ?_, ?_,by omega⟩
             · rw[D1,<-ME,<-List.take_append_getElem (by rw[List.length_set];exact b5),List.take_set_of_le (Nat.le_refl _)]
               simp
             · rw[List.drop_set_of_lt (by omega)];exact ZU
            have fS:cC (e.map A.str) m (.str x)=(e.set m x).map A.str:=by rw[ga,List.map_set]
            have em:(e.map A.str)[m]? =some (.str e[m]):=by rw[List.getElem?_map,List.getElem?_eq_getElem b5];rfl
            cases h3:x==y with
            |true=>
             obtain rfl:x=y:=by simpa using h3
             rw[if_pos rfl]at du;simp-implicitDefEqProofs (disch:=(first|omega|decide)) only[go_sem,↓reduceIte,seval,MD,e1,e0,t0,b0,b3,h3,wrap_i64,List.length_map,Int.le_refl]
             exact⟨⟨(j+1,m,e),by show 1<=j+1;omega,by show k+(j+1)<=_;omega,by show m=(aY (l.take (k+j+1))).length;rw[du,hm],he,by show e.take m=aY (l.take (k+j+1));rw[du,ME],ZU,by show m<=k+(j+1)-1;omega⟩,⟨⟨rfl,by simp⟩,rfl⟩,by show l.length-(j+1)<l.length-j;omega⟩
            |false=>
             have cg:x≠y:=by simpa using h3
             simp-implicitDefEqProofs (disch:=(first|omega|decide)) only[go_sem,↓reduceIte,seval,MD,e1,e0,t0,b0,b3,b4,h3,em,fS,wrap_i64,List.length_map,Int.le_refl]
             exact⟨⟨(j+1,m+1,e.set m x),by show 1<=j+1;omega,by show k+(j+1)<=_;omega,next (Ne.symm cg)⟩,⟨⟨by simp,by simp⟩,rfl⟩,by show l.length-(j+1)<l.length-j;omega⟩
          · have MD: ¬(j:Int)<((l.length-k:Nat):Int):=by omega
            have b4:(m:Int)<=(l.length:Int):=by omega
            have tm:((l.length:Int)-(m:Int)).toNat=l.length-m:=by omega
            have pK:k+j=l.length:=by omega
            rw[pK,List.take_of_length_le (Nat.le_refl _)]at hm ME;have b6:m+(l.length-m)=l.length:=by omega
            have b7:l.length<=e.length:=by omega
            have b8:(e.map A.str).drop l.length=[]:=by rw[List.drop_of_length_le (by rw[List.length_map];omega)]
            have tm0:((m:Int)-0).toNat=m:=by omega
            simp-implicitDefEqProofs (disch:=(first|omega|decide)) only[go_sem,↓reduceIte,seval,MD,b4,tm,tm0,b6,b7,b8,List.length_map,Int.le_refl]
            refine⟨hm, ?_⟩
            rw[List.map_append,<-ME,List.map_take,List.map_replicate,ME,<-hm]
       |false=>
        have cg:x≠y:=by simpa using h3
        simp-implicitDefEqProofs (disch:=(first|omega|decide)) only[go_sem,↓reduceIte,seval,ae,e1,e0,t0,b0,b1,h3,wrap_i64,List.length_map]
        exact⟨⟨k+1,by omega,aw,next (Ne.symm cg)⟩,by simp,by show l.length-(k+1)<l.length-k;omega⟩
     · have ae: ¬(k:Int)<(l.length:Int):=by omega
       have hc:aY l=l:=by rw[List.take_of_length_le (by omega)]at hd;exact hd
       rw[hc]
       simp-implicitDefEqProofs (disch:=(first|omega|decide)) only[go_sem,↓reduceIte,seval,ae,List.length_map]
       simp
theorem iD:ah Tryz.prog vr Tryz.f226.ntmps (Tryz.f226.body.getD .skip)=true:=by kernel_rfl
theorem c_ins1(x:A):ay Tryz.prog 226 [.ab [x],.int .i64 0,.int .i64 1,.fn 141 []] (· = .cD []):=by
 refine aa fK mixed Tryz.func226 rfl (Nat.le_of_ble_eq_true rfl) iD ?_;unfold Tryz.f226;simp-implicitDefEqProofs (disch:=(first|omega|decide)) only[go_sem,↓reduceIte,seval,wrap_i64]
 refine ar [] (ι:=Unit) (fun _=>[(2,.int .i64 1),(8,.int .i64 1)]) (fun _=>[]) (fun _=>0) () (Nat.zero_le _) ?_ ?_
 · simp-implicitDefEqProofs (disch:=(first|omega|decide)) only[go_sem,↓reduceIte,seval]
 · intro _
   simp-implicitDefEqProofs (disch:=(first|omega|decide)) only[go_sem,↓reduceIte,seval,wrap_i64,B7]
   try rfl
def OR:an:=vr.add 226 (entry (fun(x:List UInt8)=>[.ab [.str x],.int .i64 0,.int .i64 1,.fn 141 []]) (fun x=>True) (fun x=> .cD []))
theorem KQ:ag Tryz.prog OR:=fK.bN Tryz.func226 (by kernel_rfl) (by kernel_rfl) fun x h=>c_ins1 (.str x)
@[go_sem] theorem T08s_s:OR.pl vr:=⟨fun _=>rfl,fun _=>rfl,rfl,fun _=>rfl,rfl,fun _=>rfl,rfl⟩
theorem hI(x:List UInt8)(h:True):OR.f 226 [.ab [.str x],.int .i64 0,.int .i64 1,.fn 141 []]=some (.cD []):=an.ao (Γ:=vr) (fun i j h=>by simpa[Prod.ext_iff,and_assoc]using h) x h
@[go_sem] theorem t_ins1{x:List UInt8}:OR.f 226 [.ab [.str x],.int .i64 0,.int .i64 1,.fn 141 []]=some (.cD []):=hI x trivial
theorem jY:ah Tryz.prog OR Tryz.f204.ntmps (Tryz.f204.body.getD .skip)=true:=by kernel_rfl
theorem c_pdq1(x:List UInt8)(n:Int):ay Tryz.prog 204 [.ab [.str x],.int .i64 0,.int .i64 1,.int .i64 n,.fn 141 []] (· = .cD []):=by
 refine aa KQ mixed Tryz.func204 rfl (Nat.le_of_ble_eq_true rfl) jY ?_;unfold Tryz.f204;simp-implicitDefEqProofs (disch:=(first|omega|decide)) only[go_sem,↓reduceIte,seval,wrap_i64]
 refine ar [0] (ι:=Unit) (fun _=>[(1,.int .i64 0),(2,.int .i64 1),(4,.fn 141 [])]) (fun _=>[]) (fun _=>0) () (Nat.zero_le _) ?_ ?_
 · simp-implicitDefEqProofs (disch:=(first|omega|decide)) only[go_sem,↓reduceIte,seval]
 · intro _
   simp-implicitDefEqProofs (disch:=(first|omega|decide)) only[go_sem,↓reduceIte,seval,wrap_i64,B7]
   try rfl
theorem ui:ah Tryz.prog OR Tryz.f225.ntmps (Tryz.f225.body.getD .skip)=true:=by kernel_rfl
theorem c_len64:ay Tryz.prog 225 [.int .u64 1] (· = .int .i64 1):=by
 refine aa KQ mixed Tryz.func225 rfl (Nat.le_of_ble_eq_true rfl) ui ?_;unfold Tryz.f225;have w8:IntKind.u8.wrap 1=1:=by decide
 have w64:IntKind.i64.wrap 1=1:=by decide
 simp-implicitDefEqProofs (disch:=(first|omega|decide)) only[go_sem,↓reduceIte,seval,w8,w64,iM]
 try decide
def RL:an:=OR.add 204 (entry (fun(v:List UInt8×Int)=>[.ab [.str v.1],.int .i64 0,.int .i64 1,.int .i64 v.2,.fn 141 []]) (fun v=>True) (fun v=> .cD []))
theorem T08t_ok:ag Tryz.prog RL:=KQ.bN Tryz.func204 (by kernel_rfl) (by kernel_rfl) fun v h=>c_pdq1 v.1 v.2
theorem jy(v:List UInt8×Int)(h:True):RL.f 204 [.ab [.str v.1],.int .i64 0,.int .i64 1,.int .i64 v.2,.fn 141 []]=some (.cD []):=an.ao (Γ:=OR) (fun i j h=>by simpa[Prod.ext_iff,and_assoc]using h) v h
@[go_sem] theorem t_pdq1{x:List UInt8}{n:Int}:RL.f 204 [.ab [.str x],.int .i64 0,.int .i64 1,.int .i64 n,.fn 141 []]=some (.cD []):=jy (x,n) trivial
def GL:an:=RL.add 225 (entry (fun(u:Unit)=>[.int .u64 1]) (fun u=>True) (fun u=> .int .i64 1))
theorem Un:ag Tryz.prog GL:=T08t_ok.bN Tryz.func225 (by kernel_rfl) (by kernel_rfl) fun u h=>c_len64
@[go_sem] theorem T08u_old{g:FuncId}{xs:List A}(h:g≠225):GL.f g xs=RL.f g xs:=an.ak h
@[go_sem] theorem T08u_s:GL.pl RL:=⟨fun _=>rfl,fun _=>rfl,rfl,fun _=>rfl,rfl,fun _=>rfl,rfl⟩
theorem qW(u:Unit)(h:True):GL.f 225 [.int .u64 1]=some (.int .i64 1):=an.ao (Γ:=RL) (fun i j h=>by first|(cases i;cases j;rfl;done)|simpa[Prod.ext_iff,and_assoc]using h|(simp at h;omega)|(simp at h;exact Prod.ext h.1 (Prod.ext h.2.1 (by omega)))) u h
@[go_sem] theorem t_len64:GL.f 225 [.int .u64 1]=some (.int .i64 1):=qW () trivial
theorem xQ:ah Tryz.prog GL Tryz.f203.ntmps (Tryz.f203.body.getD .skip)=true:=by kernel_rfl
theorem c_len:ay Tryz.prog 203 [.int .u64 1] (· = .int .i64 1):=by refine aa Un mixed Tryz.func203 rfl (Nat.le_of_ble_eq_true rfl) xQ ?_;unfold Tryz.f203;simp-implicitDefEqProofs (disch:=(first|omega|decide)) only[go_sem,↓reduceIte,seval]
def OS:an:=GL.add 203 (entry (fun(u:Unit)=>[.int .u64 1]) (fun u=>True) (fun u=> .int .i64 1))
theorem KR:ag Tryz.prog OS:=Un.bN Tryz.func203 (by kernel_rfl) (by kernel_rfl) fun u h=>c_len
@[go_sem] theorem T08v_old{g:FuncId}{xs:List A}(h:g≠203):OS.f g xs=GL.f g xs:=an.ak h
@[go_sem] theorem T08v_s:OS.pl GL:=⟨fun _=>rfl,fun _=>rfl,rfl,fun _=>rfl,rfl,fun _=>rfl,rfl⟩
theorem uj(u:Unit)(h:True):OS.f 203 [.int .u64 1]=some (.int .i64 1):=an.ao (Γ:=GL) (fun i j h=>by first|(cases i;cases j;rfl;done)|simpa[Prod.ext_iff,and_assoc]using h|(simp at h;omega)|(simp at h;exact Prod.ext h.1 (Prod.ext h.2.1 (by omega)))) u h
@[go_sem] theorem t_len:OS.f 203 [.int .u64 1]=some (.int .i64 1):=uj () trivial
theorem jO:ah Tryz.prog OS Tryz.f174.ntmps (Tryz.f174.body.getD .skip)=true:=by kernel_rfl
theorem c_sort1(x:List UInt8):ay Tryz.prog 174 [.ab [.str x],.fn 141 []] (· = .cD []):=by
 refine aa KR mixed Tryz.func174 rfl (Nat.le_of_ble_eq_true rfl) jO ?_;unfold Tryz.f174;have w64:IntKind.u64.wrap 1=1:=by decide
 simp-implicitDefEqProofs (disch:=(first|omega|decide)) only[go_sem,↓reduceIte,seval,w64,B7]
 try rfl
theorem c_comp1(x:List UInt8):ay Tryz.prog 175 [.ab [.str x]] (· = .ab [.str x]):=by refine aa KR mixed Tryz.func175 rfl (Nat.le_of_ble_eq_true rfl) (by kernel_rfl) ?_;unfold Tryz.f175;simp-implicitDefEqProofs (disch:=(first|omega|decide)) only[go_sem,↓reduceIte,seval]
theorem D2{E:Env}{es:List A}{ys:List A}{vs:List Value}(h:aQ E (.clip es::ys) vs):aQ E (.ab es::ys) vs:=by simp only[aQ]at h⊢;obtain⟨v,lB,h1,h2,h3⟩:=h;exact⟨v,lB,h1,Kj h2,h3⟩
abbrev StI:=List sN ⊕ List UInt8
def uU:StI->List A
 | .inl l=>[.row 0 0 1 l.length false,.fn 141 []]
 | .inr x=>[.clip [.str x],.fn 141 []]
def tq:StI->List Go.bo.Obj
 | .inl l=>[.row 1 (l.map sN.enc)]
 | .inr _=>[]
def stK:StI->Prop
 | .inl l=>l.length<4611686018427387904
 | .inr _=>True
def OT:StI->A×List Go.bo.Obj×List Nat
 | .inl l=>(.cD [],[.row 1 ((df cfS l).map sN.enc)],[])
 | .inr _=>(.cD [],[],[])
theorem ZV(x y:sN)(h:x.enc=y.enc):x=y:=Subtype.ext (by simpa[sN.enc]using h)
theorem ZW(i j:StI)(h:uU i=uU j)(h':tq i=tq j):i=j:=by
 cases i<;>cases j
 · simp only[tq,List.cons.injEq,Go.bo.Obj.row.injEq,true_and,and_true]at h'
   rw[map_inj ZV]at h';rw[h']
 · simp[tq]at h'
 · simp[tq]at h'
 · simp[uU]at h
   rw[h]
abbrev CpI:=List (List UInt8) ⊕ List UInt8
def zQ:CpI->List A
 | .inl l=>[.row 0 0 1 l.length false]
 | .inr x=>[.clip [.str x]]
def wU:CpI->List Go.bo.Obj
 | .inl l=>[.row 1 (l.map A.str)]
 | .inr _=>[]
def cpK:CpI->Prop
 | .inl l=>l.length<=4611686018427387903
 | .inr _=>True
def OU:CpI->A×List Go.bo.Obj×List Nat
 | .inl l=>(.row 0 0 1 (aY l).length false,[.row 1 ((aY l++List.replicate (l.length-(aY l).length) ([]:List UInt8)).map A.str)],[])
 | .inr x=>(.ab [.str x],[],[])
theorem ZX(i j:CpI)(h:zQ i=zQ j)(h':wU i=wU j):i=j:=by
 cases i<;>cases j
 · simp only[wU,List.cons.injEq,Go.bo.Obj.row.injEq,true_and,and_true]at h'
   rw[Nt]at h';rw[h']
 · simp[wU]at h'
 · simp[wU]at h'
 · simp[zQ]at h
   rw[h]
def E8a:an:=OS.fj 174 (bC uU tq stK OT)
def E8b:an:=E8a.fj 175 (bC zQ wU cpK OU)
def E8:an:={E8b with mH:=fun f=>f==174||f==175}
theorem stH(i:StI)(h:stK i):dR Tryz.prog 174 (uU i) (tq i) (OT i).1 (OT i).2.1 (OT i).2.2:=by
 cases i with
 |inl l=>simpa only[uU,tq,OT]using D0 l h
 |inr x=>simpa only[uU,tq,OT]using Dq (c_sort1 x) (fun E vs=>D2) rfl
theorem cpH(i:CpI)(h:cpK i):dR Tryz.prog 175 (zQ i) (wU i) (OU i).1 (OU i).2.1 (OU i).2.2:=by
 cases i with
 |inl l=>simpa only[zQ,wU,OU]using GK l h
 |inr x=>simpa only[zQ,wU,OU]using Dq (c_comp1 x) (fun E vs=>D2) rfl
theorem E8a_ok:ag Tryz.prog E8a:=KR.fj (bB Tryz.func174 (by kernel_rfl) (by kernel_rfl)) (cX stH)
theorem ZY:ag Tryz.prog E8b:=E8a_ok.fj (bB Tryz.func175 (by kernel_rfl) (by kernel_rfl)) (cX cpH)
theorem E8_ok:ag Tryz.prog E8:=⟨ZY.f,ZY.hp⟩
@[go_sem] theorem E8_eff{g:FuncId}:E8.mH g=(g==174||g==175):=rfl
@[go_sem] theorem E8_frz{g:FuncId}:E8.pZ g=OS.pZ g:=rfl
@[go_sem] theorem E8_fix{n:Nat}:E8.fix n=false:=rfl
@[go_sem] theorem E8_ords{n:Nat}:E8.c6 n=[]:=rfl
theorem E8_st(i:StI)(h:stK i):E8.hp 174 (uU i) (tq i)=some (OT i):=by
 have h1:E8b.hp 174 (uU i) (tq i)=E8a.hp 174 (uU i) (tq i):=an.sg (by decide)
 have h2:E8a.hp 174 (uU i) (tq i)=bC uU tq stK OT (uU i) (tq i):=an.eC;have h3:=cY (enc:=uU) (FO:=tq) (ok:=stK) (spec:=OT) (fun i j h h'=>ZW i j h h') i h;exact(show E8.hp 174 (uU i) (tq i)=E8b.hp 174 (uU i) (tq i)from rfl).trans (h1.trans (h2.trans h3))
theorem E8_cp(i:CpI)(h:cpK i):E8.hp 175 (zQ i) (wU i)=some (OU i):=by have h2:E8b.hp 175 (zQ i) (wU i)=bC zQ wU cpK OU (zQ i) (wU i):=an.eC;have h3:=cY (enc:=zQ) (FO:=wU) (ok:=cpK) (spec:=OU) (fun i j h h'=>ZX i j h h') i h;exact(show E8.hp 175 (zQ i) (wU i)=E8b.hp 175 (zQ i) (wU i)from rfl).trans (h2.trans h3)
def uk(es:List (List UInt8))(r:ax):List (List UInt8):=es++(if r.op then [r.lo]else [r.lo,r.hi])
def db(es:List (List UInt8))(l:List ax):List (List UInt8):=l.foldl uk es
theorem Ww(l:List ax)(es:List (List UInt8))(k:Nat)(h:k<l.length):db es (l.take (k+1))=uk (db es (l.take k)) l[k]:=by unfold db;rw[<-List.take_append_getElem h,List.foldl_append];rfl
theorem fY: ∀(l:List ax) (es:List (List UInt8)),es.length<=(db es l).length/\(db es l).length<=es.length+2*l.length
 | [],es=>by simp[db]
 |r::l,es=>by
  have h1:=fY l (uk es r)
  have h2:es.length+1<=(uk es r).length/\(uk es r).length<=es.length+2:=by unfold uk;rw[List.length_append];split<;>simp
  have e:db es (r::l)=db (uk es r) l:=rfl;rw[e];simp only[List.length_cons];omega
theorem iR: ∀(l:List ax) (es:List (List UInt8)) (x:List UInt8),x∈db es l ↔ x∈es\/ ∃r∈l,x=r.lo\/(r.op=false/\x=r.hi)
 | [],es,x=>by simp[db]
 |r::l,es,x=>by
  have e:db es (r::l)=db (uk es r) l:=rfl;rw[e,iR l]
  unfold uk;cases ho:r.op<;>simp[ho,or_assoc]
theorem qX(a b:List ax)(es:List (List UInt8)):db es (a++b)=db (db es a) b:=by unfold db;rw[List.foldl_append]
def jd(a b:List ax):List (List UInt8):=aY (jN (db [[]] (a++b)))
def BF(E:List (List UInt8)):A:=if E.length=1 then .clip [.str []]else .row 1 0 1 E.length false
def OV(E:List (List UInt8)):List Go.bo.Obj:=if E.length=1 then []else [.box [.any,.any,.any],.row 1 (E.map .str)]
theorem um{E:List (List UInt8)}(h:E.length=1):BF E= .clip [.str []]/\OV E=[]:=by simp[BF,OV,h]
theorem lQ{E:List (List UInt8)}(h:E.length≠1):BF E= .row 1 0 1 E.length false/\OV E=[.box [.any,.any,.any],.row 1 (E.map .str)]:=by simp[BF,OV,h]
theorem OW{E:List (List UInt8)}:(BF E).under (OV E).length=true:=by
 by_cases h:E.length=1
 · rw[(um h).1];simp[A.under]
 · rw[(lQ h).1,(lQ h).2];simp[A.under]
def pP(a b:List ax)(o:Nat):List (List UInt8):=db [[]] (if o=0 then []else if o=1 then a else a++b)
theorem accE0(a b:List ax):pP a b 0=[[]]:=rfl
theorem acc_get(a b:List ax)(o:Nat)(h:o<2): ∃l,(List.drop o [A.ab (a.map ax.enc),A.ab (b.map ax.enc)]).head? =some (.ab (l.map ax.enc))/\db (pP a b o) l=pP a b (o+1)/\(l=a\/l=b):=by
 rcases(by omega:o=0\/o=1)with rfl|rfl
 · exact⟨a,rfl,rfl,.inl rfl⟩
 · exact⟨b,rfl,(qX a b [[]]).symm,.inr rfl⟩
theorem BG{m:List ax}(h:(db [[]] m).length=1):db [[]] m=[[]]:=by
 cases m with
 |nil=>rfl
 |cons r l=>
  have h1:=(fY l (uk [[]] r)).1;have h2:2<=(uk [[]] r).length:=by unfold uk;split<;>simp
  have e:db [[]] (r::l)=db (uk [[]] r) l:=rfl;rw[e]at h;omega
theorem acc_raw(a b:List ax)(o:Nat): ∃m,pP a b o=db [[]] m:=⟨_,rfl⟩
theorem Az:ah Tryz.prog E8 Tryz.f245.ntmps (Tryz.f245.body.getD .skip)=true:=by kernel_rfl
theorem D3(a b:List ax)(ha:a.length<=1000000)(hb:b.length<=1000000)(ra: ∀r∈a,aA r=true)(rb: ∀r∈b,aA r=true):ay Tryz.prog 245 [.ab (a.map ax.enc),.ab (b.map ax.enc)] (· = .ab ((jd a b).map .str)):=by
 refine aa E8_ok mixed Tryz.func245 rfl (Nat.le_of_ble_eq_true rfl) Az ?_;unfold Tryz.f245;simp-implicitDefEqProofs (disch:=(first|omega|decide)) only[go_sem,↓reduceIte,seval,List.length_map]
 refine rS [4,13] (ι:={o:Nat//o<=2}) (fun p=>[(14,.int .i64 p.1),(5,BF (pP a b p.1))]) (fun p=>OV (pP a b p.1)) (fun p=>2-p.1) ⟨0,by omega⟩ (fun _=>Nat.zero_le _) ?_ ?_
 · simp only[accE0]
   simp-implicitDefEqProofs (disch:=(first|omega|decide)) only[go_sem,↓reduceIte,seval,BF,OV]
 · rintro⟨o,ho⟩
   simp only;by_cases Vz:o<2
   · have xc:(o:Int)<2:=by omega
     have ho0:(0:Int)<=(o:Int):=by omega
     obtain⟨l,hd,hacc,hl⟩:=acc_get a b o Vz;have Rn:l.length<=1000000:=by rcases hl with rfl|rfl<;>assumption
     have hlr: ∀r∈l,aA r=true:=by rcases hl with rfl|rfl<;>assumption
     obtain⟨m0,hm0⟩:=acc_raw a b o
     have hel:(pP a b o).length<=3000001:=by
      unfold pP;have h1:=(fY (if o=0 then []else if o=1 then a else a++b) [[]]).2
      have h2:(if o=0 then []else if o=1 then a else a++b).length<=1000000:=by
       rcases(by omega:o=0\/o=1)with rfl|rfl
       · simp
       · simpa using ha
      simp only[List.length_singleton]at h1;omega
     have iB: ∃j:{o:Nat//o<=2},(o:Int)+1=(j.1:Int)/\pP a b (o+1)=pP a b j.1/\2-j.1<2-o:=⟨⟨o+1,Vz⟩,by simp,rfl,by show 2-(o+1)<2-o;omega⟩
     rw[<-hacc]at iB;generalize pP a b o=E0 at*;have hE5:(BF E0).under (OV E0).length=true:=OW
     have hE5b:s9 (OV E0).length (OV E0) (OV E0):=by
      by_cases hE0:E0.length=1
      · rw[(um hE0).2];simp[s9]
      · rw[(lQ hE0).2];simp[s9,Tw,Mx]
     simp-implicitDefEqProofs (disch:=(first|omega|decide)) only[go_sem,↓reduceIte,seval,xc,ho0,hd,Nat.mul_one,List.length_map]
     refine rS [4,13,14,17,18] (ι:={j:Nat//j<=l.length}) (fun p=>[(19,.int .i64 p.1),(5,BF (db E0 (l.take p.1)))]) (fun p=>OV (db E0 (l.take p.1))) (fun p=>l.length-p.1) ⟨0,by omega⟩ (fun _=>Nat.zero_le _) ?_ ?_
     · have e:db E0 (l.take 0)=E0:=rfl
       simp only[e]
       simp-implicitDefEqProofs (disch:=(first|omega|decide)) only[go_sem,↓reduceIte,seval,hE5,hE5b]
     · rintro⟨j,hj⟩
       simp only;obtain⟨m1,hm1⟩: ∃m,db E0 (l.take j)=db [[]] m:=⟨m0++l.take j,by rw[hm0,qX]⟩
       have hlenE:=(fY (l.take j) E0).2;rw[List.length_take,Nat.min_eq_left hj]at hlenE;have hgeE:=(fY m1 [[]]).1;rw[<-hm1,List.length_singleton]at hgeE;by_cases aw:j<l.length
       · have ae:(j:Int)<(l.length:Int):=by omega
         have e1:=dJ aw;have VE:=hlr _ (List.getElem_mem aw)
         have b9:=Ww l E0 j aw;have next: ∀E',db E0 (l.take (j+1))=E'->E'.length≠1-> ∃i:{j:Nat//j<=l.length},(j:Int)+1=(i.1:Int)/\(BF (db E0 (l.take i.1))= .row 1 0 1 E'.length false/\OV (db E0 (l.take i.1))=[.box [.any,.any,.any],.row 1 (E'.map .str)])/\l.length-i.1<l.length-j:=fun E' h1 h2=>⟨⟨j+1,aw⟩,by simp,by rw[h1];exact lQ h2,by show l.length-(j+1)<l.length-j;omega⟩
         generalize db E0 (l.take j)=E at*;generalize hx:l[j]=x at*;obtain⟨lo,hi,op⟩:=x;unfold uk at b9;by_cases hE:E.length=1
         · have hE1:E=[[]]:=by rw[hm1]at hE⊢;exact BG hE
           rw[(um hE).1,(um hE).2]
           subst hE1;cases op with
           |true=>
            obtain⟨i,n1,⟨n2,n3⟩,n4⟩:=next _ b9 (by simp)
            simp-implicitDefEqProofs (disch:=(first|omega|decide)) only[go_sem,↓reduceIte,seval,ae,e1,wrap_i64,List.length_map]
            refine⟨i, ?_,n4⟩
            rw[n2,n3]
            simp-implicitDefEqProofs (disch:=(first|omega|decide)) only[go_sem,↓reduceIte,seval,n1]
            try simp
           |false=>
            obtain⟨i,n1,⟨n2,n3⟩,n4⟩:=next _ b9 (by simp)
            simp-implicitDefEqProofs (disch:=(first|omega|decide)) only[go_sem,↓reduceIte,seval,ae,e1,wrap_i64,List.length_map]
            refine⟨i, ?_,n4⟩
            rw[n2,n3]
            simp-implicitDefEqProofs (disch:=(first|omega|decide)) only[go_sem,↓reduceIte,seval,n1]
            try simp
         · rw[(lQ hE).1,(lQ hE).2]
           have tl:(E.map A.str).take E.length=E.map A.str:=List.take_of_length_le (by simp)
           have tl2:(E.map A.str++[A.str lo]).take (E.length+1)=E.map A.str++[A.str lo]:=List.take_of_length_le (by simp)
           have ll2:(E.map A.str++[A.str lo]).length=E.length+1:=by simp
           cases op with
           |true=>
            obtain⟨i,n1,⟨n2,n3⟩,n4⟩:=next _ b9 (by rw[List.length_append];show E.length+1≠1;omega)
            simp-implicitDefEqProofs (disch:=(first|omega|decide)) only[go_sem,↓reduceIte,seval,ae,e1,tl,wrap_i64,List.length_map]
            refine⟨⟨Nat.le_refl _,by omega⟩,i, ?_,n4⟩
            rw[n2,n3]
            simp-implicitDefEqProofs (disch:=(first|omega|decide)) only[go_sem,↓reduceIte,seval,n1]
            try simp
           |false=>
            obtain⟨i,n1,⟨n2,n3⟩,n4⟩:=next _ b9 (by simp)
            simp-implicitDefEqProofs (disch:=(first|omega|decide)) only[go_sem,↓reduceIte,seval,ae,e1,tl,tl2,ll2,wrap_i64,List.length_map]
            refine⟨⟨Nat.le_refl _,by omega⟩,⟨Nat.le_refl _,by omega⟩,i, ?_,n4⟩
            rw[n2,n3]
            simp-implicitDefEqProofs (disch:=(first|omega|decide)) only[go_sem,↓reduceIte,seval,n1]
            try simp
       · have ae: ¬(j:Int)<(l.length:Int):=by omega
         rw[List.take_of_length_le (by omega)]at*;obtain⟨i,n1,n2,n3⟩:=iB;rw[n2]
         have hU:(BF (pP a b i.1)).under (OV (pP a b i.1)).length=true:=OW
         have hUb:s9 (OV (pP a b i.1)).length (OV (pP a b i.1)) (OV (pP a b i.1)):=by
          by_cases hE0:(pP a b i.1).length=1
          · rw[(um hE0).2];simp[s9]
          · rw[(lQ hE0).2];simp[s9,Tw,Mx]
         have w:IntKind.i64.wrap ((o:Int)+1)=(o:Int)+1:=wrap_i64 (by omega)
         simp-implicitDefEqProofs (disch:=(first|omega|decide)) only[go_sem,↓reduceIte,seval,ae,w,List.length_map]
         refine⟨i, ?_,n3⟩
         simp-implicitDefEqProofs (disch:=(first|omega|decide)) only[go_sem,↓reduceIte,seval,n1,hU,hUb]
   · have xc: ¬(o:Int)<2:=by omega
     have ho2':o=2:=by omega
     subst ho2';have hE2:pP a b 2=db [[]] (a++b):=rfl
     have ZZ: ∀s∈db [[]] (a++b),s.length<=17:=fun s hs=>by
      rcases(iR _ _ _).1 hs with h|⟨r,hr,h⟩
      · simp at h;subst h;simp
      · have VE:aA r=true:=by
          rcases List.mem_append.1 hr with hr|hr
          · exact ra r hr
          · exact rb r hr
        obtain⟨k1,k2,_,_⟩:=cw VE;rcases h with rfl|⟨_,rfl⟩
        · exact k1
        · exact k2
     have hel:=(fY (a++b) [[]]).2;rw[List.length_append,List.length_singleton]at hel;rw[hE2]
     unfold jd;have da:= @BG (a++b)
     generalize db [[]] (a++b)=E at*;by_cases hE:E.length=1
     · have hE1:=da hE
       rw[(um hE).1,(um hE).2]
       subst hE1;have s1:=E8_st (.inr []) trivial;have s2:=E8_cp (.inr []) trivial;simp only[uU,tq,OT]at s1;simp only[zQ,wU,OU]at s2;have hs:jN [[]]=[[]]:=by have:=(ff ZZ).1;exact(List.perm_replicate (n:=1) (a:=([]:List UInt8))).1 this
       rw[hs]
       simp-implicitDefEqProofs (disch:=(first|omega|decide)) only[go_sem,↓reduceIte,seval,xc,s1,s2,aY,List.contains_nil,List.contains_cons,List.length_map]
     · rw[(lQ hE).1,(lQ hE).2]
       have s1:=E8_st (.inl (XF E ZZ)) (by show(XF E ZZ).length<_;rw[BE];omega)
       simp only[uU,tq,OT,Um,BE,IW]at s1;have hp:=(ff ZZ).1.length_eq;have s2:=E8_cp (.inl (jN E)) (by show(jN E).length<=_;rw[hp];omega)
       simp only[zQ,wU,OU,hp]at s2;have jV:(aY (jN E)).length=((aY (jN E)).map A.str).length:=by simp
       simp-implicitDefEqProofs (disch:=(first|omega|decide)) only[go_sem,↓reduceIte,seval,xc,s1,s2,List.contains_nil,List.contains_cons,List.length_map]
       refine⟨by rw[List.length_append];omega, ?_⟩
       rw[List.map_append,List.take_append_of_le_length (by simp),List.take_of_length_le (by simp)]
set_option maxHeartbeats 4000000
def bw:List ax->List UInt8->Nat
 | [],_=>0
 |r::l,s=>if r.op||aV s r.hi then 0 else bw l s+1
theorem qY: ∀(l:List ax) (s:List UInt8),bw l s<=l.length
 | [],_=>Nat.le_refl _
 |r::l,s=>by have:=qY l s;simp only[bw,List.length_cons];split<;>omega
theorem qZ: ∀(l:List ax) (s:List UInt8) (i:Nat) (h:i<l.length),i<bw l s->l[i].op=false/\aV s l[i].hi=false
 |r::l,s,i,h,hi=>by
  simp only[bw]at hi;split at hi
  · omega
  · rename_i hc
    cases i with
    |zero=>simpa using hc
    |succ i=>exact qZ l s i (by simpa using h) (by omega)
theorem nT: ∀(l:List ax) (s:List UInt8) (h:bw l s<l.length),(l[bw l s].op||aV s l[bw l s].hi)=true
 |r::l,s,h=>by
  by_cases hc:(r.op||aV s r.hi)=true
  · have e:bw (r::l) s=0:=by simp only[bw];rw[if_pos hc]
    simp only[e];exact hc
  · have e:bw (r::l) s=bw l s+1:=by simp only[bw];rw[if_neg hc]
    simp only[e]at h⊢;exact nT l s (by simpa using h)
theorem OX{l:List ax}(h:aP l=true){s:List UInt8}: ∀(i j:Nat) (hi:i<l.length) (hj:j<l.length),i<=j->(l[i].op||aV s l[i].hi)=true->(l[j].op||aV s l[j].hi)=true:=by
 intro i j hi hj xo hc;obtain⟨h1,h2⟩:=eU.1 h;induction j with
 |zero=>have:i=0:=by omega
        subst this;exact hc
 |succ j ih=>
  rcases Nat.lt_or_eq_of_le xo with aw|heq
  · have wS:j<l.length:=by omega
    have ih:=ih wS (by omega)
    -- neighbours
    have key: ∀(l:List ax),(∀r∈l,aA r=true)->Iv.Can aV (l.map mG)-> ∀(j:Nat) (h:j+1<l.length),l[j].op=false/\aV l[j].hi l[j+1].lo=true:=by
     intro l;induction l with
     |nil=>intro _ _ j h;simp at h
     |cons r l ih2=>
      intro g1 g2 j hj;cases j with
      |zero=>
       cases l with
       |nil=>simp at hj
       |cons q l=>
        obtain⟨_,⟨x,k1,k2⟩,_⟩:=g2;simp only[mG]at k1;cases ho:r.op with
        |true=>rw[ho]at k1;simp at k1
        |false=>
         rw[ho]at k1;simp at k1;subst k1;exact⟨ho,k2⟩
      |succ j=>exact ih2 (fun q hq=>g1 q (by simp[hq])) (Iv.mh pN g2) j (by simpa using hj)
    obtain⟨k1,k2⟩:=key l h1 h2 j hj;rw[k1,Bool.false_or]at ih;have hr:=h1 _ (List.getElem_mem hj)
    cases ho:l[j+1].op with
    |true=>rfl
    |false=>
     rw[Bool.false_or]
     exact ck (ck ih k2) ((cw hr).2.2.2 ho)
  · subst heq;exact hc
theorem q_{l:List ax}(h:aP l=true){s:List UInt8}{i:Nat}(hi:i<l.length):(l[i].op||aV s l[i].hi)=decide (bw l s<=i):=by
 by_cases hc:bw l s<=i
 · rw[decide_eq_true hc]
   exact OX h _ _ (by omega) hi hc (nT l s (by omega))
 · rw[decide_eq_false hc]
   obtain⟨h1,h2⟩:=qZ l s i hi (by omega)
   rw[h1,h2];rfl
theorem vU{l:List ax}(h:aP l=true)(s:List UInt8):aj l s=(if h:bw l s<l.length then !aV s l[bw l s].lo else false):=by
 obtain⟨h1,h2⟩:=eU.1 h;split
 · rename_i aw
   have zi:=nT l s aw;have hr:=h1 _ (List.getElem_mem aw)
   cases hc:aV s l[bw l s].lo with
   |false=>
    rw[Bool.not_false,jt]
    refine⟨_,List.getElem_mem aw, ?_⟩
    rw[kz,hr,hc]
    unfold ND;rw[zi];rfl
   |true=>
    rw[Bool.not_true,<-Bool.not_eq_true,jt]
    rintro⟨r,Cf,hh⟩
    obtain⟨j,hj,rfl⟩:=List.mem_iff_getElem.1 Cf;rw[kz]at hh;simp only[Bool.and_eq_true,Bool.not_eq_true']at hh;obtain⟨g1,g2,g3⟩:=hh;have g3':(l[j].op||aV s l[j].hi)=true:=g3;rw[q_ h hj,decide_eq_true_iff]at g3';rcases Nat.lt_or_eq_of_le g3' with g|g
    · -- a later one begins above
      have key: ∀(l:List ax),(∀r∈l,aA r=true)->Iv.Can aV (l.map mG)-> ∀(i j:Nat) (hi:i<l.length) (hj:j<l.length),i<j->aV l[i].lo l[j].lo=true:=by
       intro l;induction l with
       |nil=>intro _ _ i j hi;simp at hi
       |cons r l ih=>
        intro a1 a2 i j hi hj xo;cases j with
        |zero=>omega
        |succ j=>
         have wS:j<l.length:=by simpa using hj
         have j_:Iv.mem aV (l.map mG) (l[j]'wS).lo=true:=by
          have:aj l (l[j]'wS).lo=true:=jt.2 ⟨l[j]'wS,List.getElem_mem _,lI (a1 _ (by simp))⟩
          rwa [vy,lJ (fun q hq=>a1 q (by simp[hq]))]at this
         cases i with
         |zero=>
          cases l with
          |nil=>simp at hj
          |cons q l=>
           have low:=Iv.vv pN (Iv.mh pN a2) j_;obtain⟨b1,⟨x,k1,k2⟩,_⟩:=a2;have b1':aV r.lo x=true:=by rw[k1]at b1;exact b1
           exact vu (ck b1' k2) low
         |succ i=>exact ih (fun q hq=>a1 q (by simp[hq])) (Iv.mh pN a2) i j (by simpa using hi) (by simpa using hj) (by omega)
      have:=key l h1 h2 _ j aw hj g;have:=ck hc this;rw[this]at g2;cases g2
    · have e:l[j]=l[bw l s]:=by congr 1;exact g.symm
      rw[e,hc]at g2;cases g2
 · rename_i VB
   rw[<-Bool.not_eq_true,jt]
   rintro⟨r,Cf,hh⟩
   obtain⟨j,hj,rfl⟩:=List.mem_iff_getElem.1 Cf;rw[kz]at hh;simp only[Bool.and_eq_true]at hh;have g3':(l[j].op||aV s l[j].hi)=true:=hh.2.2;rw[q_ h hj,decide_eq_true_iff]at g3';omega
theorem D4:ah Tryz.prog vr Tryz.f127.ntmps (Tryz.f127.body.getD .skip)=true:=by kernel_rfl
theorem GM(l:List ax)(s:List UInt8)(hl:l.length<=4611686018427387903)(g_:dB l)(hs:s.length<=9223372036854775807)(hr:aP l=true):ay Tryz.prog 127 [.ab (l.map ax.enc),.str s] (· = .int .i64 (bw l s)):=by
 refine aa fK mixed Tryz.func127 rfl (Nat.le_of_ble_eq_true rfl) D4 ?_;unfold Tryz.f127;simp-implicitDefEqProofs (disch:=(first|omega|decide)) only[go_sem,↓reduceIte,seval,List.length_map]
 have XG:=qY l s;refine ar [0,1,4] (ι:={p:Nat×Nat//p.1<=bw l s/\bw l s<=p.2/\p.2<=l.length}) (fun p=>[(5,.int .i64 p.1.1),(6,.int .i64 p.1.2)]) (fun _=>[]) (fun p=>p.1.2-p.1.1) ⟨(0,l.length),Nat.zero_le _,XG,Nat.le_refl _⟩ (Nat.zero_le _) ?_ ?_
 · simp-implicitDefEqProofs (disch:=(first|omega|decide)) only[go_sem,↓reduceIte,seval]
 · rintro⟨⟨a,b⟩,h1,h2,h3⟩
   simp only at h1 h2 h3⊢;by_cases NJ:a<b
   · have c1:(a:Int)<(b:Int):=by omega
     have hm:(a:Int)+((b:Int)-(a:Int)).tdiv 2=((a+(b-a)/2:Nat):Int):=by
      have:((b:Int)-(a:Int))=((b-a:Nat):Int):=by omega
      rw[this]
      have e:((b-a:Nat):Int).tdiv 2=(((b-a)/2:Nat):Int):=rfl;rw[e];omega
     have hw:IntKind.i64.wrap (((b:Int)-(a:Int)).tdiv 2)=((b:Int)-(a:Int)).tdiv 2:=by
      have:((b:Int)-(a:Int))=((b-a:Nat):Int):=by omega
      rw[this]
      have e:((b-a:Nat):Int).tdiv 2=(((b-a)/2:Nat):Int):=rfl;rw[e]
      exact wrap_i64 (by omega)
     have hmb:a+(b-a)/2<b:=by omega
     have hma:a<=a+(b-a)/2:=by omega
     generalize a+(b-a)/2=m at*;have aw:m<l.length:=by omega
     have ae:(m:Int)<(l.length:Int):=by omega
     have e1:=dJ aw;have mu:=jM g_ aw;have hsp:=q_ hr (s:=s) aw;have hw2:IntKind.i64.wrap ((m:Nat):Int)=(m:Int):=wrap_i64 (by omega)
     have z2: ¬(2:Int)=0:=by omega
     generalize hx:l[m]=x at*;obtain⟨lo,hi,op⟩:=x;simp only at mu hsp;have left:bw l s<=m-> ∃j:{p:Nat×Nat//p.1<=bw l s/\bw l s<=p.2/\p.2<=l.length},((a:Int)=(j.1.1:Int)/\(m:Int)=(j.1.2:Int))/\j.1.2-j.1.1<b-a:=fun h=>⟨⟨(a,m),h1,h,by omega⟩,⟨rfl,rfl⟩,by show m-a<b-a;omega⟩
     have rightw: ¬bw l s<=m-> ∃j:{p:Nat×Nat//p.1<=bw l s/\bw l s<=p.2/\p.2<=l.length},((m:Int)+1=(j.1.1:Int)/\(b:Int)=(j.1.2:Int))/\j.1.2-j.1.1<b-a:=fun h=>⟨⟨(m+1,b),by show m+1<=_;omega,h2,h3⟩,⟨by simp,rfl⟩,by show b-(m+1)<b-a;omega⟩
     cases op with
     |true=>
      have hle:bw l s<=m:=by simpa using hsp
      simp-implicitDefEqProofs (disch:=(first|omega|decide)) only[go_sem,↓reduceIte,seval,c1,hm,hw,hw2,ae,e1,mu,z2,wrap_i64,List.length_map]
      exact left hle
     |false=>
      cases h4:aV s hi with
      |true=>
       rw[h4]at hsp;have hle:bw l s<=m:=by simpa using hsp
       simp-implicitDefEqProofs (disch:=(first|omega|decide)) only[go_sem,↓reduceIte,seval,c1,hm,hw,hw2,ae,e1,mu,h4,z2,wrap_i64,List.length_map]
       exact left hle
      |false=>
       rw[h4]at hsp;have hle: ¬bw l s<=m:=by simpa using hsp
       simp-implicitDefEqProofs (disch:=(first|omega|decide)) only[go_sem,↓reduceIte,seval,c1,hm,hw,hw2,ae,e1,mu,h4,z2,wrap_i64,List.length_map]
       exact rightw hle
   · have e:a=bw l s:=by omega
     subst e;have c1: ¬((bw l s:Nat):Int)<(b:Int):=by omega
     simp-implicitDefEqProofs (disch:=(first|omega|decide)) only[go_sem,↓reduceIte,seval,c1,List.length_map]
end Go.Proofs.YtihgnfmoafjakaaGreat
