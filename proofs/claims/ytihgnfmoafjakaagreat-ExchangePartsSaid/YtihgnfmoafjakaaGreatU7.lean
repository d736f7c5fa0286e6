/- What the laws of this claim rest on: the abstract executor, its soundness, and what the functions compute on pure data. No condition. -/
import Derived.Test.YtihgnfmoafjakaaGreatU6
import Derived.Shelf.SlSortCmp.NoneTotal
import Derived.Ground.SlsfProg
import Derived.Test.YtihgnfmoafjakaaGreatProg
noncomputable section
set_option linter.unusedVariables false
set_option linter.unusedSimpArgs false
namespace Go.Proofs.YtihgnfmoafjakaaGreat
open Go.bo
set_option linter.unusedSimpArgs false
set_option linter.unusedVariables false
set_option maxRecDepth 20000
set_option maxHeartbeats 4000000
theorem strB(l:List (List UInt8)):((l.map A.str).isEmpty||cd (l.map A.str)==1)=true:=by cases l<;>rfl
theorem D5{l:List (List UInt8)}{n:List UInt8}{k:Nat}(hk:k<=l.length)(hd:i_ l n=l.take k++n::l.drop k):k+1<=((l.take k).map A.str++[A.str n]).length/\k+1+(l.length-k)<=(((l.take k).map A.str++[A.str n]).take (k+1)++(l.drop k).map A.str).length/\
 (((l.take k).map A.str++[A.str n]).take (k+1)++(l.drop k).map A.str).take (k+1+(l.length-k))=(i_ l n).map A.str:=by
 have e:((l.take k).map A.str++[A.str n]).length=k+1:=by simp;omega
 rw[List.take_of_length_le (Nat.le_of_eq e)]
 have e2:((l.take k).map A.str++[A.str n]++(l.drop k).map A.str).length=k+1+(l.length-k):=by rw[List.length_append,e,List.length_map,List.length_drop]
 rw[List.take_of_length_le (Nat.le_of_eq e2)]
 exact⟨by omega,by omega,by rw[hd];simp⟩
theorem KS:ah Tryz.prog vr Tryz.f162.ntmps (Tryz.f162.body.getD .skip)=true:=by kernel_rfl
theorem OY(l:List (List UInt8))(n:List UInt8)(hl:l.length<=1000000)(g_: ∀x∈l,x.length<=9223372036854775807)(hn:n.length<=9223372036854775807):ay Tryz.prog 162 [.ab (l.map .str),.str n] (· = .ab ((i_ l n).map .str)):=by
 refine aa fK mixed Tryz.func162 rfl (Nat.le_of_ble_eq_true rfl) KS ?_;unfold Tryz.f162;simp-implicitDefEqProofs (disch:=(first|omega|decide)) only[go_sem,↓reduceIte,seval,List.length_map]
 refine ar [0,1,4] (ι:={k:Nat//k<=l.length/\i_ l n=l.take k++i_ (l.drop k) n}) (fun p=>[(5,.int .i64 p.1)]) (fun _=>[]) (fun p=>l.length-p.1) ⟨0,by omega,rfl⟩ (Nat.zero_le _) ?_ ?_
 · simp-implicitDefEqProofs (disch:=(first|omega|decide)) only[go_sem,↓reduceIte,seval]
 · rintro⟨k,hk,hd⟩
   simp only;by_cases aw:k<l.length
   · have ae:(k:Int)<(l.length:Int):=by omega
     have e1:(l.map A.str)[k]? =some (.str l[k]):=by rw[List.getElem?_map,List.getElem?_eq_getElem aw];rfl
     have mu:=g_ _ (List.getElem_mem aw)
     have tk:(l.take k).length=k:=by rw[List.length_take];omega
     have t1:=(List.take_append_getElem aw).symm;rw[List.drop_eq_getElem_cons aw]at hd;generalize hx:l[k]=x at*;simp only[i_]at hd;cases h1:aV x n with
     |true=>
      rw[if_pos h1]at hd;simp-implicitDefEqProofs (disch:=(first|omega|decide)) only[go_sem,↓reduceIte,seval,ae,e1,mu,h1,wrap_i64,List.length_map]
      exact⟨⟨k+1,aw,by rw[hd,t1,List.append_assoc];rfl⟩,by simp,by show l.length-(k+1)<l.length-k;omega⟩
     |false=>
      rw[if_neg (by rw[h1];simp)]at hd;cases h2:x==n with
      |true=>
       simp-implicitDefEqProofs (disch:=(first|omega|decide)) only[go_sem,↓reduceIte,seval,ae,e1,mu,h1,h2,wrap_i64,List.length_map]
       have hxn:x=n:=by simpa using h2
       rw[if_pos hxn,<-hx,<-List.drop_eq_getElem_cons aw,List.take_append_drop]at hd;rw[hd]
      |false=>
       have hxn:x≠n:=by simpa using h2
       have l1:(l.take k).length=k:=tk;have l2:(l.drop k).length=l.length-k:=List.length_drop ..;simp-implicitDefEqProofs (disch:=(first|omega|decide)) only[go_sem,↓reduceIte,seval,ae,e1,mu,h1,h2,wrap_i64,<-List.map_take,<-List.map_drop,strB,List.length_map,List.take_length,l1,l2]
       obtain⟨c1,c2,c3⟩:=D5 hk (by rw[hd,if_neg hxn,<-hx,<-List.drop_eq_getElem_cons aw])
       exact⟨by omega,by omega,⟨by omega,by omega⟩,⟨by omega,by omega⟩,⟨c1,by omega⟩,c2,c3⟩
   · have ae: ¬(k:Int)<(l.length:Int):=by omega
     have l1:(l.take k).length=k:=by rw[List.length_take];omega
     have l2:(l.drop k).length=l.length-k:=List.length_drop ..;have l3:l.drop k=[]:=List.drop_of_length_le (by omega)
     obtain⟨c1,c2,c3⟩:=D5 hk (by rw[hd,l3];rfl)
     simp-implicitDefEqProofs (disch:=(first|omega|decide)) only[go_sem,↓reduceIte,seval,ae,wrap_i64,<-List.map_take,<-List.map_drop,strB,List.length_map,List.take_length,l1,l2]
     exact⟨by omega,by omega,⟨by omega,by omega⟩,⟨by omega,by omega⟩,⟨c1,by omega⟩,c2,c3⟩
def RM:an:=vr.add 162 (entry (fun(v:List (List UInt8)×List UInt8)=>[.ab (v.1.map .str),.str v.2]) (fun v=>v.1.length<=1000000/\(∀x∈v.1,x.length<=9223372036854775807)/\v.2.length<=9223372036854775807) (fun v=> .ab ((i_ v.1 v.2).map .str)))
theorem T08a_ok:ag Tryz.prog RM:=fK.bN Tryz.func162 (by kernel_rfl) (by kernel_rfl) fun v h=>OY v.1 v.2 h.1 h.2.1 h.2.2
@[go_sem] theorem T08a_old{g:FuncId}{xs:List A}(h:g≠162):RM.f g xs=vr.f g xs:=an.ak h
@[go_sem] theorem T08a_s:RM.pl vr:=⟨fun _=>rfl,fun _=>rfl,rfl,fun _=>rfl,rfl,fun _=>rfl,rfl⟩
theorem D6(v:List (List UInt8)×List UInt8)(h:v.1.length<=1000000/\(∀x∈v.1,x.length<=9223372036854775807)/\v.2.length<=9223372036854775807):RM.f 162 [.ab (v.1.map .str),.str v.2]=some (.ab ((i_ v.1 v.2).map .str)):=an.ao (Γ:=vr) (fun i j h=>by simpa[Prod.ext_iff,and_assoc]using h) v h
theorem m_{l:List (List UInt8)}{n:List UInt8}(h:l.length<=1000000)(h1: ∀x∈l,x.length<=9223372036854775807)(h2:n.length<=9223372036854775807):RM.f 162 [.ab (l.map .str),.str n]=some (.ab ((i_ l n).map .str)):=D6 (l,n) ⟨h,h1,h2⟩
theorem Z0: ∀(l:List ax) (es:List (List UInt8)),(∀x∈es,x.length<=9223372036854775807)-> ∀x∈l.foldl kH es,x.length<=9223372036854775807:=fun l es h x hx=>by
 rcases(lX l es x).1 hx with hx|⟨r,_,h1,h2⟩
 · exact h x hx
 · obtain⟨k1,k2,_,_⟩:=cw h1
   rcases h2 with rfl|⟨_,rfl⟩<;>omega
theorem RN(l:List ax)(es:List (List UInt8))(k:Nat)(h:k<l.length):(l.take (k+1)).foldl kH es=kH ((l.take k).foldl kH es) l[k]:=by rw[<-List.take_append_getElem h,List.foldl_append];rfl
theorem D7:ah Tryz.prog RM Tryz.f107.ntmps (Tryz.f107.body.getD .skip)=true:=by kernel_rfl
theorem GN(a b:List ax)(ha:a.length<=1000)(hb:b.length<=1000)(oka:dB a)(okb:dB b):ay Tryz.prog 107 [.ab (a.map ax.enc),.ab (b.map ax.enc)] (· = .ab ((ja a b).map .str)):=by
 refine aa T08a_ok mixed Tryz.func107 rfl (Nat.le_of_ble_eq_true rfl) D7 ?_;unfold Tryz.f107;simp-implicitDefEqProofs (disch:=(first|omega|decide)) only[go_sem,↓reduceIte,seval,List.length_map]
 refine FQ 5 [A.str []] rfl ?_;refine ar [0,1,4] (ι:={k:Nat//k<=(a++b).length}) (fun p=>[(6,.int .i64 p.1),(5,.ab ((((a++b).take p.1).foldl kH [[]]).map .str))]) (fun _=>[]) (fun p=>(a++b).length-p.1) ⟨0,by omega⟩ (Nat.zero_le _) ?_ ?_
 · simp-implicitDefEqProofs (disch:=(first|omega|decide)) only[go_sem,↓reduceIte,seval]
   first|done|rfl|exact⟨rfl,rfl⟩|simp[A.under]
 · rintro⟨k,hk⟩
   simp only;have hsum:(a++b).length=a.length+b.length:=List.length_append;have hw:IntKind.i64.wrap ((a.length:Int)+(b.length:Int))=(((a++b).length:Nat):Int):=by rw[wrap_i64 (by omega)];omega
   have hlen:=xx ((a++b).take k) [[]]
   have g_:=Z0 ((a++b).take k) [[]] (by simp)
   rw[List.length_take,Nat.min_eq_left hk,List.length_singleton]at hlen;by_cases aw:k<(a++b).length
   · have ae:(k:Int)<(((a++b).length:Nat):Int):=by omega
     have b9:=RN (a++b) [[]] k aw
     have hokx:(a++b)[k].ok:=by
      have:=List.getElem_mem aw;rcases List.mem_append.1 this with h|h
      · exact oka _ h
      · exact okb _ h
     have next: ∀z_,((a++b).take (k+1)).foldl kH [[]]=z_-> ∃j:{k:Nat//k<=(a++b).length},((k:Int)+1=(j.1:Int)/\z_.map A.str=(((a++b).take j.1).foldl kH [[]]).map A.str)/\(a++b).length-j.1<(a++b).length-k:=fun z_ h=>⟨⟨k+1,aw⟩,⟨by simp,by rw[h]⟩,by show(a++b).length-(k+1)<_;omega⟩
     generalize Ci:((a++b).take k).foldl kH [[]]=es at*;by_cases YH:k<a.length
     · have RO:(k:Int)<(a.length:Int):=by omega
       have e1:=dJ YH;have ex:(a++b)[k]=a[k]:=List.getElem_append_left YH;rw[ex]at b9 hokx;generalize hx:a[k]=x at*;obtain⟨lo,hi,op⟩:=x;have mu:lo.length<=9223372036854775807/\hi.length<=9223372036854775807:=hokx;have p1:=m_ (l:=es) (n:=lo) (by omega) g_ mu.1
       have p2:=m_ (l:=i_ es lo) (n:=hi) (by have:=vA es lo;omega) (fun x hx=>by
        rcases(qF es lo x).1 hx with rfl|hx
        · exact mu.1
        · exact g_ x hx) mu.2
       cases h1:aA ⟨lo,hi,op⟩with
       |false=>
        have hs:=next es (by rw[b9];unfold kH;rw[h1];rfl)
        simp-implicitDefEqProofs (disch:=(first|omega|decide)) only[go_sem,↓reduceIte,seval,hw,ae,RO,e1,mu,h1,wrap_i64,List.length_map]
        exact hs
       |true=>
        cases op with
        |true=>
          have hs:=next (i_ es lo) (by rw[b9];unfold kH;rw[h1];rfl)
          simp-implicitDefEqProofs (disch:=(first|omega|decide)) only[go_sem,↓reduceIte,seval,hw,ae,RO,e1,mu,h1,p1,wrap_i64,List.length_map]
          exact hs
        |false=>
          have hs:=next (i_ (i_ es lo) hi) (by rw[b9];unfold kH;rw[h1];rfl)
          simp-implicitDefEqProofs (disch:=(first|omega|decide)) only[go_sem,↓reduceIte,seval,hw,ae,RO,e1,mu,h1,p1,p2,wrap_i64,List.length_map]
          exact hs
     · have RO: ¬(k:Int)<(a.length:Int):=by omega
       have hkb:k-a.length<b.length:=by omega
       have e1:=dJ hkb;have ex:(a++b)[k]=b[k-a.length]:=List.getElem_append_right (by omega)
       have t0:((k:Int)-(a.length:Int)).toNat=k-a.length:=by omega
       have t1:(0:Int)<=(k:Int)-(a.length:Int):=by omega
       rw[ex]at b9 hokx;generalize hx:b[k-a.length]=x at*;obtain⟨lo,hi,op⟩:=x;have mu:lo.length<=9223372036854775807/\hi.length<=9223372036854775807:=hokx;have p1:=m_ (l:=es) (n:=lo) (by omega) g_ mu.1
       have p2:=m_ (l:=i_ es lo) (n:=hi) (by have:=vA es lo;omega) (fun x hx=>by
        rcases(qF es lo x).1 hx with rfl|hx
        · exact mu.1
        · exact g_ x hx) mu.2
       cases h1:aA ⟨lo,hi,op⟩with
       |false=>
        have hs:=next es (by rw[b9];unfold kH;rw[h1];rfl)
        simp-implicitDefEqProofs (disch:=(first|omega|decide)) only[go_sem,↓reduceIte,seval,hw,ae,RO,e1,t0,t1,mu,h1,wrap_i64,List.length_map]
        exact hs
       |true=>
        cases op with
        |true=>
          have hs:=next (i_ es lo) (by rw[b9];unfold kH;rw[h1];rfl)
          simp-implicitDefEqProofs (disch:=(first|omega|decide)) only[go_sem,↓reduceIte,seval,hw,ae,RO,e1,t0,t1,mu,h1,p1,wrap_i64,List.length_map]
          exact hs
        |false=>
          have hs:=next (i_ (i_ es lo) hi) (by rw[b9];unfold kH;rw[h1];rfl)
          simp-implicitDefEqProofs (disch:=(first|omega|decide)) only[go_sem,↓reduceIte,seval,hw,ae,RO,e1,t0,t1,mu,h1,p1,p2,wrap_i64,List.length_map]
          exact hs
   · have ae: ¬(k:Int)<(((a++b).length:Nat):Int):=by omega
     have iB:((a++b).take k).foldl kH [[]]=ja a b:=by rw[List.take_of_length_le (by omega)];rfl
     simp-implicitDefEqProofs (disch:=(first|omega|decide)) only[go_sem,↓reduceIte,seval,hw,ae,iB,List.length_map]
end Go.Proofs.YtihgnfmoafjakaaGreat
namespace Go.Proofs.YtihgnfmoafjakaaGreat
open Go.bo
set_option linter.unusedSimpArgs false
set_option linter.unusedVariables false
set_option maxRecDepth 20000
set_option maxHeartbeats 4000000
def T08b:an:=RM.add 36 (entry (fun(v:List ax×List UInt8)=>[.ab (v.1.map ax.enc),.str v.2]) (fun v=>v.1.length<=4611686018427387904/\dB v.1/\v.2.length<=9223372036854775807) (fun v=> .bool (aj v.1 v.2)))
def T08c:an:=T08b
def T08d:an:=T08c.add 107 (entry (fun(v:List ax×List ax)=>[.ab (v.1.map ax.enc),.ab (v.2.map ax.enc)]) (fun v=>v.1.length<=1000/\v.2.length<=1000/\dB v.1/\dB v.2) (fun v=> .ab ((ja v.1 v.2).map .str)))
def jZ(acc:List ax):List A:=acc.reverse.map ax.enc
theorem gi(q:ax)(qs:List ax):jZ (q::qs)=jZ qs++[.agg [.str q.lo,.str q.hi,.bool q.op]]:=by simp[jZ,ax.enc]
theorem mv(l:List ax):(jZ l).length=l.length:=by simp[jZ]
theorem Z1:jZ []=[]:=rfl
theorem str_get{l:List (List UInt8)}{k:Nat}(h:k<l.length):(l.map A.str)[k]? =some (.str l[k]):=by rw[List.getElem?_map,List.getElem?_eq_getElem h];rfl
section
variable(q:ax)(qs:List ax)
theorem iE(x:A):(jZ qs++[x])[qs.length]? =some x:=by
 have:=ij (x:=x) (l:=jZ qs)
 rwa [mv]at this
theorem jP(x v:A):cC (jZ qs++[x]) qs.length v=jZ qs++[v]:=by
 have:=ik (x:=x) (v:=v) (l:=jZ qs)
 rwa [mv]at this
theorem IX(x:A):(jZ qs++[x]).length=qs.length+1:=by rw[List.length_append,mv];rfl
theorem Wx(x:A):(jZ qs++[x]).take (qs.length+1)=jZ qs++[x]:=List.take_of_length_le (Nat.le_of_eq (IX qs x))
end
end Go.Proofs.YtihgnfmoafjakaaGreat
namespace Go.Proofs
open Go.Shelf
def YtihgnfmoafjakaaGreat.OZ:Go.Shelf.Ren:=⟨fun|6=>171|15=>203|14=>202|28=>224|29=>225|20=>216|21=>217|22=>218|23=>219|24=>220|25=>221|26=>222|27=>223|46=>247|47=>248|48=>249|49=>250|50=>251|57=>260|n=>n,fun|22=>22|24=>85|25=>175|3=>3|39=>199|0=>0|53=>46|55=>220|4=>4|46=>212|45=>211|50=>216|5=>5|9=>9|66=>234|70=>238|76=>246|77=>247|n=>n,fun|n=>n⟩
theorem YtihgnfmoafjakaaGreat.sortRng:Go.Proofs.SlLaysF0.n6 Tryz.prog YtihgnfmoafjakaaGreat.OZ:={
 mixed:=by kernel_rfl
 f6:=⟨Tryz.f171.name,by decide,Tryz.func171.trans (congrArg some (by kernel_rfl))⟩
 f14:=⟨Tryz.f202.name,by decide,Tryz.func202.trans (congrArg some (by kernel_rfl))⟩
 f15:=Tryz.func203.trans (congrArg some (by kernel_rfl))
 f20:=⟨Tryz.f216.name,by decide,Tryz.func216.trans (congrArg some (by kernel_rfl))⟩
 f21:=⟨Tryz.f217.name,by decide,Tryz.func217.trans (congrArg some (by kernel_rfl))⟩
 f22:=⟨Tryz.f218.name,by decide,Tryz.func218.trans (congrArg some (by kernel_rfl))⟩
 f23:=⟨Tryz.f219.name,by decide,Tryz.func219.trans (congrArg some (by kernel_rfl))⟩
 f24:=⟨Tryz.f220.name,by decide,Tryz.func220.trans (congrArg some (by kernel_rfl))⟩
 f25:=⟨Tryz.f221.name,by decide,Tryz.func221.trans (congrArg some (by kernel_rfl))⟩
 f26:=⟨Tryz.f222.name,by decide,Tryz.func222.trans (congrArg some (by kernel_rfl))⟩
 f27:=⟨Tryz.f223.name,by decide,Tryz.func223.trans (congrArg some (by kernel_rfl))⟩
 f28:=Tryz.func224.trans (congrArg some (by kernel_rfl))
 f29:=Tryz.func225.trans (congrArg some (by kernel_rfl))
 f46:=⟨Tryz.f247.name,by decide,Tryz.func247.trans (congrArg some (by kernel_rfl))⟩
 f47:=Tryz.func248.trans (congrArg some (by kernel_rfl))
 f48:=Tryz.func249.trans (congrArg some (by kernel_rfl))
 f49:=⟨Tryz.f250.name,by decide,Tryz.func250.trans (congrArg some (by kernel_rfl))⟩
 f50:=⟨Tryz.f251.name,by decide,Tryz.func251.trans (congrArg some (by kernel_rfl))⟩
 f57:=⟨Tryz.f260.name,by decide,Tryz.func260.trans (congrArg some (by kernel_rfl))⟩
 t0:=Tryz.underlying0
 a0:=Tryz.isAgg0
 z0:=Tryz.sizeOf0
 v0:=Tryz.zeroValue0
 t3:=Tryz.underlying3
 a3:=Tryz.isAgg3
 z3:=Tryz.sizeOf3
 v3:=Tryz.zeroValue3
 t4:=Tryz.underlying4
 a4:=Tryz.isAgg4
 z4:=Tryz.sizeOf4
 v4:=Tryz.zeroValue4
 t5:=Tryz.underlying5
 a5:=Tryz.isAgg5
 z5:=Tryz.sizeOf5
 v5:=Tryz.zeroValue5
 t9:=Tryz.underlying9
 a9:=Tryz.isAgg9
 z9:=Tryz.sizeOf9
 v9:=Tryz.zeroValue9
 t22:=Tryz.underlying22
 a22:=Tryz.isAgg22
 z22:=Tryz.sizeOf22
 v22:=Tryz.zeroValue22
 t25:=Tryz.underlying175
 a25:=Tryz.isAgg175
 z25:=Tryz.sizeOf175
 v25:=Tryz.zeroValue175
 t39:=Tryz.underlying199
 a39:=Tryz.isAgg199
 z39:=Tryz.sizeOf199
 v39:=Tryz.zeroValue199
 t45:=Tryz.underlying211
 a45:=Tryz.isAgg211
 z45:=Tryz.sizeOf211
 v45:=Tryz.zeroValue211
 t46:=Tryz.underlying212
 a46:=Tryz.isAgg212
 z46:=Tryz.sizeOf212
 v46:=Tryz.zeroValue212
 t50:=Tryz.underlying216
 a50:=Tryz.isAgg216
 z50:=Tryz.sizeOf216
 v50:=Tryz.zeroValue216
 t53:=Tryz.underlying46
 a53:=Tryz.isAgg46
 z53:=Tryz.sizeOf46
 v53:=Tryz.zeroValue46
 t55:=Tryz.underlying220
 a55:=Tryz.isAgg220
 z55:=Tryz.sizeOf220
 v55:=Tryz.zeroValue220
 t66:=Tryz.underlying234
 a66:=Tryz.isAgg234
 z66:=Tryz.sizeOf234
 v66:=Tryz.zeroValue234
 t70:=Tryz.underlying238
 a70:=Tryz.isAgg238
 z70:=Tryz.sizeOf238
 v70:=Tryz.zeroValue238
 t76:=Tryz.underlying246
 a76:=Tryz.isAgg246
 z76:=Tryz.sizeOf246
 v76:=Tryz.zeroValue246
 t77:=Tryz.underlying247
 a77:=Tryz.isAgg247
 z77:=Tryz.sizeOf247
 v77:=Tryz.zeroValue247}
end Go.Proofs
namespace Go.Proofs.YtihgnfmoafjakaaGreat
open Go.bo
set_option linter.unusedSimpArgs false
set_option linter.unusedVariables false
set_option maxRecDepth 20000
set_option maxHeartbeats 8000000
theorem D8:ah Tryz.prog vr Tryz.f172.ntmps (Tryz.f172.body.getD .skip)=true:=by kernel_rfl
theorem c_rOf1(a b:ax)(ha:a.ok)(hb:b.ok):ay Tryz.prog 172 [.agg [.str a.lo,.str a.hi,.bool a.op],.agg [.str b.lo,.str b.hi,.bool b.op]] (· = .int .i64 (cA a.lo b.lo)):=by refine aa fK mixed Tryz.func172 rfl (Nat.le_of_ble_eq_true rfl) D8 ?_;unfold Tryz.f172;obtain⟨a1,a2⟩:=ha;obtain⟨b1,b2⟩:=hb;simp-implicitDefEqProofs (disch:=(first|omega|decide)) only[go_sem,↓reduceIte,seval,a1,b1]
abbrev vV:={r:ax//aA r=true}
instance:Inhabited vV:=⟨⟨⟨[],[],true⟩,by decide⟩⟩
def cfR(a b:vV):Int:=cA a.1.lo b.1.lo
def vV.cells(r:vV):List A:=[.str r.1.lo,.str r.1.hi,.bool r.1.op]
theorem O0{a b:List UInt8}:cA a b<0 ↔ aV a b=true:=by have:= @vp a b;rw[<-this,decide_eq_true_iff]
theorem swoR:Go.Sort.SWO (Go.Proofs.ltOf cfR):=by
 have hl: ∀a b,Go.Proofs.ltOf cfR a b=aV a.1.lo b.1.lo:=fun a b=>by unfold Go.Proofs.ltOf cfR;exact vp
 refine⟨fun x=> ?_,fun x y z h1 h2=> ?_,fun x y z h1 h2=> ?_⟩
 · rw[hl];exact lt_irrefl _
 · rw[hl]at*;exact ck h1 h2
 · rw[hl]at*;exact lH h2 h1
theorem re{r:ax}(h:aA r=true):r.ok:=by obtain⟨k1,k2,_,_⟩:=cw h;exact⟨by omega,by omega⟩
theorem D9(l:List vV)(hl:l.length<4611686018427387904):dR Tryz.prog 171 [.row 0 0 3 l.length false,.fn 172 []] [.row 3 (l.map fun x=> .agg x.cells)]
 (.cD []) [.row 3 ((df cfR l).map fun x=> .agg x.cells)] []:=
 qR Go.Proofs.YtihgnfmoafjakaaGreat.sortRng (by omega) Tryz.isAgg85 Tryz.sizeOf85 vV.cells (fun _=>rfl) (fun x a ha=>by simp only[vV.cells,List.mem_cons,List.not_mem_nil,or_false]at ha;rcases ha with rfl|rfl|rfl<;>rfl) cfR swoR (bB Tryz.func172 (by kernel_rfl) (by kernel_rfl)) (fun x y=>c_rOf1 x.1 y.1 (re x.2) (re y.2)) l hl false
def j6(l:List ax):List vV:=(l.filter aA).attach.map fun x=>⟨x.1,(List.mem_filter.1 x.2).2⟩
theorem xR(l:List ax):(j6 l).map (·.1)=l.filter aA:=by
 unfold j6;rw[List.map_map]
 exact List.attach_map_subtype_val _
theorem O1(l:List ax):(j6 l).map (fun x=>A.agg x.cells)=(l.filter aA).map ax.enc:=by rw[<-xR,List.map_map];rfl
def AA(l:List ax):List ax:=(df cfR (j6 l)).map (·.1)
theorem RP(l:List ax):(df cfR (j6 l)).map (fun x=>A.agg x.cells)=(AA l).map ax.enc:=by unfold AA;rw[List.map_map];rfl
theorem xS(l:List ax):(AA l).Perm (l.filter aA):=by rw[<-xR];exact(dO swoR (j6 l)).1.map _
theorem O2(l:List ax): ∀r∈AA l,aA r=true:=fun r hr=>by unfold AA at hr;obtain⟨x,_,rfl⟩:=List.mem_map.1 hr;exact x.2
theorem Uo(l:List ax):(AA l).Pairwise (fun x y=>aV y.lo x.lo=false):=by
 unfold AA;rw[List.pairwise_map]
 exact(dO swoR (j6 l)).2.imp fun{x y} h=>by unfold cfR at h;rw[O0]at h;simpa using h
theorem Z2(l:List ax)(s:List UInt8):aj (AA l) s=aj l s:=by rw[Q_ (xS l),J1]
theorem O3(l:List ax):((AA l).foldl dY []).reverse=dv (aj l):=by
 rw[V5 (O2 l) (Uo l)]
 congr 1;funext s;exact Z2 l s
def rgE(l:List vV):List A:=[.row 0 0 3 l.length false,.fn 172 []]
def Z3(l:List vV):List Go.bo.Obj:=[.row 3 (l.map fun x=> .agg x.cells)]
def rgK(l:List vV):Prop:=l.length<4611686018427387904
def rgR(l:List vV):A×List Go.bo.Obj×List Nat:=(.cD [],[.row 3 ((df cfR l).map fun x=> .agg x.cells)],[])
theorem Z4(x y:vV)(h:A.agg x.cells=A.agg y.cells):x=y:=Subtype.ext (ax.eD _ _ h)
theorem rgO_inj(i j:List vV)(h:Z3 i=Z3 j):i=j:=by
 simp only[Z3,List.cons.injEq,Go.bo.Obj.row.injEq,true_and,and_true]at h
 rwa [map_inj Z4]at h
def R8a:an:=vr.fj 171 (bC rgE Z3 rgK rgR)
def R8:an:={R8a with mH:=fun f=>f==171,c6:=fun n=>if n=17 then [[0,1,2,3,4,5,6,7,8,10,11,9,12,13,14,15],[0,1,2,3,4,5,6,7,8,10,11,12,9,13,14,15]]else []}
theorem Z5:ag Tryz.prog R8a:=fK.fj (bB Tryz.func171 (by kernel_rfl) (by kernel_rfl)) (cX fun l h=>D9 l h)
theorem R8_ok:ag Tryz.prog R8:=⟨Z5.f,Z5.hp⟩
@[go_sem] theorem R8_f:R8.f=vr.f:=rfl
@[go_sem] theorem R8_eff{g:FuncId}:R8.mH g=(g==171):=rfl
@[go_sem] theorem R8_frz{g:FuncId}:R8.pZ g=vr.pZ g:=rfl
@[go_sem] theorem R8_fix{n:Nat}:R8.fix n=false:=rfl
@[go_sem] theorem R8_ords17:R8.c6 17=[[0,1,2,3,4,5,6,7,8,10,11,9,12,13,14,15],[0,1,2,3,4,5,6,7,8,10,11,12,9,13,14,15]]:=rfl
@[go_sem] theorem R8_ords{n:Nat}(h:n≠17):R8.c6 n=[]:=if_neg h
theorem R8_sort{l:List ax}{n:Nat}(hn:n=(l.filter aA).length)(h:l.length<4611686018427387904):R8.hp 171 [.row 0 0 3 n false,.fn 172 []] [.row 3 ((l.filter aA).map ax.enc)]=some (.cD [],[.row 3 ((AA l).map ax.enc)],[]):=by
 subst hn;have hlen:(j6 l).length=(l.filter aA).length:=by rw[<-xR];simp
 have h0:R8a.hp 171 (rgE (j6 l)) (Z3 (j6 l))=bC rgE Z3 rgK rgR (rgE (j6 l)) (Z3 (j6 l)):=an.eC;have h1:R8.hp 171 (rgE (j6 l)) (Z3 (j6 l))=bC rgE Z3 rgK rgR (rgE (j6 l)) (Z3 (j6 l)):=h0;have h2:=h1.trans (cY (fun i j _ h=>rgO_inj i j h) (j6 l) (show(j6 l).length<4611686018427387904 by rw[hlen];exact Nat.lt_of_le_of_lt (List.length_filter_le _ _) h))
 simp only[rgE,Z3,rgR,hlen,O1,RP]at h2;exact h2
theorem RQ(l:List ax)(k:Nat)(h:k<l.length):(l.take (k+1)).foldl dY []=dY ((l.take k).foldl dY []) l[k]:=by rw[<-List.take_append_getElem h,List.foldl_append];rfl
theorem xT: ∀(l:List ax) (a:List ax),(l.foldl dY a).length<=a.length+l.length
 | [],a=>by simp
 |r::l,a=>by
  have h1:=xT l (dY a r)
  have h2:=V4 a r;simp only[List.foldl_cons,List.length_cons];omega
theorem KT:ah Tryz.prog R8 Tryz.f135.ntmps (Tryz.f135.body.getD .skip)=true:=by kernel_rfl
theorem rf(l:List ax)(hl:l.length<=1000000)(g_:dB l):ay Tryz.prog 135 [.ab (l.map ax.enc)] (· = .ab ((dv (aj l)).map ax.enc)):=by
 refine aa R8_ok mixed Tryz.func135 rfl (Nat.le_of_ble_eq_true rfl) KT ?_;unfold Tryz.f135;simp-implicitDefEqProofs (disch:=(first|omega|decide)) only[go_sem,↓reduceIte,seval,List.length_map]
 refine aW 3 3 rfl ?_;refine ar [2,10,11] (ι:={k:Nat//k<=l.length}) (fun p=>[(12,.int .i64 p.1),(3,.row 0 0 3 ((l.take p.1).filter aA).length false)]) (fun p=>[(0,.row 3 (((l.take p.1).filter aA).map ax.enc))]) (fun p=>l.length-p.1) ⟨0,by omega⟩ (Nat.zero_le _) ?_ ?_
 · simp-implicitDefEqProofs (disch:=(first|omega|decide)) only[go_sem,↓reduceIte,seval]
   simp
 · rintro⟨k,hk⟩
   simp only;have hf:((l.take k).filter aA).length<=k:=Nat.le_trans (List.length_filter_le _ _) (by rw[List.length_take];omega)
   by_cases aw:k<l.length
   · have ae:(k:Int)<(l.length:Int):=by omega
     have ht:l.take (k+1)=l.take k++[l[k]]:=(List.take_append_getElem aw).symm;have e1:=dJ aw;have mu:=jM g_ aw;generalize hx:l[k]=x at*;obtain⟨lo,hi,op⟩:=x;simp only at mu;cases h1:aA ⟨lo,hi,op⟩with
     |true=>
      simp-implicitDefEqProofs (disch:=(first|omega|decide)) only[go_sem,↓reduceIte,seval,ae,e1,mu,h1,wrap_i64,List.length_map]
      refine⟨⟨Nat.le_refl _,by omega⟩,⟨k+1,aw⟩,⟨⟨by simp, ?_⟩, ?_⟩,by show l.length-(k+1)<l.length-k;omega⟩
      · rw[ht,List.filter_append];simp[h1]
      · rw[ht,List.filter_append,List.take_of_length_le (by simp)];simp[h1,ax.enc]
     |false=>
      simp-implicitDefEqProofs (disch:=(first|omega|decide)) only[go_sem,↓reduceIte,seval,ae,e1,mu,h1,wrap_i64,List.length_map]
      refine⟨⟨k+1,aw⟩,⟨⟨by simp, ?_⟩, ?_⟩,by show l.length-(k+1)<l.length-k;omega⟩
      · rw[ht,List.filter_append];simp[h1]
      · rw[ht,List.filter_append];simp[h1]
   · have ae: ¬(k:Int)<(l.length:Int):=by omega
     rw[List.take_of_length_le (by omega)]at*;have hs:=R8_sort (l:=l) rfl (by omega)
     have hp:=(xS l).length_eq;have iO:=O3 l;have da:=O2 l;have V9:=Uo l;rw[<-hp]at hf;simp-implicitDefEqProofs (disch:=(first|omega|decide)) only[go_sem,↓reduceIte,seval,ae,hs,List.length_map,List.contains_nil,List.contains_cons]
     rw[<-hp]
     generalize AA l=s at*;refine aW 6 3 rfl ?_;refine ar [2,25,26] (ι:={j:Nat//j<=s.length}) (fun p=>[(27,.int .i64 p.1),(6,.row 1 0 3 ((s.take p.1).foldl dY []).length false)]) (fun p=>[(1,.row 3 (jZ ((s.take p.1).foldl dY [])))]) (fun p=>s.length-p.1) ⟨0,by omega⟩ (Nat.zero_le _) ?_ ?_
     · simp-implicitDefEqProofs (disch:=(first|omega|decide)) only[go_sem,↓reduceIte,seval]
       simp[jZ]
     · rintro⟨j,hj⟩
       simp only;have rX:=xT (s.take j) []
       rw[List.length_take,List.length_nil,Nat.min_eq_left hj,Nat.zero_add]at rX;by_cases Kn:j<s.length
       · have mX:(j:Int)<(s.length:Int):=by omega
         have e2:=dJ Kn;have b9:=RQ s j Kn;have ho:=da _ (List.getElem_mem Kn)
         have hR:RS ((s.take j).foldl dY []):=(tW (a:=[]) trivial (fun r hr=>da r (List.mem_of_mem_take hr)) (V9.sublist (List.take_sublist _ _)) (fun _ _=>trivial)).1;have fin: ∀m',(s.take (j+1)).foldl dY []=m'-> ∃i:{j:Nat//j<=s.length},(((j:Int)+1=(i.1:Int)/\m'.length=((s.take i.1).foldl dY []).length)/\jZ m'=jZ ((s.take i.1).foldl dY []))/\s.length-i.1<s.length-j:=fun m' jz=>⟨⟨j+1,Kn⟩,⟨⟨by simp,by rw[jz]⟩,by rw[jz]⟩,by show s.length-(j+1)<s.length-j;omega⟩
         generalize hx:s[j]=x at*;generalize(s.take j).foldl dY []=m at*;have okx:=re ho;obtain⟨lo,hi,op⟩:=x;have Z6:lo.length<=9223372036854775807/\hi.length<=9223372036854775807:=okx;have mj:=fin _ b9;cases m with
         |nil=>
          rw[Z1]
          simp-implicitDefEqProofs (disch:=(first|omega|decide)) only[go_sem,↓reduceIte,seval,mX,e2,wrap_i64,List.length_map]
          exact mj
         |cons q qs=>
          have hq:=YW hR;have okq:=re hq;obtain⟨RT,RU,qop⟩:=q;have Z7:RT.length<=9223372036854775807/\RU.length<=9223372036854775807:=okq;rw[gi]at*;have hlq:qs.length+1<=j:=rX
          have cz:(((qs.length+1:Nat):Int)==0)=false:=by
           have:((qs.length+1:Nat):Int)≠0:=by omega
           simpa using this
          have c1:(((qs.length+1:Nat):Int)-1).toNat=qs.length:=by omega
          have c2:(0:Int)<=((qs.length+1:Nat):Int)-1:=by omega
          have c3:((qs.length+1:Nat):Int)-1<((qs.length+1:Nat):Int):=by omega
          have merge:(qop|| !aV RU lo)=true->dY (⟨RT,RU,qop⟩::qs) ⟨lo,hi,op⟩=ie ⟨RT,RU,qop⟩ ⟨lo,hi,op⟩::qs:=fun h=>by simp only[dY];rw[if_pos h]
          cases hqo:qop with
          |true=>
           subst hqo;have Ki:=merge (by simp)
           by_cases he:pr ⟨RT,RU,true⟩ ⟨lo,hi,op⟩<0
           · have hm:ie ⟨RT,RU,true⟩ ⟨lo,hi,op⟩=⟨RT,hi,op⟩:=by unfold ie;rw[if_pos he]
             rw[Ki,hm,gi]at mj;simp-implicitDefEqProofs (maxSteps:=600000) (disch:=(first|omega|decide)) only[go_sem,↓reduceIte,seval,mX,e2,Z6,Z7,cz,c1,c2,c3,he,iE,jP,wrap_i64,List.length_map]
             exact mj
           · have hm:ie ⟨RT,RU,true⟩ ⟨lo,hi,op⟩=⟨RT,RU,true⟩:=by unfold ie;rw[if_neg he]
             rw[Ki,hm,gi]at mj;simp-implicitDefEqProofs (disch:=(first|omega|decide)) only[go_sem,↓reduceIte,seval,mX,e2,Z6,Z7,cz,c1,c2,c3,he,iE,jP,wrap_i64,List.length_map]
             exact mj
          |false=>
           subst hqo;cases hto:aV RU lo with
           |false=>
              have Ki:=merge (by rw[hto];rfl)
              by_cases he:pr ⟨RT,RU,false⟩ ⟨lo,hi,op⟩<0
              · have hm:ie ⟨RT,RU,false⟩ ⟨lo,hi,op⟩=⟨RT,hi,op⟩:=by unfold ie;rw[if_pos he]
                rw[Ki,hm,gi]at mj;simp-implicitDefEqProofs (maxSteps:=600000) (disch:=(first|omega|decide)) only[go_sem,↓reduceIte,seval,mX,e2,Z6,Z7,cz,c1,c2,c3,he,hto,iE,jP,wrap_i64,List.length_map]
                exact mj
              · have hm:ie ⟨RT,RU,false⟩ ⟨lo,hi,op⟩=⟨RT,RU,false⟩:=by unfold ie;rw[if_neg he]
                rw[Ki,hm,gi]at mj;simp-implicitDefEqProofs (disch:=(first|omega|decide)) only[go_sem,↓reduceIte,seval,mX,e2,Z6,Z7,cz,c1,c2,c3,he,hto,iE,jP,wrap_i64,List.length_map]
                exact mj
           |true=>
              have Ki:dY (⟨RT,RU,false⟩::qs) ⟨lo,hi,op⟩=⟨lo,hi,op⟩::⟨RT,RU,false⟩::qs:=by simp only[dY];rw[if_neg (by rw[hto];simp)]
              rw[Ki,gi,gi]at mj;simp-implicitDefEqProofs (disch:=(first|omega|decide)) only[go_sem,↓reduceIte,seval,mX,e2,Z6,Z7,cz,c1,c2,c3,hto,iE,jP,IX,Wx,wrap_i64,List.length_map]
              exact⟨⟨Nat.le_refl _,by omega⟩,mj⟩
       · have mX: ¬(j:Int)<(s.length:Int):=by omega
         rw[List.take_of_length_le (by omega)]at*;have iB:jZ (s.foldl dY [])=(dv (aj l)).map ax.enc:=by unfold jZ;rw[iO]
         have Rn:(s.foldl dY []).length=(jZ (s.foldl dY [])).length:=by rw[mv]
         simp-implicitDefEqProofs (disch:=(first|omega|decide)) only[go_sem,↓reduceIte,seval,mX,wrap_i64,Rn,List.length_map,List.take_length]
         rw[iB]
         exact⟨Nat.le_refl _,rfl⟩
set_option maxHeartbeats 4000000
theorem vW:ah Tryz.prog vr Tryz.f213.ntmps (Tryz.f213.body.getD .skip)=true:=by kernel_rfl
theorem Wy(x y:Bool):ay Tryz.prog 213 [.bool x,.bool y] (· = .bool (x||y)):=by refine aa fK mixed Tryz.func213 rfl (Nat.le_of_ble_eq_true rfl) vW ?_;unfold Tryz.f213;cases x<;>simp-implicitDefEqProofs (disch:=(first|omega|decide)) only[go_sem,↓reduceIte,seval]
theorem xU:ah Tryz.prog vr Tryz.f212.ntmps (Tryz.f212.body.getD .skip)=true:=by kernel_rfl
theorem Z8(x y:Bool):ay Tryz.prog 212 [.bool x,.bool y] (· = .bool (x&&y)):=by refine aa fK mixed Tryz.func212 rfl (Nat.le_of_ble_eq_true rfl) xU ?_;unfold Tryz.f212;cases x<;>simp-implicitDefEqProofs (disch:=(first|omega|decide)) only[go_sem,↓reduceIte,seval]
theorem AB:ah Tryz.prog vr Tryz.f214.ntmps (Tryz.f214.body.getD .skip)=true:=by kernel_rfl
theorem c_rNot1(x y:Bool):ay Tryz.prog 214 [.bool x,.bool y] (· = .bool (!x)):=by refine aa fK mixed Tryz.func214 rfl (Nat.le_of_ble_eq_true rfl) AB ?_;unfold Tryz.f214;cases x<;>simp-implicitDefEqProofs (disch:=(first|omega|decide)) only[go_sem,↓reduceIte,seval]
def S8w:an:=vr.add 213 (entry (fun(v:Bool×Bool)=>[.bool v.1,.bool v.2]) (fun v=>True) (fun v=> .bool (v.1||v.2)))
theorem S8w_ok:ag Tryz.prog S8w:=fK.bN Tryz.func213 (by kernel_rfl) (by kernel_rfl) fun v h=>Wy v.1 v.2
@[go_sem] theorem S8w_old{g:FuncId}{xs:List A}(h:g≠213):S8w.f g xs=vr.f g xs:=an.ak h
theorem uo(v:Bool×Bool)(h:True):S8w.f 213 [.bool v.1,.bool v.2]=some (.bool (v.1||v.2)):=an.ao (Γ:=vr) (fun i j h=>by simpa[Prod.ext_iff,and_assoc]using h) v h
def S8x:an:=S8w.add 212 (entry (fun(v:Bool×Bool)=>[.bool v.1,.bool v.2]) (fun v=>True) (fun v=> .bool (v.1&&v.2)))
theorem S8x_ok:ag Tryz.prog S8x:=S8w_ok.bN Tryz.func212 (by kernel_rfl) (by kernel_rfl) fun v h=>Z8 v.1 v.2
@[go_sem] theorem S8x_old{g:FuncId}{xs:List A}(h:g≠212):S8x.f g xs=S8w.f g xs:=an.ak h
theorem vX(v:Bool×Bool)(h:True):S8x.f 212 [.bool v.1,.bool v.2]=some (.bool (v.1&&v.2)):=an.ao (Γ:=S8w) (fun i j h=>by simpa[Prod.ext_iff,and_assoc]using h) v h
def S8y:an:=S8x
theorem S8y_ok:ag Tryz.prog S8y:=S8x_ok
@[go_sem] theorem S8y_old{g:FuncId}{xs:List A}:S8y.f g xs=S8x.f g xs:=rfl
def S8z:an:=S8y.add 214 (entry (fun(v:Bool×Bool)=>[.bool v.1,.bool v.2]) (fun v=>True) (fun v=> .bool (!v.1)))
theorem S8z_ok:ag Tryz.prog S8z:=S8y_ok.bN Tryz.func214 (by kernel_rfl) (by kernel_rfl) fun v h=>c_rNot1 v.1 v.2
@[go_sem] theorem S8z_old{g:FuncId}{xs:List A}(h:g≠214):S8z.f g xs=S8y.f g xs:=an.ak h
theorem xV(v:Bool×Bool)(h:True):S8z.f 214 [.bool v.1,.bool v.2]=some (.bool (!v.1)):=an.ao (Γ:=S8y) (fun i j h=>by simpa[Prod.ext_iff,and_assoc]using h) v h
def IY(g:FuncId):Bool:=false||g==213||g==212||g==214
def kpR(g:FuncId):Bool->Bool->Bool:=if g=213 then(· || ·)else if g=212 then(· && ·)else fun x _=> !x
theorem kpR_z{g:FuncId}(h:IY g=true)(x y:Bool):S8z.f g [.bool x,.bool y]=some (.bool (kpR g x y)):=by
 by_cases e1:g=213
 · subst e1
   have h1:=uo (x,y) trivial;show S8z.f _ _=some (.bool (x||y))
   simp-implicitDefEqProofs (disch:=(first|omega|decide)) only[go_sem,↓reduceIte,seval,h1]
 by_cases e2:g=212
 · subst e2
   have h1:=vX (x,y) trivial;show S8z.f _ _=some (.bool (x&&y))
   simp-implicitDefEqProofs (disch:=(first|omega|decide)) only[go_sem,↓reduceIte,seval,h1]
 by_cases e4:g=214
 · subst e4
   have h1:=xV (x,y) trivial;show S8z.f _ _=some (.bool (!x))
   simp-implicitDefEqProofs (disch:=(first|omega|decide)) only[go_sem,↓reduceIte,seval,h1]
 exfalso;simp_all[IY]
end Go.Proofs.YtihgnfmoafjakaaGreat
namespace Go.Proofs.YtihgnfmoafjakaaGreat
open Go.bo
set_option linter.unusedSimpArgs false
set_option linter.unusedVariables false
set_option maxRecDepth 20000
set_option maxHeartbeats 8000000
theorem rh(l:List ax):(dv (aj l)).length<=l.length:=by
 rw[<-O3,List.length_reverse]
 have h1:=xT (AA l) []
 have h2:=(xS l).length_eq;have h3:=List.length_filter_le aA l;rw[List.length_nil]at h1;omega
theorem vY(p:List UInt8->Bool):dB (dv p):=fun r hr=>re ((eU.1 (mi p)).1 r hr)
def S8a:an:=S8z.add 135 (entry (fun(l:List ax)=>[.ab (l.map ax.enc)]) (fun l=>l.length<=1000000/\dB l) (fun l=> .ab ((dv (aj l)).map ax.enc)))
theorem S8a_ok:ag Tryz.prog S8a:=S8z_ok.bN Tryz.func135 (by kernel_rfl) (by kernel_rfl) fun l h=>rf l h.1 h.2
@[go_sem] theorem S8a_old{g:FuncId}{xs:List A}(h:g≠135):S8a.f g xs=S8z.f g xs:=an.ak h
theorem GO(l:List ax)(h:l.length<=1000000/\dB l):S8a.f 135 [.ab (l.map ax.enc)]=some (.ab ((dv (aj l)).map ax.enc)):=an.ao (Γ:=S8z) (fun i j h=>by simpa[Prod.ext_iff,and_assoc]using h) l h
def S8b:an:=S8a.add 109 (entry (fun(l:List ax)=>[.ab (l.map ax.enc)]) (fun l=>l.length<=1000000/\dB l) (fun l=> .bool (aP l)))
theorem Z9:ag Tryz.prog S8b:=S8a_ok.bN Tryz.func109 (by kernel_rfl) (by kernel_rfl) fun l h=>qV l (by omega) h.2
@[go_sem] theorem S8b_old{g:FuncId}{xs:List A}(h:g≠109):S8b.f g xs=S8a.f g xs:=an.ak h
@[go_sem] theorem S8b_s:S8b.pl S8a:=⟨fun _=>rfl,fun _=>rfl,rfl,fun _=>rfl,rfl,fun _=>rfl,rfl⟩
theorem xW(l:List ax)(h:l.length<=1000000/\dB l):S8b.f 109 [.ab (l.map ax.enc)]=some (.bool (aP l)):=an.ao (Γ:=S8a) (fun i j h=>by simpa[Prod.ext_iff,and_assoc]using h) l h
theorem O4{l:List ax}(h:l.length<=1000000)(h1:dB l):S8a.f 135 [.ab (l.map ax.enc)]=some (.ab ((dv (aj l)).map ax.enc)):=GO l ⟨h,h1⟩
theorem D_{l:List ax}(h:l.length<=1000000)(h1:dB l):S8b.f 109 [.ab (l.map ax.enc)]=some (.bool (aP l)):=xW l ⟨h,h1⟩
theorem AD:ah Tryz.prog S8b Tryz.f126.ntmps (Tryz.f126.body.getD .skip)=true:=by kernel_rfl
theorem Ea(l:List ax)(h:l.length<=1000000)(h1:dB l):ay Tryz.prog 126 [.ab (l.map ax.enc)] (· = .ab ((dv (aj l)).map ax.enc)):=by
 refine aa Z9 mixed Tryz.func126 rfl (Nat.le_of_ble_eq_true rfl) AD ?_;unfold Tryz.f126;have e1:=O4 h h1;have e2:=D_ h h1;cases hr:aP l with
 |true=>
  rw[hr]at e2;simp-implicitDefEqProofs (maxSteps:=600000) (disch:=(first|omega|decide)) only[go_sem,↓reduceIte,seval,e2,List.length_map]
  rw[V6 hr]
 |false=>
  rw[hr]at e2;simp-implicitDefEqProofs (maxSteps:=600000) (disch:=(first|omega|decide)) only[go_sem,↓reduceIte,seval,e1,e2,List.length_map]
def S8c:an:=S8b.add 126 (entry (fun(l:List ax)=>[.ab (l.map ax.enc)]) (fun l=>l.length<=1000000/\dB l) (fun l=> .ab ((dv (aj l)).map ax.enc)))
theorem S8c_ok:ag Tryz.prog S8c:=Z9.bN Tryz.func126 (by kernel_rfl) (by kernel_rfl) fun l h=>Ea l h.1 h.2
@[go_sem] theorem S8c_old{g:FuncId}{xs:List A}(h:g≠126):S8c.f g xs=S8b.f g xs:=an.ak h
theorem xX(l:List ax)(h:l.length<=1000000/\dB l):S8c.f 126 [.ab (l.map ax.enc)]=some (.ab ((dv (aj l)).map ax.enc)):=an.ao (Γ:=S8b) (fun i j h=>by simpa[Prod.ext_iff,and_assoc]using h) l h
theorem mw{l:List ax}(h:l.length<=1000000)(h1:dB l):S8c.f 126 [.ab (l.map ax.enc)]=some (.ab ((dv (aj l)).map ax.enc)):=xX l ⟨h,h1⟩
def XH:an:=S8c.add 245 (entry (fun(v:List ax×List ax)=>[.ab (v.1.map ax.enc),.ab (v.2.map ax.enc)]) (fun v=>v.1.length<=1000000/\v.2.length<=1000000/\(∀r∈v.1,aA r=true)/\(∀r∈v.2,aA r=true)) (fun v=> .ab ((jd v.1 v.2).map .str)))
theorem Z_:ag Tryz.prog XH:=S8c_ok.bN Tryz.func245 (by kernel_rfl) (by kernel_rfl) fun v h=>D3 v.1 v.2 h.1 h.2.1 h.2.2.1 h.2.2.2
@[go_sem] theorem S8d_old{g:FuncId}{xs:List A}(h:g≠245):XH.f g xs=S8c.f g xs:=an.ak h
@[go_sem] theorem S8d_s:XH.pl S8c:=⟨fun _=>rfl,fun _=>rfl,rfl,fun _=>rfl,rfl,fun _=>rfl,rfl⟩
theorem xY(v:List ax×List ax)(h:v.1.length<=1000000/\v.2.length<=1000000/\(∀r∈v.1,aA r=true)/\(∀r∈v.2,aA r=true)):XH.f 245 [.ab (v.1.map ax.enc),.ab (v.2.map ax.enc)]=some (.ab ((jd v.1 v.2).map .str)):=an.ao (Γ:=S8c) (fun i j h=>by simpa[Prod.ext_iff,and_assoc]using h) v h
theorem Eb{a b:List ax}(ha:a.length<=1000000)(hb:b.length<=1000000)(ra: ∀r∈a,aA r=true)(rb: ∀r∈b,aA r=true):XH.f 245 [.ab (a.map ax.enc),.ab (b.map ax.enc)]=some (.ab ((jd a b).map .str)):=xY (a,b) ⟨ha,hb,ra,rb⟩
section
variable{a b:List ax}(ra: ∀r∈a,aA r=true)(rb: ∀r∈b,aA r=true)
include ra rb
theorem Up: ∀s∈db [[]] (a++b),s.length<=17:=fun s hs=>by
 rcases(iR _ _ _).1 hs with h|⟨r,hr,h⟩
 · simp at h;subst h;simp
 · have VE:aA r=true:=by
    rcases List.mem_append.1 hr with hr|hr
    · exact ra r hr
    · exact rb r hr
   obtain⟨k1,k2,_,_⟩:=cw VE;rcases h with rfl|⟨_,rfl⟩
   · exact k1
   · exact k2
theorem o4(x:List UInt8):x∈jd a b ↔ x∈db [[]] (a++b):=by
 unfold jd;rw[l0]
 exact(ff (Up ra rb)).1.mem_iff
theorem IZ:(jd a b).Pairwise (fun x y=>aV x y=true):=KP (ff (Up ra rb)).2
theorem RV: []∈jd a b:=(o4 ra rb []).2 ((iR _ _ _).2 (.inl (by simp)))
theorem I0: ∀e∈jd a b,e.length<=17:=fun e he=>Up ra rb e ((o4 ra rb e).1 he)
theorem Ec: ∀r∈a++b,r.lo∈jd a b/\(r.op=false->r.hi∈jd a b):=fun r hr=>⟨(o4 ra rb _).2 ((iR _ _ _).2 (.inr ⟨r,hr,.inl rfl⟩)),fun ho=>(o4 ra rb _).2 ((iR _ _ _).2 (.inr ⟨r,hr,.inr ⟨ho,rfl⟩⟩))⟩
theorem RW:(jd a b).length<=1+2*(a.length+b.length):=by
 have h1:=(ff (Up ra rb)).1.length_eq;have h2:=(fY (a++b) [[]]).2;have h3:=sy (jN (db [[]] (a++b)))
 rw[List.length_append,List.length_singleton]at h2;unfold jd;omega
end
theorem Ed{l:List ax}(h:aP l=true){s t:List UInt8}(b9:aV s t=true):bw l s<=bw l t:=by
 rcases Nat.lt_or_ge (bw l t) (bw l s)with aw|VB
 · exfalso
   have hle:=qY l s;have h1:=nT l t (by omega)
   have h2:=qZ l s (bw l t) (by omega) aw;rw[h2.1,Bool.false_or]at h1;have:=ck b9 h1;rw[h2.2]at this;cases this
 · exact VB
theorem Ee{l:List ax}(h:aP l=true)(ok:dB l)(s:List UInt8): ∃lo hi op,(lo.length<=9223372036854775807/\hi.length<=9223372036854775807)/\
 ((((bw l s:Nat):Int)<(l.length:Int)/\(l.map ax.enc)[bw l s]? =some (.agg [.str lo,.str hi,.bool op])/\((op=true/\((0:Int)==0)=true)\/(op=false/\aV s hi=true))/\aj l s= !aV s lo)\/
  (¬((bw l s:Nat):Int)<(l.length:Int)/\(l.map ax.enc)[bw l s]? =none/\aj l s=false)):=by
 have hf:=vU h s;by_cases aw:bw l s<l.length
 · rw[dif_pos aw]at hf
   have zi:=nT l s aw;have okx:=jM ok aw;have e:=dJ aw;generalize l[bw l s]=x at*;obtain⟨lo,hi,op⟩:=x;refine⟨lo,hi,op,okx,.inl ⟨by omega,e, ?_,hf⟩⟩
   cases op with
   |true=>exact .inl ⟨rfl,rfl⟩
   |false=>exact .inr ⟨rfl,by simpa using zi⟩
 · rw[dif_neg aw]at hf
   exact⟨[],[],true,by simp,.inr ⟨by omega,by simp;omega,hf⟩⟩
theorem AE:ah Tryz.prog XH Tryz.f211.ntmps (Tryz.f211.body.getD .skip)=true:=by kernel_rfl
theorem Z'(a b:List ax)(g:FuncId)(kp:Bool->Bool->Bool)(hg: ∀x y,XH.f g [.bool x,.bool y]=some (.bool (kp x y)))(ha:a.length<=100000)(hb:b.length<=100000)(oka:dB a)(okb:dB b):
 ay Tryz.prog 211 [.ab (a.map ax.enc),.ab (b.map ax.enc),.fn g []] (· = .ab ((dv fun s=>kp (aj a s) (aj b s)).map ax.enc)):=by
 refine aa Z_ mixed Tryz.func211 rfl (Nat.le_of_ble_eq_true rfl) AE ?_;unfold Tryz.f211;have iB:(fun s=>kp (aj a s) (aj b s))=fun s=>kp (aj (dv (aj a)) s) (aj (dv (aj b)) s):=by funext s;rw[vC,vC]
 rw[iB]
 have e1:=mw (l:=a) (by omega) oka;have e2:=mw (l:=b) (by omega) okb;have lu:=rh a;have lv:=rh b;have ru:=mi (aj a)
 have rv:=mi (aj b)
 have ou:=vY (aj a)
 have ov:=vY (aj b)
 generalize dv (aj a)=u at*;generalize dv (aj b)=v at*;have ru':=(eU.1 ru).1;have rv':=(eU.1 rv).1;have e3:=Eb (a:=u) (b:=v) (by omega) (by omega) ru' rv';have fS:=(mk_of (kp:=kp) (a:=u) (b:=v) (IZ ru' rv') (RV ru' rv') (I0 ru' rv') (fun r hr _=>Ec ru' rv' r (by simp[hr])) (fun r hr _=>Ec ru' rv' r (by simp[hr]))).1;have V9:=IZ ru' rv';have ZZ:=I0 ru' rv';have hel:=RW ru' rv';simp-implicitDefEqProofs (maxSteps:=600000) (disch:=(first|omega|decide)) only[go_sem,↓reduceIte,seval,e1,e2,e3,List.length_map]
 rw[<-fS]
 generalize jd u v=e at*;clear e1 e2 e3 fS iB;refine aW 8 3 rfl ?_;refine ar [0,1,2,6,22,23] (ι:={p:Nat×Nat×Nat//p.1<=e.length/\ ∀s∈e.drop p.1,p.2.1<=bw u s/\p.2.2<=bw v s}) (fun p=>[(24,.int .i64 p.1.1),(10,.int .i64 p.1.2.1),(11,.int .i64 p.1.2.2),(9,.bool (Ge (fun s=>kp (aj u s) (aj v s)) (e.take p.1.1)).2),(8,.row 0 0 3 (Ge (fun s=>kp (aj u s) (aj v s)) (e.take p.1.1)).1.length false)]) (fun p=>[(0,.row 3 (jZ (Ge (fun s=>kp (aj u s) (aj v s)) (e.take p.1.1)).1))]) (fun p=>e.length-p.1.1) ⟨(0,0,0),Nat.zero_le _,fun s _=>⟨Nat.zero_le _,Nat.zero_le _⟩⟩ (Nat.zero_le _) ?_ ?_
 · simp-implicitDefEqProofs (maxSteps:=600000) (disch:=(first|omega|decide)) only[go_sem,↓reduceIte,seval,List.take_zero]
   simp[Ge,jZ]
 · rintro⟨⟨k,i,j⟩,hk,xo⟩
   simp only at hk xo⊢;have hlen:=TQ (fun s=>kp (aj u s) (aj v s)) (e.take k) ([],false)
   have hwas:=TR (fun s=>kp (aj u s) (aj v s)) (e.take k) ([],false) (by simp)
   have rX:(Ge (fun s=>kp (aj u s) (aj v s)) (e.take k)).1.length<=k:=by have:(Ge (fun s=>kp (aj u s) (aj v s)) (e.take k)).1.length<=0+(e.take k).length:=hlen;rw[List.length_take]at this;omega
   have hwas':(Ge (fun s=>kp (aj u s) (aj v s)) (e.take k)).2=true->(Ge (fun s=>kp (aj u s) (aj v s)) (e.take k)).1≠ []:=hwas;clear hlen hwas;by_cases aw:k<e.length
   · have ae:(k:Int)<(e.length:Int):=by omega
     have es:=str_get aw;have hs17:=ZZ _ (List.getElem_mem aw)
     have b9:=Y0 (fun s=>kp (aj u s) (aj v s)) e k aw;have hd:e.drop k=e[k]::e.drop (k+1):=List.drop_eq_getElem_cons aw;have hi0:=xo e[k] (by rw[hd];exact List.mem_cons_self)
     have aaa: ∀s∈e.drop (k+1),bw u e[k]<=bw u s/\bw v e[k]<=bw v s:=fun s hs=>by
      have hp:(e.drop k).Pairwise (fun x y=>aV x y=true):=V9.sublist (List.drop_sublist _ _)
      rw[hd,List.pairwise_cons]at hp;exact⟨Ed ru (hp.1 s hs),Ed rv (hp.1 s hs)⟩
     have next: ∀st,Ge (fun s=>kp (aj u s) (aj v s)) (e.take (k+1))=st-> ∃q:{p:Nat×Nat×Nat//p.1<=e.length/\ ∀s∈e.drop p.1,p.2.1<=bw u s/\p.2.2<=bw v s},(((k:Int)+1=(q.1.1:Int)/\((bw u e[k]:Nat):Int)=(q.1.2.1:Int)/\((bw v e[k]:Nat):Int)=(q.1.2.2:Int)/\st.2=(Ge (fun s=>kp (aj u s) (aj v s)) (e.take q.1.1)).2/\st.1.length=(Ge (fun s=>kp (aj u s) (aj v s)) (e.take q.1.1)).1.length)/\jZ st.1=jZ (Ge (fun s=>kp (aj u s) (aj v s)) (e.take q.1.1)).1)/\e.length-q.1.1<e.length-k:=fun st h=>⟨⟨(k+1,bw u e[k],bw v e[k]),aw,aaa⟩,⟨⟨by simp,rfl,rfl,by rw[h],by rw[h]⟩,by rw[h]⟩,by show e.length-(k+1)<e.length-k;omega⟩
     have nx:=next _ b9
     have fu:=vU ru e[k]
     have fv:=vU rv e[k]
     clear next b9 aaa hd xo
     generalize Ge (fun s=>kp (aj u s) (aj v s)) (e.take k)=st at*;simp only[Rb]at nx;generalize e[k]=s at*;obtain⟨m,was⟩:=st;simp only at rX hwas' nx⊢;have flu:=qY u s;have flv:=qY v s;simp-implicitDefEqProofs (maxSteps:=600000) (disch:=(first|omega|decide)) only[go_sem,↓reduceIte,seval,ae,es,List.length_map]
     refine ar [0,1,2,6,13,22,23,24,9,8,11] (ι:={i:Nat//i<=bw u s}) (fun p=>[(10,.int .i64 p.1)]) (fun _=>[]) (fun p=>u.length-p.1) ⟨i,hi0.1⟩ (Nat.zero_le _) ?_ ?_
     · simp-implicitDefEqProofs (maxSteps:=600000) (disch:=(first|omega|decide)) only[go_sem,↓reduceIte,seval]
     · rintro⟨i',fB⟩
       simp only;by_cases hiu:i'<bw u s
       · have hiu2:i'<u.length:=by omega
         have hiu':(i':Int)<(u.length:Int):=by omega
         have eu:=dJ hiu2;have oku:=jM ou hiu2;obtain⟨p1,p2⟩:=qZ u s i' hiu2 hiu;generalize hx:u[i']=x at*;obtain⟨lo,hi,op⟩:=x;simp only at oku p1 p2;subst p1;simp-implicitDefEqProofs (maxSteps:=600000) (disch:=(first|omega|decide)) only[go_sem,↓reduceIte,seval,hiu',eu,oku,p2,wrap_i64,List.length_map]
         exact⟨⟨i'+1,hiu⟩,by simp,by show u.length-(i'+1)<u.length-i';omega⟩
       · have hie:i'=bw u s:=by omega
         subst hie;obtain⟨lo,hi,op,MF,U⟩:=Ee ru ou s;obtain⟨iw,fB,mU,Qh,V⟩:=Ee rv ov s;rcases U with⟨hu,gu,⟨rfl,au⟩|⟨rfl,au⟩,xu⟩|⟨hu,gu,xu⟩
         all_goals(first|simp-implicitDefEqProofs (maxSteps:=600000) (disch:=(first|omega|decide)) only[go_sem,↓reduceIte,seval,hu,gu,au,MF,List.length_map]|simp-implicitDefEqProofs (maxSteps:=600000) (disch:=(first|omega|decide)) only[go_sem,↓reduceIte,seval,hu,gu,MF,List.length_map])
         all_goals(refine ar [0,1,2,6,13,22,23,24,9,8,10] (ι:={i:Nat//i<=bw v s}) (fun p=>[(11,.int .i64 p.1)]) (fun _=>[]) (fun p=>v.length-p.1) ⟨j,hi0.2⟩ (Nat.zero_le _) ?_ ?_)
         all_goals first
          |(simp-implicitDefEqProofs (maxSteps:=600000) (disch:=(first|omega|decide)) only[go_sem,↓reduceIte,seval];done)
          |skip
         all_goals(
          rintro⟨j',wS⟩
          simp only;by_cases hjv:j'<bw v s
          · have hjv2:j'<v.length:=by omega
            have hjv':(j':Int)<(v.length:Int):=by omega
            have ev:=dJ hjv2;have okv:=jM ov hjv2;obtain⟨p1,p2⟩:=qZ v s j' hjv2 hjv;generalize hx:v[j']=x at*;obtain⟨lo2,hi2,op2⟩:=x;simp only at okv p1 p2;subst p1;simp-implicitDefEqProofs (maxSteps:=600000) (disch:=(first|omega|decide)) only[go_sem,↓reduceIte,seval,hjv',ev,okv,p2,wrap_i64,List.length_map]
            exact⟨⟨j'+1,hjv⟩,by simp,by show v.length-(j'+1)<v.length-j';omega⟩
          · have hje:j'=bw v s:=by omega
            subst hje;rcases V with⟨hv,gv,⟨rfl,av⟩|⟨rfl,av⟩,xv⟩|⟨hv,gv,xv⟩
            all_goals(
              cases hP:kp (aj u s) (aj v s)<;>rw[hP]at nx<;>rw[xu,xv]at hP<;>cases was
              · have nx':=nx
                simp only[Bool.not_false,Bool.not_true,Bool.and_true,Bool.and_false,Bool.false_eq_true,if_false,if_true]at nx';clear nx
                (first|simp-implicitDefEqProofs (maxSteps:=600000) (disch:=(first|omega|decide)) only[go_sem,↓reduceIte,seval,hu,gu,au,MF,hv,gv,av,Qh,hg,hP,wrap_i64,List.length_map]|simp-implicitDefEqProofs (maxSteps:=600000) (disch:=(first|omega|decide)) only[go_sem,↓reduceIte,seval,hu,gu,au,MF,hv,gv,Qh,hg,hP,wrap_i64,List.length_map]|simp-implicitDefEqProofs (maxSteps:=600000) (disch:=(first|omega|decide)) only[go_sem,↓reduceIte,seval,hu,gu,MF,hv,gv,av,Qh,hg,hP,wrap_i64,List.length_map]|simp-implicitDefEqProofs (maxSteps:=600000) (disch:=(first|omega|decide)) only[go_sem,↓reduceIte,seval,hu,gu,MF,hv,gv,Qh,hg,hP,wrap_i64,List.length_map])
                exact nx'
              · cases m with
                |nil=>exact absurd rfl (hwas' rfl)
                |cons qq qs=>
                 have hq:qs.length+1<=k:=rX;have c1:(((qs.length+1:Nat):Int)-1).toNat=qs.length:=by omega
                 have c2:(0:Int)<=((qs.length+1:Nat):Int)-1:=by omega
                 have c3:((qs.length+1:Nat):Int)-1<((qs.length+1:Nat):Int):=by omega
                 have nx':=nx;simp only[Bool.not_false,Bool.not_true,Bool.and_true,Bool.and_false,Bool.and_self,Bool.false_and,Bool.false_eq_true,if_false,if_true,gi,List.length_cons]at nx';clear nx;rw[gi]
                 (first|simp-implicitDefEqProofs (maxSteps:=600000) (disch:=(first|omega|decide)) only[go_sem,↓reduceIte,seval,hu,gu,au,MF,hv,gv,av,Qh,hg,hP,c1,c2,c3,iE,jP,wrap_i64,List.length_map]|simp-implicitDefEqProofs (maxSteps:=600000) (disch:=(first|omega|decide)) only[go_sem,↓reduceIte,seval,hu,gu,au,MF,hv,gv,Qh,hg,hP,c1,c2,c3,iE,jP,wrap_i64,List.length_map]|simp-implicitDefEqProofs (maxSteps:=600000) (disch:=(first|omega|decide)) only[go_sem,↓reduceIte,seval,hu,gu,MF,hv,gv,av,Qh,hg,hP,c1,c2,c3,iE,jP,wrap_i64,List.length_map]|simp-implicitDefEqProofs (maxSteps:=600000) (disch:=(first|omega|decide)) only[go_sem,↓reduceIte,seval,hu,gu,MF,hv,gv,Qh,hg,hP,c1,c2,c3,iE,jP,wrap_i64,List.length_map])
                 exact nx'
              · have nx':=nx
                simp only[Bool.not_false,Bool.not_true,Bool.and_true,Bool.and_false,Bool.and_self,Bool.false_eq_true,if_false,if_true,gi,List.length_cons]at nx';clear nx;have tk:(jZ m).take m.length=jZ m:=List.take_of_length_le (Nat.le_of_eq (mv m))
                have rl:=mv m
                (first|simp-implicitDefEqProofs (maxSteps:=600000) (disch:=(first|omega|decide)) only[go_sem,↓reduceIte,seval,hu,gu,au,MF,hv,gv,av,Qh,hg,hP,tk,rl,wrap_i64,List.length_map]|simp-implicitDefEqProofs (maxSteps:=600000) (disch:=(first|omega|decide)) only[go_sem,↓reduceIte,seval,hu,gu,au,MF,hv,gv,Qh,hg,hP,tk,rl,wrap_i64,List.length_map]|simp-implicitDefEqProofs (maxSteps:=600000) (disch:=(first|omega|decide)) only[go_sem,↓reduceIte,seval,hu,gu,MF,hv,gv,av,Qh,hg,hP,tk,rl,wrap_i64,List.length_map]|simp-implicitDefEqProofs (maxSteps:=600000) (disch:=(first|omega|decide)) only[go_sem,↓reduceIte,seval,hu,gu,MF,hv,gv,Qh,hg,hP,tk,rl,wrap_i64,List.length_map])
                exact⟨⟨Nat.le_refl _,by omega⟩,nx'⟩
              · have nx':=nx
                simp only[Bool.not_false,Bool.not_true,Bool.and_true,Bool.and_false,Bool.false_and,Bool.false_eq_true,if_false,if_true]at nx';clear nx
                (first|simp-implicitDefEqProofs (maxSteps:=600000) (disch:=(first|omega|decide)) only[go_sem,↓reduceIte,seval,hu,gu,au,MF,hv,gv,av,Qh,hg,hP,wrap_i64,List.length_map]|simp-implicitDefEqProofs (maxSteps:=600000) (disch:=(first|omega|decide)) only[go_sem,↓reduceIte,seval,hu,gu,au,MF,hv,gv,Qh,hg,hP,wrap_i64,List.length_map]|simp-implicitDefEqProofs (maxSteps:=600000) (disch:=(first|omega|decide)) only[go_sem,↓reduceIte,seval,hu,gu,MF,hv,gv,av,Qh,hg,hP,wrap_i64,List.length_map]|simp-implicitDefEqProofs (maxSteps:=600000) (disch:=(first|omega|decide)) only[go_sem,↓reduceIte,seval,hu,gu,MF,hv,gv,Qh,hg,hP,wrap_i64,List.length_map])
                exact nx'))
   · have ae: ¬(k:Int)<(e.length:Int):=by omega
     rw[List.take_of_length_le (by omega)]at*;have Rn:(Ge (fun s=>kp (aj u s) (aj v s)) e).1.length=(jZ (Ge (fun s=>kp (aj u s) (aj v s)) e).1).length:=by rw[mv]
     simp-implicitDefEqProofs (maxSteps:=600000) (disch:=(first|omega|decide)) only[go_sem,↓reduceIte,seval,ae,wrap_i64,Rn,List.length_map,List.take_length]
     exact⟨Nat.le_refl _,rfl⟩
end Go.Proofs.YtihgnfmoafjakaaGreat
namespace Go.Proofs.YtihgnfmoafjakaaGreat
open Go.bo
set_option linter.unusedSimpArgs false
set_option linter.unusedVariables false
set_option linter.unusedSectionVars false
set_option maxRecDepth 20000
set_option maxHeartbeats 8000000
theorem kpR_d{g:FuncId}(h:IY g=true)(x y:Bool):XH.f g [.bool x,.bool y]=some (.bool (kpR g x y)):=by
 have hz:=kpR_z h x y;have ne: ∀f:FuncId,IY f=false->g≠f:=fun f hf e=>by rw[e,hf]at h;cases h
 rw[S8d_old,S8c_old,S8b_old,S8a_old]
 all_goals first
  |exact hz
  |exact ne _ rfl
def XI:an:=XH.add 211 (entry (fun(v:List ax×List ax×FuncId)=>[.ab (v.1.map ax.enc),.ab (v.2.1.map ax.enc),.fn v.2.2 []]) (fun v=>v.1.length<=100000/\v.2.1.length<=100000/\dB v.1/\dB v.2.1/\IY v.2.2=true) (fun v=> .ab ((dv fun s=>kpR v.2.2 (aj v.1 s) (aj v.2.1 s)).map ax.enc)))
theorem RX:ag Tryz.prog XI:=Z_.bN Tryz.func211 (by kernel_rfl) (by kernel_rfl) fun v h=>Z' v.1 v.2.1 v.2.2 (kpR v.2.2) (kpR_d h.2.2.2.2) h.1 h.2.1 h.2.2.1 h.2.2.2.1
@[go_sem] theorem S8e_old{g:FuncId}{xs:List A}(h:g≠211):XI.f g xs=XH.f g xs:=an.ak h
@[go_sem] theorem S8e_s:XI.pl XH:=⟨fun _=>rfl,fun _=>rfl,rfl,fun _=>rfl,rfl,fun _=>rfl,rfl⟩
theorem nU(v:List ax×List ax×FuncId)(h:v.1.length<=100000/\v.2.1.length<=100000/\dB v.1/\dB v.2.1/\IY v.2.2=true):XI.f 211 [.ab (v.1.map ax.enc),.ab (v.2.1.map ax.enc),.fn v.2.2 []]=some (.ab ((dv fun s=>kpR v.2.2 (aj v.1 s) (aj v.2.1 s)).map ax.enc)):=an.ao (Γ:=XH) (fun i j h=>by simpa[Prod.ext_iff,and_assoc]using h) v h
section
variable{a b:List ax}(ha:a.length<=100000)(hb:b.length<=100000)(oa:dB a)(ob:dB b)
include ha hb oa ob
theorem s_sweepM:XI.f 211 [.ab (a.map ax.enc),.ab (b.map ax.enc),.fn 212 []]=some (.ab ((dv fun s=>aj a s&&aj b s).map ax.enc)):=nU (a,b,_) ⟨ha,hb,oa,ob,rfl⟩
end
theorem KU:dB []:=fun _ h=>by cases h
theorem s_sweepN{a:List ax}(ha:a.length<=100000)(oa:dB a):XI.f 211 [.ab (a.map ax.enc),.ab [],.fn 214 []]=some (.ab ((dv fun s=> !aj a s).map ax.enc)):=nU (a,[],_) ⟨ha,by simp,oa,KU,rfl⟩
theorem Ef:ah Tryz.prog XI Tryz.f195.ntmps (Tryz.f195.body.getD .skip)=true:=by kernel_rfl
theorem GP(a b:List ax)(ha:a.length<=100000)(hb:b.length<=100000)(oa:dB a)(ob:dB b):ay Tryz.prog 195 [.ab (a.map ax.enc),.ab (b.map ax.enc)] (· = .ab ((dv fun s=>aj a s&&aj b s).map ax.enc)):=by refine aa RX mixed Tryz.func195 rfl (Nat.le_of_ble_eq_true rfl) Ef ?_;unfold Tryz.f195;have h:=s_sweepM ha hb oa ob;simp-implicitDefEqProofs (disch:=(first|omega|decide)) only[go_sem,↓reduceIte,seval,h,List.length_map]
theorem GQ:ah Tryz.prog XI Tryz.f197.ntmps (Tryz.f197.body.getD .skip)=true:=by kernel_rfl
theorem KV(a:List ax)(ha:a.length<=100000)(oa:dB a):ay Tryz.prog 197 [.ab (a.map ax.enc)] (· = .ab ((dv fun s=> !aj a s).map ax.enc)):=by refine aa RX mixed Tryz.func197 rfl (Nat.le_of_ble_eq_true rfl) GQ ?_;unfold Tryz.f197;have h:=s_sweepN ha oa;simp-implicitDefEqProofs (disch:=(first|omega|decide)) only[go_sem,↓reduceIte,seval,h,List.length_map]
def S8f:an:=XI.add 127 (entry (fun(v:List ax×List UInt8)=>[.ab (v.1.map ax.enc),.str v.2]) (fun v=>v.1.length<=100000/\dB v.1/\v.2.length<=9223372036854775807/\aP v.1=true) (fun v=> .int .i64 (bw v.1 v.2)))
theorem S8f_ok:ag Tryz.prog S8f:=RX.bN Tryz.func127 (by kernel_rfl) (by kernel_rfl) fun v h=>GM v.1 v.2 (by omega) h.2.1 h.2.2.1 h.2.2.2
@[go_sem] theorem S8f_old{g:FuncId}{xs:List A}(h:g≠127):S8f.f g xs=XI.f g xs:=an.ak h
@[go_sem] theorem S8f_s:S8f.pl XI:=⟨fun _=>rfl,fun _=>rfl,rfl,fun _=>rfl,rfl,fun _=>rfl,rfl⟩
theorem AF(v:List ax×List UInt8)(h:v.1.length<=100000/\dB v.1/\v.2.length<=9223372036854775807/\aP v.1=true):S8f.f 127 [.ab (v.1.map ax.enc),.str v.2]=some (.int .i64 (bw v.1 v.2)):=an.ao (Γ:=XI) (fun i j h=>by simpa[Prod.ext_iff,and_assoc]using h) v h
theorem GR{l:List ax}{s:List UInt8}(h:l.length<=100000)(h1:dB l)(h2:s.length<=9223372036854775807)(h3:aP l=true):S8f.f 127 [.ab (l.map ax.enc),.str s]=some (.int .i64 (bw l s)):=AF (l,s) ⟨h,h1,h2,h3⟩
theorem GS:ah Tryz.prog S8f Tryz.f70.ntmps (Tryz.f70.body.getD .skip)=true:=by kernel_rfl
theorem KW(l:List ax)(s:List UInt8)(hl:l.length<=100000)(ol:dB l)(hs:s.length<=9223372036854775807):ay Tryz.prog 70 [.ab (l.map ax.enc),.str s] (· = .bool (aj l s)):=by
 refine aa S8f_ok mixed Tryz.func70 rfl (Nat.le_of_ble_eq_true rfl) GS ?_;unfold Tryz.f70;have e1:=mw (l:=l) (by omega) ol;have lu:=rh l;have ou:=vY (aj l)
 have ru:=mi (aj l)
 have hu:=vC l s;have e2:=GR (l:=dv (aj l)) (s:=s) (by omega) ou hs ru;generalize dv (aj l)=u at*;have fh:=vU ru s;rw[<-hu]
 by_cases aw:bw u s<u.length
 · rw[dif_pos aw]at fh
   have ae:((bw u s:Nat):Int)<(u.length:Int):=by omega
   have zi:=nT u s aw;have hr:=(eU.1 ru).1 _ (List.getElem_mem aw)
   have eg:=dJ aw;have mu:=jM ou aw;generalize u[bw u s]=x at*;obtain⟨lo,hi,op⟩:=x
   have hx:b_ ⟨lo,hi,op⟩ s=aj u s:=by
    rw[fh,kz,hr]
    unfold ND;rw[zi];simp
   simp only at mu;simp-implicitDefEqProofs (disch:=(first|omega|decide)) only[go_sem,↓reduceIte,seval,e1,e2,ae,eg,mu,hs,hx,List.length_map]
 · rw[dif_neg aw]at fh
   have ae: ¬((bw u s:Nat):Int)<(u.length:Int):=by omega
   simp-implicitDefEqProofs (disch:=(first|omega|decide)) only[go_sem,↓reduceIte,seval,e1,e2,ae,fh,List.length_map]
def R0:an:=T08d
end Go.Proofs.YtihgnfmoafjakaaGreat
namespace Go.Proofs.YtihgnfmoafjakaaGreat
open Go.bo
set_option linter.unusedSimpArgs false
set_option linter.unusedVariables false
set_option maxRecDepth 20000
set_option maxHeartbeats 4000000
def T12f:an:=T12e
theorem T12f_ok:ag Tryz.prog T12f:=T12e_ok
@[go_sem] theorem T12f_old{g:FuncId}{xs:List A}:T12f.f g xs=T12e.f g xs:=rfl
def T12g:an:=T12f
theorem T12g_ok:ag Tryz.prog T12g:=T12f_ok
@[go_sem] theorem T12g_old{g:FuncId}{xs:List A}:T12g.f g xs=T12f.f g xs:=rfl
def T12h:an:=T12g
theorem T12h_ok:ag Tryz.prog T12h:=T12g_ok
@[go_sem] theorem T12h_old{g:FuncId}{xs:List A}:T12h.f g xs=T12g.f g xs:=rfl
end Go.Proofs.YtihgnfmoafjakaaGreat
namespace Go.Proofs
open Go.Shelf
def YtihgnfmoafjakaaGreat.O5:Go.Shelf.Ren:=⟨fun|6=>184|15=>203|14=>209|28=>224|29=>225|20=>237|21=>238|22=>239|23=>240|24=>241|25=>242|26=>243|27=>244|46=>257|47=>248|48=>249|49=>258|50=>259|57=>270|n=>n,fun|22=>107|24=>48|25=>170|3=>3|39=>199|0=>0|53=>46|55=>220|4=>4|46=>212|45=>211|50=>216|5=>5|9=>9|66=>234|70=>238|76=>246|77=>247|n=>n,fun|n=>n⟩
theorem YtihgnfmoafjakaaGreat.sortVer:Go.Proofs.SlLaysF0.n6 Tryz.prog YtihgnfmoafjakaaGreat.O5:={
 mixed:=by kernel_rfl
 f6:=⟨Tryz.f184.name,by decide,Tryz.func184.trans (congrArg some (by kernel_rfl))⟩
 f14:=⟨Tryz.f209.name,by decide,Tryz.func209.trans (congrArg some (by kernel_rfl))⟩
 f15:=Tryz.func203.trans (congrArg some (by kernel_rfl))
 f20:=⟨Tryz.f237.name,by decide,Tryz.func237.trans (congrArg some (by kernel_rfl))⟩
 f21:=⟨Tryz.f238.name,by decide,Tryz.func238.trans (congrArg some (by kernel_rfl))⟩
 f22:=⟨Tryz.f239.name,by decide,Tryz.func239.trans (congrArg some (by kernel_rfl))⟩
 f23:=⟨Tryz.f240.name,by decide,Tryz.func240.trans (congrArg some (by kernel_rfl))⟩
 f24:=⟨Tryz.f241.name,by decide,Tryz.func241.trans (congrArg some (by kernel_rfl))⟩
 f25:=⟨Tryz.f242.name,by decide,Tryz.func242.trans (congrArg some (by kernel_rfl))⟩
 f26:=⟨Tryz.f243.name,by decide,Tryz.func243.trans (congrArg some (by kernel_rfl))⟩
 f27:=⟨Tryz.f244.name,by decide,Tryz.func244.trans (congrArg some (by kernel_rfl))⟩
 f28:=Tryz.func224.trans (congrArg some (by kernel_rfl))
 f29:=Tryz.func225.trans (congrArg some (by kernel_rfl))
 f46:=⟨Tryz.f257.name,by decide,Tryz.func257.trans (congrArg some (by kernel_rfl))⟩
 f47:=Tryz.func248.trans (congrArg some (by kernel_rfl))
 f48:=Tryz.func249.trans (congrArg some (by kernel_rfl))
 f49:=⟨Tryz.f258.name,by decide,Tryz.func258.trans (congrArg some (by kernel_rfl))⟩
 f50:=⟨Tryz.f259.name,by decide,Tryz.func259.trans (congrArg some (by kernel_rfl))⟩
 f57:=⟨Tryz.f270.name,by decide,Tryz.func270.trans (congrArg some (by kernel_rfl))⟩
 t0:=Tryz.underlying0
 a0:=Tryz.isAgg0
 z0:=Tryz.sizeOf0
 v0:=Tryz.zeroValue0
 t3:=Tryz.underlying3
 a3:=Tryz.isAgg3
 z3:=Tryz.sizeOf3
 v3:=Tryz.zeroValue3
 t4:=Tryz.underlying4
 a4:=Tryz.isAgg4
 z4:=Tryz.sizeOf4
 v4:=Tryz.zeroValue4
 t5:=Tryz.underlying5
 a5:=Tryz.isAgg5
 z5:=Tryz.sizeOf5
 v5:=Tryz.zeroValue5
 t9:=Tryz.underlying9
 a9:=Tryz.isAgg9
 z9:=Tryz.sizeOf9
 v9:=Tryz.zeroValue9
 t22:=Tryz.underlying107
 a22:=Tryz.isAgg107
 z22:=Tryz.sizeOf107
 v22:=Tryz.zeroValue107
 t25:=Tryz.underlying170
 a25:=Tryz.isAgg170
 z25:=Tryz.sizeOf170
 v25:=Tryz.zeroValue170
 t39:=Tryz.underlying199
 a39:=Tryz.isAgg199
 z39:=Tryz.sizeOf199
 v39:=Tryz.zeroValue199
 t45:=Tryz.underlying211
 a45:=Tryz.isAgg211
 z45:=Tryz.sizeOf211
 v45:=Tryz.zeroValue211
 t46:=Tryz.underlying212
 a46:=Tryz.isAgg212
 z46:=Tryz.sizeOf212
 v46:=Tryz.zeroValue212
 t50:=Tryz.underlying216
 a50:=Tryz.isAgg216
 z50:=Tryz.sizeOf216
 v50:=Tryz.zeroValue216
 t53:=Tryz.underlying46
 a53:=Tryz.isAgg46
 z53:=Tryz.sizeOf46
 v53:=Tryz.zeroValue46
 t55:=Tryz.underlying220
 a55:=Tryz.isAgg220
 z55:=Tryz.sizeOf220
 v55:=Tryz.zeroValue220
 t66:=Tryz.underlying234
 a66:=Tryz.isAgg234
 z66:=Tryz.sizeOf234
 v66:=Tryz.zeroValue234
 t70:=Tryz.underlying238
 a70:=Tryz.isAgg238
 z70:=Tryz.sizeOf238
 v70:=Tryz.zeroValue238
 t76:=Tryz.underlying246
 a76:=Tryz.isAgg246
 z76:=Tryz.sizeOf246
 v76:=Tryz.zeroValue246
 t77:=Tryz.underlying247
 a77:=Tryz.isAgg247
 z77:=Tryz.sizeOf247
 v77:=Tryz.zeroValue247}
end Go.Proofs
namespace Go.Proofs.YtihgnfmoafjakaaGreat
open Go.bo
set_option linter.unusedSimpArgs false
set_option linter.unusedVariables false
set_option maxRecDepth 20000
set_option maxHeartbeats 4000000
theorem fm{a b:ca}:Ao a b=true ↔ a.r<b.r\/(a.r=b.r/\a.c<b.c):=by simp[Ao]
theorem KX{a b:ca}(h1:a.r=b.r)(h2:a.c=b.c):a=b:=by cases a;cases b;simp_all
theorem BH{a b:ca}:fX a b<0 ↔ Ao a b=true:=by
 unfold fX;by_cases h:a=b
 · subst h
   have: ¬Ao a a=true:=by rw[fm];omega
   simp[this]
 · cases hl:Ao a b<;>simp[h]
theorem Wz:Go.Sort.SWO (Go.Proofs.ltOf fX):=by
 have hl: ∀a b,Go.Proofs.ltOf fX a b=Ao a b:=fun a b=>by
  unfold Go.Proofs.ltOf;cases h:Ao a b
  · have: ¬fX a b<0:=by rw[BH,h];simp
    simpa using this
  · have:fX a b<0:=by rw[BH,h]
    simpa using this
 refine⟨fun x=> ?_,fun x y z h1 h2=> ?_,fun x y z h1 h2=> ?_⟩
 · rw[hl];cases h:Ao x x
   · rfl
   · rw[fm]at h;omega
 · rw[hl]at*
   rw[fm]at*;omega
 · rw[hl]at*
   rw[<-Bool.not_eq_true]at*;rw[fm]at*;omega
def TC:an:={Kq with fix:=fun n=>n==0,nf:=1}
theorem TC_ok:ag Tryz.prog TC:=⟨oV.f,oV.hp⟩
@[go_sem] theorem TC_ords{n:Nat}:TC.c6 n=[]:=rfl
theorem dt:ah Tryz.prog TC Tryz.f185.ntmps (Tryz.f185.body.getD .skip)=true:=by kernel_rfl
theorem vZ(l:List ca)(hl:l.length<=4611686018427387903):dR Tryz.prog 185 [.row 0 0 2 l.length false] [.row 2 (l.map ca.enc)]
 (.row 0 0 2 (aY l).length false) [.row 2 ((aY l++List.replicate (l.length-(aY l).length) (⟨0,0⟩:ca)).map ca.enc)] []:=by
 refine cj TC_ok mixed Tryz.func185 rfl (Nat.le_of_ble_eq_true rfl) (fun n h _=>by simp at h;subst h;rfl) (by show _<=1;simp) (by show 1<=_;simp) dt ?_;unfold Tryz.f185;by_cases h2:(l.length:Int)<2
 · have hc:aY l=l:=by
    match l,h2 with
    | [],_=>rfl
    | [x],_=>rfl
    |_::_::_,h=>simp at h;omega
   rw[hc]
   simp-implicitDefEqProofs (disch:=(first|omega|decide)) only[go_sem,↓reduceIte,seval,h2,List.length_map]
   simp
 · simp-implicitDefEqProofs (disch:=(first|omega|decide)) only[go_sem,↓reduceIte,seval,h2,List.length_map]
   refine ar [0] (ι:={k:Nat//1<=k/\k<=l.length/\aY (l.take k)=l.take k}) (fun p=>[(3,.int .i64 p.1)]) (fun _=>[]) (fun p=>l.length-p.1) ⟨1,by omega,by omega,by match l with| []=>rfl| [x]=>rfl|x::y::l=>rfl⟩ (by show 1<=_;simp) ?_ ?_
   · simp-implicitDefEqProofs (disch:=(first|omega|decide)) only[go_sem,↓reduceIte,seval]
   · rintro⟨k,lC,hk,hd⟩
     simp only;by_cases aw:k<l.length
     · have ae:(k:Int)<(l.length:Int):=by omega
       have du:=o0 lC aw;have e1:(l.map ca.enc)[k]? =some (.agg [.int .i64 l[k].r,.int .i64 l[k].c]):=by rw[List.getElem?_map,List.getElem?_eq_getElem aw];rfl
       have e0:(l.map ca.enc)[k-1]? =some (.agg [.int .i64 l[k-1].r,.int .i64 l[k-1].c]):=by rw[List.getElem?_map,List.getElem?_eq_getElem (by omega)];rfl
       have t0:((k:Int)-1).toNat=k-1:=by omega
       have b0:(0:Int)<=(k:Int)-1:=by omega
       have b1:(k:Int)-1<(l.length:Int):=by omega
       generalize hx:l[k]=x at e1 du;generalize hy:l[k-1]=y at e0 du;obtain⟨r,c1⟩:=x;obtain⟨r',c1'⟩:=y;have next:(⟨r',c1'⟩:ca)≠⟨r,c1⟩->aY (l.take (k+1))=l.take (k+1):=fun cg=>by rw[du,if_neg cg,hd,<-hx];exact List.take_append_getElem aw
       cases h3:r==r' with
       |true=>
        cases h4:c1==c1' with
        |true=>
         obtain rfl:r=r':=by simpa using h3
         obtain rfl:c1=c1':=by simpa using h4
         have b2:(k:Int)<=(l.length:Int):=by omega
         rw[if_pos rfl]at du;have hlen:(aY (l.take (k+1))).length=k:=by rw[du,hd,List.length_take];omega
         have tk:((l.length:Int)-(k:Int)).toNat=l.length-k:=by omega
         simp-implicitDefEqProofs (disch:=(first|omega|decide)) only[go_sem,↓reduceIte,seval,ae,e1,e0,t0,b0,b1,b2,tk,h3,h4,wrap_i64,List.length_map,Int.le_refl]
         clear next e1 e0 hx hy h3 h4 t0 b0
         refine ar [0,4] (ι:={p:Nat×Nat×List ca//1<=p.1/\k+p.1<=l.length/\p.2.1=(aY (l.take (k+p.1))).length/\p.2.2.length=l.length/\p.2.2.take p.2.1=aY (l.take (k+p.1))/\p.2.2.drop (k+p.1-1)=l.drop (k+p.1-1)/\p.2.1<=k+p.1-1}) (fun p=>[(3,.int .i64 p.1.2.1),(5,.int .i64 p.1.1)]) (fun p=>[(0,.row 2 (p.1.2.2.map ca.enc))]) (fun p=>l.length-p.1.1) ⟨(1,k,l),by omega,aw,hlen.symm,rfl,by rw[du,hd],rfl,by show k<=k+1-1;omega⟩ (by show 1<=_;simp) ?_ ?_
         · simp-implicitDefEqProofs (disch:=(first|omega|decide)) only[go_sem,↓reduceIte,seval]
         · rintro⟨⟨j,m,e⟩,hj1,hj,hm,he,ME,hdr,hmj⟩
           simp only at hj1 hj hm he ME hdr hmj
           have get: ∀i,k+j-1<=i->e[i]? =l[i]? :=fun i hi=>by
            have:=congrArg (fun x:List ca=>x[i-(k+j-1)]?) hdr;simp only[List.getElem?_drop]at this
            rwa [show k+j-1+(i-(k+j-1))=i by omega]at this
           by_cases hq:k+j<l.length
           · have MD:(j:Int)<((l.length-k:Nat):Int):=by omega
             have du:=o0 (l:=l) (k:=k+j) (by omega) hq;have e1:(e.map ca.enc)[k+j]? =some (.agg [.int .i64 l[k+j].r,.int .i64 l[k+j].c]):=by rw[List.getElem?_map,get _ (by omega),List.getElem?_eq_getElem hq];rfl
             have e0:(e.map ca.enc)[k+(j-1)]? =some (.agg [.int .i64 l[k+j-1].r,.int .i64 l[k+j-1].c]):=by rw[List.getElem?_map,get _ (by omega),show k+(j-1)=k+j-1 by omega,List.getElem?_eq_getElem (by omega)];rfl
             have t0:((j:Int)-1).toNat=j-1:=by omega
             have b0:(0:Int)<=(j:Int)-1:=by omega
             have b3:(j:Int)-1<((l.length-k:Nat):Int):=by omega
             generalize hx:l[k+j]=x at e1 du;generalize hy:l[k+j-1]=y at e0 du;obtain⟨r,c1⟩:=x;obtain⟨r',c1'⟩:=y
             have ZU:e.drop (k+(j+1)-1)=l.drop (k+(j+1)-1):=by
              have:=congrArg (List.drop 1) hdr
              rwa [List.drop_drop,List.drop_drop,show k+j-1+1=k+(j+1)-1 by omega]at this
             have b4:(m:Int)<(l.length:Int):=by omega
             have b5:m<e.length:=by omega
             have next:(⟨r',c1'⟩:ca)≠⟨r,c1⟩->(m+1=(aY (l.take (k+(j+1)))).length/\(e.set m ⟨r,c1⟩).length=l.length/\(e.set m ⟨r,c1⟩).take (m+1)=aY (l.take (k+(j+1)))/\(e.set m ⟨r,c1⟩).drop (k+(j+1)-1)=l.drop (k+(j+1)-1)/\m+1<=k+(j+1)-1):=fun cg=>by
              rw[if_neg cg]at du;have D1:aY (l.take (k+(j+1)))=aY (l.take (k+j))++[⟨r,c1⟩]:=du;refine⟨by rw[D1,List.length_append,<-hm];rfl,by rw[List.length_set,he], ?_, ?_,by omega⟩
              · rw[D1,<-ME,<-List.take_append_getElem (by rw[List.length_set];exact b5),List.take_set_of_le (Nat.le_refl _)]
                simp
              · rw[List.drop_set_of_lt (by omega)];exact ZU
             have fS:cC (e.map ca.enc) m (.agg [.int .i64 r,.int .i64 c1])=(e.set m ⟨r,c1⟩).map ca.enc:=by rw[ga,List.map_set];rfl
             have em:(e.map ca.enc)[m]? =some (.agg [.int .i64 e[m].r,.int .i64 e[m].c]):=by rw[List.getElem?_map,List.getElem?_eq_getElem b5];rfl
             have spl2: ∀a b x y:A,eB [a,b] 0 [x,y]=[x,y]:=fun _ _ _ _=>rfl;cases h3:r==r' with
             |true=>
              cases h4:c1==c1' with
              |true=>
               obtain rfl:r=r':=by simpa using h3
               obtain rfl:c1=c1':=by simpa using h4
               rw[if_pos rfl]at du;simp-implicitDefEqProofs (disch:=(first|omega|decide)) only[go_sem,↓reduceIte,seval,MD,e1,e0,t0,b0,b3,h3,h4,wrap_i64,List.length_map,Int.le_refl]
               exact⟨⟨(j+1,m,e),by show 1<=j+1;omega,by show k+(j+1)<=_;omega,by show m=(aY (l.take (k+j+1))).length;rw[du,hm],he,by show e.take m=aY (l.take (k+j+1));rw[du,ME],ZU,by show m<=k+(j+1)-1;omega⟩,⟨⟨rfl,by simp⟩,rfl⟩,by show l.length-(j+1)<l.length-j;omega⟩
              |false=>
               have cg:c1≠c1':=by simpa using h4
               simp-implicitDefEqProofs (disch:=(first|omega|decide)) only[go_sem,↓reduceIte,seval,MD,e1,e0,t0,b0,b3,b4,h3,h4,em,fS,spl2,wrap_i64,List.length_map,Int.le_refl]
               exact⟨⟨(j+1,m+1,e.set m ⟨r,c1⟩),by show 1<=j+1;omega,by show k+(j+1)<=_;omega,next (by simp[Ne.symm cg])⟩,⟨⟨by simp,by simp⟩,rfl⟩,by show l.length-(j+1)<l.length-j;omega⟩
             |false=>
              have cg:r≠r':=by simpa using h3
              simp-implicitDefEqProofs (disch:=(first|omega|decide)) only[go_sem,↓reduceIte,seval,MD,e1,e0,t0,b0,b3,b4,h3,em,fS,spl2,wrap_i64,List.length_map,Int.le_refl]
              exact⟨⟨(j+1,m+1,e.set m ⟨r,c1⟩),by show 1<=j+1;omega,by show k+(j+1)<=_;omega,next (by simp[Ne.symm cg])⟩,⟨⟨by simp,by simp⟩,rfl⟩,by show l.length-(j+1)<l.length-j;omega⟩
           · have MD: ¬(j:Int)<((l.length-k:Nat):Int):=by omega
             have b4:(m:Int)<=(l.length:Int):=by omega
             have tm:((l.length:Int)-(m:Int)).toNat=l.length-m:=by omega
             have pK:k+j=l.length:=by omega
             rw[pK,List.take_of_length_le (Nat.le_refl _)]at hm ME;have b6:m+(l.length-m)=l.length:=by omega
             have b7:l.length<=e.length:=by omega
             have b8:(e.map ca.enc).drop l.length=[]:=by rw[List.drop_of_length_le (by rw[List.length_map];omega)]
             have tm0:((m:Int)-0).toNat=m:=by omega
             simp-implicitDefEqProofs (disch:=(first|omega|decide)) only[go_sem,↓reduceIte,seval,MD,b4,tm,tm0,b6,b7,b8,List.length_map,Int.le_refl]
             refine⟨hm, ?_⟩
             rw[List.map_append,<-ME,List.map_take,List.map_replicate,ME,<-hm];rfl
        |false=>
         have cg:c1≠c1':=by simpa using h4
         simp-implicitDefEqProofs (disch:=(first|omega|decide)) only[go_sem,↓reduceIte,seval,ae,e1,e0,t0,b0,b1,h3,h4,wrap_i64,List.length_map]
         exact⟨⟨k+1,by omega,aw,next (by simp[Ne.symm cg])⟩,by simp,by show l.length-(k+1)<l.length-k;omega⟩
       |false=>
        have cg:r≠r':=by simpa using h3
        simp-implicitDefEqProofs (disch:=(first|omega|decide)) only[go_sem,↓reduceIte,seval,ae,e1,e0,t0,b0,b1,h3,wrap_i64,List.length_map]
        exact⟨⟨k+1,by omega,aw,next (by simp[Ne.symm cg])⟩,by simp,by show l.length-(k+1)<l.length-k;omega⟩
     · have ae: ¬(k:Int)<(l.length:Int):=by omega
       have hc:aY l=l:=by rw[List.take_of_length_le (by omega)]at hd;exact hd
       rw[hc]
       simp-implicitDefEqProofs (disch:=(first|omega|decide)) only[go_sem,↓reduceIte,seval,ae,List.length_map]
       simp
theorem eC{Γ:an}{g:Go.FuncId}{e:List A->List Go.bo.Obj->Option (A×List Go.bo.Obj×List Nat)}{xs:List A}{H:List Go.bo.Obj}:(Γ.fj g e).hp g xs H=e xs H:=if_pos rfl
theorem sg{Γ:an}{g h:Go.FuncId}{e:List A->List Go.bo.Obj->Option (A×List Go.bo.Obj×List Nat)}{xs:List A}{H:List Go.bo.Obj}(hn:h≠g):(Γ.fj g e).hp h xs H=Γ.hp h xs H:=if_neg hn
theorem uq(l:List ca)(hl:l.length<4611686018427387904):dR Tryz.prog 184 [.row 0 0 2 l.length false,.fn 166 []] [.row 2 (l.map ca.enc)]
 (.cD []) [.row 2 ((df fX l).map ca.enc)] []:=
 qR Go.Proofs.YtihgnfmoafjakaaGreat.sortVer (by omega) Tryz.isAgg48 Tryz.sizeOf48 ca.cells (fun _=>rfl) (fun x a ha=>by simp only[ca.cells,List.mem_cons,List.not_mem_nil,or_false]at ha;rcases ha with rfl|rfl<;>rfl) fX Wz (bB Tryz.func166 (by kernel_rfl) (by kernel_rfl)) (fun x y=>nv x y) l hl false
def sE(l:List ca):List A:=[.row 0 0 2 l.length false,.fn 166 []]
def sO(l:List ca):List Go.bo.Obj:=[.row 2 (l.map ca.enc)]
def sK(l:List ca):Prop:=l.length<4611686018427387904
def sR(l:List ca):A×List Go.bo.Obj×List Nat:=(.cD [],[.row 2 ((df fX l).map ca.enc)],[])
def cE(l:List ca):List A:=[.row 0 0 2 l.length false]
def cK(l:List ca):Prop:=l.length<=4611686018427387903
def cR(l:List ca):A×List Go.bo.Obj×List Nat:=(.row 0 0 2 (aY l).length false,[.row 2 ((aY l++List.replicate (l.length-(aY l).length) (⟨0,0⟩:ca)).map ca.enc)],[])
theorem sO_inj(i j:List ca)(h:sO i=sO j):i=j:=by simpa[sO]using h
def TSa:an:=T12h.fj 184 (bC sE sO sK sR)
def TSb:an:=TSa.fj 185 (bC cE sO cK cR)
def TS:an:={TSb with mH:=fun f=>f==184||f==185}
theorem TSa_ok:ag Tryz.prog TSa:=T12h_ok.fj (bB Tryz.func184 (by kernel_rfl) (by kernel_rfl)) (cX fun l h=>uq l h)
theorem TSb_ok:ag Tryz.prog TSb:=TSa_ok.fj (bB Tryz.func185 (by kernel_rfl) (by kernel_rfl)) (cX fun l h=>vZ l h)
theorem TS_ok:ag Tryz.prog TS:=⟨TSb_ok.f,TSb_ok.hp⟩
@[go_sem] theorem TS_f:TS.f=T12h.f:=rfl
@[go_sem] theorem TS_eff{g:FuncId}:TS.mH g=(g==184||g==185):=rfl
@[go_sem] theorem TS_frz{g:FuncId}:TS.pZ g=false:=rfl
@[go_sem] theorem TS_fix{n:Nat}:TS.fix n=false:=rfl
@[go_sem] theorem TS_ords{n:Nat}:TS.c6 n=[]:=rfl
theorem TS_sort{l:List ca}{n:Nat}(hn:n=l.length)(h:l.length<4611686018427387904):TS.hp 184 [.row 0 0 2 n false,.fn 166 []] [.row 2 (l.map ca.enc)]=some (.cD [],[.row 2 ((df fX l).map ca.enc)],[]):=by
 subst hn
 have h1:TS.hp 184 (sE l) (sO l)=bC sE sO sK sR (sE l) (sO l):=by
  have h2:TSb.hp 184 (sE l) (sO l)=TSa.hp 184 (sE l) (sO l):=sg (by decide)
  have h3:TSa.hp 184 (sE l) (sO l)=bC sE sO sK sR (sE l) (sO l):=eC;exact h2.trans h3
 exact h1.trans (cY (fun i j _ h=>sO_inj i j h) l h)
theorem TS_comp{l:List ca}{n:Nat}(hn:n=l.length)(h:l.length<=4611686018427387903):TS.hp 185 [.row 0 0 2 n false] [.row 2 (l.map ca.enc)]=some (.row 0 0 2 (aY l).length false,[.row 2 ((aY l++List.replicate (l.length-(aY l).length) (⟨0,0⟩:ca)).map ca.enc)],[]):=by
 subst hn;have h1:TS.hp 185 (cE l) (sO l)=bC cE sO cK cR (cE l) (sO l):=by have h2:TSb.hp 185 (cE l) (sO l)=bC cE sO cK cR (cE l) (sO l):=eC;exact h2
 exact h1.trans (cY (fun i j _ h=>sO_inj i j h) l h)
def eE(l:List ca):List ca:=aY (df fX (l.filter aN))
theorem v_:ah Tryz.prog TS Tryz.f149.ntmps (Tryz.f149.body.getD .skip)=true:=by kernel_rfl
theorem xZ(l:List ca)(hl:l.length<=1000000):ay Tryz.prog 149 [.ab (l.map ca.enc)] (· = .ab ((eE l).map ca.enc)):=by
 refine aa TS_ok mixed Tryz.func149 rfl (Nat.le_of_ble_eq_true rfl) v_ ?_;unfold Tryz.f149;simp-implicitDefEqProofs (disch:=(first|omega|decide)) only[go_sem,↓reduceIte,seval,List.length_map]
 refine aW 3 2 rfl ?_;refine ar [0,2,6,7] (ι:={k:Nat//k<=l.length}) (fun p=>[(8,.int .i64 p.1),(3,.row 0 0 2 ((l.take p.1).filter aN).length false)]) (fun p=>[(0,.row 2 (((l.take p.1).filter aN).map ca.enc))]) (fun p=>l.length-p.1) ⟨0,by omega⟩ (Nat.zero_le _) ?_ ?_
 · simp-implicitDefEqProofs (disch:=(first|omega|decide)) only[go_sem,↓reduceIte,seval]
   simp
 · rintro⟨k,hk⟩
   simp only;have hf:((l.take k).filter aN).length<=k:=Nat.le_trans (List.length_filter_le _ _) (by rw[List.length_take];omega)
   by_cases aw:k<l.length
   · have ae:(k:Int)<(l.length:Int):=by omega
     have ht:l.take (k+1)=l.take k++[l[k]]:=(List.take_append_getElem aw).symm;generalize hx:l[k]=x at ht;obtain⟨r,c⟩:=x;have e1:(l.map ca.enc)[k]? =some (.agg [.int .i64 r,.int .i64 c]):=by rw[List.getElem?_map,List.getElem?_eq_getElem aw,hx];rfl
     cases hr:aN ⟨r,c⟩with
     |true=>
      simp-implicitDefEqProofs (disch:=(first|omega|decide)) only[go_sem,↓reduceIte,seval,ae,e1,hr,wrap_i64,List.length_map]
      refine⟨⟨Nat.le_refl _,by omega⟩,⟨k+1,aw⟩,⟨⟨by simp, ?_⟩, ?_⟩,by show l.length-(k+1)<l.length-k;omega⟩
      · rw[ht,List.filter_append];simp[hr]
      · rw[ht,List.filter_append,List.take_of_length_le (by simp)];simp[hr,ca.enc,ca.cells]
     |false=>
      simp-implicitDefEqProofs (disch:=(first|omega|decide)) only[go_sem,↓reduceIte,seval,ae,e1,hr,wrap_i64,List.length_map]
      refine⟨⟨k+1,aw⟩,⟨⟨by simp, ?_⟩, ?_⟩,by show l.length-(k+1)<l.length-k;omega⟩
      · rw[ht,List.filter_append];simp[hr]
      · rw[ht,List.filter_append];simp[hr]
   · have ae: ¬(k:Int)<(l.length:Int):=by omega
     rw[List.take_of_length_le (by omega)]at*;have hs:=TS_sort (l:=l.filter aN) rfl (by omega)
     have hp:=(dO Wz (l.filter aN)).1.length_eq;have hc:=TS_comp (l:=df fX (l.filter aN)) (n:=(l.filter aN).length) hp.symm (by omega)
     simp-implicitDefEqProofs (disch:=(first|omega|decide)) only[go_sem,↓reduceIte,seval,ae,hs,hc,List.length_map,List.contains_nil,List.contains_cons]
     refine⟨by rw[List.length_append];omega, ?_⟩
     rw[List.map_append,List.take_append_of_le_length (by simp),List.take_of_length_le (by simp)];rfl
set_option maxHeartbeats 8000000
def RY:an:=ZS.add 141 (entry (fun(v:List UInt8×List UInt8)=>[.str v.1,.str v.2]) (fun v=>v.1.length<=9223372036854775807/\v.2.length<=9223372036854775807) (fun v=> .int .i64 (cA v.1 v.2)))
theorem P15a_ok:ag Tryz.prog RY:=L14g_ok.bN Tryz.func141 (by kernel_rfl) (by kernel_rfl) fun v h=>xr v.1 v.2 h.1 h.2
@[go_sem] theorem P15a_old{g:FuncId}{xs:List A}(h:g≠141):RY.f g xs=ZS.f g xs:=an.ak h
theorem KY(v:List UInt8×List UInt8)(h:v.1.length<=9223372036854775807/\v.2.length<=9223372036854775807):RY.f 141 [.str v.1,.str v.2]=some (.int .i64 (cA v.1 v.2)):=an.ao (Γ:=ZS) (fun i j h=>by simpa[Prod.ext_iff,and_assoc]using h) v h
def RZ:an:=RY.add 121 (entry (fun(s:List UInt8)=>[.str s]) (fun s=>s.length<=9223372036854775807) (fun s=> .bool (decide (1<=s.length/\s.length<=16))))
theorem P15b_ok:ag Tryz.prog RZ:=P15a_ok.bN Tryz.func121 (by kernel_rfl) (by kernel_rfl) fun s h=>zu s h
@[go_sem] theorem P15b_old{g:FuncId}{xs:List A}(h:g≠121):RZ.f g xs=RY.f g xs:=an.ak h
theorem Eg(s:List UInt8)(h:s.length<=9223372036854775807):RZ.f 121 [.str s]=some (.bool (decide (1<=s.length/\s.length<=16))):=an.ao (Γ:=RY) (fun i j h=>by simpa[Prod.ext_iff,and_assoc]using h) s h
def R3:an:=RZ.add 85 (entry (fun(v:List UInt8×List UInt8)=>[.str v.1,.str v.2]) (fun v=>v.1.length<=9223372036854775807/\v.2.length<=9223372036854775807) (fun v=> .bool (cA v.1 v.2== -1)))
theorem P15c_ok:ag Tryz.prog R3:=P15b_ok.bN Tryz.func85 (by kernel_rfl) (by kernel_rfl) fun v h=>vo v.1 v.2 h.1 h.2
@[go_sem] theorem P15c_old{g:FuncId}{xs:List A}(h:g≠85):R3.f g xs=RZ.f g xs:=an.ak h
theorem AG(v:List UInt8×List UInt8)(h:v.1.length<=9223372036854775807/\v.2.length<=9223372036854775807):R3.f 85 [.str v.1,.str v.2]=some (.bool (cA v.1 v.2== -1)):=an.ao (Γ:=RZ) (fun i j h=>by simpa[Prod.ext_iff,and_assoc]using h) v h
def R4:an:=R3.add 122 (entry (fun(s:List UInt8)=>[.str s]) (fun s=>s.length<=9223372036854775807) (fun s=> .bool (decide (1<=s.length/\s.length<=16))))
theorem P15d_ok:ag Tryz.prog R4:=P15c_ok.bN Tryz.func122 (by kernel_rfl) (by kernel_rfl) fun s h=>tg s h
@[go_sem] theorem P15d_old{g:FuncId}{xs:List A}(h:g≠122):R4.f g xs=R3.f g xs:=an.ak h
theorem x_(s:List UInt8)(h:s.length<=9223372036854775807):R4.f 122 [.str s]=some (.bool (decide (1<=s.length/\s.length<=16))):=an.ao (Γ:=R3) (fun i j h=>by simpa[Prod.ext_iff,and_assoc]using h) s h
def R5:an:=R4.add 142 (entry (fun(r:List UInt8×List UInt8×Bool)=>[.agg [.str r.1,.str r.2.1,.bool r.2.2]]) (fun r=>r.1.length<=9223372036854775807/\r.2.1.length<=9223372036854775807) (fun r=> .bool (aA ⟨r.1,r.2.1,r.2.2⟩)))
theorem P15e_ok:ag Tryz.prog R5:=P15d_ok.bN Tryz.func142 (by kernel_rfl) (by kernel_rfl) fun r h=>vq r.1 r.2.1 r.2.2 h.1 h.2
@[go_sem] theorem P15e_old{g:FuncId}{xs:List A}(h:g≠142):R5.f g xs=R4.f g xs:=an.ak h
theorem AH(r:List UInt8×List UInt8×Bool)(h:r.1.length<=9223372036854775807/\r.2.1.length<=9223372036854775807):R5.f 142 [.agg [.str r.1,.str r.2.1,.bool r.2.2]]=some (.bool (aA ⟨r.1,r.2.1,r.2.2⟩)):=an.ao (Γ:=R4) (fun i j h=>by simpa[Prod.ext_iff,and_assoc]using h) r h
def R6:an:=R5.add 132 (entry (fun(r:List UInt8×List UInt8×Bool)=>[.agg [.str r.1,.str r.2.1,.bool r.2.2]]) (fun r=>r.1.length<=9223372036854775807/\r.2.1.length<=9223372036854775807) (fun r=> .bool (aA ⟨r.1,r.2.1,r.2.2⟩)))
theorem P15f_ok:ag Tryz.prog R6:=P15e_ok.bN Tryz.func132 (by kernel_rfl) (by kernel_rfl) fun r h=>th r.1 r.2.1 r.2.2 h.1 h.2
@[go_sem] theorem P15f_old{g:FuncId}{xs:List A}(h:g≠132):R6.f g xs=R5.f g xs:=an.ak h
theorem ya(r:List UInt8×List UInt8×Bool)(h:r.1.length<=9223372036854775807/\r.2.1.length<=9223372036854775807):R6.f 132 [.agg [.str r.1,.str r.2.1,.bool r.2.2]]=some (.bool (aA ⟨r.1,r.2.1,r.2.2⟩)):=an.ao (Γ:=R5) (fun i j h=>by simpa[Prod.ext_iff,and_assoc]using h) r h
def R7:an:=R6.add 128 (entry (fun(r:(List UInt8×List UInt8×Bool)×List UInt8)=>[.agg [.str r.1.1,.str r.1.2.1,.bool r.1.2.2],.str r.2]) (fun r=>(r.1.1.length<=9223372036854775807/\r.1.2.1.length<=9223372036854775807)/\r.2.length<=9223372036854775807) (fun r=> .bool (b_ ⟨r.1.1,r.1.2.1,r.1.2.2⟩ r.2)))
theorem P15g_ok:ag Tryz.prog R7:=P15f_ok.bN Tryz.func128 (by kernel_rfl) (by kernel_rfl) fun r h=>C0 r.1.1 r.1.2.1 r.2 r.1.2.2 h.1.1 h.1.2 h.2
@[go_sem] theorem P15g_old{g:FuncId}{xs:List A}(h:g≠128):R7.f g xs=R6.f g xs:=an.ak h
theorem GU(r:(List UInt8×List UInt8×Bool)×List UInt8)(h:(r.1.1.length<=9223372036854775807/\r.1.2.1.length<=9223372036854775807)/\r.2.length<=9223372036854775807):R7.f 128 [.agg [.str r.1.1,.str r.1.2.1,.bool r.1.2.2],.str r.2]=some (.bool (b_ ⟨r.1.1,r.1.2.1,r.1.2.2⟩ r.2)):=an.ao (Γ:=R6) (fun i j h=>by simpa[Prod.ext_iff,and_assoc]using h) r h
def R9:an:=R7.add 96 (entry (fun(r:(List UInt8×List UInt8×Bool)×List UInt8)=>[.agg [.str r.1.1,.str r.1.2.1,.bool r.1.2.2],.str r.2]) (fun r=>(r.1.1.length<=9223372036854775807/\r.1.2.1.length<=9223372036854775807)/\r.2.length<=9223372036854775807) (fun r=> .bool (b_ ⟨r.1.1,r.1.2.1,r.1.2.2⟩ r.2)))
theorem P15h_ok:ag Tryz.prog R9:=P15g_ok.bN Tryz.func96 (by kernel_rfl) (by kernel_rfl) fun r h=>zw r.1.1 r.1.2.1 r.2 r.1.2.2 h.1.1 h.1.2 h.2
@[go_sem] theorem P15h_old{g:FuncId}{xs:List A}(h:g≠96):R9.f g xs=R7.f g xs:=an.ak h
theorem Eh(r:(List UInt8×List UInt8×Bool)×List UInt8)(h:(r.1.1.length<=9223372036854775807/\r.1.2.1.length<=9223372036854775807)/\r.2.length<=9223372036854775807):R9.f 96 [.agg [.str r.1.1,.str r.1.2.1,.bool r.1.2.2],.str r.2]=some (.bool (b_ ⟨r.1.1,r.1.2.1,r.1.2.2⟩ r.2)):=an.ao (Γ:=R7) (fun i j h=>by simpa[Prod.ext_iff,and_assoc]using h) r h
def R_:an:=R9.add 154 (entry (fun(s:List UInt8)=>[.str s]) (fun s=>s.length<=9223372036854775807) (fun s=>(nq s).enc))
theorem P15i_ok:ag Tryz.prog R_:=P15h_ok.bN Tryz.func154 (by kernel_rfl) (by kernel_rfl) fun s h=>Ix s h
@[go_sem] theorem P15i_old{g:FuncId}{xs:List A}(h:g≠154):R_.f g xs=R9.f g xs:=an.ak h
theorem KZ(s:List UInt8)(h:s.length<=9223372036854775807):R_.f 154 [.str s]=some ((nq s).enc):=an.ao (Γ:=R9) (fun i j h=>by simpa[Prod.ext_iff,and_assoc]using h) s h
def Sa:an:=R_.add 152 (entry (fun(s:List UInt8)=>[.str s]) (fun s=>s.length<=9223372036854775807) (fun s=>(nq s).enc))
theorem P15j_ok:ag Tryz.prog Sa:=P15i_ok.bN Tryz.func152 (by kernel_rfl) (by kernel_rfl) fun s h=>CV s h
@[go_sem] theorem P15j_old{g:FuncId}{xs:List A}(h:g≠152):Sa.f g xs=R_.f g xs:=an.ak h
theorem GV(s:List UInt8)(h:s.length<=9223372036854775807):Sa.f 152 [.str s]=some ((nq s).enc):=an.ao (Γ:=R_) (fun i j h=>by simpa[Prod.ext_iff,and_assoc]using h) s h
def Sb:an:=Sa.add 135 (entry (fun(l:List ax)=>[.ab (l.map ax.enc)]) (fun l=>l.length<=1000000/\dB l) (fun l=> .ab ((dv (aj l)).map ax.enc)))
theorem P15k_ok:ag Tryz.prog Sb:=P15j_ok.bN Tryz.func135 (by kernel_rfl) (by kernel_rfl) fun l h=>rf l h.1 h.2
@[go_sem] theorem P15k_old{g:FuncId}{xs:List A}(h:g≠135):Sb.f g xs=Sa.f g xs:=an.ak h
theorem Ei(l:List ax)(h:l.length<=1000000/\dB l):Sb.f 135 [.ab (l.map ax.enc)]=some (.ab ((dv (aj l)).map ax.enc)):=an.ao (Γ:=Sa) (fun i j h=>by simpa[Prod.ext_iff,and_assoc]using h) l h
def K0:an:=Sb.add 70 (entry (fun(v:List ax×List UInt8)=>[.ab (v.1.map ax.enc),.str v.2]) (fun v=>v.1.length<=100000/\dB v.1/\v.2.length<=9223372036854775807) (fun v=> .bool (aj v.1 v.2)))
theorem P15l_ok:ag Tryz.prog K0:=P15k_ok.bN Tryz.func70 (by kernel_rfl) (by kernel_rfl) fun v h=>KW v.1 v.2 h.1 h.2.1 h.2.2
@[go_sem] theorem P15l_old{g:FuncId}{xs:List A}(h:g≠70):K0.f g xs=Sb.f g xs:=an.ak h
theorem AI(v:List ax×List UInt8)(h:v.1.length<=100000/\dB v.1/\v.2.length<=9223372036854775807):K0.f 70 [.ab (v.1.map ax.enc),.str v.2]=some (.bool (aj v.1 v.2)):=an.ao (Γ:=Sb) (fun i j h=>by simpa[Prod.ext_iff,and_assoc]using h) v h
def P15m:an:=K0.add 195 (entry (fun(v:List ax×List ax)=>[.ab (v.1.map ax.enc),.ab (v.2.map ax.enc)]) (fun v=>(v.1.length<=100000/\v.2.length<=100000)/\dB v.1/\dB v.2) (fun v=> .ab ((dv fun s=>aj v.1 s&&aj v.2 s).map ax.enc)))
theorem P15m_ok:ag Tryz.prog P15m:=P15l_ok.bN Tryz.func195 (by kernel_rfl) (by kernel_rfl) fun v h=>GP v.1 v.2 h.1.1 h.1.2 h.2.1 h.2.2
@[go_sem] theorem P15m_old{g:FuncId}{xs:List A}(h:g≠195):P15m.f g xs=K0.f g xs:=an.ak h
def P15n:an:=P15m.add 197 (entry (fun(l:List ax)=>[.ab (l.map ax.enc)]) (fun l=>l.length<=100000/\dB l) (fun l=> .ab ((dv fun s=> !aj l s).map ax.enc)))
theorem P15n_ok:ag Tryz.prog P15n:=P15m_ok.bN Tryz.func197 (by kernel_rfl) (by kernel_rfl) fun l h=>KV l h.1 h.2
@[go_sem] theorem P15n_old{g:FuncId}{xs:List A}(h:g≠197):P15n.f g xs=P15m.f g xs:=an.ak h
def Ej:an:=P15n.add 36 (entry (fun(v:List ax×List UInt8)=>[.ab (v.1.map ax.enc),.str v.2]) (fun v=>v.1.length<=100000/\dB v.1/\v.2.length<=9223372036854775807) (fun v=> .bool (aj v.1 v.2)))
theorem P15o_ok:ag Tryz.prog Ej:=P15n_ok.bN Tryz.func36 (by kernel_rfl) (by kernel_rfl) fun v h=>OP v.1 v.2 (by omega) h.2.1 h.2.2
@[go_sem] theorem P15o_old{g:FuncId}{xs:List A}(h:g≠36):Ej.f g xs=P15n.f g xs:=an.ak h
theorem Ek(v:List ax×List UInt8)(h:v.1.length<=100000/\dB v.1/\v.2.length<=9223372036854775807):Ej.f 36 [.ab (v.1.map ax.enc),.str v.2]=some (.bool (aj v.1 v.2)):=an.ao (Γ:=P15n) (fun i j h=>by simpa[Prod.ext_iff,and_assoc]using h) v h
def WA:an:=Ej.add 107 (entry (fun(v:List ax×List ax)=>[.ab (v.1.map ax.enc),.ab (v.2.map ax.enc)]) (fun v=>(v.1.length<=1000/\v.2.length<=1000)/\dB v.1/\dB v.2) (fun v=> .ab ((ja v.1 v.2).map .str)))
theorem P15p_ok:ag Tryz.prog WA:=P15o_ok.bN Tryz.func107 (by kernel_rfl) (by kernel_rfl) fun v h=>GN v.1 v.2 h.1.1 h.1.2 h.2.1 h.2.2
@[go_sem] theorem P15p_old{g:FuncId}{xs:List A}(h:g≠107):WA.f g xs=Ej.f g xs:=an.ak h
theorem yb(v:List ax×List ax)(h:(v.1.length<=1000/\v.2.length<=1000)/\dB v.1/\dB v.2):WA.f 107 [.ab (v.1.map ax.enc),.ab (v.2.map ax.enc)]=some (.ab ((ja v.1 v.2).map .str)):=an.ao (Γ:=Ej) (fun i j h=>by simpa[Prod.ext_iff,and_assoc]using h) v h
def WB:an:=WA.add 66 (entry (fun(v:List ax×Int)=>[.ab (v.1.map ax.enc),.int .i64 v.2]) (fun v=>v.1.length<=4611686018427387904) (fun v=> .bool (gw v.1 v.2)))
theorem P15q_ok:ag Tryz.prog WB:=P15p_ok.bN Tryz.func66 (by kernel_rfl) (by kernel_rfl) fun v h=>KM v.1 v.2 h
@[go_sem] theorem P15q_old{g:FuncId}{xs:List A}(h:g≠66):WB.f g xs=WA.f g xs:=an.ak h
def AJ:an:=WB.add 149 (entry (fun(l:List ca)=>[.ab (l.map ca.enc)]) (fun l=>l.length<=1000000) (fun l=> .ab ((eE l).map ca.enc)))
theorem BI:ag Tryz.prog AJ:=P15q_ok.bN Tryz.func149 (by kernel_rfl) (by kernel_rfl) fun l h=>xZ l h
@[go_sem] theorem P15r_old{g:FuncId}{xs:List A}(h:g≠149):AJ.f g xs=WB.f g xs:=an.ak h
@[go_sem] theorem P15r_s:AJ.pl WB:=⟨fun _=>rfl,fun _=>rfl,rfl,fun _=>rfl,rfl,fun _=>rfl,rfl⟩
theorem sP(l:List ca)(h:l.length<=1000000):AJ.f 149 [.ab (l.map ca.enc)]=some (.ab ((eE l).map ca.enc)):=an.ao (Γ:=WB) (fun i j h=>by simpa[Prod.ext_iff,and_assoc]using h) l h
@[go_sem] theorem I1{a b:List UInt8}(h:a.length<=9223372036854775807/\b.length<=9223372036854775807):RY.f 141 [.str a,.str b]=some (.int .i64 (cA a b)):=KY (a,b) h
@[go_sem] theorem zR{s:List UInt8}(h:s.length<=9223372036854775807):RZ.f 121 [.str s]=some (.bool (decide (1<=s.length/\s.length<=16))):=Eg s h
@[go_sem] theorem jQ{a b:List UInt8}(h:a.length<=9223372036854775807/\b.length<=9223372036854775807):R3.f 85 [.str a,.str b]=some (.bool (cA a b== -1)):=AG (a,b) h
@[go_sem] theorem tt{s:List UInt8}(h:s.length<=9223372036854775807):R4.f 122 [.str s]=some (.bool (decide (1<=s.length/\s.length<=16))):=x_ s h
@[go_sem] theorem p_span_Right{lo hi:List UInt8}{op:Bool}(h:lo.length<=9223372036854775807/\hi.length<=9223372036854775807):R5.f 142 [.agg [.str lo,.str hi,.bool op]]=some (.bool (aA ⟨lo,hi,op⟩)):=AH (lo,hi,op) h
@[go_sem] theorem p_ref07_Right{lo hi:List UInt8}{op:Bool}(h:lo.length<=9223372036854775807/\hi.length<=9223372036854775807):R6.f 132 [.agg [.str lo,.str hi,.bool op]]=some (.bool (aA ⟨lo,hi,op⟩)):=ya (lo,hi,op) h
@[go_sem] theorem p_span_Has{lo hi s:List UInt8}{op:Bool}(h:(lo.length<=9223372036854775807/\hi.length<=9223372036854775807)/\s.length<=9223372036854775807):R7.f 128 [.agg [.str lo,.str hi,.bool op],.str s]=some (.bool (b_ ⟨lo,hi,op⟩ s)):=GU ((lo,hi,op),s) h
@[go_sem] theorem p_ref07_Has{lo hi s:List UInt8}{op:Bool}(h:(lo.length<=9223372036854775807/\hi.length<=9223372036854775807)/\s.length<=9223372036854775807):R9.f 96 [.agg [.str lo,.str hi,.bool op],.str s]=some (.bool (b_ ⟨lo,hi,op⟩ s)):=Eh ((lo,hi,op),s) h
@[go_sem] theorem p_span_Of{s:List UInt8}(h:s.length<=9223372036854775807):R_.f 154 [.str s]=some ((nq s).enc):=KZ s h
@[go_sem] theorem p_ref07_Of{s:List UInt8}(h:s.length<=9223372036854775807):Sa.f 152 [.str s]=some ((nq s).enc):=GV s h
theorem O6{l:List ax}(h:l.length<=1000000)(h':dB l):Sb.f 135 [.ab (l.map ax.enc)]=some (.ab ((dv (aj l)).map ax.enc)):=Ei l ⟨h,h'⟩
theorem jR{l:List ax}{s:List UInt8}(h:l.length<=100000)(h':dB l)(hs:s.length<=9223372036854775807):K0.f 70 [.ab (l.map ax.enc),.str s]=some (.bool (aj l s)):=AI (l,s) ⟨h,h',hs⟩
theorem fE{l:List ax}{s:List UInt8}(h:l.length<=100000)(h':dB l)(hs:s.length<=9223372036854775807):Ej.f 36 [.ab (l.map ax.enc),.str s]=some (.bool (aj l s)):=Ek (l,s) ⟨h,h',hs⟩
theorem GW{a b:List ax}(h:a.length<=1000/\b.length<=1000)(ha:dB a)(hb:dB b):WA.f 107 [.ab (a.map ax.enc),.ab (b.map ax.enc)]=some (.ab ((ja a b).map .str)):=yb (a,b) ⟨h,ha,hb⟩
theorem O7{l:List ca}(h:l.length<=1000000):AJ.f 149 [.ab (l.map ca.enc)]=some (.ab ((eE l).map ca.enc)):=sP l h
def Pc.cells(p:Pc):List A:=[.str p.r.lo,.str p.r.hi,.bool p.r.op,.ab (p.s.map ad.enc)]
def Pc.enc(p:Pc):A:= .agg p.cells
@[go_sem] theorem Pc.tV{lo hi:List UInt8}{op:Bool}{s:List ad}:Pc.enc ⟨⟨lo,hi,op⟩,s⟩= .agg [.str lo,.str hi,.bool op,.ab (s.map ad.enc)]:=rfl
theorem Pc.eD(v w:Pc)(h:v.enc=w.enc):v=w:=by obtain⟨⟨a,b,c⟩,d⟩:=v;obtain⟨⟨a',b',c'⟩,d'⟩:=w;simp only[Pc.tV,A.agg.injEq,List.cons.injEq,A.str.injEq,A.bool.injEq,A.ab.injEq,and_true,Gt]at h;obtain⟨rfl,rfl,rfl,rfl⟩:=h;rfl
@[simp] theorem map_pc_inj{l m:List Pc}:(l.map Pc.enc=m.map Pc.enc)=(l=m):=map_inj Pc.eD
theorem gz{l:List Pc}{k:Nat}(h:k<l.length):(l.map Pc.enc)[k]? =some (.agg [.str l[k].r.lo,.str l[k].r.hi,.bool l[k].r.op,.ab (l[k].s.map ad.enc)]):=by rw[List.getElem?_map,List.getElem?_eq_getElem h];rfl
def wP(k:List Pc):Nat:=(k.map fun p=>p.s.length+bA p.s).sum
def cV(k:List Pc):Prop:=(k.length<=10000/\wP k<=900000)/\ ∀p∈k,p.r.lo.length<=9223372036854775807/\p.r.hi.length<=9223372036854775807
def iI(k:List Pc):Prop:=cV k/\(∀x,(setAt k x).length+bA (setAt k x)<=40000)/\ ∀p∈k,p.s.length+bA p.s<=40000
theorem Uq{a:Int}{c:Nat}: ∀k:Nat,((List.range k).map fun i:Nat=>if a=(i:Int)+1 then c else 0).sum<=if 1<=a/\a<=k then c else 0
 |0=>by simp
 |k+1=>by
  have ih:=Uq (a:=a) (c:=c) k;rw[List.range_succ,List.map_append,List.sum_append]
  simp only[List.map_cons,List.map_nil,List.sum_cons,List.sum_nil,Nat.add_zero]
  by_cases h:a=(k:Int)+1
  · rw[if_neg (by omega)]at ih
    rw[if_pos h,if_pos (by omega)];omega
  · rw[if_neg h,Nat.add_zero]
    refine Nat.le_trans ih ?_;by_cases h1:1<=a/\a<=(k:Int)
    · rw[if_pos h1,if_pos (by omega)];exact Nat.le_refl _
    · rw[if_neg h1];exact Nat.zero_le _
theorem sum_add{f g:Nat->Nat}(l:List Nat):(l.map fun i=>f i+g i).sum=(l.map f).sum+(l.map g).sum:=by
 induction l with
 |nil=>rfl
 |cons x l ih=>simp only[List.map_cons,List.sum_cons,ih];omega
theorem Em(s:List ad)(k:Nat):((List.range k).map fun i:Nat=>(aD s ((i:Int)+1)).length).sum<=bA s:=by
 induction s with
 |nil=>
  have: ∀l:List Nat,(l.map fun i:Nat=>(aD [] ((i:Int)+1)).length).sum=0:=fun l=>by
   induction l with
   |nil=>rfl
   |cons x l ih=>rw[List.map_cons,List.sum_cons,ih];rfl
  rw[this];exact Nat.zero_le _
 |cons q s ih=>
  have e:(fun i:Nat=>(aD (q::s) ((i:Int)+1)).length)=fun i:Nat=>(if q.n=(i:Int)+1 then q.rs.length else 0)+(aD s ((i:Int)+1)).length:=by
   funext i
   simp only[aD]
   split
   · rw[List.length_append]
   · rw[Nat.zero_add]
  have e2:bA (q::s)=q.rs.length+bA s:=by unfold bA;rw[List.map_cons,List.sum_cons]
  rw[e,sum_add,e2]
  have h1:=Uq (a:=q.n) (c:=q.rs.length) k;have h2:(if 1<=q.n/\q.n<=(k:Int)then q.rs.length else 0)<=q.rs.length:=by split<;>omega
  omega
theorem K7(t:Int->List aF): ∀k,bA (mV t k)<=((List.range k).map fun i:Nat=>(t ((i:Int)+1)).length).sum
 |0=>by simp[mV,bA]
 |k+1=>by
  have ih:=K7 t k;rw[List.range_succ,List.map_append,List.sum_append]
  simp only[List.map_cons,List.map_nil,List.sum_cons,List.sum_nil,Nat.add_zero,mV]
  split
  · omega
  · rw[dZ]
    have e:bA [⟨(k:Int)+1,t (k+1)⟩]=(t (k+1)).length:=by simp[bA]
    omega
theorem sum_le{f g:Nat->Nat}(h: ∀i,f i<=g i)(l:List Nat):(l.map f).sum<=(l.map g).sum:=by
 induction l with
 |nil=>exact Nat.le_refl _
 |cons x l ih=>simp only[List.map_cons,List.sum_cons];have:=h x;omega
theorem En(s:List ad):(dG s).length<=16/\bA (dG s)<=bA s:=by unfold dG mJ;refine⟨oT _ 16,Nat.le_trans (K7 _ 16) (Nat.le_trans (sum_le (fun i=>lO _) _) (Em s 16))⟩
theorem opK_w(op:Int)(a b:List ad):(RB op a b).length<=16/\bA (RB op a b)<=2*bA a+2*bA b:=by
 refine⟨by unfold RB mJ;exact oT _ 16, ?_⟩
 have h1:=K7 (fun n=>cJ (jA op (aD a n) (aD b n))) 16
 have h2:=sum_le (f:=fun i:Nat=>(cJ (jA op (aD a ((i:Int)+1)) (aD b ((i:Int)+1)))).length) (g:=fun i:Nat=>((aD a ((i:Int)+1)).length+(aD a ((i:Int)+1)).length)+((aD b ((i:Int)+1)).length+(aD b ((i:Int)+1)).length)) (fun i=>by
  have:=OF op (aD a ((i:Int)+1)) (aD b ((i:Int)+1))
  omega) (List.range 16)
 rw[sum_add,sum_add,sum_add]at h2;have h3:=Em a 16;have h4:=Em b 16;have h5:bA (RB op a b)<=((List.range 16).map fun i:Nat=>(cJ (jA op (aD a ((i:Int)+1)) (aD b ((i:Int)+1)))).length).sum:=h1;omega
theorem o5(p:Pc)(k:List Pc):wP (p::k)=(p.s.length+bA p.s)+wP k:=by unfold wP;rw[List.map_cons,List.sum_cons]
theorem I2(k m:List Pc):wP (k++m)=wP k+wP m:=by simp[wP]
theorem wP_mem{k:List Pc}{p:Pc}(h:p∈k):p.s.length+bA p.s<=wP k:=by
 induction k with
 |nil=>cases h
 |cons q k ih=>
  rw[o5]
  rcases List.mem_cons.1 h with rfl|h
  · omega
  · have:=ih h;omega
theorem fq{k:List Pc}(h:cV k){p:Pc}(hp:p∈k):aK p.s:=by have:=wP_mem hp;have:=h.1.2;exact⟨by omega,by omega⟩
theorem na(k:List Pc)(x:List UInt8):(setAt k x).length+bA (setAt k x)<=wP k:=by
 induction k with
 |nil=>simp[setAt,bA]
 |cons p k ih=>
  have e:setAt (p::k) x=(if b_ p.r x=true then p.s else [])++setAt k x:=by
   unfold setAt;by_cases h:b_ p.r x=true
   · simp[h]
   · simp[h]
  rw[e,List.length_append,dZ,o5]
  split
  · omega
  · simp only[List.length_nil]
    have:bA []=0:=rfl;omega
theorem okR_w{k:List Pc}(h:cV k)(hw:wP k<=40000):iI k:=⟨h,fun x=>Nat.le_trans (na k x) hw,fun p hp=>Nat.le_trans (wP_mem hp) hw⟩
theorem ri{k:List Pc}(h:cV k)(x:List UInt8):aK (setAt k x)/\aK (dG (setAt k x)):=by
 have h1:=na k x;have h2:=h.1.2;have h3:=En (setAt k x)
 exact⟨⟨by omega,by omega⟩,⟨by omega,by omega⟩⟩
theorem nV{k:List Pc}(h:iI k)(x:List UInt8):mr (setAt k x)/\mr (dG (setAt k x)):=by have h1:=h.2.1 x;exact⟨ZJ (by omega) (by omega),Uh (by omega)⟩
def cL(k:List Pc)(x:List UInt8):List ad:=dG (setAt k x)
theorem Eo{k:List Pc}{j:Nat}(h:j<k.length)(x:List UInt8):setAt (k.take (j+1)) x=setAt (k.take j) x++(if b_ k[j].r x=true then k[j].s else []):=by
 rw[<-List.take_append_getElem h,iA]
 congr 1
 unfold setAt;by_cases h:b_ k[j].r x=true
 · simp[h]
 · simp[h]
theorem Ur{k:List Pc}{j:Nat}(h:j<k.length):wP (k.take j)+(k[j].s.length+bA k[j].s)<=wP k:=by
 have e:k=k.take j++k[j]::k.drop (j+1):=by rw[<-List.drop_eq_getElem_cons h,List.take_append_drop]
 have h2:wP k=wP (k.take j)+wP (k[j]::k.drop (j+1)):=by rw[<-I2,<-e]
 have h3:=o5 k[j] (k.drop (j+1))
 omega
theorem stKns(l:List ad):((l.map ad.enc).isEmpty||cd (l.map ad.enc)==2)=true:=by cases l<;>rfl
def A15:an:={AJ with mH:=fun f=>f==176||f==134,pZ:=fun f=>f==176||f==134}
theorem A15_ok:ag Tryz.prog A15:=⟨BI.f,BI.hp⟩
@[go_sem] theorem A15_f:A15.f=AJ.f:=rfl
@[go_sem] theorem A15_eff{g:FuncId}:A15.mH g=(g==176||g==134):=rfl
@[go_sem] theorem A15_frz{g:FuncId}:A15.pZ g=(g==176||g==134):=rfl
@[go_sem] theorem A15_fix{n:Nat}:A15.fix n=false:=rfl
@[go_sem] theorem A15_ords{n:Nat}:A15.c6 n=[]:=rfl
theorem Sc:ah Tryz.prog A15 Tryz.f139.ntmps (Tryz.f139.body.getD .skip)=true:=by kernel_rfl
theorem WC(k:List Pc)(x:List UInt8)(hk:cV k)(hx:x.length<=9223372036854775807):ay Tryz.prog 139 [.ab (k.map Pc.enc),.str x] (· = .ab ((cL k x).map ad.enc)):=by
 refine aa A15_ok mixed Tryz.func139 rfl (Nat.le_of_ble_eq_true rfl) Sc ?_;unfold Tryz.f139;obtain⟨⟨k1,k2⟩,k3⟩:=id hk;simp-implicitDefEqProofs (disch:=(first|omega|decide)) only[go_sem,↓reduceIte,seval,List.length_map]
 refine aW 5 2 rfl ?_;refine ar [0,1,8,9] (ι:={j:Nat//j<=k.length}) (fun p=>[(10,.int .i64 p.1),(5,.row 0 0 2 (setAt (k.take p.1) x).length false)]) (fun p=>[(0,.row 2 ((setAt (k.take p.1) x).map ad.enc))]) (fun p=>k.length-p.1) ⟨0,by omega⟩ (Nat.zero_le _) ?_ ?_
 · simp-implicitDefEqProofs (disch:=(first|omega|decide)) only[go_sem,↓reduceIte,seval]
   simp[setAt]
 · rintro⟨j,hj⟩
   simp only;have hw:=na (k.take j) x;by_cases aw:j<k.length
   · have ae:(j:Int)<(k.length:Int):=by omega
     have e1:=gz aw;have hm:=Ur aw;have eZ:=Eo aw x;have g_:=k3 _ (List.getElem_mem aw)
     generalize hp:k[j]=p at*;obtain⟨⟨lo,hi,op⟩,s⟩:=p;simp only at hm eZ g_;have st:=stKns s;cases h2:b_ ⟨lo,hi,op⟩ x with
     |false=>
      rw[h2,if_neg (by simp),List.append_nil]at eZ;simp-implicitDefEqProofs (disch:=(first|omega|decide)) only[go_sem,↓reduceIte,seval,ae,e1,h2,wrap_i64,List.length_map]
      exact⟨⟨j+1,aw⟩,⟨⟨by simp,by rw[eZ]⟩,by rw[eZ]⟩,by show k.length-(j+1)<k.length-j;omega⟩
     |true=>
      rw[h2,if_pos rfl]at eZ;simp-implicitDefEqProofs (disch:=(first|omega|decide)) only[go_sem,↓reduceIte,seval,ae,e1,h2,st,wrap_i64,List.length_map]
      exact⟨⟨Nat.le_refl _,by omega⟩,⟨j+1,aw⟩,⟨⟨by simp,by rw[eZ,List.length_append]⟩,by rw[eZ,List.map_append,List.take_of_length_le (by simp)]⟩,by show k.length-(j+1)<k.length-j;omega⟩
   · have ae: ¬(j:Int)<(k.length:Int):=by omega
     rw[List.take_of_length_le (by omega)]at*;have ho:=sx (ri hk x).1;have tl:((setAt k x).map ad.enc).take (setAt k x).length=(setAt k x).map ad.enc:=List.take_of_length_le (by simp)
     simp-implicitDefEqProofs (disch:=(first|omega|decide)) only[go_sem,↓reduceIte,seval,ae,ho,tl,List.length_map,List.contains_nil,List.contains_cons]
     exact⟨Nat.le_refl _,rfl⟩
theorem O8:ah Tryz.prog A15 Tryz.f192.ntmps (Tryz.f192.body.getD .skip)=true:=by kernel_rfl
theorem Sd(k:List Pc)(x:List UInt8)(hk:iI k)(hx:x.length<=9223372036854775807):ay Tryz.prog 192 [.ab (k.map Pc.enc),.str x] (· = .ab ((cL k x).map ad.enc)):=by
 refine aa A15_ok mixed Tryz.func192 rfl (Nat.le_of_ble_eq_true rfl) O8 ?_;unfold Tryz.f192;obtain⟨⟨⟨k1,k2⟩,k3⟩,k4⟩:=id hk;simp-implicitDefEqProofs (disch:=(first|omega|decide)) only[go_sem,↓reduceIte,seval,List.length_map]
 refine aW 5 2 rfl ?_;refine ar [0,1] (ι:={j:Nat//j<=k.length}) (fun p=>[(6,.int .i64 p.1),(5,.row 0 0 2 (setAt (k.take p.1) x).length false)]) (fun p=>[(0,.row 2 ((setAt (k.take p.1) x).map ad.enc))]) (fun p=>k.length-p.1) ⟨0,by omega⟩ (Nat.zero_le _) ?_ ?_
 · simp-implicitDefEqProofs (disch:=(first|omega|decide)) only[go_sem,↓reduceIte,seval]
   simp[setAt]
 · rintro⟨j,hj⟩
   simp only;have hw:=na (k.take j) x;by_cases aw:j<k.length
   · have ae:(j:Int)<(k.length:Int):=by omega
     have e1:=gz aw;have hm:=Ur aw;have eZ:=Eo aw x;have g_:=k3 _ (List.getElem_mem aw)
     generalize hp:k[j]=p at*;obtain⟨⟨lo,hi,op⟩,s⟩:=p;simp only at hm eZ g_;have st:=stKns s;cases h2:b_ ⟨lo,hi,op⟩ x with
     |false=>
      rw[h2,if_neg (by simp),List.append_nil]at eZ;simp-implicitDefEqProofs (disch:=(first|omega|decide)) only[go_sem,↓reduceIte,seval,ae,e1,h2,wrap_i64,List.length_map]
      exact⟨⟨j+1,aw⟩,⟨⟨by simp,by rw[eZ]⟩,by rw[eZ]⟩,by show k.length-(j+1)<k.length-j;omega⟩
     |true=>
      rw[h2,if_pos rfl]at eZ;simp-implicitDefEqProofs (disch:=(first|omega|decide)) only[go_sem,↓reduceIte,seval,ae,e1,h2,st,wrap_i64,List.length_map]
      exact⟨⟨Nat.le_refl _,by omega⟩,⟨j+1,aw⟩,⟨⟨by simp,by rw[eZ,List.length_append]⟩,by rw[eZ,List.map_append,List.take_of_length_le (by simp)]⟩,by show k.length-(j+1)<k.length-j;omega⟩
   · have ae: ¬(j:Int)<(k.length:Int):=by omega
     rw[List.take_of_length_le (by omega)]at*;have ho:=DQ (nV hk x).1;have tl:((setAt k x).map ad.enc).take (setAt k x).length=(setAt k x).map ad.enc:=List.take_of_length_le (by simp)
     simp-implicitDefEqProofs (disch:=(first|omega|decide)) only[go_sem,↓reduceIte,seval,ae,ho,tl,List.length_map,List.contains_nil,List.contains_cons]
     exact⟨Nat.le_refl _,rfl⟩
theorem GX:ah Tryz.prog AJ Tryz.f144.ntmps (Tryz.f144.body.getD .skip)=true:=by kernel_rfl
theorem K8(lo hi iw fB:List UInt8)(op mU:Bool):ay Tryz.prog 144 [.agg [.str lo,.str hi,.bool op],.agg [.str iw,.str fB,.bool mU]] (· = .bool (!op&&hi==iw)):=by
 refine aa BI mixed Tryz.func144 rfl (Nat.le_of_ble_eq_true rfl) GX ?_;unfold Tryz.f144;cases op with
 |true=>simp-implicitDefEqProofs (disch:=(first|omega|decide)) only[go_sem,↓reduceIte,seval,Bool.not_true,Bool.false_and]
 |false=>cases h:hi==iw<;>simp-implicitDefEqProofs (disch:=(first|omega|decide)) only[go_sem,↓reduceIte,seval,h,Bool.not_false,Bool.true_and]
def Ep:an:=AJ.add 144 (entry (fun(v:(List UInt8×List UInt8×Bool)×(List UInt8×List UInt8×Bool))=>[.agg [.str v.1.1,.str v.1.2.1,.bool v.1.2.2],.agg [.str v.2.1,.str v.2.2.1,.bool v.2.2.2]]) (fun v=>True) (fun v=> .bool (!v.1.2.2&&v.1.2.1==v.2.1)))
theorem K9:ag Tryz.prog Ep:=BI.bN Tryz.func144 (by kernel_rfl) (by kernel_rfl) fun v h=>K8 v.1.1 v.1.2.1 v.2.1 v.2.2.1 v.1.2.2 v.2.2.2
@[go_sem] theorem P15s_old{g:FuncId}{xs:List A}(h:g≠144):Ep.f g xs=AJ.f g xs:=an.ak h
@[go_sem] theorem P15s_s:Ep.pl AJ:=⟨fun _=>rfl,fun _=>rfl,rfl,fun _=>rfl,rfl,fun _=>rfl,rfl⟩
theorem AK(v:(List UInt8×List UInt8×Bool)×(List UInt8×List UInt8×Bool))(h:True):Ep.f 144 [.agg [.str v.1.1,.str v.1.2.1,.bool v.1.2.2],.agg [.str v.2.1,.str v.2.2.1,.bool v.2.2.2]]=some (.bool (!v.1.2.2&&v.1.2.1==v.2.1)):=an.ao (Γ:=AJ) (fun i j h=>by simpa[Prod.ext_iff,and_assoc]using h) v h
@[go_sem] theorem p_touch{lo hi iw fB:List UInt8}{op mU:Bool}:Ep.f 144 [.agg [.str lo,.str hi,.bool op],.agg [.str iw,.str fB,.bool mU]]=some (.bool (!op&&hi==iw)):=AK ((lo,hi,op),(iw,fB,mU)) trivial
def lq(k:List Pc)(j:Nat):Option Pc:=if j=0 then none else some k[j-1]!
theorem cM{s:List ad}(h:bc s=true):dG s=s:=Rj h
theorem GY:ah Tryz.prog Ep Tryz.f88.ntmps (Tryz.f88.body.getD .skip)=true:=by kernel_rfl
theorem K_(k:List Pc)(hk:cV k):ay Tryz.prog 88 [.ab (k.map Pc.enc)] (· = .bool (aR k)):=by
 refine aa K9 mixed Tryz.func88 rfl (Nat.le_of_ble_eq_true rfl) GY ?_;unfold Tryz.f88;obtain⟨⟨k1,k2⟩,k3⟩:=id hk;simp-implicitDefEqProofs (disch:=(first|omega|decide)) only[go_sem,↓reduceIte,seval,List.length_map]
 refine ar [0,6,7] (ι:={j:Nat//j<=k.length/\aR k=Kb (lq k j) (k.drop j)/\ ∀q,lq k j=some q->bc q.s=true}) (fun p=>[(8,.int .i64 p.1)]) (fun _=>[]) (fun p=>k.length-p.1) ⟨0,by omega,rfl,fun q hq=>by cases hq⟩ (Nat.zero_le _) ?_ ?_
 · simp-implicitDefEqProofs (disch:=(first|omega|decide)) only[go_sem,↓reduceIte,seval]
 · rintro⟨j,hj,hd,hpr⟩
   simp only at hj hd hpr⊢;by_cases aw:j<k.length
   · have ae:(j:Int)<(k.length:Int):=by omega
     have e1:=gz aw;have g_:=k3 _ (List.getElem_mem aw)
     have wa:=fq hk (List.getElem_mem aw)
     have tb:lq k (j+1)=some k[j]:=by unfold lq;rw[if_neg (by omega),Nat.add_sub_cancel,getElem!_pos k j aw]
     rw[List.drop_eq_getElem_cons aw]at hd;generalize hx:k[j]=x at*;obtain⟨⟨lo,hi,op⟩,s⟩:=x;simp only[Kb,dS]at hd g_ wa;have next:aR k=Kb (some ⟨⟨lo,hi,op⟩,s⟩) (k.drop (j+1))->bc s=true-> ∃i:{j:Nat//j<=k.length/\aR k=Kb (lq k j) (k.drop j)/\ ∀q,lq k j=some q->bc q.s=true},(j:Int)+1=(i.1:Int)/\k.length-i.1<k.length-j:=fun h h'=>⟨⟨j+1,aw,by rw[tb];exact h,fun q hq=>by rw[tb]at hq;obtain rfl:=Option.some.inj hq;exact h'⟩,by simp,by show k.length-(j+1)<k.length-j;omega⟩
     cases h1:aA ⟨lo,hi,op⟩with
     |false=>
      have hh:aR k=false:=by rw[hd,h1];simp
      simp-implicitDefEqProofs (disch:=(first|omega|decide)) only[go_sem,↓reduceIte,seval,ae,e1,h1,hh,List.length_map]
     |true=>
      cases h2:((s.length:Int)==0)with
      |true=>
       have:s=[]:=List.length_eq_zero_iff.1 (by have:(s.length:Int)=0:=by simpa using h2
                                                omega)
       have hh:aR k=false:=by rw[hd,this];simp
       simp-implicitDefEqProofs (disch:=(first|omega|decide)) only[go_sem,↓reduceIte,seval,ae,e1,h1,h2,hh,List.length_map]
      |false=>
       have cg:s.isEmpty=false:=by
          cases s with
          |nil=>simp at h2
          |cons _ _=>rfl
       have td:=Kt wa;cases h3:bc s with
       |false=>
          have hh:aR k=false:=by rw[hd,h3];simp
          rw[h3]at td;simp-implicitDefEqProofs (disch:=(first|omega|decide)) only[go_sem,↓reduceIte,seval,ae,e1,h1,h2,td,hh,List.length_map]
       |true=>
          rw[h3]at td;rw[h1,cg,h3]at hd;simp only[Bool.not_false,Bool.and_self,Bool.true_and]at hd;by_cases hj0:j=0
          · have hz:((j:Int)==0)=true:=by simp[hj0]
            have hh:aR k=Kb (some ⟨⟨lo,hi,op⟩,s⟩) (k.drop (j+1)):=by rw[hd];unfold lq;rw[if_pos hj0,Bool.true_and]
            simp-implicitDefEqProofs (disch:=(first|omega|decide)) only[go_sem,↓reduceIte,seval,ae,e1,h1,h2,td,hz,wrap_i64,List.length_map]
            exact next hh h3
          · have hz:((j:Int)==0)=false:=by simp;omega
            have lF:j-1<k.length:=by omega
            have e2:=gz lF;have F7:=k3 _ (List.getElem_mem lF)
            have WD:=fq hk (List.getElem_mem lF)
            have Qg:lq k j=some k[j-1]:=by unfold lq;rw[if_neg hj0,getElem!_pos k (j-1) lF]
            have XB:=hpr _ Qg;rw[Qg]at hd;generalize hy:k[j-1]=y at*;obtain⟨⟨iw,fB,mU⟩,s'⟩:=y;simp only at F7 WD XB;have c1:((j:Int)-1).toNat=j-1:=by omega
            have c2:(0:Int)<=(j:Int)-1:=by omega
            have d_:=KK WD wa (by rw[cM XB];exact WD) (by rw[cM h3];exact wa)
            rw[cM XB,cM h3]at d_;simp only[xB]at hd;cases h4:mU with
            |true=>
             have hh:aR k=false:=by rw[hd,h4];simp
             subst h4;simp-implicitDefEqProofs (maxSteps:=600000) (disch:=(first|omega|decide)) only[go_sem,↓reduceIte,seval,ae,e1,h1,h2,td,hz,e2,c1,c2,hh,wrap_i64,List.length_map]
            |false=>
             subst h4;cases h5:aV lo fB with
             |true=>
              have hh:aR k=false:=by rw[hd,h5];simp
              simp-implicitDefEqProofs (maxSteps:=600000) (disch:=(first|omega|decide)) only[go_sem,↓reduceIte,seval,ae,e1,h1,h2,td,hz,e2,c1,c2,h5,hh,wrap_i64,List.length_map]
             |false=>
              cases h6:fB==lo with
              |false=>
               have hh:aR k=Kb (some ⟨⟨lo,hi,op⟩,s⟩) (k.drop (j+1)):=by rw[hd,h5,h6];simp
               simp-implicitDefEqProofs (maxSteps:=600000) (disch:=(first|omega|decide)) only[go_sem,↓reduceIte,seval,ae,e1,h1,h2,td,hz,e2,c1,c2,h5,h6,wrap_i64,List.length_map]
               exact next hh h3
              |true=>
               cases h7:bZ s' s with
               |true=>
                have h7':s'=s:=by simpa[bZ]using h7
                rw[h7]at d_;have hh:aR k=false:=by rw[hd,h6,h7'];simp
                simp-implicitDefEqProofs (maxSteps:=600000) (disch:=(first|omega|decide)) only[go_sem,↓reduceIte,seval,ae,e1,h1,h2,td,hz,e2,c1,c2,h5,h6,d_,hh,wrap_i64,List.length_map]
               |false=>
                have h7':s'≠s:=by simpa[bZ]using h7
                rw[h7]at d_;have hh:aR k=Kb (some ⟨⟨lo,hi,op⟩,s⟩) (k.drop (j+1)):=by rw[hd,h5,h6,decide_eq_false h7'];simp
                simp-implicitDefEqProofs (maxSteps:=600000) (disch:=(first|omega|decide)) only[go_sem,↓reduceIte,seval,ae,e1,h1,h2,td,hz,e2,c1,c2,h5,h6,d_,wrap_i64,List.length_map]
                exact next hh h3
   · have ae: ¬(j:Int)<(k.length:Int):=by omega
     have hh:aR k=true:=by rw[hd,List.drop_of_length_le (by omega)];rfl
     simp-implicitDefEqProofs (disch:=(first|omega|decide)) only[go_sem,↓reduceIte,seval,ae,hh,List.length_map]
def E15a:an:=Ep.fj 174 (bC uU tq stK OT)
def WE:an:=E15a.fj 175 (bC zQ wU cpK OU)
def E15:an:={WE with mH:=fun f=>f==174||f==175}
theorem E15a_ok:ag Tryz.prog E15a:=K9.fj (bB Tryz.func174 (by kernel_rfl) (by kernel_rfl)) (cX stH)
theorem Us:ag Tryz.prog WE:=E15a_ok.fj (bB Tryz.func175 (by kernel_rfl) (by kernel_rfl)) (cX cpH)
theorem E15_ok:ag Tryz.prog E15:=⟨Us.f,Us.hp⟩
@[go_sem] theorem E15_f:E15.f=Ep.f:=rfl
@[go_sem] theorem E15_eff{g:FuncId}:E15.mH g=(g==174||g==175):=rfl
@[go_sem] theorem E15_frz{g:FuncId}:E15.pZ g=false:=rfl
@[go_sem] theorem E15_fix{n:Nat}:E15.fix n=false:=rfl
@[go_sem] theorem E15_ords{n:Nat}:E15.c6 n=[]:=rfl
theorem E15_st(i:StI)(h:stK i):E15.hp 174 (uU i) (tq i)=some (OT i):=by
 have h1:WE.hp 174 (uU i) (tq i)=E15a.hp 174 (uU i) (tq i):=an.sg (by decide)
 have h2:E15a.hp 174 (uU i) (tq i)=bC uU tq stK OT (uU i) (tq i):=an.eC;have h3:=cY (enc:=uU) (FO:=tq) (ok:=stK) (spec:=OT) (fun i j h h'=>ZW i j h h') i h;exact(show E15.hp 174 (uU i) (tq i)=WE.hp 174 (uU i) (tq i)from rfl).trans (h1.trans (h2.trans h3))
theorem E15_cp(i:CpI)(h:cpK i):E15.hp 175 (zQ i) (wU i)=some (OU i):=by have h2:WE.hp 175 (zQ i) (wU i)=bC zQ wU cpK OU (zQ i) (wU i):=an.eC;have h3:=cY (enc:=zQ) (FO:=wU) (ok:=cpK) (spec:=OU) (fun i j h h'=>ZX i j h h') i h;exact(show E15.hp 175 (zQ i) (wU i)=WE.hp 175 (zQ i) (wU i)from rfl).trans (h2.trans h3)
def XJ(k:List Pc):A:= .ab (k.map Pc.enc)
theorem pcL_inj(l m:List Pc)(h:XJ l=XJ m):l=m:=by simpa[XJ]using h
@[simp] theorem map_pcL_inj{L M:List (List Pc)}:(L.map XJ=M.map XJ)=(L=M):=map_inj pcL_inj
def sA(k:List Pc):List ax:=(k.map (·.r)).filter aA
theorem rsP_snoc{k:List Pc}{j:Nat}(h:j<k.length):sA (k.take (j+1))=sA (k.take j)++(if aA k[j].r=true then [k[j].r]else []):=by
 rw[<-List.take_append_getElem h]
 unfold sA;rw[List.map_append,List.filter_append]
 congr 1
 by_cases h:aA k[j].r=true
 · simp[h]
 · simp[h]
theorem Ut(k:List Pc):(sA k).length<=k.length:=by unfold sA;exact Nat.le_trans (List.length_filter_le _ _) (by simp)
theorem WG(k:List Pc): ∀r∈sA k,aA r=true:=fun r hr=>(List.mem_filter.1 hr).2
def jS(LL:List (List Pc))(o:Nat):List (List UInt8):=db [[]] ((LL.take o).flatMap sA)
def gI(LL:List (List Pc)):List (List UInt8):=aY (jN (db [[]] (LL.flatMap sA)))
def AL(E:List (List UInt8)):List Go.bo.Obj:=if E.length=1 then []else [.box [.any,.any,.any,.any],.row 1 (E.map .str)]
theorem nb{E:List (List UInt8)}(h:E.length=1):BF E= .clip [.str []]/\AL E=[]:=by simp[BF,AL,h]
theorem dE{E:List (List UInt8)}(h:E.length≠1):BF E= .row 1 0 1 E.length false/\AL E=[.box [.any,.any,.any,.any],.row 1 (E.map .str)]:=by simp[BF,AL,h]
theorem yc{E:List (List UInt8)}:(BF E).under (AL E).length=true:=by
 by_cases h:E.length=1
 · rw[(nb h).1];simp[A.under]
 · rw[(dE h).1,(dE h).2];simp[A.under]
theorem Se{E:List (List UInt8)}:s9 (AL E).length (AL E) (AL E):=by
 by_cases h:E.length=1
 · rw[(nb h).2];simp[s9]
 · rw[(dE h).2];simp[s9,Tw,Mx]
theorem Sf{LL:List (List Pc)}{o:Nat}(h:o<LL.length):db (jS LL o) (sA LL[o])=jS LL (o+1):=by
 unfold jS;rw[<-List.take_append_getElem h,List.flatMap_append,qX]
 simp
def mL(LL:List (List Pc)):Nat:=(LL.map List.length).sum
theorem Er(LL:List (List Pc))(o:Nat):((LL.take o).flatMap sA).length<=mL LL:=by
 have h1: ∀M:List (List Pc),(M.flatMap sA).length<=mL M:=fun M=>by
  induction M with
  |nil=>simp
  |cons k M ih=>
   have:=Ut k;simp only[List.flatMap_cons,List.length_append,mL,List.map_cons,List.sum_cons]at ih⊢;omega
 have h2:mL LL=mL (LL.take o)+mL (LL.drop o):=by unfold mL;rw[<-List.sum_append,<-List.map_append,List.take_append_drop]
 have:=h1 (LL.take o)
 omega
theorem tot_mem{LL:List (List Pc)}{k:List Pc}(h:k∈LL):k.length<=mL LL:=by
 induction LL with
 |nil=>cases h
 |cons q M ih=>
  unfold mL at ih⊢;rw[List.map_cons,List.sum_cons]
  rcases List.mem_cons.1 h with rfl|h
  · omega
  · have:=ih h;omega
theorem Uu{LL:List (List Pc)}{o:Nat}(h:o<LL.length):(LL.map XJ)[o]? =some (.ab (LL[o].map Pc.enc)):=by rw[List.getElem?_map,List.getElem?_eq_getElem h];rfl
theorem Es{m:List ax}(hm: ∀r∈m,aA r=true): ∀s∈db [[]] m,s.length<=17:=fun s hs=>by
 rcases(iR _ _ _).1 hs with h|⟨r,hr,h⟩
 · simp at h;subst h;simp
 · obtain⟨k1,k2,_,_⟩:=cw (hm r hr)
   rcases h with rfl|⟨_,rfl⟩
   · exact k1
   · exact k2
theorem my(LL:List (List Pc)): ∀r∈LL.flatMap sA,aA r=true:=fun r hr=>by obtain⟨k,_,h⟩:=List.mem_flatMap.1 hr;exact WG k r h
theorem GZ:ah Tryz.prog E15 Tryz.f137.ntmps (Tryz.f137.body.getD .skip)=true:=by kernel_rfl
theorem K'(LL:List (List Pc))(hL:LL.length<=1000)(ht:mL LL<=1000000)(g_: ∀k∈LL,∀p∈k,p.r.lo.length<=9223372036854775807/\p.r.hi.length<=9223372036854775807):ay Tryz.prog 137 [.ab (LL.map XJ)] (· = .ab ((gI LL).map .str)):=by
 refine aa E15_ok mixed Tryz.func137 rfl (Nat.le_of_ble_eq_true rfl) GZ ?_;unfold Tryz.f137;simp-implicitDefEqProofs (disch:=(first|omega|decide)) only[go_sem,↓reduceIte,seval,List.length_map]
 refine rS [9,10] (ι:={o:Nat//o<=LL.length}) (fun p=>[(11,.int .i64 p.1),(3,BF (jS LL p.1))]) (fun p=>AL (jS LL p.1)) (fun p=>LL.length-p.1) ⟨0,by omega⟩ (fun _=>Nat.zero_le _) ?_ ?_
 · have e:jS LL 0=[[]]:=rfl
   simp only[e]
   simp-implicitDefEqProofs (disch:=(first|omega|decide)) only[go_sem,↓reduceIte,seval,BF,AL]
 · rintro⟨o,ho⟩
   simp only;by_cases Vz:o<LL.length
   · have xc:(o:Int)<(LL.length:Int):=by omega
     have hd:=Uu Vz;have hacc:=Sf Vz;have Rn:=tot_mem (List.getElem_mem Vz)
     have hlk:=g_ _ (List.getElem_mem Vz)
     generalize LL[o]=l at*;have hel:(jS LL o).length<=2000001:=by unfold jS;have h1:=(fY ((LL.take o).flatMap sA) [[]]).2;have h2:=Er LL o;simp only[List.length_singleton]at h1;omega
     obtain⟨m0,hm0⟩: ∃m,jS LL o=db [[]] m:=⟨_,rfl⟩
     have iB: ∃j:{o:Nat//o<=LL.length},(o:Int)+1=(j.1:Int)/\jS LL (o+1)=jS LL j.1/\LL.length-j.1<LL.length-o:=⟨⟨o+1,Vz⟩,by simp,rfl,by show LL.length-(o+1)<LL.length-o;omega⟩
     rw[<-hacc]at iB;generalize jS LL o=E0 at*;have hE5:(BF E0).under (AL E0).length=true:=yc;have hE5b:s9 (AL E0).length (AL E0) (AL E0):=Se;simp-implicitDefEqProofs (disch:=(first|omega|decide)) only[go_sem,↓reduceIte,seval,xc,hd,List.length_map]
     refine rS [9,10,11,15,16] (ι:={j:Nat//j<=l.length}) (fun p=>[(17,.int .i64 p.1),(3,BF (db E0 (sA (l.take p.1))))]) (fun p=>AL (db E0 (sA (l.take p.1)))) (fun p=>l.length-p.1) ⟨0,by omega⟩ (fun _=>Nat.zero_le _) ?_ ?_
     · have e:db E0 (sA (l.take 0))=E0:=rfl
       simp only[e]
       simp-implicitDefEqProofs (disch:=(first|omega|decide)) only[go_sem,↓reduceIte,seval,hE5,hE5b]
     · rintro⟨j,hj⟩
       simp only;obtain⟨m1,hm1⟩: ∃m,db E0 (sA (l.take j))=db [[]] m:=⟨m0++sA (l.take j),by rw[hm0,qX]⟩
       have hlenE:=(fY (sA (l.take j)) E0).2;have hrl:=Ut (l.take j)
       rw[List.length_take,Nat.min_eq_left hj]at hrl;have hgeE:=(fY m1 [[]]).1;rw[<-hm1,List.length_singleton]at hgeE;by_cases aw:j<l.length
       · have ae:(j:Int)<(l.length:Int):=by omega
         have e1:=gz aw;have Qg:=hlk _ (List.getElem_mem aw)
         have b9:=rsP_snoc aw
         have O9:db E0 (sA (l.take (j+1)))=if aA l[j].r=true then uk (db E0 (sA (l.take j))) l[j].r else db E0 (sA (l.take j)):=by
          rw[b9,qX]
          by_cases h:aA l[j].r=true
          · rw[if_pos h,if_pos h];rfl
          · rw[if_neg h,if_neg h];rfl
         have next: ∀E',db E0 (sA (l.take (j+1)))=E'-> ∃i:{j:Nat//j<=l.length},(j:Int)+1=(i.1:Int)/\(BF (db E0 (sA (l.take i.1)))=BF E'/\AL (db E0 (sA (l.take i.1)))=AL E')/\l.length-i.1<l.length-j:=fun E' h1=>⟨⟨j+1,aw⟩,by simp,by rw[h1];exact⟨rfl,rfl⟩,by show l.length-(j+1)<l.length-j;omega⟩
         clear b9;generalize db E0 (sA (l.take j))=E at*;generalize hx:l[j]=x at*;obtain⟨⟨lo,hi,op⟩,s⟩:=x;simp only at Qg O9;have hU:(BF E).under (AL E).length=true:=yc;have hUb:s9 (AL E).length (AL E) (AL E):=Se;cases hr:aA ⟨lo,hi,op⟩with
         |false=>
          rw[hr,if_neg (by simp)]at O9;obtain⟨i,n1,⟨n2,n3⟩,n4⟩:=next _ O9
          by_cases hE:E.length=1
          · rw[(nb hE).1,(nb hE).2]at*
            simp-implicitDefEqProofs (disch:=(first|omega|decide)) only[go_sem,↓reduceIte,seval,ae,e1,hr,wrap_i64,List.length_map]
            refine⟨i, ?_,n4⟩
            rw[n2,n3]
            simp-implicitDefEqProofs (disch:=(first|omega|decide)) only[go_sem,↓reduceIte,seval,n1]
          · rw[(dE hE).1,(dE hE).2]at*
            simp-implicitDefEqProofs (disch:=(first|omega|decide)) only[go_sem,↓reduceIte,seval,ae,e1,hr,wrap_i64,List.length_map]
            refine⟨i, ?_,n4⟩
            rw[n2,n3]
            simp-implicitDefEqProofs (disch:=(first|omega|decide)) only[go_sem,↓reduceIte,seval,n1]
            try simp
         |true=>
          rw[hr,if_pos rfl]at O9;by_cases hE:E.length=1
          · have hE1:E=[[]]:=by rw[hm1]at hE⊢;exact BG hE
            rw[(nb hE).1,(nb hE).2]
            subst hE1;cases op with
            |true=>
              obtain⟨i,n1,⟨n2,n3⟩,n4⟩:=next [[],lo] O9
              rw[(dE (E:=[[],lo]) (by simp)).1]at n2;rw[(dE (E:=[[],lo]) (by simp)).2]at n3;simp-implicitDefEqProofs (disch:=(first|omega|decide)) only[go_sem,↓reduceIte,seval,ae,e1,hr,wrap_i64,List.length_map]
              refine⟨i, ?_,n4⟩
              rw[n2,n3]
              simp-implicitDefEqProofs (disch:=(first|omega|decide)) only[go_sem,↓reduceIte,seval,n1]
              try simp
            |false=>
              obtain⟨i,n1,⟨n2,n3⟩,n4⟩:=next [[],lo,hi] O9
              rw[(dE (E:=[[],lo,hi]) (by simp)).1]at n2;rw[(dE (E:=[[],lo,hi]) (by simp)).2]at n3;simp-implicitDefEqProofs (disch:=(first|omega|decide)) only[go_sem,↓reduceIte,seval,ae,e1,hr,wrap_i64,List.length_map]
              refine⟨i, ?_,n4⟩
              rw[n2,n3]
              simp-implicitDefEqProofs (disch:=(first|omega|decide)) only[go_sem,↓reduceIte,seval,n1]
              try simp
          · rw[(dE hE).1,(dE hE).2]
            have tl:(E.map A.str).take E.length=E.map A.str:=List.take_of_length_le (by simp)
            have tl2:(E.map A.str++[A.str lo]).take (E.length+1)=E.map A.str++[A.str lo]:=List.take_of_length_le (by simp)
            have ll2:(E.map A.str++[A.str lo]).length=E.length+1:=by simp
            cases op with
            |true=>
              obtain⟨i,n1,⟨n2,n3⟩,n4⟩:=next (E++[lo]) O9
              have cg:(E++[lo]).length≠1:=by rw[List.length_append];show E.length+1≠1;omega
              rw[(dE cg).1]at n2;rw[(dE cg).2]at n3;simp-implicitDefEqProofs (disch:=(first|omega|decide)) only[go_sem,↓reduceIte,seval,ae,e1,hr,tl,wrap_i64,List.length_map]
              refine⟨⟨Nat.le_refl _,by omega⟩,i, ?_,n4⟩
              rw[n2,n3]
              simp-implicitDefEqProofs (disch:=(first|omega|decide)) only[go_sem,↓reduceIte,seval,n1]
              try simp
            |false=>
              obtain⟨i,n1,⟨n2,n3⟩,n4⟩:=next (E++[lo,hi]) O9
              have cg:(E++[lo,hi]).length≠1:=by rw[List.length_append];show E.length+2≠1;omega
              rw[(dE cg).1]at n2;rw[(dE cg).2]at n3;simp-implicitDefEqProofs (disch:=(first|omega|decide)) only[go_sem,↓reduceIte,seval,ae,e1,hr,tl,tl2,ll2,wrap_i64,List.length_map]
              refine⟨⟨Nat.le_refl _,by omega⟩,⟨Nat.le_refl _,by omega⟩,i, ?_,n4⟩
              rw[n2,n3]
              simp-implicitDefEqProofs (disch:=(first|omega|decide)) only[go_sem,↓reduceIte,seval,n1]
              try simp
       · have ae: ¬(j:Int)<(l.length:Int):=by omega
         rw[List.take_of_length_le (by omega)]at*;obtain⟨i,n1,n2,n3⟩:=iB;rw[n2]
         have hU:(BF (jS LL i.1)).under (AL (jS LL i.1)).length=true:=yc;have hUb:s9 (AL (jS LL i.1)).length (AL (jS LL i.1)) (AL (jS LL i.1)):=Se;have w:IntKind.i64.wrap ((o:Int)+1)=(o:Int)+1:=wrap_i64 (by omega)
         simp-implicitDefEqProofs (disch:=(first|omega|decide)) only[go_sem,↓reduceIte,seval,ae,w,List.length_map]
         refine⟨i, ?_,n3⟩
         simp-implicitDefEqProofs (disch:=(first|omega|decide)) only[go_sem,↓reduceIte,seval,n1,hU,hUb]
   · have xc: ¬(o:Int)<(LL.length:Int):=by omega
     obtain rfl:o=LL.length:=by omega
     have hE2:jS LL LL.length=db [[]] (LL.flatMap sA):=by unfold jS;rw[List.take_length]
     have ZZ:=Es (my LL)
     have hel:=(fY (LL.flatMap sA) [[]]).2;have htt:=Er LL LL.length;rw[List.take_length]at htt;rw[List.length_singleton]at hel;rw[hE2]
     unfold gI;have da:= @BG (LL.flatMap sA)
     generalize db [[]] (LL.flatMap sA)=E at*;by_cases hE:E.length=1
     · have hE1:=da hE
       rw[(nb hE).1,(nb hE).2]
       subst hE1;have s1:=E15_st (.inr []) trivial;have s2:=E15_cp (.inr []) trivial;simp only[uU,tq,OT]at s1;simp only[zQ,wU,OU]at s2;have hs:jN [[]]=[[]]:=by have:=(ff ZZ).1;exact(List.perm_replicate (n:=1) (a:=([]:List UInt8))).1 this
       rw[hs]
       simp-implicitDefEqProofs (disch:=(first|omega|decide)) only[go_sem,↓reduceIte,seval,xc,s1,s2,aY,List.contains_nil,List.contains_cons,List.length_map]
     · rw[(dE hE).1,(dE hE).2]
       have s1:=E15_st (.inl (XF E ZZ)) (by show(XF E ZZ).length<_;rw[BE];omega)
       simp only[uU,tq,OT,Um,BE,IW]at s1;have hp:=(ff ZZ).1.length_eq;have s2:=E15_cp (.inl (jN E)) (by show(jN E).length<=_;rw[hp];omega)
       simp only[zQ,wU,OU,hp]at s2;have jV:(aY (jN E)).length=((aY (jN E)).map A.str).length:=by simp
       simp-implicitDefEqProofs (disch:=(first|omega|decide)) only[go_sem,↓reduceIte,seval,xc,s1,s2,List.contains_nil,List.contains_cons,List.length_map]
       refine⟨by rw[List.length_append];omega, ?_⟩
       rw[List.map_append,List.take_append_of_le_length (by simp),List.take_of_length_le (by simp)]
set_option maxHeartbeats 16000000
def dz(acc:List Pc):List A:=acc.reverse.map Pc.enc
theorem aZ(q:Pc)(qs:List Pc):dz (q::qs)=dz qs++[.agg [.str q.r.lo,.str q.r.hi,.bool q.r.op,.ab (q.s.map ad.enc)]]:=by simp[dz,Pc.enc,Pc.cells]
theorem dT(l:List Pc):(dz l).length=l.length:=by simp[dz]
theorem kJ:dz []=[]:=rfl
theorem rm(P:List UInt8->List ad)(es:List (List UInt8)): ∀(k:Nat),∀p∈lL P es k,∃e,p.s=P e
 |0,p,hp=>by cases hp
 |k+1,p,hp=>by
  have ih:=rm P es k;simp only[lL]at hp;split at hp
  · exact ih p hp
  · revert hp
    cases hm:lL P es k with
    |nil=>
     intro hp;simp only[cq,List.mem_singleton]at hp;subst hp;exact⟨_,rfl⟩
    |cons q qs=>
     intro hp;rw[hm]at ih;simp only[cq]at hp;split at hp
     · rcases List.mem_cons.1 hp with rfl|hp
       · obtain⟨e,he⟩:=ih q (by simp)
         exact⟨e,he⟩
       · exact ih p (by simp[hp])
     · rcases List.mem_cons.1 hp with rfl|hp
       · exact⟨_,rfl⟩
       · exact ih p hp
theorem wb{l:List (List UInt8)}{k:Nat}(h:k<l.length):(l.map A.str)[k]? =some (.str (l[k]!)):=by rw[List.getElem?_map,List.getElem?_eq_getElem h,getElem!_pos l k h];rfl
def Sg:an:=Ep.add 139 (entry (fun(v:List Pc×List UInt8)=>[.ab (v.1.map Pc.enc),.str v.2]) (fun v=>cV v.1/\v.2.length<=9223372036854775807) (fun v=> .ab ((cL v.1 v.2).map ad.enc)))
theorem P15t_ok:ag Tryz.prog Sg:=K9.bN Tryz.func139 (by kernel_rfl) (by kernel_rfl) fun v h=>WC v.1 v.2 h.1 h.2
@[go_sem] theorem P15t_old{g:FuncId}{xs:List A}(h:g≠139):Sg.f g xs=Ep.f g xs:=an.ak h
theorem La(v:List Pc×List UInt8)(h:cV v.1/\v.2.length<=9223372036854775807):Sg.f 139 [.ab (v.1.map Pc.enc),.str v.2]=some (.ab ((cL v.1 v.2).map ad.enc)):=an.ao (Γ:=Ep) (fun i j h=>by simpa[Prod.ext_iff,and_assoc]using h) v h
def O_:an:=Sg.add 192 (entry (fun(v:List Pc×List UInt8)=>[.ab (v.1.map Pc.enc),.str v.2]) (fun v=>iI v.1/\v.2.length<=9223372036854775807) (fun v=> .ab ((cL v.1 v.2).map ad.enc)))
theorem P15u_ok:ag Tryz.prog O_:=P15t_ok.bN Tryz.func192 (by kernel_rfl) (by kernel_rfl) fun v h=>Sd v.1 v.2 h.1 h.2
@[go_sem] theorem P15u_old{g:FuncId}{xs:List A}(h:g≠192):O_.f g xs=Sg.f g xs:=an.ak h
theorem G0(v:List Pc×List UInt8)(h:iI v.1/\v.2.length<=9223372036854775807):O_.f 192 [.ab (v.1.map Pc.enc),.str v.2]=some (.ab ((cL v.1 v.2).map ad.enc)):=an.ao (Γ:=Sg) (fun i j h=>by simpa[Prod.ext_iff,and_assoc]using h) v h
def G1:an:=O_.add 88 (entry (fun(k:List Pc)=>[.ab (k.map Pc.enc)]) (fun k=>cV k) (fun k=> .bool (aR k)))
theorem Lb:ag Tryz.prog G1:=P15u_ok.bN Tryz.func88 (by kernel_rfl) (by kernel_rfl) fun k h=>K_ k h
@[go_sem] theorem P15v_old{g:FuncId}{xs:List A}(h:g≠88):G1.f g xs=O_.f g xs:=an.ak h
@[go_sem] theorem P15v_s:G1.pl O_:=⟨fun _=>rfl,fun _=>rfl,rfl,fun _=>rfl,rfl,fun _=>rfl,rfl⟩
theorem AM(k:List Pc)(h:cV k):G1.f 88 [.ab (k.map Pc.enc)]=some (.bool (aR k)):=an.ao (Γ:=O_) (fun i j h=>by simpa[Prod.ext_iff,and_assoc]using h) k h
theorem p_At{k:List Pc}{x:List UInt8}(h:cV k)(hx:x.length<=9223372036854775807):Sg.f 139 [.ab (k.map Pc.enc),.str x]=some (.ab ((cL k x).map ad.enc)):=La (k,x) ⟨h,hx⟩
theorem p_rAt{k:List Pc}{x:List UInt8}(h:iI k)(hx:x.length<=9223372036854775807):O_.f 192 [.ab (k.map Pc.enc),.str x]=some (.ab ((cL k x).map ad.enc)):=G0 (k,x) ⟨h,hx⟩
theorem Lc{k:List Pc}(h:cV k):G1.f 88 [.ab (k.map Pc.enc)]=some (.bool (aR k)):=AM k h
theorem Ld:ah Tryz.prog G1 Tryz.f187.ntmps (Tryz.f187.body.getD .skip)=true:=by kernel_rfl
theorem Sh(k:List Pc)(x:List UInt8)(hk:cV k)(hx:x.length<=9223372036854775807):ay Tryz.prog 187 [.str x,.dK [.ab (k.map Pc.enc)]] (· = .ab ((cL k x).map ad.enc)):=by refine aa Lb mixed Tryz.func187 rfl (Nat.le_of_ble_eq_true rfl) Ld ?_;unfold Tryz.f187;have h:=p_At hk hx;simp-implicitDefEqProofs (disch:=(first|omega|decide)) only[go_sem,↓reduceIte,seval,h]
def bj(k:List Pc)(l:List ax)(x:List UInt8):List ad:=if aj l x=true then cL k x else []
theorem ur:ah Tryz.prog G1 Tryz.f138.ntmps (Tryz.f138.body.getD .skip)=true:=by kernel_rfl
theorem yd(k:List Pc)(l:List ax)(x:List UInt8)(hk:cV k)(hl:l.length<=100000)(pO:dB l)(hx:x.length<=9223372036854775807):ay Tryz.prog 138 [.str x,.dK [.ab (l.map ax.enc)],.dK [.ab (k.map Pc.enc)]] (· = .ab ((bj k l x).map ad.enc)):=by
 refine aa Lb mixed Tryz.func138 rfl (Nat.le_of_ble_eq_true rfl) ur ?_;unfold Tryz.f138;have h1:=p_At hk hx;have h2:=jR hl pO hx;unfold bj;cases h:aj l x with
 |false=>
  rw[h]at h2;simp-implicitDefEqProofs (disch:=(first|omega|decide)) only[go_sem,↓reduceIte,seval,h2,List.map_nil,Bool.false_eq_true]
 |true=>
  rw[h]at h2;simp-implicitDefEqProofs (disch:=(first|omega|decide)) only[go_sem,↓reduceIte,seval,h1,h2]
def P15w:an:=G1.add 187 (entry (fun(v:List UInt8×List Pc)=>[.str v.1,.dK [.ab (v.2.map Pc.enc)]]) (fun v=>cV v.2/\v.1.length<=9223372036854775807) (fun v=> .ab ((cL v.2 v.1).map ad.enc)))
theorem P15w_ok:ag Tryz.prog P15w:=Lb.bN Tryz.func187 (by kernel_rfl) (by kernel_rfl) fun v h=>Sh v.2 v.1 h.1 h.2
@[go_sem] theorem P15w_old{g:FuncId}{xs:List A}(h:g≠187):P15w.f g xs=G1.f g xs:=an.ak h
theorem Et(v:List UInt8×List Pc)(h:cV v.2/\v.1.length<=9223372036854775807):P15w.f 187 [.str v.1,.dK [.ab (v.2.map Pc.enc)]]=some (.ab ((cL v.2 v.1).map ad.enc)):=an.ao (Γ:=G1) (fun i j h=>by simpa[Prod.ext_iff,and_assoc]using h) v h
def WH:an:=P15w
theorem P15x_ok:ag Tryz.prog WH:=P15w_ok
@[go_sem] theorem P15x_old{g:FuncId}{xs:List A}:WH.f g xs=P15w.f g xs:=rfl
def ye:an:=WH.add 138 (entry (fun(v:List UInt8×List ax×List Pc)=>[.str v.1,.dK [.ab (v.2.1.map ax.enc)],.dK [.ab (v.2.2.map Pc.enc)]]) (fun v=>(cV v.2.2/\dB v.2.1)/\v.2.1.length<=100000/\v.1.length<=9223372036854775807) (fun v=> .ab ((bj v.2.2 v.2.1 v.1).map ad.enc)))
theorem BJ:ag Tryz.prog ye:=P15x_ok.bN Tryz.func138 (by kernel_rfl) (by kernel_rfl) fun v h=>yd v.2.2 v.2.1 v.1 h.1.1 h.2.1 h.1.2 h.2.2
@[go_sem] theorem P15y_old{g:FuncId}{xs:List A}(h:g≠138):ye.f g xs=WH.f g xs:=an.ak h
@[go_sem] theorem P15y_s:ye.pl WH:=⟨fun _=>rfl,fun _=>rfl,rfl,fun _=>rfl,rfl,fun _=>rfl,rfl⟩
theorem rn(v:List UInt8×List ax×List Pc)(h:(cV v.2.2/\dB v.2.1)/\v.2.1.length<=100000/\v.1.length<=9223372036854775807):ye.f 138 [.str v.1,.dK [.ab (v.2.1.map ax.enc)],.dK [.ab (v.2.2.map Pc.enc)]]=some (.ab ((bj v.2.2 v.2.1 v.1).map ad.enc)):=an.ao (Γ:=WH) (fun i j h=>by simpa[Prod.ext_iff,and_assoc]using h) v h
theorem p_Of1{k:List Pc}{x:List UInt8}(h:cV k)(hx:x.length<=9223372036854775807):ye.f 187 [.str x,.dK [.ab (k.map Pc.enc)]]=some (.ab ((cL k x).map ad.enc)):=by
 have h:=Et (x,k) ⟨h,hx⟩
 simp-implicitDefEqProofs (disch:=(first|omega|decide)) only[go_sem,↓reduceIte,seval,h]
theorem O'{k:List Pc}{l:List ax}{x:List UInt8}(h:cV k)(hl:l.length<=100000)(pO:dB l)(hx:x.length<=9223372036854775807):ye.f 138 [.str x,.dK [.ab (l.map ax.enc)],.dK [.ab (k.map Pc.enc)]]=some (.ab ((bj k l x).map ad.enc)):=rn (x,l,k) ⟨⟨h,pO⟩,hl,hx⟩
structure Caps(jW:List A):Prop where
 pure:A.pure.a_ jW=true
 view: ∀H,iG H jW=some jW
 under: ∀m,A.under.ib m jW=true
 mem: ∀n,A.mem.gm n jW=false
def B15:an:={ye with c6:=fun n=>if n=12 then [[0,1,2,3,4,5,6,7,8,10,11,12,9,13,14,15,16,17],[0,1,2,3,4,5,6,7,8,10,11,12,13,9,14,15,16,17]]else []}
theorem B15_ok:ag Tryz.prog B15:=⟨BJ.f,BJ.hp⟩
@[go_sem] theorem B15_f:B15.f=ye.f:=rfl
@[go_sem] theorem B15_eff{g:FuncId}:B15.mH g=false:=rfl
@[go_sem] theorem B15_effT:B15.Vn=false:=rfl
@[go_sem] theorem B15_fix{n:Nat}:B15.fix n=false:=rfl
@[go_sem] theorem B15_ords12:B15.c6 12=[[0,1,2,3,4,5,6,7,8,10,11,12,9,13,14,15,16,17],[0,1,2,3,4,5,6,7,8,10,11,12,13,9,14,15,16,17]]:=rfl
@[go_sem] theorem B15_ords{n:Nat}(h:n≠12):B15.c6 n=[]:=if_neg h
theorem G2:ah Tryz.prog B15 Tryz.f136.ntmps (Tryz.f136.body.getD .skip)=true:=by kernel_rfl
theorem wc(es:List (List UInt8))(g:FuncId)(jW:List A)(P:List UInt8->List ad)(hc:Caps jW)(hE:Kc P es)(hel:es.length<=1000000)(wa: ∀x,aK (P x))
 (hg: ∀x∈es,ye.f g (.str x::jW)=some (.ab ((P x).map ad.enc))):
 ay Tryz.prog 136 [.ab (es.map .str),.fn g jW] (· = .ab ((aT P).map Pc.enc)):=by
 refine aa B15_ok mixed Tryz.func136 rfl (Nat.le_of_ble_eq_true rfl) G2 ?_;unfold Tryz.f136;have XK:=hc.pure;have XL:=hc.view;have WI:=hc.under;have MB:=hc.mem;simp-implicitDefEqProofs (disch:=(first|omega|decide)) only[go_sem,↓reduceIte,seval,List.length_map]
 refine aW 5 4 rfl ?_;refine ar [0,1,11,12] (ι:={k:Nat//k<=es.length}) (fun p=>[(13,.int .i64 p.1),(5,.row 0 0 4 (lL P es p.1).length false)]) (fun p=>[(0,.row 4 (dz (lL P es p.1)))]) (fun p=>es.length-p.1) ⟨0,by omega⟩ (Nat.zero_le _) ?_ ?_
 · simp-implicitDefEqProofs (disch:=(first|omega|decide)) only[go_sem,↓reduceIte,seval,WI]
   simp[lL,dz]
 · rintro⟨k,hk⟩
   simp only;have rX:=vI P es k;by_cases aw:k<es.length
   · have ae:(k:Int)<(es.length:Int):=by omega
     have e1:=wb aw;have Rl:es[k]! ∈es:=by rw[getElem!_pos es k aw];exact List.getElem_mem _
     have AN:=hg _ Rl;have Dp:=(qQ hE k (by omega)).1;have we:=rm P es k;have Si:=wa (es[k]!)
     have I3:=hE.right (es[k]!)
     have next: ∀m',lL P es (k+1)=m'-> ∃i:{k:Nat//k<=es.length},(((k:Int)+1=(i.1:Int)/\m'.length=(lL P es i.1).length)/\dz m'=dz (lL P es i.1))/\es.length-i.1<es.length-k:=fun m' h=>⟨⟨k+1,aw⟩,⟨⟨by simp,by rw[h]⟩,by rw[h]⟩,by show es.length-(k+1)<es.length-k;omega⟩
     have b9:lL P es (k+1)=if P (es[k]!)=[]then lL P es k else cq (lL P es k) ⟨kI es k,P (es[k]!)⟩:=rfl
     generalize lL P es k=m at*;generalize hs:es[k]! =s at*;generalize hS:P s=S at*;by_cases hn:k+1<es.length
     · have ka:(k:Int)+1<(es.length:Int):=by omega
       have e2:=wb hn;have c9:((k:Int)+1).toNat=k+1:=by omega
       have c8:(0:Int)<=(k:Int)+1:=by omega
       have hr:kI es k=⟨s,es[k+1]!,false⟩:=by unfold kI;rw[if_pos hn,hs]
       rw[hr]at b9;cases o6:((S.length:Int)==0)with
       |true=>
        have hS00:(S.length:Int)=0:=by simpa using o6
        have Sj:S=[]:=List.length_eq_zero_iff.1 (by omega)
        rw[if_pos Sj]at b9;have fin:=next _ b9
        simp-implicitDefEqProofs (disch:=(first|omega|decide)) only[go_sem,↓reduceIte,seval,ae,e1,AN,XK,XL,WI,MB,ka,e2,c9,c8,o6,wrap_i64,List.length_map]
        exact fin
       |false=>
        have Sj:S≠ []:=fun e=>by rw[e]at o6;simp at o6
        rw[if_neg Sj]at b9;cases m with
        |nil=>
          have fin:=next _ b9
          simp only[cq,aZ,kJ,List.nil_append,List.length_cons,List.length_nil]at fin;rw[kJ]
          simp-implicitDefEqProofs (maxSteps:=600000) (disch:=(first|omega|decide)) only[go_sem,↓reduceIte,seval,ae,e1,AN,XK,XL,WI,MB,ka,e2,c9,c8,o6,wrap_i64,List.length_map,List.length_nil]
          exact fin
        |cons q qs=>
          have TZ:bc q.s=true:=by have:=Dp q (by simp);simp only[dS,Bool.and_eq_true]at this;exact this.2
          have WJ:aK q.s:=by obtain⟨e,he⟩:=we q (by simp);rw[he];exact wa e
          obtain⟨⟨iw,fB,mU⟩,s'⟩:=q;simp only at TZ WJ;have d_:=KK WJ Si (by rw[cM TZ];exact WJ) (by rw[cM I3];exact Si)
          rw[cM TZ,cM I3]at d_;have hml':qs.length+1<=k:=rX;have b0:(0:Int)<((qs.length+1:Nat):Int):=by omega
          have b1:(((qs.length+1:Nat):Int)-1).toNat=qs.length:=by omega
          have b2:(0:Int)<=((qs.length+1:Nat):Int)-1:=by omega
          have b3:((qs.length+1:Nat):Int)-1<((qs.length+1:Nat):Int):=by omega
          have g1: ∀x:A,(dz qs++[x])[qs.length]? =some x:=fun x=>by
           have:=Go.bo.ij (x:=x) (l:=dz qs)
           rwa [dT]at this
          have g2: ∀x v:A,cC (dz qs++[x]) qs.length v=dz qs++[v]:=fun x v=>by
           have:=Go.bo.ik (x:=x) (v:=v) (l:=dz qs)
           rwa [dT]at this
          have gl: ∀x:A,(dz qs++[x]).length=qs.length+1:=fun x=>by rw[List.length_append,dT];rfl
          have gt: ∀x:A,(dz qs++[x]).take (qs.length+1)=dz qs++[x]:=fun x=>List.take_of_length_le (Nat.le_of_eq (gl x))
          rw[aZ]
          cases mU with
          |true=>
           have ew:cq (⟨⟨iw,fB,true⟩,s'⟩::qs) ⟨⟨s,es[k+1]!,false⟩,S⟩=⟨⟨s,es[k+1]!,false⟩,S⟩::⟨⟨iw,fB,true⟩,s'⟩::qs:=by simp[cq]
           have fin:=next _ b9
           rw[ew,aZ,aZ]at fin;simp-implicitDefEqProofs (maxSteps:=600000) (disch:=(first|omega|decide)) only[go_sem,↓reduceIte,seval,ae,e1,AN,XK,XL,WI,MB,ka,e2,c9,c8,o6,b0,b1,b2,b3,g1,g2,gl,gt,wrap_i64,List.length_map,List.length_cons,Bool.not_true,Bool.false_and]
           exact⟨⟨Nat.le_refl _,by omega⟩,fin⟩
          |false=>
           cases h1:fB==s with
           |false=>
            have ew:cq (⟨⟨iw,fB,false⟩,s'⟩::qs) ⟨⟨s,es[k+1]!,false⟩,S⟩=⟨⟨s,es[k+1]!,false⟩,S⟩::⟨⟨iw,fB,false⟩,s'⟩::qs:=by simp only[cq];rw[if_neg (by rw[h1];simp)]
            have fin:=next _ b9
            rw[ew,aZ,aZ]at fin;simp-implicitDefEqProofs (maxSteps:=600000) (disch:=(first|omega|decide)) only[go_sem,↓reduceIte,seval,ae,e1,AN,XK,XL,WI,MB,ka,e2,c9,c8,o6,b0,b1,b2,b3,g1,g2,gl,gt,h1,wrap_i64,List.length_map,List.length_cons,Bool.not_false,Bool.true_and]
            exact⟨⟨Nat.le_refl _,by omega⟩,fin⟩
           |true=>
            cases h2:bZ s' S with
            |false=>
             have nI:s'≠S:=by simpa[bZ]using h2
             rw[h2]at d_;have ew:cq (⟨⟨iw,fB,false⟩,s'⟩::qs) ⟨⟨s,es[k+1]!,false⟩,S⟩=⟨⟨s,es[k+1]!,false⟩,S⟩::⟨⟨iw,fB,false⟩,s'⟩::qs:=by simp only[cq];rw[if_neg (by simp[nI])]
             have fin:=next _ b9
             rw[ew,aZ,aZ]at fin;simp-implicitDefEqProofs (maxSteps:=600000) (disch:=(first|omega|decide)) only[go_sem,↓reduceIte,seval,ae,e1,AN,XK,XL,WI,MB,ka,e2,c9,c8,o6,b0,b1,b2,b3,g1,g2,gl,gt,h1,d_,wrap_i64,List.length_map,List.length_cons,Bool.not_false,Bool.true_and]
             exact⟨⟨Nat.le_refl _,by omega⟩,fin⟩
            |true=>
             have nI:s'=S:=by simpa[bZ]using h2
             rw[h2]at d_;have ew:cq (⟨⟨iw,fB,false⟩,s'⟩::qs) ⟨⟨s,es[k+1]!,false⟩,S⟩=⟨⟨iw,es[k+1]!,false⟩,s'⟩::qs:=by simp only[cq];rw[if_pos (by simp[h1,nI])]
             have fin:=next _ b9
             rw[ew,aZ]at fin;simp-implicitDefEqProofs (maxSteps:=600000) (disch:=(first|omega|decide)) only[go_sem,↓reduceIte,seval,ae,e1,AN,XK,XL,WI,MB,ka,e2,c9,c8,o6,b0,b1,b2,b3,g1,g2,gl,gt,h1,d_,wrap_i64,List.length_map,List.length_cons,Bool.not_false,Bool.true_and]
             exact fin
     · have ka: ¬(k:Int)+1<(es.length:Int):=by omega
       have hr:kI es k=⟨s,[],true⟩:=by unfold kI;rw[if_neg hn,hs]
       rw[hr]at b9;cases o6:((S.length:Int)==0)with
       |true=>
        have hS00:(S.length:Int)=0:=by simpa using o6
        have Sj:S=[]:=List.length_eq_zero_iff.1 (by omega)
        rw[if_pos Sj]at b9;have fin:=next _ b9
        simp-implicitDefEqProofs (disch:=(first|omega|decide)) only[go_sem,↓reduceIte,seval,ae,e1,AN,XK,XL,WI,MB,ka,o6,wrap_i64,List.length_map]
        exact fin
       |false=>
        have Sj:S≠ []:=fun e=>by rw[e]at o6;simp at o6
        rw[if_neg Sj]at b9;cases m with
        |nil=>
          have fin:=next _ b9
          simp only[cq,aZ,kJ,List.nil_append,List.length_cons,List.length_nil]at fin;rw[kJ]
          simp-implicitDefEqProofs (maxSteps:=600000) (disch:=(first|omega|decide)) only[go_sem,↓reduceIte,seval,ae,e1,AN,XK,XL,WI,MB,ka,o6,wrap_i64,List.length_map,List.length_nil]
          exact fin
        |cons q qs=>
          have TZ:bc q.s=true:=by have:=Dp q (by simp);simp only[dS,Bool.and_eq_true]at this;exact this.2
          have WJ:aK q.s:=by obtain⟨e,he⟩:=we q (by simp);rw[he];exact wa e
          obtain⟨⟨iw,fB,mU⟩,s'⟩:=q;simp only at TZ WJ;have d_:=KK WJ Si (by rw[cM TZ];exact WJ) (by rw[cM I3];exact Si)
          rw[cM TZ,cM I3]at d_;have hml':qs.length+1<=k:=rX;have b0:(0:Int)<((qs.length+1:Nat):Int):=by omega
          have b1:(((qs.length+1:Nat):Int)-1).toNat=qs.length:=by omega
          have b2:(0:Int)<=((qs.length+1:Nat):Int)-1:=by omega
          have b3:((qs.length+1:Nat):Int)-1<((qs.length+1:Nat):Int):=by omega
          have g1: ∀x:A,(dz qs++[x])[qs.length]? =some x:=fun x=>by
           have:=Go.bo.ij (x:=x) (l:=dz qs)
           rwa [dT]at this
          have g2: ∀x v:A,cC (dz qs++[x]) qs.length v=dz qs++[v]:=fun x v=>by
           have:=Go.bo.ik (x:=x) (v:=v) (l:=dz qs)
           rwa [dT]at this
          have gl: ∀x:A,(dz qs++[x]).length=qs.length+1:=fun x=>by rw[List.length_append,dT];rfl
          have gt: ∀x:A,(dz qs++[x]).take (qs.length+1)=dz qs++[x]:=fun x=>List.take_of_length_le (Nat.le_of_eq (gl x))
          rw[aZ]
          cases mU with
          |true=>
           have ew:cq (⟨⟨iw,fB,true⟩,s'⟩::qs) ⟨⟨s,[],true⟩,S⟩=⟨⟨s,[],true⟩,S⟩::⟨⟨iw,fB,true⟩,s'⟩::qs:=by simp[cq]
           have fin:=next _ b9
           rw[ew,aZ,aZ]at fin;simp-implicitDefEqProofs (maxSteps:=600000) (disch:=(first|omega|decide)) only[go_sem,↓reduceIte,seval,ae,e1,AN,XK,XL,WI,MB,ka,o6,b0,b1,b2,b3,g1,g2,gl,gt,wrap_i64,List.length_map,List.length_cons,Bool.not_true,Bool.false_and]
           exact⟨⟨Nat.le_refl _,by omega⟩,fin⟩
          |false=>
           cases h1:fB==s with
           |false=>
            have ew:cq (⟨⟨iw,fB,false⟩,s'⟩::qs) ⟨⟨s,[],true⟩,S⟩=⟨⟨s,[],true⟩,S⟩::⟨⟨iw,fB,false⟩,s'⟩::qs:=by simp only[cq];rw[if_neg (by rw[h1];simp)]
            have fin:=next _ b9
            rw[ew,aZ,aZ]at fin;simp-implicitDefEqProofs (maxSteps:=600000) (disch:=(first|omega|decide)) only[go_sem,↓reduceIte,seval,ae,e1,AN,XK,XL,WI,MB,ka,o6,b0,b1,b2,b3,g1,g2,gl,gt,h1,wrap_i64,List.length_map,List.length_cons,Bool.not_false,Bool.true_and]
            exact⟨⟨Nat.le_refl _,by omega⟩,fin⟩
           |true=>
            cases h2:bZ s' S with
            |false=>
             have nI:s'≠S:=by simpa[bZ]using h2
             rw[h2]at d_;have ew:cq (⟨⟨iw,fB,false⟩,s'⟩::qs) ⟨⟨s,[],true⟩,S⟩=⟨⟨s,[],true⟩,S⟩::⟨⟨iw,fB,false⟩,s'⟩::qs:=by simp only[cq];rw[if_neg (by simp[nI])]
             have fin:=next _ b9
             rw[ew,aZ,aZ]at fin;simp-implicitDefEqProofs (maxSteps:=600000) (disch:=(first|omega|decide)) only[go_sem,↓reduceIte,seval,ae,e1,AN,XK,XL,WI,MB,ka,o6,b0,b1,b2,b3,g1,g2,gl,gt,h1,d_,wrap_i64,List.length_map,List.length_cons,Bool.not_false,Bool.true_and]
             exact⟨⟨Nat.le_refl _,by omega⟩,fin⟩
            |true=>
             have nI:s'=S:=by simpa[bZ]using h2
             rw[h2]at d_;have ew:cq (⟨⟨iw,fB,false⟩,s'⟩::qs) ⟨⟨s,[],true⟩,S⟩=⟨⟨iw,[],true⟩,s'⟩::qs:=by simp only[cq];rw[if_pos (by simp[h1,nI])]
             have fin:=next _ b9
             rw[ew,aZ]at fin;simp-implicitDefEqProofs (maxSteps:=600000) (disch:=(first|omega|decide)) only[go_sem,↓reduceIte,seval,ae,e1,AN,XK,XL,WI,MB,ka,o6,b0,b1,b2,b3,g1,g2,gl,gt,h1,d_,wrap_i64,List.length_map,List.length_cons,Bool.not_false,Bool.true_and]
             exact fin
   · have ae: ¬(k:Int)<(es.length:Int):=by omega
     obtain rfl:k=es.length:=by omega
     have iO:=(mW hE).1;have iB:dz (lL P es es.length)=(aT P).map Pc.enc:=by unfold dz;rw[iO]
     have tk:List.take (lL P es es.length).length (dz (lL P es es.length))=dz (lL P es es.length):=List.take_of_length_le (by rw[dT];exact Nat.le_refl _)
     have Rn:=dT (lL P es es.length)
     simp-implicitDefEqProofs (disch:=(first|omega|decide)) only[go_sem,↓reduceIte,seval,ae,tk,Rn,wrap_i64,List.length_map]
     rw[<-iB]
     exact⟨Nat.le_refl _,rfl⟩
end Go.Proofs.YtihgnfmoafjakaaGreat
