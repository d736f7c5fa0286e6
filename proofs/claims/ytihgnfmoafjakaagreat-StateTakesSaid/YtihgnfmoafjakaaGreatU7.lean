/- What the laws of this claim rest on: the abstract executor, its soundness, and what the functions compute on pure data. No condition. -/
import Derived.Test.YtihgnfmoafjakaaGreatU6
import Derived.Shelf.SlSortCmp.NoneTotal
import Derived.Ground.SlsfProg
import Derived.Test.YtihgnfmoafjakaaGreatProg
noncomputable section
set_option linter.unusedVariables false
set_option linter.unusedSimpArgs false
namespace Go.Proofs.YtihgnfmoafjakaaGreat
open Go.bJ
set_option linter.unusedSimpArgs false
set_option linter.unusedVariables false
set_option maxRecDepth 20000
set_option maxHeartbeats 4000000
theorem strB(l:List (List UInt8)):((l.map A.str).isEmpty||bT (l.map A.str)==1)=true:=by cases l<;>rfl
theorem Cf{l:List (List UInt8)}{n:List UInt8}{k:Nat}(hk:k<=l.length)(hd:im l n=l.take k++n::l.drop k):k+1<=((l.take k).map A.str++[A.str n]).length/\k+1+(l.length-k)<=(((l.take k).map A.str++[A.str n]).take (k+1)++(l.drop k).map A.str).length/\
 (((l.take k).map A.str++[A.str n]).take (k+1)++(l.drop k).map A.str).take (k+1+(l.length-k))=(im l n).map A.str:=by
 have e:((l.take k).map A.str++[A.str n]).length=k+1:=by simp;omega
 rw[List.take_of_length_le (Nat.le_of_eq e)]
 have e2:((l.take k).map A.str++[A.str n]++(l.drop k).map A.str).length=k+1+(l.length-k):=by rw[List.length_append,e,List.length_map,List.length_drop]
 rw[List.take_of_length_le (Nat.le_of_eq e2)]
 exact⟨by omega,by omega,by rw[hd];simp⟩
theorem IT:ai Tryz.prog tQ Tryz.f162.ntmps (Tryz.f162.body.getD .skip)=true:=by kernel_rfl
theorem MN(l:List (List UInt8))(n:List UInt8)(hl:l.length<=1000000)(fF: ∀x∈l,x.length<=9223372036854775807)(hn:n.length<=9223372036854775807):az Tryz.prog 162 [.ad (l.map .str),.str n] (· = .ad ((im l n).map .str)):=by
 refine aa ff mixed Tryz.func162 rfl (Nat.le_of_ble_eq_true rfl) IT ?_;unfold Tryz.f162;simp-implicitDefEqProofs (disch:=(first|omega|decide)) only[go_sem,↓reduceIte,seval,List.length_map]
 refine ao [0,1,4] (ι:={k:Nat//k<=l.length/\im l n=l.take k++im (l.drop k) n}) (fun p=>[(5,.int .i64 p.1)]) (fun _=>[]) (fun p=>l.length-p.1) ⟨0,by omega,rfl⟩ (Nat.zero_le _) ?_ ?_
 · simp-implicitDefEqProofs (disch:=(first|omega|decide)) only[go_sem,↓reduceIte,seval]
 · rintro⟨k,hk,hd⟩
   simp only;by_cases aw:k<l.length
   · have ae:(k:Int)<(l.length:Int):=by omega
     have e1:(l.map A.str)[k]? =some (.str l[k]):=by rw[List.getElem?_map,List.getElem?_eq_getElem aw];rfl
     have lA:=fF _ (List.getElem_mem aw)
     have tk:(l.take k).length=k:=by rw[List.length_take];omega
     have t1:=(List.take_append_getElem aw).symm;rw[List.drop_eq_getElem_cons aw]at hd;generalize hx:l[k]=x at*;simp only[im]at hd;cases h1:aQ x n with
     |true=>
      rw[if_pos h1]at hd;simp-implicitDefEqProofs (disch:=(first|omega|decide)) only[go_sem,↓reduceIte,seval,ae,e1,lA,h1,wrap_i64,List.length_map]
      exact⟨⟨k+1,aw,by rw[hd,t1,List.append_assoc];rfl⟩,by simp,by show l.length-(k+1)<l.length-k;omega⟩
     |false=>
      rw[if_neg (by rw[h1];simp)]at hd;cases h2:x==n with
      |true=>
       simp-implicitDefEqProofs (disch:=(first|omega|decide)) only[go_sem,↓reduceIte,seval,ae,e1,lA,h1,h2,wrap_i64,List.length_map]
       have hxn:x=n:=by simpa using h2
       rw[if_pos hxn,<-hx,<-List.drop_eq_getElem_cons aw,List.take_append_drop]at hd;rw[hd]
      |false=>
       have hxn:x≠n:=by simpa using h2
       have l1:(l.take k).length=k:=tk;have l2:(l.drop k).length=l.length-k:=List.length_drop ..;simp-implicitDefEqProofs (disch:=(first|omega|decide)) only[go_sem,↓reduceIte,seval,ae,e1,lA,h1,h2,wrap_i64,<-List.map_take,<-List.map_drop,strB,List.length_map,List.take_length,l1,l2]
       obtain⟨c1,c2,c3⟩:=Cf hk (by rw[hd,if_neg hxn,<-hx,<-List.drop_eq_getElem_cons aw])
       exact⟨by omega,by omega,⟨by omega,by omega⟩,⟨by omega,by omega⟩,⟨c1,by omega⟩,c2,c3⟩
   · have ae: ¬(k:Int)<(l.length:Int):=by omega
     have l1:(l.take k).length=k:=by rw[List.length_take];omega
     have l2:(l.drop k).length=l.length-k:=List.length_drop ..;have l3:l.drop k=[]:=List.drop_of_length_le (by omega)
     obtain⟨c1,c2,c3⟩:=Cf hk (by rw[hd,l3];rfl)
     simp-implicitDefEqProofs (disch:=(first|omega|decide)) only[go_sem,↓reduceIte,seval,ae,wrap_i64,<-List.map_take,<-List.map_drop,strB,List.length_map,List.take_length,l1,l2]
     exact⟨by omega,by omega,⟨by omega,by omega⟩,⟨by omega,by omega⟩,⟨c1,by omega⟩,c2,c3⟩
def PB:aj:=tQ.add 162 (entry (fun(v:List (List UInt8)×List UInt8)=>[.ad (v.1.map .str),.str v.2]) (fun v=>v.1.length<=1000000/\(∀x∈v.1,x.length<=9223372036854775807)/\v.2.length<=9223372036854775807) (fun v=> .ad ((im v.1 v.2).map .str)))
theorem T08a_ok:ag Tryz.prog PB:=ff.bG Tryz.func162 (by kernel_rfl) (by kernel_rfl) fun v h=>MN v.1 v.2 h.1 h.2.1 h.2.2
@[go_sem] theorem T08a_old{g:FuncId}{xs:List A}(h:g≠162):PB.f g xs=tQ.f g xs:=aj.ak h
@[go_sem] theorem T08a_s:PB.pl tQ:=⟨fun _=>rfl,fun _=>rfl,rfl,fun _=>rfl,rfl,fun _=>rfl,rfl⟩
theorem Cg(v:List (List UInt8)×List UInt8)(h:v.1.length<=1000000/\(∀x∈v.1,x.length<=9223372036854775807)/\v.2.length<=9223372036854775807):PB.f 162 [.ad (v.1.map .str),.str v.2]=some (.ad ((im v.1 v.2).map .str)):=aj.an (Γ:=tQ) (fun i j h=>by simpa[Prod.ext_iff,and_assoc]using h) v h
theorem l5{l:List (List UInt8)}{n:List UInt8}(h:l.length<=1000000)(h1: ∀x∈l,x.length<=9223372036854775807)(h2:n.length<=9223372036854775807):PB.f 162 [.ad (l.map .str),.str n]=some (.ad ((im l n).map .str)):=Cg (l,n) ⟨h,h1,h2⟩
theorem XI: ∀(l:List ax) (es:List (List UInt8)),(∀x∈es,x.length<=9223372036854775807)-> ∀x∈l.foldl jR es,x.length<=9223372036854775807:=fun l es h x hx=>by
 rcases(kI l es x).1 hx with hx|⟨r,_,h1,h2⟩
 · exact h x hx
 · obtain⟨k1,k2,_,_⟩:=cj h1
   rcases h2 with rfl|⟨_,rfl⟩<;>omega
theorem PC(l:List ax)(es:List (List UInt8))(k:Nat)(h:k<l.length):(l.take (k+1)).foldl jR es=jR ((l.take k).foldl jR es) l[k]:=by rw[<-List.take_append_getElem h,List.foldl_append];rfl
theorem Ch:ai Tryz.prog PB Tryz.f107.ntmps (Tryz.f107.body.getD .skip)=true:=by kernel_rfl
theorem EB(a b:List ax)(ha:a.length<=1000)(hb:b.length<=1000)(oka:dp a)(okb:dp b):az Tryz.prog 107 [.ad (a.map ax.enc),.ad (b.map ax.enc)] (· = .ad ((iq a b).map .str)):=by
 refine aa T08a_ok mixed Tryz.func107 rfl (Nat.le_of_ble_eq_true rfl) Ch ?_;unfold Tryz.f107;simp-implicitDefEqProofs (disch:=(first|omega|decide)) only[go_sem,↓reduceIte,seval,List.length_map]
 refine DH 5 [A.str []] rfl ?_;refine ao [0,1,4] (ι:={k:Nat//k<=(a++b).length}) (fun p=>[(6,.int .i64 p.1),(5,.ad ((((a++b).take p.1).foldl jR [[]]).map .str))]) (fun _=>[]) (fun p=>(a++b).length-p.1) ⟨0,by omega⟩ (Nat.zero_le _) ?_ ?_
 · simp-implicitDefEqProofs (disch:=(first|omega|decide)) only[go_sem,↓reduceIte,seval]
   first|done|rfl|exact⟨rfl,rfl⟩|simp[A.under]
 · rintro⟨k,hk⟩
   simp only;have hsum:(a++b).length=a.length+b.length:=List.length_append;have hw:IntKind.i64.wrap ((a.length:Int)+(b.length:Int))=(((a++b).length:Nat):Int):=by rw[wrap_i64 (by omega)];omega
   have hlen:=vC ((a++b).take k) [[]]
   have fF:=XI ((a++b).take k) [[]] (by simp)
   rw[List.length_take,Nat.min_eq_left hk,List.length_singleton]at hlen;by_cases aw:k<(a++b).length
   · have ae:(k:Int)<(((a++b).length:Nat):Int):=by omega
     have bR:=PC (a++b) [[]] k aw
     have hokx:(a++b)[k].ok:=by
      have:=List.getElem_mem aw;rcases List.mem_append.1 this with h|h
      · exact oka _ h
      · exact okb _ h
     have next: ∀yc,((a++b).take (k+1)).foldl jR [[]]=yc-> ∃j:{k:Nat//k<=(a++b).length},((k:Int)+1=(j.1:Int)/\yc.map A.str=(((a++b).take j.1).foldl jR [[]]).map A.str)/\(a++b).length-j.1<(a++b).length-k:=fun yc h=>⟨⟨k+1,aw⟩,⟨by simp,by rw[h]⟩,by show(a++b).length-(k+1)<_;omega⟩
     generalize An:((a++b).take k).foldl jR [[]]=es at*;by_cases Wo:k<a.length
     · have PD:(k:Int)<(a.length:Int):=by omega
       have e1:=dw Wo;have ex:(a++b)[k]=a[k]:=List.getElem_append_left Wo;rw[ex]at bR hokx;generalize hx:a[k]=x at*;obtain⟨lo,hi,op⟩:=x;have lA:lo.length<=9223372036854775807/\hi.length<=9223372036854775807:=hokx;have p1:=l5 (l:=es) (n:=lo) (by omega) fF lA.1
       have p2:=l5 (l:=im es lo) (n:=hi) (by have:=tY es lo;omega) (fun x hx=>by
        rcases(pF es lo x).1 hx with rfl|hx
        · exact lA.1
        · exact fF x hx) lA.2
       cases h1:ay ⟨lo,hi,op⟩with
       |false=>
        have hs:=next es (by rw[bR];unfold jR;rw[h1];rfl)
        simp-implicitDefEqProofs (disch:=(first|omega|decide)) only[go_sem,↓reduceIte,seval,hw,ae,PD,e1,lA,h1,wrap_i64,List.length_map]
        exact hs
       |true=>
        cases op with
        |true=>
          have hs:=next (im es lo) (by rw[bR];unfold jR;rw[h1];rfl)
          simp-implicitDefEqProofs (disch:=(first|omega|decide)) only[go_sem,↓reduceIte,seval,hw,ae,PD,e1,lA,h1,p1,wrap_i64,List.length_map]
          exact hs
        |false=>
          have hs:=next (im (im es lo) hi) (by rw[bR];unfold jR;rw[h1];rfl)
          simp-implicitDefEqProofs (disch:=(first|omega|decide)) only[go_sem,↓reduceIte,seval,hw,ae,PD,e1,lA,h1,p1,p2,wrap_i64,List.length_map]
          exact hs
     · have PD: ¬(k:Int)<(a.length:Int):=by omega
       have Z':k-a.length<b.length:=by omega
       have e1:=dw Z';have ex:(a++b)[k]=b[k-a.length]:=List.getElem_append_right (by omega)
       have t0:((k:Int)-(a.length:Int)).toNat=k-a.length:=by omega
       have t1:(0:Int)<=(k:Int)-(a.length:Int):=by omega
       rw[ex]at bR hokx;generalize hx:b[k-a.length]=x at*;obtain⟨lo,hi,op⟩:=x;have lA:lo.length<=9223372036854775807/\hi.length<=9223372036854775807:=hokx;have p1:=l5 (l:=es) (n:=lo) (by omega) fF lA.1
       have p2:=l5 (l:=im es lo) (n:=hi) (by have:=tY es lo;omega) (fun x hx=>by
        rcases(pF es lo x).1 hx with rfl|hx
        · exact lA.1
        · exact fF x hx) lA.2
       cases h1:ay ⟨lo,hi,op⟩with
       |false=>
        have hs:=next es (by rw[bR];unfold jR;rw[h1];rfl)
        simp-implicitDefEqProofs (disch:=(first|omega|decide)) only[go_sem,↓reduceIte,seval,hw,ae,PD,e1,t0,t1,lA,h1,wrap_i64,List.length_map]
        exact hs
       |true=>
        cases op with
        |true=>
          have hs:=next (im es lo) (by rw[bR];unfold jR;rw[h1];rfl)
          simp-implicitDefEqProofs (disch:=(first|omega|decide)) only[go_sem,↓reduceIte,seval,hw,ae,PD,e1,t0,t1,lA,h1,p1,wrap_i64,List.length_map]
          exact hs
        |false=>
          have hs:=next (im (im es lo) hi) (by rw[bR];unfold jR;rw[h1];rfl)
          simp-implicitDefEqProofs (disch:=(first|omega|decide)) only[go_sem,↓reduceIte,seval,hw,ae,PD,e1,t0,t1,lA,h1,p1,p2,wrap_i64,List.length_map]
          exact hs
   · have ae: ¬(k:Int)<(((a++b).length:Nat):Int):=by omega
     have dQ:((a++b).take k).foldl jR [[]]=iq a b:=by rw[List.take_of_length_le (by omega)];rfl
     simp-implicitDefEqProofs (disch:=(first|omega|decide)) only[go_sem,↓reduceIte,seval,hw,ae,dQ,List.length_map]
end Go.Proofs.YtihgnfmoafjakaaGreat
namespace Go.Proofs.YtihgnfmoafjakaaGreat
open Go.bJ
set_option linter.unusedSimpArgs false
set_option linter.unusedVariables false
set_option maxRecDepth 20000
set_option maxHeartbeats 4000000
def T08b:aj:=PB.add 36 (entry (fun(v:List ax×List UInt8)=>[.ad (v.1.map ax.enc),.str v.2]) (fun v=>v.1.length<=4611686018427387904/\dp v.1/\v.2.length<=9223372036854775807) (fun v=> .bool (ar v.1 v.2)))
def T08c:aj:=T08b
def T08d:aj:=T08c.add 107 (entry (fun(v:List ax×List ax)=>[.ad (v.1.map ax.enc),.ad (v.2.map ax.enc)]) (fun v=>v.1.length<=1000/\v.2.length<=1000/\dp v.1/\dp v.2) (fun v=> .ad ((iq v.1 v.2).map .str)))
def jm(acc:List ax):List A:=acc.reverse.map ax.enc
theorem fH(q:ax)(qs:List ax):jm (q::qs)=jm qs++[.agg [.str q.lo,.str q.hi,.bool q.op]]:=by simp[jm,ax.enc]
theorem lB(l:List ax):(jm l).length=l.length:=by simp[jm]
theorem XJ:jm []=[]:=rfl
theorem str_get{l:List (List UInt8)}{k:Nat}(h:k<l.length):(l.map A.str)[k]? =some (.str l[k]):=by rw[List.getElem?_map,List.getElem?_eq_getElem h];rfl
section
variable(q:ax)(qs:List ax)
theorem gF(x:A):(jm qs++[x])[qs.length]? =some x:=by
 have:=ga (x:=x) (l:=jm qs)
 rwa [lB]at this
theorem jd(x v:A):cn (jm qs++[x]) qs.length v=jm qs++[v]:=by
 have:=gf (x:=x) (v:=v) (l:=jm qs)
 rwa [lB]at this
theorem GN(x:A):(jm qs++[x]).length=qs.length+1:=by rw[List.length_append,lB];rfl
theorem Ue(x:A):(jm qs++[x]).take (qs.length+1)=jm qs++[x]:=List.take_of_length_le (Nat.le_of_eq (GN qs x))
end
end Go.Proofs.YtihgnfmoafjakaaGreat
namespace Go.Proofs
open Go.Shelf
def YtihgnfmoafjakaaGreat.MO:Go.Shelf.Ren:=⟨fun|6=>171|15=>203|14=>202|28=>224|29=>225|20=>216|21=>217|22=>218|23=>219|24=>220|25=>221|26=>222|27=>223|46=>247|47=>248|48=>249|49=>250|50=>251|57=>260|n=>n,fun|22=>22|24=>85|25=>175|3=>3|39=>199|0=>0|53=>46|55=>220|4=>4|46=>212|45=>211|50=>216|5=>5|9=>9|66=>234|70=>238|76=>246|77=>247|n=>n,fun|n=>n⟩
theorem YtihgnfmoafjakaaGreat.sortRng:Go.Proofs.SlLaysF0.n6 Tryz.prog YtihgnfmoafjakaaGreat.MO:={
 mixed:=by kernel_rfl
 f6:=⟨Tryz.f171.name,by decide,Tryz.func171.trans (congrArg some (by kernel_rfl))⟩
 f14:=⟨Tryz.f202.name,by decide,Tryz.func202.trans (congrArg some (by kernel_rfl))⟩
 f15:=Tryz.func203.trans (congrArg some (by kernel_rfl))
 f20:=⟨Tryz.f216.name,by decide,Tryz.func216.trans (congrArg some (by kernel_rfl))⟩
 f21:=⟨Tryz.f217.name,by decide,Tryz.func217.trans (congrArg some (by kernel_rfl))⟩
 f22:=⟨Tryz.f218.name,by decide,Tryz.func218.trans (congrArg some (by kernel_rfl))⟩
 f23:=⟨Tryz.f219.name,by decide,Tryz.func219.trans (congrArg some (by kernel_rfl))⟩
 f24:=⟨Tryz.f220.name,by decide,Tryz.func220.trans (congrArg some (by kernel_rfl))⟩
 f25:=⟨Tryz.f221.name,by decide,Tryz.func221.trans (congrArg some (by kernel_rfl))⟩
 f26:=⟨Tryz.f222.name,by decide,Tryz.func222.trans (congrArg some (by kernel_rfl))⟩
 f27:=⟨Tryz.f223.name,by decide,Tryz.func223.trans (congrArg some (by kernel_rfl))⟩
 f28:=Tryz.func224.trans (congrArg some (by kernel_rfl))
 f29:=Tryz.func225.trans (congrArg some (by kernel_rfl))
 f46:=⟨Tryz.f247.name,by decide,Tryz.func247.trans (congrArg some (by kernel_rfl))⟩
 f47:=Tryz.func248.trans (congrArg some (by kernel_rfl))
 f48:=Tryz.func249.trans (congrArg some (by kernel_rfl))
 f49:=⟨Tryz.f250.name,by decide,Tryz.func250.trans (congrArg some (by kernel_rfl))⟩
 f50:=⟨Tryz.f251.name,by decide,Tryz.func251.trans (congrArg some (by kernel_rfl))⟩
 f57:=⟨Tryz.f260.name,by decide,Tryz.func260.trans (congrArg some (by kernel_rfl))⟩
 t0:=Tryz.underlying0
 a0:=Tryz.isAgg0
 z0:=Tryz.sizeOf0
 v0:=Tryz.zeroValue0
 t3:=Tryz.underlying3
 a3:=Tryz.isAgg3
 z3:=Tryz.sizeOf3
 v3:=Tryz.zeroValue3
 t4:=Tryz.underlying4
 a4:=Tryz.isAgg4
 z4:=Tryz.sizeOf4
 v4:=Tryz.zeroValue4
 t5:=Tryz.underlying5
 a5:=Tryz.isAgg5
 z5:=Tryz.sizeOf5
 v5:=Tryz.zeroValue5
 t9:=Tryz.underlying9
 a9:=Tryz.isAgg9
 z9:=Tryz.sizeOf9
 v9:=Tryz.zeroValue9
 t22:=Tryz.underlying22
 a22:=Tryz.isAgg22
 z22:=Tryz.sizeOf22
 v22:=Tryz.zeroValue22
 t25:=Tryz.underlying175
 a25:=Tryz.isAgg175
 z25:=Tryz.sizeOf175
 v25:=Tryz.zeroValue175
 t39:=Tryz.underlying199
 a39:=Tryz.isAgg199
 z39:=Tryz.sizeOf199
 v39:=Tryz.zeroValue199
 t45:=Tryz.underlying211
 a45:=Tryz.isAgg211
 z45:=Tryz.sizeOf211
 v45:=Tryz.zeroValue211
 t46:=Tryz.underlying212
 a46:=Tryz.isAgg212
 z46:=Tryz.sizeOf212
 v46:=Tryz.zeroValue212
 t50:=Tryz.underlying216
 a50:=Tryz.isAgg216
 z50:=Tryz.sizeOf216
 v50:=Tryz.zeroValue216
 t53:=Tryz.underlying46
 a53:=Tryz.isAgg46
 z53:=Tryz.sizeOf46
 v53:=Tryz.zeroValue46
 t55:=Tryz.underlying220
 a55:=Tryz.isAgg220
 z55:=Tryz.sizeOf220
 v55:=Tryz.zeroValue220
 t66:=Tryz.underlying234
 a66:=Tryz.isAgg234
 z66:=Tryz.sizeOf234
 v66:=Tryz.zeroValue234
 t70:=Tryz.underlying238
 a70:=Tryz.isAgg238
 z70:=Tryz.sizeOf238
 v70:=Tryz.zeroValue238
 t76:=Tryz.underlying246
 a76:=Tryz.isAgg246
 z76:=Tryz.sizeOf246
 v76:=Tryz.zeroValue246
 t77:=Tryz.underlying247
 a77:=Tryz.isAgg247
 z77:=Tryz.sizeOf247
 v77:=Tryz.zeroValue247}
end Go.Proofs
namespace Go.Proofs.YtihgnfmoafjakaaGreat
open Go.bJ
set_option linter.unusedSimpArgs false
set_option linter.unusedVariables false
set_option maxRecDepth 20000
set_option maxHeartbeats 8000000
theorem Ci:ai Tryz.prog tQ Tryz.f172.ntmps (Tryz.f172.body.getD .skip)=true:=by kernel_rfl
theorem c_rOf1(a b:ax)(ha:a.ok)(hb:b.ok):az Tryz.prog 172 [.agg [.str a.lo,.str a.hi,.bool a.op],.agg [.str b.lo,.str b.hi,.bool b.op]] (· = .int .i64 (ck a.lo b.lo)):=by refine aa ff mixed Tryz.func172 rfl (Nat.le_of_ble_eq_true rfl) Ci ?_;unfold Tryz.f172;obtain⟨a1,a2⟩:=ha;obtain⟨b1,b2⟩:=hb;simp-implicitDefEqProofs (disch:=(first|omega|decide)) only[go_sem,↓reduceIte,seval,a1,b1]
abbrev ux:={r:ax//ay r=true}
instance:Inhabited ux:=⟨⟨⟨[],[],true⟩,by decide⟩⟩
def cfR(a b:ux):Int:=ck a.1.lo b.1.lo
def ux.cells(r:ux):List A:=[.str r.1.lo,.str r.1.hi,.bool r.1.op]
theorem MP{a b:List UInt8}:ck a b<0 ↔ aQ a b=true:=by have:= @tO a b;rw[<-this,decide_eq_true_iff]
theorem swoR:Go.Sort.SWO (Go.Proofs.ltOf cfR):=by
 have hl: ∀a b,Go.Proofs.ltOf cfR a b=aQ a.1.lo b.1.lo:=fun a b=>by unfold Go.Proofs.ltOf cfR;exact tO
 refine⟨fun x=> ?_,fun x y z h1 h2=> ?_,fun x y z h1 h2=> ?_⟩
 · rw[hl];exact lt_irrefl _
 · rw[hl]at*;exact bW h1 h2
 · rw[hl]at*;exact kj h2 h1
theorem p_{r:ax}(h:ay r=true):r.ok:=by obtain⟨k1,k2,_,_⟩:=cj h;exact⟨by omega,by omega⟩
theorem Cj(l:List ux)(hl:l.length<4611686018427387904):dG Tryz.prog 171 [.row 0 0 3 l.length false,.fn 172 []] [.row 3 (l.map fun x=> .agg x.cells)]
 (.cx []) [.row 3 ((cW cfR l).map fun x=> .agg x.cells)] []:=
 pQ Go.Proofs.YtihgnfmoafjakaaGreat.sortRng (by omega) Tryz.isAgg85 Tryz.sizeOf85 ux.cells (fun _=>rfl) (fun x a ha=>by simp only[ux.cells,List.mem_cons,List.not_mem_nil,or_false]at ha;rcases ha with rfl|rfl|rfl<;>rfl) cfR swoR (bn Tryz.func172 (by kernel_rfl) (by kernel_rfl)) (fun x y=>c_rOf1 x.1 y.1 (p_ x.2) (p_ y.2)) l hl false
def jr(l:List ax):List ux:=(l.filter ay).attach.map fun x=>⟨x.1,(List.mem_filter.1 x.2).2⟩
theorem vW(l:List ax):(jr l).map (·.1)=l.filter ay:=by
 unfold jr;rw[List.map_map]
 exact List.attach_map_subtype_val _
theorem MQ(l:List ax):(jr l).map (fun x=>A.agg x.cells)=(l.filter ay).map ax.enc:=by rw[<-vW,List.map_map];rfl
def yG(l:List ax):List ax:=(cW cfR (jr l)).map (·.1)
theorem PE(l:List ax):(cW cfR (jr l)).map (fun x=>A.agg x.cells)=(yG l).map ax.enc:=by unfold yG;rw[List.map_map];rfl
theorem vX(l:List ax):(yG l).Perm (l.filter ay):=by rw[<-vW];exact(dC swoR (jr l)).1.map _
theorem MR(l:List ax): ∀r∈yG l,ay r=true:=fun r hr=>by unfold yG at hr;obtain⟨x,_,rfl⟩:=List.mem_map.1 hr;exact x.2
theorem RV(l:List ax):(yG l).Pairwise (fun x y=>aQ y.lo x.lo=false):=by
 unfold yG;rw[List.pairwise_map]
 exact(dC swoR (jr l)).2.imp fun{x y} h=>by unfold cfR at h;rw[MP]at h;simpa using h
theorem XK(l:List ax)(s:List UInt8):ar (yG l) s=ar l s:=by rw[O2 (vX l),HT]
theorem MS(l:List ax):((yG l).foldl dM []).reverse=dd (ar l):=by
 rw[TH (MR l) (RV l)]
 congr 1;funext s;exact XK l s
def rgE(l:List ux):List A:=[.row 0 0 3 l.length false,.fn 172 []]
def XL(l:List ux):List Go.bJ.Obj:=[.row 3 (l.map fun x=> .agg x.cells)]
def rgK(l:List ux):Prop:=l.length<4611686018427387904
def rgR(l:List ux):A×List Go.bJ.Obj×List Nat:=(.cx [],[.row 3 ((cW cfR l).map fun x=> .agg x.cells)],[])
theorem XM(x y:ux)(h:A.agg x.cells=A.agg y.cells):x=y:=Subtype.ext (ax.d_ _ _ h)
theorem rgO_inj(i j:List ux)(h:XL i=XL j):i=j:=by
 simp only[XL,List.cons.injEq,Go.bJ.Obj.row.injEq,true_and,and_true]at h
 rwa [map_inj XM]at h
def R8a:aj:=tQ.eP 171 (bo rgE XL rgK rgR)
def R8:aj:={R8a with l_:=fun f=>f==171,c6:=fun n=>if n=17 then [[0,1,2,3,4,5,6,7,8,10,11,9,12,13,14,15],[0,1,2,3,4,5,6,7,8,10,11,12,9,13,14,15]]else []}
theorem XN:ag Tryz.prog R8a:=ff.eP (bn Tryz.func171 (by kernel_rfl) (by kernel_rfl)) (cL fun l h=>Cj l h)
theorem R8_ok:ag Tryz.prog R8:=⟨XN.f,XN.hp⟩
@[go_sem] theorem R8_f:R8.f=tQ.f:=rfl
@[go_sem] theorem R8_eff{g:FuncId}:R8.l_ g=(g==171):=rfl
@[go_sem] theorem R8_frz{g:FuncId}:R8.qU g=tQ.qU g:=rfl
@[go_sem] theorem R8_fix{n:Nat}:R8.fix n=false:=rfl
@[go_sem] theorem R8_ords17:R8.c6 17=[[0,1,2,3,4,5,6,7,8,10,11,9,12,13,14,15],[0,1,2,3,4,5,6,7,8,10,11,12,9,13,14,15]]:=rfl
@[go_sem] theorem R8_ords{n:Nat}(h:n≠17):R8.c6 n=[]:=if_neg h
theorem R8_sort{l:List ax}{n:Nat}(hn:n=(l.filter ay).length)(h:l.length<4611686018427387904):R8.hp 171 [.row 0 0 3 n false,.fn 172 []] [.row 3 ((l.filter ay).map ax.enc)]=some (.cx [],[.row 3 ((yG l).map ax.enc)],[]):=by
 subst hn;have hlen:(jr l).length=(l.filter ay).length:=by rw[<-vW];simp
 have h0:R8a.hp 171 (rgE (jr l)) (XL (jr l))=bo rgE XL rgK rgR (rgE (jr l)) (XL (jr l)):=aj.dZ;have h1:R8.hp 171 (rgE (jr l)) (XL (jr l))=bo rgE XL rgK rgR (rgE (jr l)) (XL (jr l)):=h0;have h2:=h1.trans (cM (fun i j _ h=>rgO_inj i j h) (jr l) (show(jr l).length<4611686018427387904 by rw[hlen];exact Nat.lt_of_le_of_lt (List.length_filter_le _ _) h))
 simp only[rgE,XL,rgR,hlen,MQ,PE]at h2;exact h2
theorem PF(l:List ax)(k:Nat)(h:k<l.length):(l.take (k+1)).foldl dM []=dM ((l.take k).foldl dM []) l[k]:=by rw[<-List.take_append_getElem h,List.foldl_append];rfl
theorem vY: ∀(l:List ax) (a:List ax),(l.foldl dM a).length<=a.length+l.length
 | [],a=>by simp
 |r::l,a=>by
  have h1:=vY l (dM a r)
  have h2:=TG a r;simp only[List.foldl_cons,List.length_cons];omega
theorem IU:ai Tryz.prog R8 Tryz.f135.ntmps (Tryz.f135.body.getD .skip)=true:=by kernel_rfl
theorem p'(l:List ax)(hl:l.length<=1000000)(fF:dp l):az Tryz.prog 135 [.ad (l.map ax.enc)] (· = .ad ((dd (ar l)).map ax.enc)):=by
 refine aa R8_ok mixed Tryz.func135 rfl (Nat.le_of_ble_eq_true rfl) IU ?_;unfold Tryz.f135;simp-implicitDefEqProofs (disch:=(first|omega|decide)) only[go_sem,↓reduceIte,seval,List.length_map]
 refine aU 3 3 rfl ?_;refine ao [2,10,11] (ι:={k:Nat//k<=l.length}) (fun p=>[(12,.int .i64 p.1),(3,.row 0 0 3 ((l.take p.1).filter ay).length false)]) (fun p=>[(0,.row 3 (((l.take p.1).filter ay).map ax.enc))]) (fun p=>l.length-p.1) ⟨0,by omega⟩ (Nat.zero_le _) ?_ ?_
 · simp-implicitDefEqProofs (disch:=(first|omega|decide)) only[go_sem,↓reduceIte,seval]
   simp
 · rintro⟨k,hk⟩
   simp only;have hf:((l.take k).filter ay).length<=k:=Nat.le_trans (List.length_filter_le _ _) (by rw[List.length_take];omega)
   by_cases aw:k<l.length
   · have ae:(k:Int)<(l.length:Int):=by omega
     have ht:l.take (k+1)=l.take k++[l[k]]:=(List.take_append_getElem aw).symm;have e1:=dw aw;have lA:=ja fF aw;generalize hx:l[k]=x at*;obtain⟨lo,hi,op⟩:=x;simp only at lA;cases h1:ay ⟨lo,hi,op⟩with
     |true=>
      simp-implicitDefEqProofs (disch:=(first|omega|decide)) only[go_sem,↓reduceIte,seval,ae,e1,lA,h1,wrap_i64,List.length_map]
      refine⟨⟨Nat.le_refl _,by omega⟩,⟨k+1,aw⟩,⟨⟨by simp, ?_⟩, ?_⟩,by show l.length-(k+1)<l.length-k;omega⟩
      · rw[ht,List.filter_append];simp[h1]
      · rw[ht,List.filter_append,List.take_of_length_le (by simp)];simp[h1,ax.enc]
     |false=>
      simp-implicitDefEqProofs (disch:=(first|omega|decide)) only[go_sem,↓reduceIte,seval,ae,e1,lA,h1,wrap_i64,List.length_map]
      refine⟨⟨k+1,aw⟩,⟨⟨by simp, ?_⟩, ?_⟩,by show l.length-(k+1)<l.length-k;omega⟩
      · rw[ht,List.filter_append];simp[h1]
      · rw[ht,List.filter_append];simp[h1]
   · have ae: ¬(k:Int)<(l.length:Int):=by omega
     rw[List.take_of_length_le (by omega)]at*;have hs:=R8_sort (l:=l) rfl (by omega)
     have hp:=(vX l).length_eq;have gZ:=MS l;have cQ:=MR l;have TL:=RV l;rw[<-hp]at hf;simp-implicitDefEqProofs (disch:=(first|omega|decide)) only[go_sem,↓reduceIte,seval,ae,hs,List.length_map,List.contains_nil,List.contains_cons]
     rw[<-hp]
     generalize yG l=s at*;refine aU 6 3 rfl ?_;refine ao [2,25,26] (ι:={j:Nat//j<=s.length}) (fun p=>[(27,.int .i64 p.1),(6,.row 1 0 3 ((s.take p.1).foldl dM []).length false)]) (fun p=>[(1,.row 3 (jm ((s.take p.1).foldl dM [])))]) (fun p=>s.length-p.1) ⟨0,by omega⟩ (Nat.zero_le _) ?_ ?_
     · simp-implicitDefEqProofs (disch:=(first|omega|decide)) only[go_sem,↓reduceIte,seval]
       simp[jm]
     · rintro⟨j,hj⟩
       simp only;have qx:=vY (s.take j) []
       rw[List.length_take,List.length_nil,Nat.min_eq_left hj,Nat.zero_add]at qx;by_cases Ij:j<s.length
       · have lZ:(j:Int)<(s.length:Int):=by omega
         have e2:=dw Ij;have bR:=PF s j Ij;have ho:=cQ _ (List.getElem_mem Ij)
         have hR:RS ((s.take j).foldl dM []):=(sn (a:=[]) trivial (fun r hr=>cQ r (List.mem_of_mem_take hr)) (TL.sublist (List.take_sublist _ _)) (fun _ _=>trivial)).1;have fin: ∀m',(s.take (j+1)).foldl dM []=m'-> ∃i:{j:Nat//j<=s.length},(((j:Int)+1=(i.1:Int)/\m'.length=((s.take i.1).foldl dM []).length)/\jm m'=jm ((s.take i.1).foldl dM []))/\s.length-i.1<s.length-j:=fun m' jh=>⟨⟨j+1,Ij⟩,⟨⟨by simp,by rw[jh]⟩,by rw[jh]⟩,by show s.length-(j+1)<s.length-j;omega⟩
         generalize hx:s[j]=x at*;generalize(s.take j).foldl dM []=m at*;have okx:=p_ ho;obtain⟨lo,hi,op⟩:=x;have XO:lo.length<=9223372036854775807/\hi.length<=9223372036854775807:=okx;have lp:=fin _ bR;cases m with
         |nil=>
          rw[XJ]
          simp-implicitDefEqProofs (disch:=(first|omega|decide)) only[go_sem,↓reduceIte,seval,lZ,e2,wrap_i64,List.length_map]
          exact lp
         |cons q qs=>
          have hq:=WE hR;have okq:=p_ hq;obtain⟨PG,PH,qop⟩:=q;have XP:PG.length<=9223372036854775807/\PH.length<=9223372036854775807:=okq;rw[fH]at*;have hlq:qs.length+1<=j:=qx
          have cz:(((qs.length+1:Nat):Int)==0)=false:=by
           have:((qs.length+1:Nat):Int)≠0:=by omega
           simpa using this
          have c1:(((qs.length+1:Nat):Int)-1).toNat=qs.length:=by omega
          have c2:(0:Int)<=((qs.length+1:Nat):Int)-1:=by omega
          have c3:((qs.length+1:Nat):Int)-1<((qs.length+1:Nat):Int):=by omega
          have merge:(qop|| !aQ PH lo)=true->dM (⟨PG,PH,qop⟩::qs) ⟨lo,hi,op⟩=fZ ⟨PG,PH,qop⟩ ⟨lo,hi,op⟩::qs:=fun h=>by simp only[dM];rw[if_pos h]
          cases hqo:qop with
          |true=>
           subst hqo;have Ic:=merge (by simp)
           by_cases he:oq ⟨PG,PH,true⟩ ⟨lo,hi,op⟩<0
           · have hm:fZ ⟨PG,PH,true⟩ ⟨lo,hi,op⟩=⟨PG,hi,op⟩:=by unfold fZ;rw[if_pos he]
             rw[Ic,hm,fH]at lp;simp-implicitDefEqProofs (maxSteps:=600000) (disch:=(first|omega|decide)) only[go_sem,↓reduceIte,seval,lZ,e2,XO,XP,cz,c1,c2,c3,he,gF,jd,wrap_i64,List.length_map]
             exact lp
           · have hm:fZ ⟨PG,PH,true⟩ ⟨lo,hi,op⟩=⟨PG,PH,true⟩:=by unfold fZ;rw[if_neg he]
             rw[Ic,hm,fH]at lp;simp-implicitDefEqProofs (disch:=(first|omega|decide)) only[go_sem,↓reduceIte,seval,lZ,e2,XO,XP,cz,c1,c2,c3,he,gF,jd,wrap_i64,List.length_map]
             exact lp
          |false=>
           subst hqo;cases hto:aQ PH lo with
           |false=>
              have Ic:=merge (by rw[hto];rfl)
              by_cases he:oq ⟨PG,PH,false⟩ ⟨lo,hi,op⟩<0
              · have hm:fZ ⟨PG,PH,false⟩ ⟨lo,hi,op⟩=⟨PG,hi,op⟩:=by unfold fZ;rw[if_pos he]
                rw[Ic,hm,fH]at lp;simp-implicitDefEqProofs (maxSteps:=600000) (disch:=(first|omega|decide)) only[go_sem,↓reduceIte,seval,lZ,e2,XO,XP,cz,c1,c2,c3,he,hto,gF,jd,wrap_i64,List.length_map]
                exact lp
              · have hm:fZ ⟨PG,PH,false⟩ ⟨lo,hi,op⟩=⟨PG,PH,false⟩:=by unfold fZ;rw[if_neg he]
                rw[Ic,hm,fH]at lp;simp-implicitDefEqProofs (disch:=(first|omega|decide)) only[go_sem,↓reduceIte,seval,lZ,e2,XO,XP,cz,c1,c2,c3,he,hto,gF,jd,wrap_i64,List.length_map]
                exact lp
           |true=>
              have Ic:dM (⟨PG,PH,false⟩::qs) ⟨lo,hi,op⟩=⟨lo,hi,op⟩::⟨PG,PH,false⟩::qs:=by simp only[dM];rw[if_neg (by rw[hto];simp)]
              rw[Ic,fH,fH]at lp;simp-implicitDefEqProofs (disch:=(first|omega|decide)) only[go_sem,↓reduceIte,seval,lZ,e2,XO,XP,cz,c1,c2,c3,hto,gF,jd,GN,Ue,wrap_i64,List.length_map]
              exact⟨⟨Nat.le_refl _,by omega⟩,lp⟩
       · have lZ: ¬(j:Int)<(s.length:Int):=by omega
         rw[List.take_of_length_le (by omega)]at*;have dQ:jm (s.foldl dM [])=(dd (ar l)).map ax.enc:=by unfold jm;rw[gZ]
         have LX:(s.foldl dM []).length=(jm (s.foldl dM [])).length:=by rw[lB]
         simp-implicitDefEqProofs (disch:=(first|omega|decide)) only[go_sem,↓reduceIte,seval,lZ,wrap_i64,LX,List.length_map,List.take_length]
         rw[dQ]
         exact⟨Nat.le_refl _,rfl⟩
set_option maxHeartbeats 4000000
theorem uy:ai Tryz.prog tQ Tryz.f213.ntmps (Tryz.f213.body.getD .skip)=true:=by kernel_rfl
theorem Uf(x y:Bool):az Tryz.prog 213 [.bool x,.bool y] (· = .bool (x||y)):=by refine aa ff mixed Tryz.func213 rfl (Nat.le_of_ble_eq_true rfl) uy ?_;unfold Tryz.f213;cases x<;>simp-implicitDefEqProofs (disch:=(first|omega|decide)) only[go_sem,↓reduceIte,seval]
theorem vZ:ai Tryz.prog tQ Tryz.f212.ntmps (Tryz.f212.body.getD .skip)=true:=by kernel_rfl
theorem XQ(x y:Bool):az Tryz.prog 212 [.bool x,.bool y] (· = .bool (x&&y)):=by refine aa ff mixed Tryz.func212 rfl (Nat.le_of_ble_eq_true rfl) vZ ?_;unfold Tryz.f212;cases x<;>simp-implicitDefEqProofs (disch:=(first|omega|decide)) only[go_sem,↓reduceIte,seval]
theorem yH:ai Tryz.prog tQ Tryz.f214.ntmps (Tryz.f214.body.getD .skip)=true:=by kernel_rfl
theorem c_rNot1(x y:Bool):az Tryz.prog 214 [.bool x,.bool y] (· = .bool (!x)):=by refine aa ff mixed Tryz.func214 rfl (Nat.le_of_ble_eq_true rfl) yH ?_;unfold Tryz.f214;cases x<;>simp-implicitDefEqProofs (disch:=(first|omega|decide)) only[go_sem,↓reduceIte,seval]
def S8w:aj:=tQ.add 213 (entry (fun(v:Bool×Bool)=>[.bool v.1,.bool v.2]) (fun v=>True) (fun v=> .bool (v.1||v.2)))
theorem S8w_ok:ag Tryz.prog S8w:=ff.bG Tryz.func213 (by kernel_rfl) (by kernel_rfl) fun v h=>Uf v.1 v.2
@[go_sem] theorem S8w_old{g:FuncId}{xs:List A}(h:g≠213):S8w.f g xs=tQ.f g xs:=aj.ak h
theorem sJ(v:Bool×Bool)(h:True):S8w.f 213 [.bool v.1,.bool v.2]=some (.bool (v.1||v.2)):=aj.an (Γ:=tQ) (fun i j h=>by simpa[Prod.ext_iff,and_assoc]using h) v h
def S8x:aj:=S8w.add 212 (entry (fun(v:Bool×Bool)=>[.bool v.1,.bool v.2]) (fun v=>True) (fun v=> .bool (v.1&&v.2)))
theorem S8x_ok:ag Tryz.prog S8x:=S8w_ok.bG Tryz.func212 (by kernel_rfl) (by kernel_rfl) fun v h=>XQ v.1 v.2
@[go_sem] theorem S8x_old{g:FuncId}{xs:List A}(h:g≠212):S8x.f g xs=S8w.f g xs:=aj.ak h
theorem uz(v:Bool×Bool)(h:True):S8x.f 212 [.bool v.1,.bool v.2]=some (.bool (v.1&&v.2)):=aj.an (Γ:=S8w) (fun i j h=>by simpa[Prod.ext_iff,and_assoc]using h) v h
def S8y:aj:=S8x
theorem S8y_ok:ag Tryz.prog S8y:=S8x_ok
@[go_sem] theorem S8y_old{g:FuncId}{xs:List A}:S8y.f g xs=S8x.f g xs:=rfl
def ZE:aj:=S8y.add 214 (entry (fun(v:Bool×Bool)=>[.bool v.1,.bool v.2]) (fun v=>True) (fun v=> .bool (!v.1)))
theorem S8z_ok:ag Tryz.prog ZE:=S8y_ok.bG Tryz.func214 (by kernel_rfl) (by kernel_rfl) fun v h=>c_rNot1 v.1 v.2
@[go_sem] theorem S8z_old{g:FuncId}{xs:List A}(h:g≠214):ZE.f g xs=S8y.f g xs:=aj.ak h
theorem v_(v:Bool×Bool)(h:True):ZE.f 214 [.bool v.1,.bool v.2]=some (.bool (!v.1)):=aj.an (Γ:=S8y) (fun i j h=>by simpa[Prod.ext_iff,and_assoc]using h) v h
def GO(g:FuncId):Bool:=false||g==213||g==212||g==214
def kpR(g:FuncId):Bool->Bool->Bool:=if g=213 then(· || ·)else if g=212 then(· && ·)else fun x _=> !x
theorem kpR_z{g:FuncId}(h:GO g=true)(x y:Bool):ZE.f g [.bool x,.bool y]=some (.bool (kpR g x y)):=by
 by_cases e1:g=213
 · subst e1
   have h1:=sJ (x,y) trivial;show ZE.f _ _=some (.bool (x||y))
   simp-implicitDefEqProofs (disch:=(first|omega|decide)) only[go_sem,↓reduceIte,seval,h1]
 by_cases e2:g=212
 · subst e2
   have h1:=uz (x,y) trivial;show ZE.f _ _=some (.bool (x&&y))
   simp-implicitDefEqProofs (disch:=(first|omega|decide)) only[go_sem,↓reduceIte,seval,h1]
 by_cases e4:g=214
 · subst e4
   have h1:=v_ (x,y) trivial;show ZE.f _ _=some (.bool (!x))
   simp-implicitDefEqProofs (disch:=(first|omega|decide)) only[go_sem,↓reduceIte,seval,h1]
 exfalso;simp_all[GO]
end Go.Proofs.YtihgnfmoafjakaaGreat
namespace Go.Proofs.YtihgnfmoafjakaaGreat
open Go.bJ
set_option linter.unusedSimpArgs false
set_option linter.unusedVariables false
set_option maxRecDepth 20000
set_option maxHeartbeats 8000000
theorem qa(l:List ax):(dd (ar l)).length<=l.length:=by
 rw[<-MS,List.length_reverse]
 have h1:=vY (yG l) []
 have h2:=(vX l).length_eq;have h3:=List.length_filter_le ay l;rw[List.length_nil]at h1;omega
theorem uA(p:List UInt8->Bool):dp (dd p):=fun r hr=>p_ ((eH.1 (lj p)).1 r hr)
def S8a:aj:=ZE.add 135 (entry (fun(l:List ax)=>[.ad (l.map ax.enc)]) (fun l=>l.length<=1000000/\dp l) (fun l=> .ad ((dd (ar l)).map ax.enc)))
theorem S8a_ok:ag Tryz.prog S8a:=S8z_ok.bG Tryz.func135 (by kernel_rfl) (by kernel_rfl) fun l h=>p' l h.1 h.2
@[go_sem] theorem S8a_old{g:FuncId}{xs:List A}(h:g≠135):S8a.f g xs=ZE.f g xs:=aj.ak h
theorem EC(l:List ax)(h:l.length<=1000000/\dp l):S8a.f 135 [.ad (l.map ax.enc)]=some (.ad ((dd (ar l)).map ax.enc)):=aj.an (Γ:=ZE) (fun i j h=>by simpa[Prod.ext_iff,and_assoc]using h) l h
def S8b:aj:=S8a.add 109 (entry (fun(l:List ax)=>[.ad (l.map ax.enc)]) (fun l=>l.length<=1000000/\dp l) (fun l=> .bool (aO l)))
theorem XR:ag Tryz.prog S8b:=S8a_ok.bG Tryz.func109 (by kernel_rfl) (by kernel_rfl) fun l h=>pU l (by omega) h.2
@[go_sem] theorem S8b_old{g:FuncId}{xs:List A}(h:g≠109):S8b.f g xs=S8a.f g xs:=aj.ak h
@[go_sem] theorem S8b_s:S8b.pl S8a:=⟨fun _=>rfl,fun _=>rfl,rfl,fun _=>rfl,rfl,fun _=>rfl,rfl⟩
theorem wa(l:List ax)(h:l.length<=1000000/\dp l):S8b.f 109 [.ad (l.map ax.enc)]=some (.bool (aO l)):=aj.an (Γ:=S8a) (fun i j h=>by simpa[Prod.ext_iff,and_assoc]using h) l h
theorem MT{l:List ax}(h:l.length<=1000000)(h1:dp l):S8a.f 135 [.ad (l.map ax.enc)]=some (.ad ((dd (ar l)).map ax.enc)):=EC l ⟨h,h1⟩
theorem Ck{l:List ax}(h:l.length<=1000000)(h1:dp l):S8b.f 109 [.ad (l.map ax.enc)]=some (.bool (aO l)):=wa l ⟨h,h1⟩
theorem yI:ai Tryz.prog S8b Tryz.f126.ntmps (Tryz.f126.body.getD .skip)=true:=by kernel_rfl
theorem Cl(l:List ax)(h:l.length<=1000000)(h1:dp l):az Tryz.prog 126 [.ad (l.map ax.enc)] (· = .ad ((dd (ar l)).map ax.enc)):=by
 refine aa XR mixed Tryz.func126 rfl (Nat.le_of_ble_eq_true rfl) yI ?_;unfold Tryz.f126;have e1:=MT h h1;have e2:=Ck h h1;cases hr:aO l with
 |true=>
  rw[hr]at e2;simp-implicitDefEqProofs (maxSteps:=600000) (disch:=(first|omega|decide)) only[go_sem,↓reduceIte,seval,e2,List.length_map]
  rw[TI hr]
 |false=>
  rw[hr]at e2;simp-implicitDefEqProofs (maxSteps:=600000) (disch:=(first|omega|decide)) only[go_sem,↓reduceIte,seval,e1,e2,List.length_map]
def S8c:aj:=S8b.add 126 (entry (fun(l:List ax)=>[.ad (l.map ax.enc)]) (fun l=>l.length<=1000000/\dp l) (fun l=> .ad ((dd (ar l)).map ax.enc)))
theorem S8c_ok:ag Tryz.prog S8c:=XR.bG Tryz.func126 (by kernel_rfl) (by kernel_rfl) fun l h=>Cl l h.1 h.2
@[go_sem] theorem S8c_old{g:FuncId}{xs:List A}(h:g≠126):S8c.f g xs=S8b.f g xs:=aj.ak h
theorem wb(l:List ax)(h:l.length<=1000000/\dp l):S8c.f 126 [.ad (l.map ax.enc)]=some (.ad ((dd (ar l)).map ax.enc)):=aj.an (Γ:=S8b) (fun i j h=>by simpa[Prod.ext_iff,and_assoc]using h) l h
theorem lC{l:List ax}(h:l.length<=1000000)(h1:dp l):S8c.f 126 [.ad (l.map ax.enc)]=some (.ad ((dd (ar l)).map ax.enc)):=wb l ⟨h,h1⟩
def Vp:aj:=S8c.add 245 (entry (fun(v:List ax×List ax)=>[.ad (v.1.map ax.enc),.ad (v.2.map ax.enc)]) (fun v=>v.1.length<=1000000/\v.2.length<=1000000/\(∀r∈v.1,ay r=true)/\(∀r∈v.2,ay r=true)) (fun v=> .ad ((iw v.1 v.2).map .str)))
theorem XS:ag Tryz.prog Vp:=S8c_ok.bG Tryz.func245 (by kernel_rfl) (by kernel_rfl) fun v h=>Cd v.1 v.2 h.1 h.2.1 h.2.2.1 h.2.2.2
@[go_sem] theorem S8d_old{g:FuncId}{xs:List A}(h:g≠245):Vp.f g xs=S8c.f g xs:=aj.ak h
@[go_sem] theorem S8d_s:Vp.pl S8c:=⟨fun _=>rfl,fun _=>rfl,rfl,fun _=>rfl,rfl,fun _=>rfl,rfl⟩
theorem wc(v:List ax×List ax)(h:v.1.length<=1000000/\v.2.length<=1000000/\(∀r∈v.1,ay r=true)/\(∀r∈v.2,ay r=true)):Vp.f 245 [.ad (v.1.map ax.enc),.ad (v.2.map ax.enc)]=some (.ad ((iw v.1 v.2).map .str)):=aj.an (Γ:=S8c) (fun i j h=>by simpa[Prod.ext_iff,and_assoc]using h) v h
theorem Cm{a b:List ax}(ha:a.length<=1000000)(hb:b.length<=1000000)(ra: ∀r∈a,ay r=true)(rb: ∀r∈b,ay r=true):Vp.f 245 [.ad (a.map ax.enc),.ad (b.map ax.enc)]=some (.ad ((iw a b).map .str)):=wc (a,b) ⟨ha,hb,ra,rb⟩
section
variable{a b:List ax}(ra: ∀r∈a,ay r=true)(rb: ∀r∈b,ay r=true)
include ra rb
theorem RW: ∀s∈cS [[]] (a++b),s.length<=17:=fun s hs=>by
 rcases(h_ _ _ _).1 hs with h|⟨r,hr,h⟩
 · simp at h;subst h;simp
 · have Ti:ay r=true:=by
    rcases List.mem_append.1 hr with hr|hr
    · exact ra r hr
    · exact rb r hr
   obtain⟨k1,k2,_,_⟩:=cj Ti;rcases h with rfl|⟨_,rfl⟩
   · exact k1
   · exact k2
theorem nS(x:List UInt8):x∈iw a b ↔ x∈cS [[]] (a++b):=by
 unfold iw;rw[kM]
 exact(eO (RW ra rb)).1.mem_iff
theorem GP:(iw a b).Pairwise (fun x y=>aQ x y=true):=IP (eO (RW ra rb)).2
theorem PI: []∈iw a b:=(nS ra rb []).2 ((h_ _ _ _).2 (.inl (by simp)))
theorem GQ: ∀e∈iw a b,e.length<=17:=fun e he=>RW ra rb e ((nS ra rb e).1 he)
theorem Cn: ∀r∈a++b,r.lo∈iw a b/\(r.op=false->r.hi∈iw a b):=fun r hr=>⟨(nS ra rb _).2 ((h_ _ _ _).2 (.inr ⟨r,hr,.inl rfl⟩)),fun ho=>(nS ra rb _).2 ((h_ _ _ _).2 (.inr ⟨r,hr,.inr ⟨ho,rfl⟩⟩))⟩
theorem PJ:(iw a b).length<=1+2*(a.length+b.length):=by
 have h1:=(eO (RW ra rb)).1.length_eq;have h2:=(fB (a++b) [[]]).2;have h3:=qP (jb (cS [[]] (a++b)))
 rw[List.length_append,List.length_singleton]at h2;unfold iw;omega
end
theorem Co{l:List ax}(h:aO l=true){s t:List UInt8}(bR:aQ s t=true):bk l s<=bk l t:=by
 rcases Nat.lt_or_ge (bk l t) (bk l s)with aw|Te
 · exfalso
   have hle:=pX l s;have h1:=mO l t (by omega)
   have h2:=pY l s (bk l t) (by omega) aw;rw[h2.1,Bool.false_or]at h1;have:=bW bR h1;rw[h2.2]at this;cases this
 · exact Te
theorem Cp{l:List ax}(h:aO l=true)(ok:dp l)(s:List UInt8): ∃lo hi op,(lo.length<=9223372036854775807/\hi.length<=9223372036854775807)/\
 ((((bk l s:Nat):Int)<(l.length:Int)/\(l.map ax.enc)[bk l s]? =some (.agg [.str lo,.str hi,.bool op])/\((op=true/\((0:Int)==0)=true)\/(op=false/\aQ s hi=true))/\ar l s= !aQ s lo)\/
  (¬((bk l s:Nat):Int)<(l.length:Int)/\(l.map ax.enc)[bk l s]? =none/\ar l s=false)):=by
 have hf:=uw h s;by_cases aw:bk l s<l.length
 · rw[dif_pos aw]at hf
   have AA:=mO l s aw;have okx:=ja ok aw;have e:=dw aw;generalize l[bk l s]=x at*;obtain⟨lo,hi,op⟩:=x;refine⟨lo,hi,op,okx,.inl ⟨by omega,e, ?_,hf⟩⟩
   cases op with
   |true=>exact .inl ⟨rfl,rfl⟩
   |false=>exact .inr ⟨rfl,by simpa using AA⟩
 · rw[dif_neg aw]at hf
   exact⟨[],[],true,by simp,.inr ⟨by omega,by simp;omega,hf⟩⟩
theorem yJ:ai Tryz.prog Vp Tryz.f211.ntmps (Tryz.f211.body.getD .skip)=true:=by kernel_rfl
theorem XT(a b:List ax)(g:FuncId)(kp:Bool->Bool->Bool)(hg: ∀x y,Vp.f g [.bool x,.bool y]=some (.bool (kp x y)))(ha:a.length<=100000)(hb:b.length<=100000)(oka:dp a)(okb:dp b):
 az Tryz.prog 211 [.ad (a.map ax.enc),.ad (b.map ax.enc),.fn g []] (· = .ad ((dd fun s=>kp (ar a s) (ar b s)).map ax.enc)):=by
 refine aa XS mixed Tryz.func211 rfl (Nat.le_of_ble_eq_true rfl) yJ ?_;unfold Tryz.f211;have dQ:(fun s=>kp (ar a s) (ar b s))=fun s=>kp (ar (dd (ar a)) s) (ar (dd (ar b)) s):=by funext s;rw[t_,t_]
 rw[dQ]
 have e1:=lC (l:=a) (by omega) oka;have e2:=lC (l:=b) (by omega) okb;have lu:=qa a;have lv:=qa b;have ru:=lj (ar a)
 have rv:=lj (ar b)
 have ou:=uA (ar a)
 have ov:=uA (ar b)
 generalize dd (ar a)=u at*;generalize dd (ar b)=v at*;have ru':=(eH.1 ru).1;have rv':=(eH.1 rv).1;have e3:=Cm (a:=u) (b:=v) (by omega) (by omega) ru' rv';have fQ:=(mk_of (kp:=kp) (a:=u) (b:=v) (GP ru' rv') (PI ru' rv') (GQ ru' rv') (fun r hr _=>Cn ru' rv' r (by simp[hr])) (fun r hr _=>Cn ru' rv' r (by simp[hr]))).1;have TL:=GP ru' rv';have XH:=GQ ru' rv';have Zz:=PJ ru' rv';simp-implicitDefEqProofs (maxSteps:=600000) (disch:=(first|omega|decide)) only[go_sem,↓reduceIte,seval,e1,e2,e3,List.length_map]
 rw[<-fQ]
 generalize iw u v=e at*;clear e1 e2 e3 fQ dQ;refine aU 8 3 rfl ?_;refine ao [0,1,2,6,22,23] (ι:={p:Nat×Nat×Nat//p.1<=e.length/\ ∀s∈e.drop p.1,p.2.1<=bk u s/\p.2.2<=bk v s}) (fun p=>[(24,.int .i64 p.1.1),(10,.int .i64 p.1.2.1),(11,.int .i64 p.1.2.2),(9,.bool (D2 (fun s=>kp (ar u s) (ar v s)) (e.take p.1.1)).2),(8,.row 0 0 3 (D2 (fun s=>kp (ar u s) (ar v s)) (e.take p.1.1)).1.length false)]) (fun p=>[(0,.row 3 (jm (D2 (fun s=>kp (ar u s) (ar v s)) (e.take p.1.1)).1))]) (fun p=>e.length-p.1.1) ⟨(0,0,0),Nat.zero_le _,fun s _=>⟨Nat.zero_le _,Nat.zero_le _⟩⟩ (Nat.zero_le _) ?_ ?_
 · simp-implicitDefEqProofs (maxSteps:=600000) (disch:=(first|omega|decide)) only[go_sem,↓reduceIte,seval,List.take_zero]
   simp[D2,jm]
 · rintro⟨⟨k,i,j⟩,hk,vw⟩
   simp only at hk vw⊢;have hlen:=Rl (fun s=>kp (ar u s) (ar v s)) (e.take k) ([],false)
   have hwas:=Rm (fun s=>kp (ar u s) (ar v s)) (e.take k) ([],false) (by simp)
   have qx:(D2 (fun s=>kp (ar u s) (ar v s)) (e.take k)).1.length<=k:=by have:(D2 (fun s=>kp (ar u s) (ar v s)) (e.take k)).1.length<=0+(e.take k).length:=hlen;rw[List.length_take]at this;omega
   have hwas':(D2 (fun s=>kp (ar u s) (ar v s)) (e.take k)).2=true->(D2 (fun s=>kp (ar u s) (ar v s)) (e.take k)).1≠ []:=hwas;clear hlen hwas;by_cases aw:k<e.length
   · have ae:(k:Int)<(e.length:Int):=by omega
     have es:=str_get aw;have hs17:=XH _ (List.getElem_mem aw)
     have bR:=WJ (fun s=>kp (ar u s) (ar v s)) e k aw;have hd:e.drop k=e[k]::e.drop (k+1):=List.drop_eq_getElem_cons aw;have hi0:=vw e[k] (by rw[hd];exact List.mem_cons_self)
     have XU: ∀s∈e.drop (k+1),bk u e[k]<=bk u s/\bk v e[k]<=bk v s:=fun s hs=>by
      have hp:(e.drop k).Pairwise (fun x y=>aQ x y=true):=TL.sublist (List.drop_sublist _ _)
      rw[hd,List.pairwise_cons]at hp;exact⟨Co ru (hp.1 s hs),Co rv (hp.1 s hs)⟩
     have next: ∀st,D2 (fun s=>kp (ar u s) (ar v s)) (e.take (k+1))=st-> ∃q:{p:Nat×Nat×Nat//p.1<=e.length/\ ∀s∈e.drop p.1,p.2.1<=bk u s/\p.2.2<=bk v s},(((k:Int)+1=(q.1.1:Int)/\((bk u e[k]:Nat):Int)=(q.1.2.1:Int)/\((bk v e[k]:Nat):Int)=(q.1.2.2:Int)/\st.2=(D2 (fun s=>kp (ar u s) (ar v s)) (e.take q.1.1)).2/\st.1.length=(D2 (fun s=>kp (ar u s) (ar v s)) (e.take q.1.1)).1.length)/\jm st.1=jm (D2 (fun s=>kp (ar u s) (ar v s)) (e.take q.1.1)).1)/\e.length-q.1.1<e.length-k:=fun st h=>⟨⟨(k+1,bk u e[k],bk v e[k]),aw,XU⟩,⟨⟨by simp,rfl,rfl,by rw[h],by rw[h]⟩,by rw[h]⟩,by show e.length-(k+1)<e.length-k;omega⟩
     have nx:=next _ bR
     have fu:=uw ru e[k]
     have fv:=uw rv e[k]
     clear next bR XU hd vw
     generalize D2 (fun s=>kp (ar u s) (ar v s)) (e.take k)=st at*;simp only[O4]at nx;generalize e[k]=s at*;obtain⟨m,was⟩:=st;simp only at qx hwas' nx⊢;have flu:=pX u s;have flv:=pX v s;simp-implicitDefEqProofs (maxSteps:=600000) (disch:=(first|omega|decide)) only[go_sem,↓reduceIte,seval,ae,es,List.length_map]
     refine ao [0,1,2,6,13,22,23,24,9,8,11] (ι:={i:Nat//i<=bk u s}) (fun p=>[(10,.int .i64 p.1)]) (fun _=>[]) (fun p=>u.length-p.1) ⟨i,hi0.1⟩ (Nat.zero_le _) ?_ ?_
     · simp-implicitDefEqProofs (maxSteps:=600000) (disch:=(first|omega|decide)) only[go_sem,↓reduceIte,seval]
     · rintro⟨i',eW⟩
       simp only;by_cases hiu:i'<bk u s
       · have hiu2:i'<u.length:=by omega
         have hiu':(i':Int)<(u.length:Int):=by omega
         have eu:=dw hiu2;have oku:=ja ou hiu2;obtain⟨p1,p2⟩:=pY u s i' hiu2 hiu;generalize hx:u[i']=x at*;obtain⟨lo,hi,op⟩:=x;simp only at oku p1 p2;subst p1;simp-implicitDefEqProofs (maxSteps:=600000) (disch:=(first|omega|decide)) only[go_sem,↓reduceIte,seval,hiu',eu,oku,p2,wrap_i64,List.length_map]
         exact⟨⟨i'+1,hiu⟩,by simp,by show u.length-(i'+1)<u.length-i';omega⟩
       · have hie:i'=bk u s:=by omega
         subst hie;obtain⟨lo,hi,op,Kr,U⟩:=Cp ru ou s;obtain⟨gm,eW,lW,N7,V⟩:=Cp rv ov s;rcases U with⟨hu,gu,⟨rfl,au⟩|⟨rfl,au⟩,xu⟩|⟨hu,gu,xu⟩
         all_goals(first|simp-implicitDefEqProofs (maxSteps:=600000) (disch:=(first|omega|decide)) only[go_sem,↓reduceIte,seval,hu,gu,au,Kr,List.length_map]|simp-implicitDefEqProofs (maxSteps:=600000) (disch:=(first|omega|decide)) only[go_sem,↓reduceIte,seval,hu,gu,Kr,List.length_map])
         all_goals(refine ao [0,1,2,6,13,22,23,24,9,8,10] (ι:={i:Nat//i<=bk v s}) (fun p=>[(11,.int .i64 p.1)]) (fun _=>[]) (fun p=>v.length-p.1) ⟨j,hi0.2⟩ (Nat.zero_le _) ?_ ?_)
         all_goals first
          |(simp-implicitDefEqProofs (maxSteps:=600000) (disch:=(first|omega|decide)) only[go_sem,↓reduceIte,seval];done)
          |skip
         all_goals(
          rintro⟨j',u6⟩
          simp only;by_cases hjv:j'<bk v s
          · have hjv2:j'<v.length:=by omega
            have hjv':(j':Int)<(v.length:Int):=by omega
            have ev:=dw hjv2;have okv:=ja ov hjv2;obtain⟨p1,p2⟩:=pY v s j' hjv2 hjv;generalize hx:v[j']=x at*;obtain⟨lo2,tg,op2⟩:=x;simp only at okv p1 p2;subst p1;simp-implicitDefEqProofs (maxSteps:=600000) (disch:=(first|omega|decide)) only[go_sem,↓reduceIte,seval,hjv',ev,okv,p2,wrap_i64,List.length_map]
            exact⟨⟨j'+1,hjv⟩,by simp,by show v.length-(j'+1)<v.length-j';omega⟩
          · have hje:j'=bk v s:=by omega
            subst hje;rcases V with⟨hv,gv,⟨rfl,av⟩|⟨rfl,av⟩,xv⟩|⟨hv,gv,xv⟩
            all_goals(
              cases hP:kp (ar u s) (ar v s)<;>rw[hP]at nx<;>rw[xu,xv]at hP<;>cases was
              · have XV:=nx
                simp only[Bool.not_false,Bool.not_true,Bool.and_true,Bool.and_false,Bool.false_eq_true,if_false,if_true]at XV;clear nx
                (first|simp-implicitDefEqProofs (maxSteps:=600000) (disch:=(first|omega|decide)) only[go_sem,↓reduceIte,seval,hu,gu,au,Kr,hv,gv,av,N7,hg,hP,wrap_i64,List.length_map]|simp-implicitDefEqProofs (maxSteps:=600000) (disch:=(first|omega|decide)) only[go_sem,↓reduceIte,seval,hu,gu,au,Kr,hv,gv,N7,hg,hP,wrap_i64,List.length_map]|simp-implicitDefEqProofs (maxSteps:=600000) (disch:=(first|omega|decide)) only[go_sem,↓reduceIte,seval,hu,gu,Kr,hv,gv,av,N7,hg,hP,wrap_i64,List.length_map]|simp-implicitDefEqProofs (maxSteps:=600000) (disch:=(first|omega|decide)) only[go_sem,↓reduceIte,seval,hu,gu,Kr,hv,gv,N7,hg,hP,wrap_i64,List.length_map])
                exact XV
              · cases m with
                |nil=>exact absurd rfl (hwas' rfl)
                |cons qq qs=>
                 have hq:qs.length+1<=k:=qx;have c1:(((qs.length+1:Nat):Int)-1).toNat=qs.length:=by omega
                 have c2:(0:Int)<=((qs.length+1:Nat):Int)-1:=by omega
                 have c3:((qs.length+1:Nat):Int)-1<((qs.length+1:Nat):Int):=by omega
                 have XV:=nx;simp only[Bool.not_false,Bool.not_true,Bool.and_true,Bool.and_false,Bool.and_self,Bool.false_and,Bool.false_eq_true,if_false,if_true,fH,List.length_cons]at XV;clear nx;rw[fH]
                 (first|simp-implicitDefEqProofs (maxSteps:=600000) (disch:=(first|omega|decide)) only[go_sem,↓reduceIte,seval,hu,gu,au,Kr,hv,gv,av,N7,hg,hP,c1,c2,c3,gF,jd,wrap_i64,List.length_map]|simp-implicitDefEqProofs (maxSteps:=600000) (disch:=(first|omega|decide)) only[go_sem,↓reduceIte,seval,hu,gu,au,Kr,hv,gv,N7,hg,hP,c1,c2,c3,gF,jd,wrap_i64,List.length_map]|simp-implicitDefEqProofs (maxSteps:=600000) (disch:=(first|omega|decide)) only[go_sem,↓reduceIte,seval,hu,gu,Kr,hv,gv,av,N7,hg,hP,c1,c2,c3,gF,jd,wrap_i64,List.length_map]|simp-implicitDefEqProofs (maxSteps:=600000) (disch:=(first|omega|decide)) only[go_sem,↓reduceIte,seval,hu,gu,Kr,hv,gv,N7,hg,hP,c1,c2,c3,gF,jd,wrap_i64,List.length_map])
                 exact XV
              · have XV:=nx
                simp only[Bool.not_false,Bool.not_true,Bool.and_true,Bool.and_false,Bool.and_self,Bool.false_eq_true,if_false,if_true,fH,List.length_cons]at XV;clear nx;have tk:(jm m).take m.length=jm m:=List.take_of_length_le (Nat.le_of_eq (lB m))
                have rl:=lB m
                (first|simp-implicitDefEqProofs (maxSteps:=600000) (disch:=(first|omega|decide)) only[go_sem,↓reduceIte,seval,hu,gu,au,Kr,hv,gv,av,N7,hg,hP,tk,rl,wrap_i64,List.length_map]|simp-implicitDefEqProofs (maxSteps:=600000) (disch:=(first|omega|decide)) only[go_sem,↓reduceIte,seval,hu,gu,au,Kr,hv,gv,N7,hg,hP,tk,rl,wrap_i64,List.length_map]|simp-implicitDefEqProofs (maxSteps:=600000) (disch:=(first|omega|decide)) only[go_sem,↓reduceIte,seval,hu,gu,Kr,hv,gv,av,N7,hg,hP,tk,rl,wrap_i64,List.length_map]|simp-implicitDefEqProofs (maxSteps:=600000) (disch:=(first|omega|decide)) only[go_sem,↓reduceIte,seval,hu,gu,Kr,hv,gv,N7,hg,hP,tk,rl,wrap_i64,List.length_map])
                exact⟨⟨Nat.le_refl _,by omega⟩,XV⟩
              · have XV:=nx
                simp only[Bool.not_false,Bool.not_true,Bool.and_true,Bool.and_false,Bool.false_and,Bool.false_eq_true,if_false,if_true]at XV;clear nx
                (first|simp-implicitDefEqProofs (maxSteps:=600000) (disch:=(first|omega|decide)) only[go_sem,↓reduceIte,seval,hu,gu,au,Kr,hv,gv,av,N7,hg,hP,wrap_i64,List.length_map]|simp-implicitDefEqProofs (maxSteps:=600000) (disch:=(first|omega|decide)) only[go_sem,↓reduceIte,seval,hu,gu,au,Kr,hv,gv,N7,hg,hP,wrap_i64,List.length_map]|simp-implicitDefEqProofs (maxSteps:=600000) (disch:=(first|omega|decide)) only[go_sem,↓reduceIte,seval,hu,gu,Kr,hv,gv,av,N7,hg,hP,wrap_i64,List.length_map]|simp-implicitDefEqProofs (maxSteps:=600000) (disch:=(first|omega|decide)) only[go_sem,↓reduceIte,seval,hu,gu,Kr,hv,gv,N7,hg,hP,wrap_i64,List.length_map])
                exact XV))
   · have ae: ¬(k:Int)<(e.length:Int):=by omega
     rw[List.take_of_length_le (by omega)]at*;have LX:(D2 (fun s=>kp (ar u s) (ar v s)) e).1.length=(jm (D2 (fun s=>kp (ar u s) (ar v s)) e).1).length:=by rw[lB]
     simp-implicitDefEqProofs (maxSteps:=600000) (disch:=(first|omega|decide)) only[go_sem,↓reduceIte,seval,ae,wrap_i64,LX,List.length_map,List.take_length]
     exact⟨Nat.le_refl _,rfl⟩
end Go.Proofs.YtihgnfmoafjakaaGreat
namespace Go.Proofs.YtihgnfmoafjakaaGreat
open Go.bJ
set_option linter.unusedSimpArgs false
set_option linter.unusedVariables false
set_option linter.unusedSectionVars false
set_option maxRecDepth 20000
set_option maxHeartbeats 8000000
theorem kpR_d{g:FuncId}(h:GO g=true)(x y:Bool):Vp.f g [.bool x,.bool y]=some (.bool (kpR g x y)):=by
 have hz:=kpR_z h x y;have ne: ∀f:FuncId,GO f=false->g≠f:=fun f hf e=>by rw[e,hf]at h;cases h
 rw[S8d_old,S8c_old,S8b_old,S8a_old]
 all_goals first
  |exact hz
  |exact ne _ rfl
def Vq:aj:=Vp.add 211 (entry (fun(v:List ax×List ax×FuncId)=>[.ad (v.1.map ax.enc),.ad (v.2.1.map ax.enc),.fn v.2.2 []]) (fun v=>v.1.length<=100000/\v.2.1.length<=100000/\dp v.1/\dp v.2.1/\GO v.2.2=true) (fun v=> .ad ((dd fun s=>kpR v.2.2 (ar v.1 s) (ar v.2.1 s)).map ax.enc)))
theorem PK:ag Tryz.prog Vq:=XS.bG Tryz.func211 (by kernel_rfl) (by kernel_rfl) fun v h=>XT v.1 v.2.1 v.2.2 (kpR v.2.2) (kpR_d h.2.2.2.2) h.1 h.2.1 h.2.2.1 h.2.2.2.1
@[go_sem] theorem S8e_old{g:FuncId}{xs:List A}(h:g≠211):Vq.f g xs=Vp.f g xs:=aj.ak h
@[go_sem] theorem S8e_s:Vq.pl Vp:=⟨fun _=>rfl,fun _=>rfl,rfl,fun _=>rfl,rfl,fun _=>rfl,rfl⟩
theorem mP(v:List ax×List ax×FuncId)(h:v.1.length<=100000/\v.2.1.length<=100000/\dp v.1/\dp v.2.1/\GO v.2.2=true):Vq.f 211 [.ad (v.1.map ax.enc),.ad (v.2.1.map ax.enc),.fn v.2.2 []]=some (.ad ((dd fun s=>kpR v.2.2 (ar v.1 s) (ar v.2.1 s)).map ax.enc)):=aj.an (Γ:=Vp) (fun i j h=>by simpa[Prod.ext_iff,and_assoc]using h) v h
section
variable{a b:List ax}(ha:a.length<=100000)(hb:b.length<=100000)(oa:dp a)(ob:dp b)
include ha hb oa ob
theorem XW:Vq.f 211 [.ad (a.map ax.enc),.ad (b.map ax.enc),.fn 212 []]=some (.ad ((dd fun s=>ar a s&&ar b s).map ax.enc)):=mP (a,b,_) ⟨ha,hb,oa,ob,rfl⟩
end
theorem IV:dp []:=fun _ h=>by cases h
theorem XX{a:List ax}(ha:a.length<=100000)(oa:dp a):Vq.f 211 [.ad (a.map ax.enc),.ad [],.fn 214 []]=some (.ad ((dd fun s=> !ar a s).map ax.enc)):=mP (a,[],_) ⟨ha,by simp,oa,IV,rfl⟩
theorem Cq:ai Tryz.prog Vq Tryz.f195.ntmps (Tryz.f195.body.getD .skip)=true:=by kernel_rfl
theorem ED(a b:List ax)(ha:a.length<=100000)(hb:b.length<=100000)(oa:dp a)(ob:dp b):az Tryz.prog 195 [.ad (a.map ax.enc),.ad (b.map ax.enc)] (· = .ad ((dd fun s=>ar a s&&ar b s).map ax.enc)):=by refine aa PK mixed Tryz.func195 rfl (Nat.le_of_ble_eq_true rfl) Cq ?_;unfold Tryz.f195;have h:=XW ha hb oa ob;simp-implicitDefEqProofs (disch:=(first|omega|decide)) only[go_sem,↓reduceIte,seval,h,List.length_map]
theorem EE:ai Tryz.prog Vq Tryz.f197.ntmps (Tryz.f197.body.getD .skip)=true:=by kernel_rfl
theorem IW(a:List ax)(ha:a.length<=100000)(oa:dp a):az Tryz.prog 197 [.ad (a.map ax.enc)] (· = .ad ((dd fun s=> !ar a s).map ax.enc)):=by refine aa PK mixed Tryz.func197 rfl (Nat.le_of_ble_eq_true rfl) EE ?_;unfold Tryz.f197;have h:=XX ha oa;simp-implicitDefEqProofs (disch:=(first|omega|decide)) only[go_sem,↓reduceIte,seval,h,List.length_map]
def S8f:aj:=Vq.add 127 (entry (fun(v:List ax×List UInt8)=>[.ad (v.1.map ax.enc),.str v.2]) (fun v=>v.1.length<=100000/\dp v.1/\v.2.length<=9223372036854775807/\aO v.1=true) (fun v=> .int .i64 (bk v.1 v.2)))
theorem S8f_ok:ag Tryz.prog S8f:=PK.bG Tryz.func127 (by kernel_rfl) (by kernel_rfl) fun v h=>EA v.1 v.2 (by omega) h.2.1 h.2.2.1 h.2.2.2
@[go_sem] theorem S8f_old{g:FuncId}{xs:List A}(h:g≠127):S8f.f g xs=Vq.f g xs:=aj.ak h
@[go_sem] theorem S8f_s:S8f.pl Vq:=⟨fun _=>rfl,fun _=>rfl,rfl,fun _=>rfl,rfl,fun _=>rfl,rfl⟩
theorem yK(v:List ax×List UInt8)(h:v.1.length<=100000/\dp v.1/\v.2.length<=9223372036854775807/\aO v.1=true):S8f.f 127 [.ad (v.1.map ax.enc),.str v.2]=some (.int .i64 (bk v.1 v.2)):=aj.an (Γ:=Vq) (fun i j h=>by simpa[Prod.ext_iff,and_assoc]using h) v h
theorem EF{l:List ax}{s:List UInt8}(h:l.length<=100000)(h1:dp l)(h2:s.length<=9223372036854775807)(h3:aO l=true):S8f.f 127 [.ad (l.map ax.enc),.str s]=some (.int .i64 (bk l s)):=yK (l,s) ⟨h,h1,h2,h3⟩
theorem EG:ai Tryz.prog S8f Tryz.f70.ntmps (Tryz.f70.body.getD .skip)=true:=by kernel_rfl
theorem IX(l:List ax)(s:List UInt8)(hl:l.length<=100000)(ol:dp l)(hs:s.length<=9223372036854775807):az Tryz.prog 70 [.ad (l.map ax.enc),.str s] (· = .bool (ar l s)):=by
 refine aa S8f_ok mixed Tryz.func70 rfl (Nat.le_of_ble_eq_true rfl) EG ?_;unfold Tryz.f70;have e1:=lC (l:=l) (by omega) ol;have lu:=qa l;have ou:=uA (ar l)
 have ru:=lj (ar l)
 have hu:=t_ l s;have e2:=EF (l:=dd (ar l)) (s:=s) (by omega) ou hs ru;generalize dd (ar l)=u at*;have fh:=uw ru s;rw[<-hu]
 by_cases aw:bk u s<u.length
 · rw[dif_pos aw]at fh
   have ae:((bk u s:Nat):Int)<(u.length:Int):=by omega
   have AA:=mO u s aw;have hr:=(eH.1 ru).1 _ (List.getElem_mem aw)
   have eg:=dw aw;have lA:=ja ou aw;generalize u[bk u s]=x at*;obtain⟨lo,hi,op⟩:=x
   have hx:cg ⟨lo,hi,op⟩ s=ar u s:=by
    rw[fh,jK,hr]
    unfold Lt;rw[AA];simp
   simp only at lA;simp-implicitDefEqProofs (disch:=(first|omega|decide)) only[go_sem,↓reduceIte,seval,e1,e2,ae,eg,lA,hs,hx,List.length_map]
 · rw[dif_neg aw]at fh
   have ae: ¬((bk u s:Nat):Int)<(u.length:Int):=by omega
   simp-implicitDefEqProofs (disch:=(first|omega|decide)) only[go_sem,↓reduceIte,seval,e1,e2,ae,fh,List.length_map]
def R0:aj:=T08d
end Go.Proofs.YtihgnfmoafjakaaGreat
namespace Go.Proofs.YtihgnfmoafjakaaGreat
open Go.bJ
set_option linter.unusedSimpArgs false
set_option linter.unusedVariables false
set_option maxRecDepth 20000
set_option maxHeartbeats 4000000
def T12f:aj:=aaZ
theorem T12f_ok:ag Tryz.prog T12f:=aa0
@[go_sem] theorem T12f_old{g:FuncId}{xs:List A}:T12f.f g xs=aaZ.f g xs:=rfl
def T12g:aj:=T12f
theorem T12g_ok:ag Tryz.prog T12g:=T12f_ok
@[go_sem] theorem T12g_old{g:FuncId}{xs:List A}:T12g.f g xs=T12f.f g xs:=rfl
def T12h:aj:=T12g
theorem T12h_ok:ag Tryz.prog T12h:=T12g_ok
@[go_sem] theorem T12h_old{g:FuncId}{xs:List A}:T12h.f g xs=T12g.f g xs:=rfl
end Go.Proofs.YtihgnfmoafjakaaGreat
namespace Go.Proofs
open Go.Shelf
def YtihgnfmoafjakaaGreat.MU:Go.Shelf.Ren:=⟨fun|6=>184|15=>203|14=>209|28=>224|29=>225|20=>237|21=>238|22=>239|23=>240|24=>241|25=>242|26=>243|27=>244|46=>257|47=>248|48=>249|49=>258|50=>259|57=>270|n=>n,fun|22=>107|24=>48|25=>170|3=>3|39=>199|0=>0|53=>46|55=>220|4=>4|46=>212|45=>211|50=>216|5=>5|9=>9|66=>234|70=>238|76=>246|77=>247|n=>n,fun|n=>n⟩
theorem YtihgnfmoafjakaaGreat.sortVer:Go.Proofs.SlLaysF0.n6 Tryz.prog YtihgnfmoafjakaaGreat.MU:={
 mixed:=by kernel_rfl
 f6:=⟨Tryz.f184.name,by decide,Tryz.func184.trans (congrArg some (by kernel_rfl))⟩
 f14:=⟨Tryz.f209.name,by decide,Tryz.func209.trans (congrArg some (by kernel_rfl))⟩
 f15:=Tryz.func203.trans (congrArg some (by kernel_rfl))
 f20:=⟨Tryz.f237.name,by decide,Tryz.func237.trans (congrArg some (by kernel_rfl))⟩
 f21:=⟨Tryz.f238.name,by decide,Tryz.func238.trans (congrArg some (by kernel_rfl))⟩
 f22:=⟨Tryz.f239.name,by decide,Tryz.func239.trans (congrArg some (by kernel_rfl))⟩
 f23:=⟨Tryz.f240.name,by decide,Tryz.func240.trans (congrArg some (by kernel_rfl))⟩
 f24:=⟨Tryz.f241.name,by decide,Tryz.func241.trans (congrArg some (by kernel_rfl))⟩
 f25:=⟨Tryz.f242.name,by decide,Tryz.func242.trans (congrArg some (by kernel_rfl))⟩
 f26:=⟨Tryz.f243.name,by decide,Tryz.func243.trans (congrArg some (by kernel_rfl))⟩
 f27:=⟨Tryz.f244.name,by decide,Tryz.func244.trans (congrArg some (by kernel_rfl))⟩
 f28:=Tryz.func224.trans (congrArg some (by kernel_rfl))
 f29:=Tryz.func225.trans (congrArg some (by kernel_rfl))
 f46:=⟨Tryz.f257.name,by decide,Tryz.func257.trans (congrArg some (by kernel_rfl))⟩
 f47:=Tryz.func248.trans (congrArg some (by kernel_rfl))
 f48:=Tryz.func249.trans (congrArg some (by kernel_rfl))
 f49:=⟨Tryz.f258.name,by decide,Tryz.func258.trans (congrArg some (by kernel_rfl))⟩
 f50:=⟨Tryz.f259.name,by decide,Tryz.func259.trans (congrArg some (by kernel_rfl))⟩
 f57:=⟨Tryz.f270.name,by decide,Tryz.func270.trans (congrArg some (by kernel_rfl))⟩
 t0:=Tryz.underlying0
 a0:=Tryz.isAgg0
 z0:=Tryz.sizeOf0
 v0:=Tryz.zeroValue0
 t3:=Tryz.underlying3
 a3:=Tryz.isAgg3
 z3:=Tryz.sizeOf3
 v3:=Tryz.zeroValue3
 t4:=Tryz.underlying4
 a4:=Tryz.isAgg4
 z4:=Tryz.sizeOf4
 v4:=Tryz.zeroValue4
 t5:=Tryz.underlying5
 a5:=Tryz.isAgg5
 z5:=Tryz.sizeOf5
 v5:=Tryz.zeroValue5
 t9:=Tryz.underlying9
 a9:=Tryz.isAgg9
 z9:=Tryz.sizeOf9
 v9:=Tryz.zeroValue9
 t22:=Tryz.underlying107
 a22:=Tryz.isAgg107
 z22:=Tryz.sizeOf107
 v22:=Tryz.zeroValue107
 t25:=Tryz.underlying170
 a25:=Tryz.isAgg170
 z25:=Tryz.sizeOf170
 v25:=Tryz.zeroValue170
 t39:=Tryz.underlying199
 a39:=Tryz.isAgg199
 z39:=Tryz.sizeOf199
 v39:=Tryz.zeroValue199
 t45:=Tryz.underlying211
 a45:=Tryz.isAgg211
 z45:=Tryz.sizeOf211
 v45:=Tryz.zeroValue211
 t46:=Tryz.underlying212
 a46:=Tryz.isAgg212
 z46:=Tryz.sizeOf212
 v46:=Tryz.zeroValue212
 t50:=Tryz.underlying216
 a50:=Tryz.isAgg216
 z50:=Tryz.sizeOf216
 v50:=Tryz.zeroValue216
 t53:=Tryz.underlying46
 a53:=Tryz.isAgg46
 z53:=Tryz.sizeOf46
 v53:=Tryz.zeroValue46
 t55:=Tryz.underlying220
 a55:=Tryz.isAgg220
 z55:=Tryz.sizeOf220
 v55:=Tryz.zeroValue220
 t66:=Tryz.underlying234
 a66:=Tryz.isAgg234
 z66:=Tryz.sizeOf234
 v66:=Tryz.zeroValue234
 t70:=Tryz.underlying238
 a70:=Tryz.isAgg238
 z70:=Tryz.sizeOf238
 v70:=Tryz.zeroValue238
 t76:=Tryz.underlying246
 a76:=Tryz.isAgg246
 z76:=Tryz.sizeOf246
 v76:=Tryz.zeroValue246
 t77:=Tryz.underlying247
 a77:=Tryz.isAgg247
 z77:=Tryz.sizeOf247
 v77:=Tryz.zeroValue247}
end Go.Proofs
namespace Go.Proofs.YtihgnfmoafjakaaGreat
open Go.bJ
set_option linter.unusedSimpArgs false
set_option linter.unusedVariables false
set_option maxRecDepth 20000
set_option maxHeartbeats 4000000
theorem fO{a b:bS}:yv a b=true ↔ a.r<b.r\/(a.r=b.r/\a.c<b.c):=by simp[yv]
theorem IY{a b:bS}(h1:a.r=b.r)(h2:a.c=b.c):a=b:=by cases a;cases b;simp_all
theorem zN{a b:bS}:fA a b<0 ↔ yv a b=true:=by
 unfold fA;by_cases h:a=b
 · subst h
   have: ¬yv a a=true:=by rw[fO];omega
   simp[this]
 · cases hl:yv a b<;>simp[h]
theorem Ug:Go.Sort.SWO (Go.Proofs.ltOf fA):=by
 have hl: ∀a b,Go.Proofs.ltOf fA a b=yv a b:=fun a b=>by
  unfold Go.Proofs.ltOf;cases h:yv a b
  · have: ¬fA a b<0:=by rw[zN,h];simp
    simpa using this
  · have:fA a b<0:=by rw[zN,h]
    simpa using this
 refine⟨fun x=> ?_,fun x y z h1 h2=> ?_,fun x y z h1 h2=> ?_⟩
 · rw[hl];cases h:yv x x
   · rfl
   · rw[fO]at h;omega
 · rw[hl]at*
   rw[fO]at*;omega
 · rw[hl]at*
   rw[<-Bool.not_eq_true]at*;rw[fO]at*;omega
def TC:aj:={Im with fix:=fun n=>n==0,nf:=1}
theorem TC_ok:ag Tryz.prog TC:=⟨nO.f,nO.hp⟩
@[go_sem] theorem TC_ords{n:Nat}:TC.c6 n=[]:=rfl
theorem db:ai Tryz.prog TC Tryz.f185.ntmps (Tryz.f185.body.getD .skip)=true:=by kernel_rfl
theorem uB(l:List bS)(hl:l.length<=4611686018427387903):dG Tryz.prog 185 [.row 0 0 2 l.length false] [.row 2 (l.map bS.enc)]
 (.row 0 0 2 (aT l).length false) [.row 2 ((aT l++List.replicate (l.length-(aT l).length) (⟨0,0⟩:bS)).map bS.enc)] []:=by
 refine bV TC_ok mixed Tryz.func185 rfl (Nat.le_of_ble_eq_true rfl) (fun n h _=>by simp at h;subst h;rfl) (by show _<=1;simp) (by show 1<=_;simp) db ?_;unfold Tryz.f185;by_cases h2:(l.length:Int)<2
 · have hc:aT l=l:=by
    match l,h2 with
    | [],_=>rfl
    | [x],_=>rfl
    |_::_::_,h=>simp at h;omega
   rw[hc]
   simp-implicitDefEqProofs (disch:=(first|omega|decide)) only[go_sem,↓reduceIte,seval,h2,List.length_map]
   simp
 · simp-implicitDefEqProofs (disch:=(first|omega|decide)) only[go_sem,↓reduceIte,seval,h2,List.length_map]
   refine ao [0] (ι:={k:Nat//1<=k/\k<=l.length/\aT (l.take k)=l.take k}) (fun p=>[(3,.int .i64 p.1)]) (fun _=>[]) (fun p=>l.length-p.1) ⟨1,by omega,by omega,by match l with| []=>rfl| [x]=>rfl|x::y::l=>rfl⟩ (by show 1<=_;simp) ?_ ?_
   · simp-implicitDefEqProofs (disch:=(first|omega|decide)) only[go_sem,↓reduceIte,seval]
   · rintro⟨k,ke,hk,hd⟩
     simp only;by_cases aw:k<l.length
     · have ae:(k:Int)<(l.length:Int):=by omega
       have dv:=nR ke aw;have e1:(l.map bS.enc)[k]? =some (.agg [.int .i64 l[k].r,.int .i64 l[k].c]):=by rw[List.getElem?_map,List.getElem?_eq_getElem aw];rfl
       have e0:(l.map bS.enc)[k-1]? =some (.agg [.int .i64 l[k-1].r,.int .i64 l[k-1].c]):=by rw[List.getElem?_map,List.getElem?_eq_getElem (by omega)];rfl
       have t0:((k:Int)-1).toNat=k-1:=by omega
       have b0:(0:Int)<=(k:Int)-1:=by omega
       have b1:(k:Int)-1<(l.length:Int):=by omega
       generalize hx:l[k]=x at e1 dv;generalize hy:l[k-1]=y at e0 dv;obtain⟨r,c1⟩:=x;obtain⟨r',XY⟩:=y;have next:(⟨r',XY⟩:bS)≠⟨r,c1⟩->aT (l.take (k+1))=l.take (k+1):=fun bU=>by rw[dv,if_neg bU,hd,<-hx];exact List.take_append_getElem aw
       cases h3:r==r' with
       |true=>
        cases h4:c1==XY with
        |true=>
         obtain rfl:r=r':=by simpa using h3
         obtain rfl:c1=XY:=by simpa using h4
         have b2:(k:Int)<=(l.length:Int):=by omega
         rw[if_pos rfl]at dv;have hlen:(aT (l.take (k+1))).length=k:=by rw[dv,hd,List.length_take];omega
         have tk:((l.length:Int)-(k:Int)).toNat=l.length-k:=by omega
         simp-implicitDefEqProofs (disch:=(first|omega|decide)) only[go_sem,↓reduceIte,seval,ae,e1,e0,t0,b0,b1,b2,tk,h3,h4,wrap_i64,List.length_map,Int.le_refl]
         clear next e1 e0 hx hy h3 h4 t0 b0
         refine ao [0,4] (ι:={p:Nat×Nat×List bS//1<=p.1/\k+p.1<=l.length/\p.2.1=(aT (l.take (k+p.1))).length/\p.2.2.length=l.length/\p.2.2.take p.2.1=aT (l.take (k+p.1))/\p.2.2.drop (k+p.1-1)=l.drop (k+p.1-1)/\p.2.1<=k+p.1-1}) (fun p=>[(3,.int .i64 p.1.2.1),(5,.int .i64 p.1.1)]) (fun p=>[(0,.row 2 (p.1.2.2.map bS.enc))]) (fun p=>l.length-p.1.1) ⟨(1,k,l),by omega,aw,hlen.symm,rfl,by rw[dv,hd],rfl,by show k<=k+1-1;omega⟩ (by show 1<=_;simp) ?_ ?_
         · simp-implicitDefEqProofs (disch:=(first|omega|decide)) only[go_sem,↓reduceIte,seval]
         · rintro⟨⟨j,m,e⟩,hj1,hj,hm,he,Kp,hdr,hmj⟩
           simp only at hj1 hj hm he Kp hdr hmj
           have get: ∀i,k+j-1<=i->e[i]? =l[i]? :=fun i hi=>by
            have:=congrArg (fun x:List bS=>x[i-(k+j-1)]?) hdr;simp only[List.getElem?_drop]at this
            rwa [show k+j-1+(i-(k+j-1))=i by omega]at this
           by_cases hq:k+j<l.length
           · have Ko:(j:Int)<((l.length-k:Nat):Int):=by omega
             have dv:=nR (l:=l) (k:=k+j) (by omega) hq;have e1:(e.map bS.enc)[k+j]? =some (.agg [.int .i64 l[k+j].r,.int .i64 l[k+j].c]):=by rw[List.getElem?_map,get _ (by omega),List.getElem?_eq_getElem hq];rfl
             have e0:(e.map bS.enc)[k+(j-1)]? =some (.agg [.int .i64 l[k+j-1].r,.int .i64 l[k+j-1].c]):=by rw[List.getElem?_map,get _ (by omega),show k+(j-1)=k+j-1 by omega,List.getElem?_eq_getElem (by omega)];rfl
             have t0:((j:Int)-1).toNat=j-1:=by omega
             have b0:(0:Int)<=(j:Int)-1:=by omega
             have b3:(j:Int)-1<((l.length-k:Nat):Int):=by omega
             generalize hx:l[k+j]=x at e1 dv;generalize hy:l[k+j-1]=y at e0 dv;obtain⟨r,c1⟩:=x;obtain⟨r',XY⟩:=y
             have XC:e.drop (k+(j+1)-1)=l.drop (k+(j+1)-1):=by
              have:=congrArg (List.drop 1) hdr
              rwa [List.drop_drop,List.drop_drop,show k+j-1+1=k+(j+1)-1 by omega]at this
             have b4:(m:Int)<(l.length:Int):=by omega
             have b5:m<e.length:=by omega
             have next:(⟨r',XY⟩:bS)≠⟨r,c1⟩->(m+1=(aT (l.take (k+(j+1)))).length/\(e.set m ⟨r,c1⟩).length=l.length/\(e.set m ⟨r,c1⟩).take (m+1)=aT (l.take (k+(j+1)))/\(e.set m ⟨r,c1⟩).drop (k+(j+1)-1)=l.drop (k+(j+1)-1)/\m+1<=k+(j+1)-1):=fun bU=>by
              rw[if_neg bU]at dv;have Cb:aT (l.take (k+(j+1)))=aT (l.take (k+j))++[⟨r,c1⟩]:=dv;refine⟨by rw[Cb,List.length_append,<-hm];rfl,by rw[List.length_set,he], ?_, ?_,by omega⟩
              · rw[Cb,<-Kp,<-List.take_append_getElem (by rw[List.length_set];exact b5),List.take_set_of_le (Nat.le_refl _)]
                simp
              · rw[List.drop_set_of_lt (by omega)];exact XC
             have fQ:cn (e.map bS.enc) m (.agg [.int .i64 r,.int .i64 c1])=(e.set m ⟨r,c1⟩).map bS.enc:=by rw[fE,List.map_set];rfl
             have em:(e.map bS.enc)[m]? =some (.agg [.int .i64 e[m].r,.int .i64 e[m].c]):=by rw[List.getElem?_map,List.getElem?_eq_getElem b5];rfl
             have spl2: ∀a b x y:A,dY [a,b] 0 [x,y]=[x,y]:=fun _ _ _ _=>rfl;cases h3:r==r' with
             |true=>
              cases h4:c1==XY with
              |true=>
               obtain rfl:r=r':=by simpa using h3
               obtain rfl:c1=XY:=by simpa using h4
               rw[if_pos rfl]at dv;simp-implicitDefEqProofs (disch:=(first|omega|decide)) only[go_sem,↓reduceIte,seval,Ko,e1,e0,t0,b0,b3,h3,h4,wrap_i64,List.length_map,Int.le_refl]
               exact⟨⟨(j+1,m,e),by show 1<=j+1;omega,by show k+(j+1)<=_;omega,by show m=(aT (l.take (k+j+1))).length;rw[dv,hm],he,by show e.take m=aT (l.take (k+j+1));rw[dv,Kp],XC,by show m<=k+(j+1)-1;omega⟩,⟨⟨rfl,by simp⟩,rfl⟩,by show l.length-(j+1)<l.length-j;omega⟩
              |false=>
               have bU:c1≠XY:=by simpa using h4
               simp-implicitDefEqProofs (disch:=(first|omega|decide)) only[go_sem,↓reduceIte,seval,Ko,e1,e0,t0,b0,b3,b4,h3,h4,em,fQ,spl2,wrap_i64,List.length_map,Int.le_refl]
               exact⟨⟨(j+1,m+1,e.set m ⟨r,c1⟩),by show 1<=j+1;omega,by show k+(j+1)<=_;omega,next (by simp[Ne.symm bU])⟩,⟨⟨by simp,by simp⟩,rfl⟩,by show l.length-(j+1)<l.length-j;omega⟩
             |false=>
              have bU:r≠r':=by simpa using h3
              simp-implicitDefEqProofs (disch:=(first|omega|decide)) only[go_sem,↓reduceIte,seval,Ko,e1,e0,t0,b0,b3,b4,h3,em,fQ,spl2,wrap_i64,List.length_map,Int.le_refl]
              exact⟨⟨(j+1,m+1,e.set m ⟨r,c1⟩),by show 1<=j+1;omega,by show k+(j+1)<=_;omega,next (by simp[Ne.symm bU])⟩,⟨⟨by simp,by simp⟩,rfl⟩,by show l.length-(j+1)<l.length-j;omega⟩
           · have Ko: ¬(j:Int)<((l.length-k:Nat):Int):=by omega
             have b4:(m:Int)<=(l.length:Int):=by omega
             have tm:((l.length:Int)-(m:Int)).toNat=l.length-m:=by omega
             have zB:k+j=l.length:=by omega
             rw[zB,List.take_of_length_le (Nat.le_refl _)]at hm Kp;have b6:m+(l.length-m)=l.length:=by omega
             have b7:l.length<=e.length:=by omega
             have b8:(e.map bS.enc).drop l.length=[]:=by rw[List.drop_of_length_le (by rw[List.length_map];omega)]
             have tm0:((m:Int)-0).toNat=m:=by omega
             simp-implicitDefEqProofs (disch:=(first|omega|decide)) only[go_sem,↓reduceIte,seval,Ko,b4,tm,tm0,b6,b7,b8,List.length_map,Int.le_refl]
             refine⟨hm, ?_⟩
             rw[List.map_append,<-Kp,List.map_take,List.map_replicate,Kp,<-hm];rfl
        |false=>
         have bU:c1≠XY:=by simpa using h4
         simp-implicitDefEqProofs (disch:=(first|omega|decide)) only[go_sem,↓reduceIte,seval,ae,e1,e0,t0,b0,b1,h3,h4,wrap_i64,List.length_map]
         exact⟨⟨k+1,by omega,aw,next (by simp[Ne.symm bU])⟩,by simp,by show l.length-(k+1)<l.length-k;omega⟩
       |false=>
        have bU:r≠r':=by simpa using h3
        simp-implicitDefEqProofs (disch:=(first|omega|decide)) only[go_sem,↓reduceIte,seval,ae,e1,e0,t0,b0,b1,h3,wrap_i64,List.length_map]
        exact⟨⟨k+1,by omega,aw,next (by simp[Ne.symm bU])⟩,by simp,by show l.length-(k+1)<l.length-k;omega⟩
     · have ae: ¬(k:Int)<(l.length:Int):=by omega
       have hc:aT l=l:=by rw[List.take_of_length_le (by omega)]at hd;exact hd
       rw[hc]
       simp-implicitDefEqProofs (disch:=(first|omega|decide)) only[go_sem,↓reduceIte,seval,ae,List.length_map]
       simp
theorem dZ{Γ:aj}{g:Go.FuncId}{e:List A->List Go.bJ.Obj->Option (A×List Go.bJ.Obj×List Nat)}{xs:List A}{H:List Go.bJ.Obj}:(Γ.eP g e).hp g xs H=e xs H:=if_pos rfl
theorem qC{Γ:aj}{g h:Go.FuncId}{e:List A->List Go.bJ.Obj->Option (A×List Go.bJ.Obj×List Nat)}{xs:List A}{H:List Go.bJ.Obj}(hn:h≠g):(Γ.eP g e).hp h xs H=Γ.hp h xs H:=if_neg hn
theorem sL(l:List bS)(hl:l.length<4611686018427387904):dG Tryz.prog 184 [.row 0 0 2 l.length false,.fn 166 []] [.row 2 (l.map bS.enc)]
 (.cx []) [.row 2 ((cW fA l).map bS.enc)] []:=
 pQ Go.Proofs.YtihgnfmoafjakaaGreat.sortVer (by omega) Tryz.isAgg48 Tryz.sizeOf48 bS.cells (fun _=>rfl) (fun x a ha=>by simp only[bS.cells,List.mem_cons,List.not_mem_nil,or_false]at ha;rcases ha with rfl|rfl<;>rfl) fA Ug (bn Tryz.func166 (by kernel_rfl) (by kernel_rfl)) (fun x y=>mh x y) l hl false
def sE(l:List bS):List A:=[.row 0 0 2 l.length false,.fn 166 []]
def sO(l:List bS):List Go.bJ.Obj:=[.row 2 (l.map bS.enc)]
def sK(l:List bS):Prop:=l.length<4611686018427387904
def sR(l:List bS):A×List Go.bJ.Obj×List Nat:=(.cx [],[.row 2 ((cW fA l).map bS.enc)],[])
def cE(l:List bS):List A:=[.row 0 0 2 l.length false]
def cK(l:List bS):Prop:=l.length<=4611686018427387903
def cR(l:List bS):A×List Go.bJ.Obj×List Nat:=(.row 0 0 2 (aT l).length false,[.row 2 ((aT l++List.replicate (l.length-(aT l).length) (⟨0,0⟩:bS)).map bS.enc)],[])
theorem XZ(i j:List bS)(h:sO i=sO j):i=j:=by simpa[sO]using h
def TSa:aj:=T12h.eP 184 (bo sE sO sK sR)
def TSb:aj:=TSa.eP 185 (bo cE sO cK cR)
def TS:aj:={TSb with l_:=fun f=>f==184||f==185}
theorem TSa_ok:ag Tryz.prog TSa:=T12h_ok.eP (bn Tryz.func184 (by kernel_rfl) (by kernel_rfl)) (cL fun l h=>sL l h)
theorem X0:ag Tryz.prog TSb:=TSa_ok.eP (bn Tryz.func185 (by kernel_rfl) (by kernel_rfl)) (cL fun l h=>uB l h)
theorem TS_ok:ag Tryz.prog TS:=⟨X0.f,X0.hp⟩
@[go_sem] theorem TS_f:TS.f=T12h.f:=rfl
@[go_sem] theorem TS_eff{g:FuncId}:TS.l_ g=(g==184||g==185):=rfl
@[go_sem] theorem TS_frz{g:FuncId}:TS.qU g=false:=rfl
@[go_sem] theorem TS_fix{n:Nat}:TS.fix n=false:=rfl
@[go_sem] theorem TS_ords{n:Nat}:TS.c6 n=[]:=rfl
theorem TS_sort{l:List bS}{n:Nat}(hn:n=l.length)(h:l.length<4611686018427387904):TS.hp 184 [.row 0 0 2 n false,.fn 166 []] [.row 2 (l.map bS.enc)]=some (.cx [],[.row 2 ((cW fA l).map bS.enc)],[]):=by
 subst hn
 have h1:TS.hp 184 (sE l) (sO l)=bo sE sO sK sR (sE l) (sO l):=by
  have h2:TSb.hp 184 (sE l) (sO l)=TSa.hp 184 (sE l) (sO l):=qC (by decide)
  have h3:TSa.hp 184 (sE l) (sO l)=bo sE sO sK sR (sE l) (sO l):=dZ;exact h2.trans h3
 exact h1.trans (cM (fun i j _ h=>XZ i j h) l h)
theorem TS_comp{l:List bS}{n:Nat}(hn:n=l.length)(h:l.length<=4611686018427387903):TS.hp 185 [.row 0 0 2 n false] [.row 2 (l.map bS.enc)]=some (.row 0 0 2 (aT l).length false,[.row 2 ((aT l++List.replicate (l.length-(aT l).length) (⟨0,0⟩:bS)).map bS.enc)],[]):=by
 subst hn;have h1:TS.hp 185 (cE l) (sO l)=bo cE sO cK cR (cE l) (sO l):=by have h2:TSb.hp 185 (cE l) (sO l)=bo cE sO cK cR (cE l) (sO l):=dZ;exact h2
 exact h1.trans (cM (fun i j _ h=>XZ i j h) l h)
def ec(l:List bS):List bS:=aT (cW fA (l.filter aL))
theorem uC:ai Tryz.prog TS Tryz.f149.ntmps (Tryz.f149.body.getD .skip)=true:=by kernel_rfl
theorem we(l:List bS)(hl:l.length<=1000000):az Tryz.prog 149 [.ad (l.map bS.enc)] (· = .ad ((ec l).map bS.enc)):=by
 refine aa TS_ok mixed Tryz.func149 rfl (Nat.le_of_ble_eq_true rfl) uC ?_;unfold Tryz.f149;simp-implicitDefEqProofs (disch:=(first|omega|decide)) only[go_sem,↓reduceIte,seval,List.length_map]
 refine aU 3 2 rfl ?_;refine ao [0,2,6,7] (ι:={k:Nat//k<=l.length}) (fun p=>[(8,.int .i64 p.1),(3,.row 0 0 2 ((l.take p.1).filter aL).length false)]) (fun p=>[(0,.row 2 (((l.take p.1).filter aL).map bS.enc))]) (fun p=>l.length-p.1) ⟨0,by omega⟩ (Nat.zero_le _) ?_ ?_
 · simp-implicitDefEqProofs (disch:=(first|omega|decide)) only[go_sem,↓reduceIte,seval]
   simp
 · rintro⟨k,hk⟩
   simp only;have hf:((l.take k).filter aL).length<=k:=Nat.le_trans (List.length_filter_le _ _) (by rw[List.length_take];omega)
   by_cases aw:k<l.length
   · have ae:(k:Int)<(l.length:Int):=by omega
     have ht:l.take (k+1)=l.take k++[l[k]]:=(List.take_append_getElem aw).symm;generalize hx:l[k]=x at ht;obtain⟨r,c⟩:=x;have e1:(l.map bS.enc)[k]? =some (.agg [.int .i64 r,.int .i64 c]):=by rw[List.getElem?_map,List.getElem?_eq_getElem aw,hx];rfl
     cases hr:aL ⟨r,c⟩with
     |true=>
      simp-implicitDefEqProofs (disch:=(first|omega|decide)) only[go_sem,↓reduceIte,seval,ae,e1,hr,wrap_i64,List.length_map]
      refine⟨⟨Nat.le_refl _,by omega⟩,⟨k+1,aw⟩,⟨⟨by simp, ?_⟩, ?_⟩,by show l.length-(k+1)<l.length-k;omega⟩
      · rw[ht,List.filter_append];simp[hr]
      · rw[ht,List.filter_append,List.take_of_length_le (by simp)];simp[hr,bS.enc,bS.cells]
     |false=>
      simp-implicitDefEqProofs (disch:=(first|omega|decide)) only[go_sem,↓reduceIte,seval,ae,e1,hr,wrap_i64,List.length_map]
      refine⟨⟨k+1,aw⟩,⟨⟨by simp, ?_⟩, ?_⟩,by show l.length-(k+1)<l.length-k;omega⟩
      · rw[ht,List.filter_append];simp[hr]
      · rw[ht,List.filter_append];simp[hr]
   · have ae: ¬(k:Int)<(l.length:Int):=by omega
     rw[List.take_of_length_le (by omega)]at*;have hs:=TS_sort (l:=l.filter aL) rfl (by omega)
     have hp:=(dC Ug (l.filter aL)).1.length_eq;have hc:=TS_comp (l:=cW fA (l.filter aL)) (n:=(l.filter aL).length) hp.symm (by omega)
     simp-implicitDefEqProofs (disch:=(first|omega|decide)) only[go_sem,↓reduceIte,seval,ae,hs,hc,List.length_map,List.contains_nil,List.contains_cons]
     refine⟨by rw[List.length_append];omega, ?_⟩
     rw[List.map_append,List.take_append_of_le_length (by simp),List.take_of_length_le (by simp)];rfl
set_option maxHeartbeats 8000000
def PL:aj:=XA.add 141 (entry (fun(v:List UInt8×List UInt8)=>[.str v.1,.str v.2]) (fun v=>v.1.length<=9223372036854775807/\v.2.length<=9223372036854775807) (fun v=> .int .i64 (ck v.1 v.2)))
theorem P15a_ok:ag Tryz.prog PL:=abp.bG Tryz.func141 (by kernel_rfl) (by kernel_rfl) fun v h=>vz v.1 v.2 h.1 h.2
@[go_sem] theorem P15a_old{g:FuncId}{xs:List A}(h:g≠141):PL.f g xs=XA.f g xs:=aj.ak h
theorem IZ(v:List UInt8×List UInt8)(h:v.1.length<=9223372036854775807/\v.2.length<=9223372036854775807):PL.f 141 [.str v.1,.str v.2]=some (.int .i64 (ck v.1 v.2)):=aj.an (Γ:=XA) (fun i j h=>by simpa[Prod.ext_iff,and_assoc]using h) v h
def PM:aj:=PL.add 121 (entry (fun(s:List UInt8)=>[.str s]) (fun s=>s.length<=9223372036854775807) (fun s=> .bool (decide (1<=s.length/\s.length<=16))))
theorem P15b_ok:ag Tryz.prog PM:=P15a_ok.bG Tryz.func121 (by kernel_rfl) (by kernel_rfl) fun s h=>xB s h
@[go_sem] theorem P15b_old{g:FuncId}{xs:List A}(h:g≠121):PM.f g xs=PL.f g xs:=aj.ak h
theorem Cr(s:List UInt8)(h:s.length<=9223372036854775807):PM.f 121 [.str s]=some (.bool (decide (1<=s.length/\s.length<=16))):=aj.an (Γ:=PL) (fun i j h=>by simpa[Prod.ext_iff,and_assoc]using h) s h
def PN:aj:=PM.add 85 (entry (fun(v:List UInt8×List UInt8)=>[.str v.1,.str v.2]) (fun v=>v.1.length<=9223372036854775807/\v.2.length<=9223372036854775807) (fun v=> .bool (ck v.1 v.2== -1)))
theorem P15c_ok:ag Tryz.prog PN:=P15b_ok.bG Tryz.func85 (by kernel_rfl) (by kernel_rfl) fun v h=>tN v.1 v.2 h.1 h.2
@[go_sem] theorem P15c_old{g:FuncId}{xs:List A}(h:g≠85):PN.f g xs=PM.f g xs:=aj.ak h
theorem yL(v:List UInt8×List UInt8)(h:v.1.length<=9223372036854775807/\v.2.length<=9223372036854775807):PN.f 85 [.str v.1,.str v.2]=some (.bool (ck v.1 v.2== -1)):=aj.an (Γ:=PM) (fun i j h=>by simpa[Prod.ext_iff,and_assoc]using h) v h
def PO:aj:=PN.add 122 (entry (fun(s:List UInt8)=>[.str s]) (fun s=>s.length<=9223372036854775807) (fun s=> .bool (decide (1<=s.length/\s.length<=16))))
theorem P15d_ok:ag Tryz.prog PO:=P15c_ok.bG Tryz.func122 (by kernel_rfl) (by kernel_rfl) fun s h=>rH s h
@[go_sem] theorem P15d_old{g:FuncId}{xs:List A}(h:g≠122):PO.f g xs=PN.f g xs:=aj.ak h
theorem wg(s:List UInt8)(h:s.length<=9223372036854775807):PO.f 122 [.str s]=some (.bool (decide (1<=s.length/\s.length<=16))):=aj.an (Γ:=PN) (fun i j h=>by simpa[Prod.ext_iff,and_assoc]using h) s h
def PQ:aj:=PO.add 142 (entry (fun(r:List UInt8×List UInt8×Bool)=>[.agg [.str r.1,.str r.2.1,.bool r.2.2]]) (fun r=>r.1.length<=9223372036854775807/\r.2.1.length<=9223372036854775807) (fun r=> .bool (ay ⟨r.1,r.2.1,r.2.2⟩)))
theorem P15e_ok:ag Tryz.prog PQ:=P15d_ok.bG Tryz.func142 (by kernel_rfl) (by kernel_rfl) fun r h=>tP r.1 r.2.1 r.2.2 h.1 h.2
@[go_sem] theorem P15e_old{g:FuncId}{xs:List A}(h:g≠142):PQ.f g xs=PO.f g xs:=aj.ak h
theorem yM(r:List UInt8×List UInt8×Bool)(h:r.1.length<=9223372036854775807/\r.2.1.length<=9223372036854775807):PQ.f 142 [.agg [.str r.1,.str r.2.1,.bool r.2.2]]=some (.bool (ay ⟨r.1,r.2.1,r.2.2⟩)):=aj.an (Γ:=PO) (fun i j h=>by simpa[Prod.ext_iff,and_assoc]using h) r h
def PR:aj:=PQ.add 132 (entry (fun(r:List UInt8×List UInt8×Bool)=>[.agg [.str r.1,.str r.2.1,.bool r.2.2]]) (fun r=>r.1.length<=9223372036854775807/\r.2.1.length<=9223372036854775807) (fun r=> .bool (ay ⟨r.1,r.2.1,r.2.2⟩)))
theorem P15f_ok:ag Tryz.prog PR:=P15e_ok.bG Tryz.func132 (by kernel_rfl) (by kernel_rfl) fun r h=>rI r.1 r.2.1 r.2.2 h.1 h.2
@[go_sem] theorem P15f_old{g:FuncId}{xs:List A}(h:g≠132):PR.f g xs=PQ.f g xs:=aj.ak h
theorem wh(r:List UInt8×List UInt8×Bool)(h:r.1.length<=9223372036854775807/\r.2.1.length<=9223372036854775807):PR.f 132 [.agg [.str r.1,.str r.2.1,.bool r.2.2]]=some (.bool (ay ⟨r.1,r.2.1,r.2.2⟩)):=aj.an (Γ:=PQ) (fun i j h=>by simpa[Prod.ext_iff,and_assoc]using h) r h
def PS:aj:=PR.add 128 (entry (fun(r:(List UInt8×List UInt8×Bool)×List UInt8)=>[.agg [.str r.1.1,.str r.1.2.1,.bool r.1.2.2],.str r.2]) (fun r=>(r.1.1.length<=9223372036854775807/\r.1.2.1.length<=9223372036854775807)/\r.2.length<=9223372036854775807) (fun r=> .bool (cg ⟨r.1.1,r.1.2.1,r.1.2.2⟩ r.2)))
theorem P15g_ok:ag Tryz.prog PS:=P15f_ok.bG Tryz.func128 (by kernel_rfl) (by kernel_rfl) fun r h=>A9 r.1.1 r.1.2.1 r.2 r.1.2.2 h.1.1 h.1.2 h.2
@[go_sem] theorem P15g_old{g:FuncId}{xs:List A}(h:g≠128):PS.f g xs=PR.f g xs:=aj.ak h
theorem EH(r:(List UInt8×List UInt8×Bool)×List UInt8)(h:(r.1.1.length<=9223372036854775807/\r.1.2.1.length<=9223372036854775807)/\r.2.length<=9223372036854775807):PS.f 128 [.agg [.str r.1.1,.str r.1.2.1,.bool r.1.2.2],.str r.2]=some (.bool (cg ⟨r.1.1,r.1.2.1,r.1.2.2⟩ r.2)):=aj.an (Γ:=PR) (fun i j h=>by simpa[Prod.ext_iff,and_assoc]using h) r h
def PT:aj:=PS.add 96 (entry (fun(r:(List UInt8×List UInt8×Bool)×List UInt8)=>[.agg [.str r.1.1,.str r.1.2.1,.bool r.1.2.2],.str r.2]) (fun r=>(r.1.1.length<=9223372036854775807/\r.1.2.1.length<=9223372036854775807)/\r.2.length<=9223372036854775807) (fun r=> .bool (cg ⟨r.1.1,r.1.2.1,r.1.2.2⟩ r.2)))
theorem P15h_ok:ag Tryz.prog PT:=P15g_ok.bG Tryz.func96 (by kernel_rfl) (by kernel_rfl) fun r h=>xC r.1.1 r.1.2.1 r.2 r.1.2.2 h.1.1 h.1.2 h.2
@[go_sem] theorem P15h_old{g:FuncId}{xs:List A}(h:g≠96):PT.f g xs=PS.f g xs:=aj.ak h
theorem Cs(r:(List UInt8×List UInt8×Bool)×List UInt8)(h:(r.1.1.length<=9223372036854775807/\r.1.2.1.length<=9223372036854775807)/\r.2.length<=9223372036854775807):PT.f 96 [.agg [.str r.1.1,.str r.1.2.1,.bool r.1.2.2],.str r.2]=some (.bool (cg ⟨r.1.1,r.1.2.1,r.1.2.2⟩ r.2)):=aj.an (Γ:=PS) (fun i j h=>by simpa[Prod.ext_iff,and_assoc]using h) r h
def PU:aj:=PT.add 154 (entry (fun(s:List UInt8)=>[.str s]) (fun s=>s.length<=9223372036854775807) (fun s=>(mH s).enc))
theorem P15i_ok:ag Tryz.prog PU:=P15h_ok.bG Tryz.func154 (by kernel_rfl) (by kernel_rfl) fun s h=>Gn s h
@[go_sem] theorem P15i_old{g:FuncId}{xs:List A}(h:g≠154):PU.f g xs=PT.f g xs:=aj.ak h
theorem I0(s:List UInt8)(h:s.length<=9223372036854775807):PU.f 154 [.str s]=some ((mH s).enc):=aj.an (Γ:=PT) (fun i j h=>by simpa[Prod.ext_iff,and_assoc]using h) s h
def PV:aj:=PU.add 152 (entry (fun(s:List UInt8)=>[.str s]) (fun s=>s.length<=9223372036854775807) (fun s=>(mH s).enc))
theorem P15j_ok:ag Tryz.prog PV:=P15i_ok.bG Tryz.func152 (by kernel_rfl) (by kernel_rfl) fun s h=>A4 s h
@[go_sem] theorem P15j_old{g:FuncId}{xs:List A}(h:g≠152):PV.f g xs=PU.f g xs:=aj.ak h
theorem EI(s:List UInt8)(h:s.length<=9223372036854775807):PV.f 152 [.str s]=some ((mH s).enc):=aj.an (Γ:=PU) (fun i j h=>by simpa[Prod.ext_iff,and_assoc]using h) s h
def PW:aj:=PV.add 135 (entry (fun(l:List ax)=>[.ad (l.map ax.enc)]) (fun l=>l.length<=1000000/\dp l) (fun l=> .ad ((dd (ar l)).map ax.enc)))
theorem P15k_ok:ag Tryz.prog PW:=P15j_ok.bG Tryz.func135 (by kernel_rfl) (by kernel_rfl) fun l h=>p' l h.1 h.2
@[go_sem] theorem P15k_old{g:FuncId}{xs:List A}(h:g≠135):PW.f g xs=PV.f g xs:=aj.ak h
theorem Ct(l:List ax)(h:l.length<=1000000/\dp l):PW.f 135 [.ad (l.map ax.enc)]=some (.ad ((dd (ar l)).map ax.enc)):=aj.an (Γ:=PV) (fun i j h=>by simpa[Prod.ext_iff,and_assoc]using h) l h
def MV:aj:=PW.add 70 (entry (fun(v:List ax×List UInt8)=>[.ad (v.1.map ax.enc),.str v.2]) (fun v=>v.1.length<=100000/\dp v.1/\v.2.length<=9223372036854775807) (fun v=> .bool (ar v.1 v.2)))
theorem P15l_ok:ag Tryz.prog MV:=P15k_ok.bG Tryz.func70 (by kernel_rfl) (by kernel_rfl) fun v h=>IX v.1 v.2 h.1 h.2.1 h.2.2
@[go_sem] theorem P15l_old{g:FuncId}{xs:List A}(h:g≠70):MV.f g xs=PW.f g xs:=aj.ak h
theorem yN(v:List ax×List UInt8)(h:v.1.length<=100000/\dp v.1/\v.2.length<=9223372036854775807):MV.f 70 [.ad (v.1.map ax.enc),.str v.2]=some (.bool (ar v.1 v.2)):=aj.an (Γ:=PW) (fun i j h=>by simpa[Prod.ext_iff,and_assoc]using h) v h
def P15m:aj:=MV.add 195 (entry (fun(v:List ax×List ax)=>[.ad (v.1.map ax.enc),.ad (v.2.map ax.enc)]) (fun v=>(v.1.length<=100000/\v.2.length<=100000)/\dp v.1/\dp v.2) (fun v=> .ad ((dd fun s=>ar v.1 s&&ar v.2 s).map ax.enc)))
theorem P15m_ok:ag Tryz.prog P15m:=P15l_ok.bG Tryz.func195 (by kernel_rfl) (by kernel_rfl) fun v h=>ED v.1 v.2 h.1.1 h.1.2 h.2.1 h.2.2
@[go_sem] theorem P15m_old{g:FuncId}{xs:List A}(h:g≠195):P15m.f g xs=MV.f g xs:=aj.ak h
def X3:aj:=P15m.add 197 (entry (fun(l:List ax)=>[.ad (l.map ax.enc)]) (fun l=>l.length<=100000/\dp l) (fun l=> .ad ((dd fun s=> !ar l s).map ax.enc)))
theorem P15n_ok:ag Tryz.prog X3:=P15m_ok.bG Tryz.func197 (by kernel_rfl) (by kernel_rfl) fun l h=>IW l h.1 h.2
@[go_sem] theorem P15n_old{g:FuncId}{xs:List A}(h:g≠197):X3.f g xs=P15m.f g xs:=aj.ak h
def I1:aj:=X3.add 36 (entry (fun(v:List ax×List UInt8)=>[.ad (v.1.map ax.enc),.str v.2]) (fun v=>v.1.length<=100000/\dp v.1/\v.2.length<=9223372036854775807) (fun v=> .bool (ar v.1 v.2)))
theorem P15o_ok:ag Tryz.prog I1:=P15n_ok.bG Tryz.func36 (by kernel_rfl) (by kernel_rfl) fun v h=>ME v.1 v.2 (by omega) h.2.1 h.2.2
@[go_sem] theorem P15o_old{g:FuncId}{xs:List A}(h:g≠36):I1.f g xs=X3.f g xs:=aj.ak h
theorem Cu(v:List ax×List UInt8)(h:v.1.length<=100000/\dp v.1/\v.2.length<=9223372036854775807):I1.f 36 [.ad (v.1.map ax.enc),.str v.2]=some (.bool (ar v.1 v.2)):=aj.an (Γ:=X3) (fun i j h=>by simpa[Prod.ext_iff,and_assoc]using h) v h
def Uh:aj:=I1.add 107 (entry (fun(v:List ax×List ax)=>[.ad (v.1.map ax.enc),.ad (v.2.map ax.enc)]) (fun v=>(v.1.length<=1000/\v.2.length<=1000)/\dp v.1/\dp v.2) (fun v=> .ad ((iq v.1 v.2).map .str)))
theorem P15p_ok:ag Tryz.prog Uh:=P15o_ok.bG Tryz.func107 (by kernel_rfl) (by kernel_rfl) fun v h=>EB v.1 v.2 h.1.1 h.1.2 h.2.1 h.2.2
@[go_sem] theorem P15p_old{g:FuncId}{xs:List A}(h:g≠107):Uh.f g xs=I1.f g xs:=aj.ak h
theorem wi(v:List ax×List ax)(h:(v.1.length<=1000/\v.2.length<=1000)/\dp v.1/\dp v.2):Uh.f 107 [.ad (v.1.map ax.enc),.ad (v.2.map ax.enc)]=some (.ad ((iq v.1 v.2).map .str)):=aj.an (Γ:=I1) (fun i j h=>by simpa[Prod.ext_iff,and_assoc]using h) v h
def Ui:aj:=Uh.add 66 (entry (fun(v:List ax×Int)=>[.ad (v.1.map ax.enc),.int .i64 v.2]) (fun v=>v.1.length<=4611686018427387904) (fun v=> .bool (fL v.1 v.2)))
theorem P15q_ok:ag Tryz.prog Ui:=P15p_ok.bG Tryz.func66 (by kernel_rfl) (by kernel_rfl) fun v h=>IL v.1 v.2 h
@[go_sem] theorem P15q_old{g:FuncId}{xs:List A}(h:g≠66):Ui.f g xs=Uh.f g xs:=aj.ak h
def yO:aj:=Ui.add 149 (entry (fun(l:List bS)=>[.ad (l.map bS.enc)]) (fun l=>l.length<=1000000) (fun l=> .ad ((ec l).map bS.enc)))
theorem zO:ag Tryz.prog yO:=P15q_ok.bG Tryz.func149 (by kernel_rfl) (by kernel_rfl) fun l h=>we l h
@[go_sem] theorem P15r_old{g:FuncId}{xs:List A}(h:g≠149):yO.f g xs=Ui.f g xs:=aj.ak h
@[go_sem] theorem P15r_s:yO.pl Ui:=⟨fun _=>rfl,fun _=>rfl,rfl,fun _=>rfl,rfl,fun _=>rfl,rfl⟩
theorem q_(l:List bS)(h:l.length<=1000000):yO.f 149 [.ad (l.map bS.enc)]=some (.ad ((ec l).map bS.enc)):=aj.an (Γ:=Ui) (fun i j h=>by simpa[Prod.ext_iff,and_assoc]using h) l h
@[go_sem] theorem GR{a b:List UInt8}(h:a.length<=9223372036854775807/\b.length<=9223372036854775807):PL.f 141 [.str a,.str b]=some (.int .i64 (ck a b)):=IZ (a,b) h
@[go_sem] theorem xV{s:List UInt8}(h:s.length<=9223372036854775807):PM.f 121 [.str s]=some (.bool (decide (1<=s.length/\s.length<=16))):=Cr s h
@[go_sem] theorem je{a b:List UInt8}(h:a.length<=9223372036854775807/\b.length<=9223372036854775807):PN.f 85 [.str a,.str b]=some (.bool (ck a b== -1)):=yL (a,b) h
@[go_sem] theorem rN{s:List UInt8}(h:s.length<=9223372036854775807):PO.f 122 [.str s]=some (.bool (decide (1<=s.length/\s.length<=16))):=wg s h
@[go_sem] theorem p_span_Right{lo hi:List UInt8}{op:Bool}(h:lo.length<=9223372036854775807/\hi.length<=9223372036854775807):PQ.f 142 [.agg [.str lo,.str hi,.bool op]]=some (.bool (ay ⟨lo,hi,op⟩)):=yM (lo,hi,op) h
@[go_sem] theorem ZF{lo hi:List UInt8}{op:Bool}(h:lo.length<=9223372036854775807/\hi.length<=9223372036854775807):PR.f 132 [.agg [.str lo,.str hi,.bool op]]=some (.bool (ay ⟨lo,hi,op⟩)):=wh (lo,hi,op) h
@[go_sem] theorem p_span_Has{lo hi s:List UInt8}{op:Bool}(h:(lo.length<=9223372036854775807/\hi.length<=9223372036854775807)/\s.length<=9223372036854775807):PS.f 128 [.agg [.str lo,.str hi,.bool op],.str s]=some (.bool (cg ⟨lo,hi,op⟩ s)):=EH ((lo,hi,op),s) h
@[go_sem] theorem p_ref07_Has{lo hi s:List UInt8}{op:Bool}(h:(lo.length<=9223372036854775807/\hi.length<=9223372036854775807)/\s.length<=9223372036854775807):PT.f 96 [.agg [.str lo,.str hi,.bool op],.str s]=some (.bool (cg ⟨lo,hi,op⟩ s)):=Cs ((lo,hi,op),s) h
@[go_sem] theorem p_span_Of{s:List UInt8}(h:s.length<=9223372036854775807):PU.f 154 [.str s]=some ((mH s).enc):=I0 s h
@[go_sem] theorem p_ref07_Of{s:List UInt8}(h:s.length<=9223372036854775807):PV.f 152 [.str s]=some ((mH s).enc):=EI s h
theorem MW{l:List ax}(h:l.length<=1000000)(h':dp l):PW.f 135 [.ad (l.map ax.enc)]=some (.ad ((dd (ar l)).map ax.enc)):=Ct l ⟨h,h'⟩
theorem kA{l:List ax}{s:List UInt8}(h:l.length<=100000)(h':dp l)(hs:s.length<=9223372036854775807):MV.f 70 [.ad (l.map ax.enc),.str s]=some (.bool (ar l s)):=yN (l,s) ⟨h,h',hs⟩
theorem l6{l:List ax}{s:List UInt8}(h:l.length<=100000)(h':dp l)(hs:s.length<=9223372036854775807):I1.f 36 [.ad (l.map ax.enc),.str s]=some (.bool (ar l s)):=Cu (l,s) ⟨h,h',hs⟩
theorem EJ{a b:List ax}(h:a.length<=1000/\b.length<=1000)(ha:dp a)(hb:dp b):Uh.f 107 [.ad (a.map ax.enc),.ad (b.map ax.enc)]=some (.ad ((iq a b).map .str)):=wi (a,b) ⟨h,ha,hb⟩
theorem MX{l:List bS}(h:l.length<=1000000):yO.f 149 [.ad (l.map bS.enc)]=some (.ad ((ec l).map bS.enc)):=q_ l h
def Pc.cells(p:Pc):List A:=[.str p.r.lo,.str p.r.hi,.bool p.r.op,.ad (p.s.map ab.enc)]
def Pc.enc(p:Pc):A:= .agg p.cells
@[go_sem] theorem Pc.sm{lo hi:List UInt8}{op:Bool}{s:List ab}:Pc.enc ⟨⟨lo,hi,op⟩,s⟩= .agg [.str lo,.str hi,.bool op,.ad (s.map ab.enc)]:=rfl
theorem Pc.d_(v w:Pc)(h:v.enc=w.enc):v=w:=by obtain⟨⟨a,b,c⟩,d⟩:=v;obtain⟨⟨a',b',c'⟩,d'⟩:=w;simp only[Pc.sm,A.agg.injEq,List.cons.injEq,A.str.injEq,A.bool.injEq,A.ad.injEq,and_true,Ef]at h;obtain⟨rfl,rfl,rfl,rfl⟩:=h;rfl
@[simp] theorem map_pc_inj{l m:List Pc}:(l.map Pc.enc=m.map Pc.enc)=(l=m):=map_inj Pc.d_
theorem fM{l:List Pc}{k:Nat}(h:k<l.length):(l.map Pc.enc)[k]? =some (.agg [.str l[k].r.lo,.str l[k].r.hi,.bool l[k].r.op,.ad (l[k].s.map ab.enc)]):=by rw[List.getElem?_map,List.getElem?_eq_getElem h];rfl
def wP(k:List Pc):Nat:=(k.map fun p=>p.s.length+bj p.s).sum
def cC(k:List Pc):Prop:=(k.length<=10000/\wP k<=900000)/\ ∀p∈k,p.r.lo.length<=9223372036854775807/\p.r.hi.length<=9223372036854775807
def gn(k:List Pc):Prop:=cC k/\(∀x,(setAt k x).length+bj (setAt k x)<=40000)/\ ∀p∈k,p.s.length+bj p.s<=40000
theorem RX{a:Int}{c:Nat}: ∀k:Nat,((List.range k).map fun i:Nat=>if a=(i:Int)+1 then c else 0).sum<=if 1<=a/\a<=k then c else 0
 |0=>by simp
 |k+1=>by
  have ih:=RX (a:=a) (c:=c) k;rw[List.range_succ,List.map_append,List.sum_append]
  simp only[List.map_cons,List.map_nil,List.sum_cons,List.sum_nil,Nat.add_zero]
  by_cases h:a=(k:Int)+1
  · rw[if_neg (by omega)]at ih
    rw[if_pos h,if_pos (by omega)];omega
  · rw[if_neg h,Nat.add_zero]
    refine Nat.le_trans ih ?_;by_cases h1:1<=a/\a<=(k:Int)
    · rw[if_pos h1,if_pos (by omega)];exact Nat.le_refl _
    · rw[if_neg h1];exact Nat.zero_le _
theorem sum_add{f g:Nat->Nat}(l:List Nat):(l.map fun i=>f i+g i).sum=(l.map f).sum+(l.map g).sum:=by
 induction l with
 |nil=>rfl
 |cons x l ih=>simp only[List.map_cons,List.sum_cons,ih];omega
theorem Cv(s:List ab)(k:Nat):((List.range k).map fun i:Nat=>(aB s ((i:Int)+1)).length).sum<=bj s:=by
 induction s with
 |nil=>
  have: ∀l:List Nat,(l.map fun i:Nat=>(aB [] ((i:Int)+1)).length).sum=0:=fun l=>by
   induction l with
   |nil=>rfl
   |cons x l ih=>rw[List.map_cons,List.sum_cons,ih];rfl
  rw[this];exact Nat.zero_le _
 |cons q s ih=>
  have e:(fun i:Nat=>(aB (q::s) ((i:Int)+1)).length)=fun i:Nat=>(if q.n=(i:Int)+1 then q.rs.length else 0)+(aB s ((i:Int)+1)).length:=by
   funext i
   simp only[aB]
   split
   · rw[List.length_append]
   · rw[Nat.zero_add]
  have e2:bj (q::s)=q.rs.length+bj s:=by unfold bj;rw[List.map_cons,List.sum_cons]
  rw[e,sum_add,e2]
  have h1:=RX (a:=q.n) (c:=q.rs.length) k;have h2:(if 1<=q.n/\q.n<=(k:Int)then q.rs.length else 0)<=q.rs.length:=by split<;>omega
  omega
theorem I2(t:Int->List aC): ∀k,bj (lX t k)<=((List.range k).map fun i:Nat=>(t ((i:Int)+1)).length).sum
 |0=>by simp[lX,bj]
 |k+1=>by
  have ih:=I2 t k;rw[List.range_succ,List.map_append,List.sum_append]
  simp only[List.map_cons,List.map_nil,List.sum_cons,List.sum_nil,Nat.add_zero,lX]
  split
  · omega
  · rw[e_]
    have e:bj [⟨(k:Int)+1,t (k+1)⟩]=(t (k+1)).length:=by simp[bj]
    omega
theorem X4{f g:Nat->Nat}(h: ∀i,f i<=g i)(l:List Nat):(l.map f).sum<=(l.map g).sum:=by
 induction l with
 |nil=>exact Nat.le_refl _
 |cons x l ih=>simp only[List.map_cons,List.sum_cons];have:=h x;omega
theorem MY(s:List ab):(dF s).length<=16/\bj (dF s)<=bj s:=by unfold dF lM;refine⟨nM _ 16,Nat.le_trans (I2 _ 16) (Nat.le_trans (X4 (fun i=>ku _) _) (Cv s 16))⟩
theorem opK_w(op:Int)(a b:List ab):(N6 op a b).length<=16/\bj (N6 op a b)<=2*bj a+2*bj b:=by
 refine⟨by unfold N6 lM;exact nM _ 16, ?_⟩
 have h1:=I2 (fun n=>cw (iP op (aB a n) (aB b n))) 16
 have h2:=X4 (f:=fun i:Nat=>(cw (iP op (aB a ((i:Int)+1)) (aB b ((i:Int)+1)))).length) (g:=fun i:Nat=>((aB a ((i:Int)+1)).length+(aB a ((i:Int)+1)).length)+((aB b ((i:Int)+1)).length+(aB b ((i:Int)+1)).length)) (fun i=>by
  have:=Mu op (aB a ((i:Int)+1)) (aB b ((i:Int)+1))
  omega) (List.range 16)
 rw[sum_add,sum_add,sum_add]at h2;have h3:=Cv a 16;have h4:=Cv b 16;have h5:bj (N6 op a b)<=((List.range 16).map fun i:Nat=>(cw (iP op (aB a ((i:Int)+1)) (aB b ((i:Int)+1)))).length).sum:=h1;omega
theorem nT(p:Pc)(k:List Pc):wP (p::k)=(p.s.length+bj p.s)+wP k:=by unfold wP;rw[List.map_cons,List.sum_cons]
theorem GS(k m:List Pc):wP (k++m)=wP k+wP m:=by simp[wP]
theorem X5{k:List Pc}{p:Pc}(h:p∈k):p.s.length+bj p.s<=wP k:=by
 induction k with
 |nil=>cases h
 |cons q k ih=>
  rw[nT]
  rcases List.mem_cons.1 h with rfl|h
  · omega
  · have:=ih h;omega
theorem eT{k:List Pc}(h:cC k){p:Pc}(hp:p∈k):aG p.s:=by have:=X5 hp;have:=h.1.2;exact⟨by omega,by omega⟩
theorem nU(k:List Pc)(x:List UInt8):(setAt k x).length+bj (setAt k x)<=wP k:=by
 induction k with
 |nil=>simp[setAt,bj]
 |cons p k ih=>
  have e:setAt (p::k) x=(if cg p.r x=true then p.s else [])++setAt k x:=by
   unfold setAt;by_cases h:cg p.r x=true
   · simp[h]
   · simp[h]
  rw[e,List.length_append,e_,nT]
  split
  · omega
  · simp only[List.length_nil]
    have:bj []=0:=rfl;omega
theorem X6{k:List Pc}(h:cC k)(hw:wP k<=40000):gn k:=⟨h,fun x=>Nat.le_trans (nU k x) hw,fun p hp=>Nat.le_trans (X5 hp) hw⟩
theorem qb{k:List Pc}(h:cC k)(x:List UInt8):aG (setAt k x)/\aG (dF (setAt k x)):=by
 have h1:=nU k x;have h2:=h.1.2;have h3:=MY (setAt k x)
 exact⟨⟨by omega,by omega⟩,⟨by omega,by omega⟩⟩
theorem mQ{k:List Pc}(h:gn k)(x:List UInt8):lz (setAt k x)/\lz (dF (setAt k x)):=by have h1:=h.2.1 x;exact⟨Xr (by omega) (by omega),RL (by omega)⟩
def df(k:List Pc)(x:List UInt8):List ab:=dF (setAt k x)
theorem Cw{k:List Pc}{j:Nat}(h:j<k.length)(x:List UInt8):setAt (k.take (j+1)) x=setAt (k.take j) x++(if cg k[j].r x=true then k[j].s else []):=by
 rw[<-List.take_append_getElem h,gz]
 congr 1
 unfold setAt;by_cases h:cg k[j].r x=true
 · simp[h]
 · simp[h]
theorem RY{k:List Pc}{j:Nat}(h:j<k.length):wP (k.take j)+(k[j].s.length+bj k[j].s)<=wP k:=by
 have e:k=k.take j++k[j]::k.drop (j+1):=by rw[<-List.drop_eq_getElem_cons h,List.take_append_drop]
 have h2:wP k=wP (k.take j)+wP (k[j]::k.drop (j+1)):=by rw[<-GS,<-e]
 have h3:=nT k[j] (k.drop (j+1))
 omega
theorem stKns(l:List ab):((l.map ab.enc).isEmpty||bT (l.map ab.enc)==2)=true:=by cases l<;>rfl
def A15:aj:={yO with l_:=fun f=>f==176||f==134,qU:=fun f=>f==176||f==134}
theorem X7:ag Tryz.prog A15:=⟨zO.f,zO.hp⟩
@[go_sem] theorem A15_f:A15.f=yO.f:=rfl
@[go_sem] theorem A15_eff{g:FuncId}:A15.l_ g=(g==176||g==134):=rfl
@[go_sem] theorem A15_frz{g:FuncId}:A15.qU g=(g==176||g==134):=rfl
@[go_sem] theorem A15_fix{n:Nat}:A15.fix n=false:=rfl
@[go_sem] theorem A15_ords{n:Nat}:A15.c6 n=[]:=rfl
theorem PX:ai Tryz.prog A15 Tryz.f139.ntmps (Tryz.f139.body.getD .skip)=true:=by kernel_rfl
theorem Uj(k:List Pc)(x:List UInt8)(hk:cC k)(hx:x.length<=9223372036854775807):az Tryz.prog 139 [.ad (k.map Pc.enc),.str x] (· = .ad ((df k x).map ab.enc)):=by
 refine aa X7 mixed Tryz.func139 rfl (Nat.le_of_ble_eq_true rfl) PX ?_;unfold Tryz.f139;obtain⟨⟨k1,k2⟩,k3⟩:=id hk;simp-implicitDefEqProofs (disch:=(first|omega|decide)) only[go_sem,↓reduceIte,seval,List.length_map]
 refine aU 5 2 rfl ?_;refine ao [0,1,8,9] (ι:={j:Nat//j<=k.length}) (fun p=>[(10,.int .i64 p.1),(5,.row 0 0 2 (setAt (k.take p.1) x).length false)]) (fun p=>[(0,.row 2 ((setAt (k.take p.1) x).map ab.enc))]) (fun p=>k.length-p.1) ⟨0,by omega⟩ (Nat.zero_le _) ?_ ?_
 · simp-implicitDefEqProofs (disch:=(first|omega|decide)) only[go_sem,↓reduceIte,seval]
   simp[setAt]
 · rintro⟨j,hj⟩
   simp only;have hw:=nU (k.take j) x;by_cases aw:j<k.length
   · have ae:(j:Int)<(k.length:Int):=by omega
     have e1:=fM aw;have hm:=RY aw;have iN:=Cw aw x;have fF:=k3 _ (List.getElem_mem aw)
     generalize hp:k[j]=p at*;obtain⟨⟨lo,hi,op⟩,s⟩:=p;simp only at hm iN fF;have st:=stKns s;cases h2:cg ⟨lo,hi,op⟩ x with
     |false=>
      rw[h2,if_neg (by simp),List.append_nil]at iN;simp-implicitDefEqProofs (disch:=(first|omega|decide)) only[go_sem,↓reduceIte,seval,ae,e1,h2,wrap_i64,List.length_map]
      exact⟨⟨j+1,aw⟩,⟨⟨by simp,by rw[iN]⟩,by rw[iN]⟩,by show k.length-(j+1)<k.length-j;omega⟩
     |true=>
      rw[h2,if_pos rfl]at iN;simp-implicitDefEqProofs (disch:=(first|omega|decide)) only[go_sem,↓reduceIte,seval,ae,e1,h2,st,wrap_i64,List.length_map]
      exact⟨⟨Nat.le_refl _,by omega⟩,⟨j+1,aw⟩,⟨⟨by simp,by rw[iN,List.length_append]⟩,by rw[iN,List.map_append,List.take_of_length_le (by simp)]⟩,by show k.length-(j+1)<k.length-j;omega⟩
   · have ae: ¬(j:Int)<(k.length:Int):=by omega
     rw[List.take_of_length_le (by omega)]at*;have ho:=qO (qb hk x).1;have tl:((setAt k x).map ab.enc).take (setAt k x).length=(setAt k x).map ab.enc:=List.take_of_length_le (by simp)
     simp-implicitDefEqProofs (disch:=(first|omega|decide)) only[go_sem,↓reduceIte,seval,ae,ho,tl,List.length_map,List.contains_nil,List.contains_cons]
     exact⟨Nat.le_refl _,rfl⟩
theorem MZ:ai Tryz.prog A15 Tryz.f192.ntmps (Tryz.f192.body.getD .skip)=true:=by kernel_rfl
theorem PY(k:List Pc)(x:List UInt8)(hk:gn k)(hx:x.length<=9223372036854775807):az Tryz.prog 192 [.ad (k.map Pc.enc),.str x] (· = .ad ((df k x).map ab.enc)):=by
 refine aa X7 mixed Tryz.func192 rfl (Nat.le_of_ble_eq_true rfl) MZ ?_;unfold Tryz.f192;obtain⟨⟨⟨k1,k2⟩,k3⟩,k4⟩:=id hk;simp-implicitDefEqProofs (disch:=(first|omega|decide)) only[go_sem,↓reduceIte,seval,List.length_map]
 refine aU 5 2 rfl ?_;refine ao [0,1] (ι:={j:Nat//j<=k.length}) (fun p=>[(6,.int .i64 p.1),(5,.row 0 0 2 (setAt (k.take p.1) x).length false)]) (fun p=>[(0,.row 2 ((setAt (k.take p.1) x).map ab.enc))]) (fun p=>k.length-p.1) ⟨0,by omega⟩ (Nat.zero_le _) ?_ ?_
 · simp-implicitDefEqProofs (disch:=(first|omega|decide)) only[go_sem,↓reduceIte,seval]
   simp[setAt]
 · rintro⟨j,hj⟩
   simp only;have hw:=nU (k.take j) x;by_cases aw:j<k.length
   · have ae:(j:Int)<(k.length:Int):=by omega
     have e1:=fM aw;have hm:=RY aw;have iN:=Cw aw x;have fF:=k3 _ (List.getElem_mem aw)
     generalize hp:k[j]=p at*;obtain⟨⟨lo,hi,op⟩,s⟩:=p;simp only at hm iN fF;have st:=stKns s;cases h2:cg ⟨lo,hi,op⟩ x with
     |false=>
      rw[h2,if_neg (by simp),List.append_nil]at iN;simp-implicitDefEqProofs (disch:=(first|omega|decide)) only[go_sem,↓reduceIte,seval,ae,e1,h2,wrap_i64,List.length_map]
      exact⟨⟨j+1,aw⟩,⟨⟨by simp,by rw[iN]⟩,by rw[iN]⟩,by show k.length-(j+1)<k.length-j;omega⟩
     |true=>
      rw[h2,if_pos rfl]at iN;simp-implicitDefEqProofs (disch:=(first|omega|decide)) only[go_sem,↓reduceIte,seval,ae,e1,h2,st,wrap_i64,List.length_map]
      exact⟨⟨Nat.le_refl _,by omega⟩,⟨j+1,aw⟩,⟨⟨by simp,by rw[iN,List.length_append]⟩,by rw[iN,List.map_append,List.take_of_length_le (by simp)]⟩,by show k.length-(j+1)<k.length-j;omega⟩
   · have ae: ¬(j:Int)<(k.length:Int):=by omega
     rw[List.take_of_length_le (by omega)]at*;have ho:=BZ (mQ hk x).1;have tl:((setAt k x).map ab.enc).take (setAt k x).length=(setAt k x).map ab.enc:=List.take_of_length_le (by simp)
     simp-implicitDefEqProofs (disch:=(first|omega|decide)) only[go_sem,↓reduceIte,seval,ae,ho,tl,List.length_map,List.contains_nil,List.contains_cons]
     exact⟨Nat.le_refl _,rfl⟩
theorem EK:ai Tryz.prog yO Tryz.f144.ntmps (Tryz.f144.body.getD .skip)=true:=by kernel_rfl
theorem I3(lo hi gm eW:List UInt8)(op lW:Bool):az Tryz.prog 144 [.agg [.str lo,.str hi,.bool op],.agg [.str gm,.str eW,.bool lW]] (· = .bool (!op&&hi==gm)):=by
 refine aa zO mixed Tryz.func144 rfl (Nat.le_of_ble_eq_true rfl) EK ?_;unfold Tryz.f144;cases op with
 |true=>simp-implicitDefEqProofs (disch:=(first|omega|decide)) only[go_sem,↓reduceIte,seval,Bool.not_true,Bool.false_and]
 |false=>cases h:hi==gm<;>simp-implicitDefEqProofs (disch:=(first|omega|decide)) only[go_sem,↓reduceIte,seval,h,Bool.not_false,Bool.true_and]
def Cx:aj:=yO.add 144 (entry (fun(v:(List UInt8×List UInt8×Bool)×(List UInt8×List UInt8×Bool))=>[.agg [.str v.1.1,.str v.1.2.1,.bool v.1.2.2],.agg [.str v.2.1,.str v.2.2.1,.bool v.2.2.2]]) (fun v=>True) (fun v=> .bool (!v.1.2.2&&v.1.2.1==v.2.1)))
theorem I4:ag Tryz.prog Cx:=zO.bG Tryz.func144 (by kernel_rfl) (by kernel_rfl) fun v h=>I3 v.1.1 v.1.2.1 v.2.1 v.2.2.1 v.1.2.2 v.2.2.2
@[go_sem] theorem P15s_old{g:FuncId}{xs:List A}(h:g≠144):Cx.f g xs=yO.f g xs:=aj.ak h
@[go_sem] theorem P15s_s:Cx.pl yO:=⟨fun _=>rfl,fun _=>rfl,rfl,fun _=>rfl,rfl,fun _=>rfl,rfl⟩
theorem yP(v:(List UInt8×List UInt8×Bool)×(List UInt8×List UInt8×Bool))(h:True):Cx.f 144 [.agg [.str v.1.1,.str v.1.2.1,.bool v.1.2.2],.agg [.str v.2.1,.str v.2.2.1,.bool v.2.2.2]]=some (.bool (!v.1.2.2&&v.1.2.1==v.2.1)):=aj.an (Γ:=yO) (fun i j h=>by simpa[Prod.ext_iff,and_assoc]using h) v h
@[go_sem] theorem p_touch{lo hi gm eW:List UInt8}{op lW:Bool}:Cx.f 144 [.agg [.str lo,.str hi,.bool op],.agg [.str gm,.str eW,.bool lW]]=some (.bool (!op&&hi==gm)):=yP ((lo,hi,op),(gm,eW,lW)) trivial
def j_(k:List Pc)(j:Nat):Option Pc:=if j=0 then none else some k[j-1]!
theorem cy{s:List ab}(h:aZ s=true):dF s=s:=O' h
theorem EL:ai Tryz.prog Cx Tryz.f88.ntmps (Tryz.f88.body.getD .skip)=true:=by kernel_rfl
theorem I5(k:List Pc)(hk:cC k):az Tryz.prog 88 [.ad (k.map Pc.enc)] (· = .bool (aS k)):=by
 refine aa I4 mixed Tryz.func88 rfl (Nat.le_of_ble_eq_true rfl) EL ?_;unfold Tryz.f88;obtain⟨⟨k1,k2⟩,k3⟩:=id hk;simp-implicitDefEqProofs (disch:=(first|omega|decide)) only[go_sem,↓reduceIte,seval,List.length_map]
 refine ao [0,6,7] (ι:={j:Nat//j<=k.length/\aS k=H6 (j_ k j) (k.drop j)/\ ∀q,j_ k j=some q->aZ q.s=true}) (fun p=>[(8,.int .i64 p.1)]) (fun _=>[]) (fun p=>k.length-p.1) ⟨0,by omega,rfl,fun q hq=>by cases hq⟩ (Nat.zero_le _) ?_ ?_
 · simp-implicitDefEqProofs (disch:=(first|omega|decide)) only[go_sem,↓reduceIte,seval]
 · rintro⟨j,hj,hd,hpr⟩
   simp only at hj hd hpr⊢;by_cases aw:j<k.length
   · have ae:(j:Int)<(k.length:Int):=by omega
     have e1:=fM aw;have fF:=k3 _ (List.getElem_mem aw)
     have yQ:=eT hk (List.getElem_mem aw)
     have rC:j_ k (j+1)=some k[j]:=by unfold j_;rw[if_neg (by omega),Nat.add_sub_cancel,getElem!_pos k j aw]
     rw[List.drop_eq_getElem_cons aw]at hd;generalize hx:k[j]=x at*;obtain⟨⟨lo,hi,op⟩,s⟩:=x;simp only[H6,dW]at hd fF yQ;have next:aS k=H6 (some ⟨⟨lo,hi,op⟩,s⟩) (k.drop (j+1))->aZ s=true-> ∃i:{j:Nat//j<=k.length/\aS k=H6 (j_ k j) (k.drop j)/\ ∀q,j_ k j=some q->aZ q.s=true},(j:Int)+1=(i.1:Int)/\k.length-i.1<k.length-j:=fun h h'=>⟨⟨j+1,aw,by rw[rC];exact h,fun q hq=>by rw[rC]at hq;obtain rfl:=Option.some.inj hq;exact h'⟩,by simp,by show k.length-(j+1)<k.length-j;omega⟩
     cases h1:ay ⟨lo,hi,op⟩with
     |false=>
      have hh:aS k=false:=by rw[hd,h1];simp
      simp-implicitDefEqProofs (disch:=(first|omega|decide)) only[go_sem,↓reduceIte,seval,ae,e1,h1,hh,List.length_map]
     |true=>
      cases h2:((s.length:Int)==0)with
      |true=>
       have:s=[]:=List.length_eq_zero_iff.1 (by have:(s.length:Int)=0:=by simpa using h2
                                                omega)
       have hh:aS k=false:=by rw[hd,this];simp
       simp-implicitDefEqProofs (disch:=(first|omega|decide)) only[go_sem,↓reduceIte,seval,ae,e1,h1,h2,hh,List.length_map]
      |false=>
       have bU:s.isEmpty=false:=by
          cases s with
          |nil=>simp at h2
          |cons _ _=>rfl
       have rE:=Iq yQ;cases h3:aZ s with
       |false=>
          have hh:aS k=false:=by rw[hd,h3];simp
          rw[h3]at rE;simp-implicitDefEqProofs (disch:=(first|omega|decide)) only[go_sem,↓reduceIte,seval,ae,e1,h1,h2,rE,hh,List.length_map]
       |true=>
          rw[h3]at rE;rw[h1,bU,h3]at hd;simp only[Bool.not_false,Bool.and_self,Bool.true_and]at hd;by_cases hj0:j=0
          · have hz:((j:Int)==0)=true:=by simp[hj0]
            have hh:aS k=H6 (some ⟨⟨lo,hi,op⟩,s⟩) (k.drop (j+1)):=by rw[hd];unfold j_;rw[if_pos hj0,Bool.true_and]
            simp-implicitDefEqProofs (disch:=(first|omega|decide)) only[go_sem,↓reduceIte,seval,ae,e1,h1,h2,rE,hz,wrap_i64,List.length_map]
            exact next hh h3
          · have hz:((j:Int)==0)=false:=by simp;omega
            have kh:j-1<k.length:=by omega
            have e2:=fM kh;have DT:=k3 _ (List.getElem_mem kh)
            have Uk:=eT hk (List.getElem_mem kh)
            have N5:j_ k j=some k[j-1]:=by unfold j_;rw[if_neg hj0,getElem!_pos k (j-1) kh]
            have Vk:=hpr _ N5;rw[N5]at hd;generalize hy:k[j-1]=y at*;obtain⟨⟨gm,eW,lW⟩,s'⟩:=y;simp only at DT Uk Vk;have c1:((j:Int)-1).toNat=j-1:=by omega
            have c2:(0:Int)<=(j:Int)-1:=by omega
            have dN:=IJ Uk yQ (by rw[cy Vk];exact Uk) (by rw[cy h3];exact yQ)
            rw[cy Vk,cy h3]at dN;simp only[vG]at hd;cases h4:lW with
            |true=>
             have hh:aS k=false:=by rw[hd,h4];simp
             subst h4;simp-implicitDefEqProofs (maxSteps:=600000) (disch:=(first|omega|decide)) only[go_sem,↓reduceIte,seval,ae,e1,h1,h2,rE,hz,e2,c1,c2,hh,wrap_i64,List.length_map]
            |false=>
             subst h4;cases h5:aQ lo eW with
             |true=>
              have hh:aS k=false:=by rw[hd,h5];simp
              simp-implicitDefEqProofs (maxSteps:=600000) (disch:=(first|omega|decide)) only[go_sem,↓reduceIte,seval,ae,e1,h1,h2,rE,hz,e2,c1,c2,h5,hh,wrap_i64,List.length_map]
             |false=>
              cases h6:eW==lo with
              |false=>
               have hh:aS k=H6 (some ⟨⟨lo,hi,op⟩,s⟩) (k.drop (j+1)):=by rw[hd,h5,h6];simp
               simp-implicitDefEqProofs (maxSteps:=600000) (disch:=(first|omega|decide)) only[go_sem,↓reduceIte,seval,ae,e1,h1,h2,rE,hz,e2,c1,c2,h5,h6,wrap_i64,List.length_map]
               exact next hh h3
              |true=>
               cases h7:bQ s' s with
               |true=>
                have h7':s'=s:=by simpa[bQ]using h7
                rw[h7]at dN;have hh:aS k=false:=by rw[hd,h6,h7'];simp
                simp-implicitDefEqProofs (maxSteps:=600000) (disch:=(first|omega|decide)) only[go_sem,↓reduceIte,seval,ae,e1,h1,h2,rE,hz,e2,c1,c2,h5,h6,dN,hh,wrap_i64,List.length_map]
               |false=>
                have h7':s'≠s:=by simpa[bQ]using h7
                rw[h7]at dN;have hh:aS k=H6 (some ⟨⟨lo,hi,op⟩,s⟩) (k.drop (j+1)):=by rw[hd,h5,h6,decide_eq_false h7'];simp
                simp-implicitDefEqProofs (maxSteps:=600000) (disch:=(first|omega|decide)) only[go_sem,↓reduceIte,seval,ae,e1,h1,h2,rE,hz,e2,c1,c2,h5,h6,dN,wrap_i64,List.length_map]
                exact next hh h3
   · have ae: ¬(j:Int)<(k.length:Int):=by omega
     have hh:aS k=true:=by rw[hd,List.drop_of_length_le (by omega)];rfl
     simp-implicitDefEqProofs (disch:=(first|omega|decide)) only[go_sem,↓reduceIte,seval,ae,hh,List.length_map]
def E15a:aj:=Cx.eP 174 (bo s9 rM stK MI)
def Ul:aj:=E15a.eP 175 (bo xU u9 cpK MJ)
def X8:aj:={Ul with l_:=fun f=>f==174||f==175}
theorem E15a_ok:ag Tryz.prog E15a:=I4.eP (bn Tryz.func174 (by kernel_rfl) (by kernel_rfl)) (cL stH)
theorem RZ:ag Tryz.prog Ul:=E15a_ok.eP (bn Tryz.func175 (by kernel_rfl) (by kernel_rfl)) (cL cpH)
theorem E15_ok:ag Tryz.prog X8:=⟨RZ.f,RZ.hp⟩
@[go_sem] theorem E15_f:X8.f=Cx.f:=rfl
@[go_sem] theorem E15_eff{g:FuncId}:X8.l_ g=(g==174||g==175):=rfl
@[go_sem] theorem E15_frz{g:FuncId}:X8.qU g=false:=rfl
@[go_sem] theorem E15_fix{n:Nat}:X8.fix n=false:=rfl
@[go_sem] theorem E15_ords{n:Nat}:X8.c6 n=[]:=rfl
theorem X9(i:StI)(h:stK i):X8.hp 174 (s9 i) (rM i)=some (MI i):=by
 have h1:Ul.hp 174 (s9 i) (rM i)=E15a.hp 174 (s9 i) (rM i):=aj.qC (by decide)
 have h2:E15a.hp 174 (s9 i) (rM i)=bo s9 rM stK MI (s9 i) (rM i):=aj.dZ;have h3:=cM (enc:=s9) (DE:=rM) (ok:=stK) (spec:=MI) (fun i j h h'=>XE i j h h') i h;exact(show X8.hp 174 (s9 i) (rM i)=Ul.hp 174 (s9 i) (rM i)from rfl).trans (h1.trans (h2.trans h3))
theorem X_(i:CpI)(h:cpK i):X8.hp 175 (xU i) (u9 i)=some (MJ i):=by have h2:Ul.hp 175 (xU i) (u9 i)=bo xU u9 cpK MJ (xU i) (u9 i):=aj.dZ;have h3:=cM (enc:=xU) (DE:=u9) (ok:=cpK) (spec:=MJ) (fun i j h h'=>XF i j h h') i h;exact(show X8.hp 175 (xU i) (u9 i)=Ul.hp 175 (xU i) (u9 i)from rfl).trans (h2.trans h3)
def Vr(k:List Pc):A:= .ad (k.map Pc.enc)
theorem pcL_inj(l m:List Pc)(h:Vr l=Vr m):l=m:=by simpa[Vr]using h
@[simp] theorem map_pcL_inj{L M:List (List Pc)}:(L.map Vr=M.map Vr)=(L=M):=map_inj pcL_inj
def qQ(k:List Pc):List ax:=(k.map (·.r)).filter ay
theorem X'{k:List Pc}{j:Nat}(h:j<k.length):qQ (k.take (j+1))=qQ (k.take j)++(if ay k[j].r=true then [k[j].r]else []):=by
 rw[<-List.take_append_getElem h]
 unfold qQ;rw[List.map_append,List.filter_append]
 congr 1
 by_cases h:ay k[j].r=true
 · simp[h]
 · simp[h]
theorem R3(k:List Pc):(qQ k).length<=k.length:=by unfold qQ;exact Nat.le_trans (List.length_filter_le _ _) (by simp)
theorem Um(k:List Pc): ∀r∈qQ k,ay r=true:=fun r hr=>(List.mem_filter.1 hr).2
def jf(LL:List (List Pc))(o:Nat):List (List UInt8):=cS [[]] ((LL.take o).flatMap qQ)
def gh(LL:List (List Pc)):List (List UInt8):=aT (jb (cS [[]] (LL.flatMap qQ)))
def yR(E:List (List UInt8)):List Go.bJ.Obj:=if E.length=1 then []else [.box [.any,.any,.any,.any],.row 1 (E.map .str)]
theorem l7{E:List (List UInt8)}(h:E.length=1):zL E= .clip [.str []]/\yR E=[]:=by simp[zL,yR,h]
theorem dj{E:List (List UInt8)}(h:E.length≠1):zL E= .row 1 0 1 E.length false/\yR E=[.box [.any,.any,.any,.any],.row 1 (E.map .str)]:=by simp[zL,yR,h]
theorem wj{E:List (List UInt8)}:(zL E).under (yR E).length=true:=by
 by_cases h:E.length=1
 · rw[(l7 h).1];simp[A.under]
 · rw[(dj h).1,(dj h).2];simp[A.under]
theorem PZ{E:List (List UInt8)}:rq (yR E).length (yR E) (yR E):=by
 by_cases h:E.length=1
 · rw[(l7 h).2];simp[rq]
 · rw[(dj h).2];simp[rq,QY,Ki]
theorem P0{LL:List (List Pc)}{o:Nat}(h:o<LL.length):cS (jf LL o) (qQ LL[o])=jf LL (o+1):=by
 unfold jf;rw[<-List.take_append_getElem h,List.flatMap_append,pW]
 simp
def mR(LL:List (List Pc)):Nat:=(LL.map List.length).sum
theorem Cy(LL:List (List Pc))(o:Nat):((LL.take o).flatMap qQ).length<=mR LL:=by
 have h1: ∀M:List (List Pc),(M.flatMap qQ).length<=mR M:=fun M=>by
  induction M with
  |nil=>simp
  |cons k M ih=>
   have:=R3 k;simp only[List.flatMap_cons,List.length_append,mR,List.map_cons,List.sum_cons]at ih⊢;omega
 have h2:mR LL=mR (LL.take o)+mR (LL.drop o):=by unfold mR;rw[<-List.sum_append,<-List.map_append,List.take_append_drop]
 have:=h1 (LL.take o)
 omega
theorem tot_mem{LL:List (List Pc)}{k:List Pc}(h:k∈LL):k.length<=mR LL:=by
 induction LL with
 |nil=>cases h
 |cons q M ih=>
  unfold mR at ih⊢;rw[List.map_cons,List.sum_cons]
  rcases List.mem_cons.1 h with rfl|h
  · omega
  · have:=ih h;omega
theorem R4{LL:List (List Pc)}{o:Nat}(h:o<LL.length):(LL.map Vr)[o]? =some (.ad (LL[o].map Pc.enc)):=by rw[List.getElem?_map,List.getElem?_eq_getElem h];rfl
theorem Cz{m:List ax}(hm: ∀r∈m,ay r=true): ∀s∈cS [[]] m,s.length<=17:=fun s hs=>by
 rcases(h_ _ _ _).1 hs with h|⟨r,hr,h⟩
 · simp at h;subst h;simp
 · obtain⟨k1,k2,_,_⟩:=cj (hm r hr)
   rcases h with rfl|⟨_,rfl⟩
   · exact k1
   · exact k2
theorem lD(LL:List (List Pc)): ∀r∈LL.flatMap qQ,ay r=true:=fun r hr=>by obtain⟨k,_,h⟩:=List.mem_flatMap.1 hr;exact Um k r h
theorem EM:ai Tryz.prog X8 Tryz.f137.ntmps (Tryz.f137.body.getD .skip)=true:=by kernel_rfl
theorem I6(LL:List (List Pc))(hL:LL.length<=1000)(ht:mR LL<=1000000)(fF: ∀k∈LL,∀p∈k,p.r.lo.length<=9223372036854775807/\p.r.hi.length<=9223372036854775807):az Tryz.prog 137 [.ad (LL.map Vr)] (· = .ad ((gh LL).map .str)):=by
 refine aa E15_ok mixed Tryz.func137 rfl (Nat.le_of_ble_eq_true rfl) EM ?_;unfold Tryz.f137;simp-implicitDefEqProofs (disch:=(first|omega|decide)) only[go_sem,↓reduceIte,seval,List.length_map]
 refine qp [9,10] (ι:={o:Nat//o<=LL.length}) (fun p=>[(11,.int .i64 p.1),(3,zL (jf LL p.1))]) (fun p=>yR (jf LL p.1)) (fun p=>LL.length-p.1) ⟨0,by omega⟩ (fun _=>Nat.zero_le _) ?_ ?_
 · have e:jf LL 0=[[]]:=rfl
   simp only[e]
   simp-implicitDefEqProofs (disch:=(first|omega|decide)) only[go_sem,↓reduceIte,seval,zL,yR]
 · rintro⟨o,ho⟩
   simp only;by_cases Q0:o<LL.length
   · have vm:(o:Int)<(LL.length:Int):=by omega
     have hd:=R4 Q0;have hacc:=P0 Q0;have LX:=tot_mem (List.getElem_mem Q0)
     have hlk:=fF _ (List.getElem_mem Q0)
     generalize LL[o]=l at*;have Zz:(jf LL o).length<=2000001:=by unfold jf;have h1:=(fB ((LL.take o).flatMap qQ) [[]]).2;have h2:=Cy LL o;simp only[List.length_singleton]at h1;omega
     obtain⟨m0,hm0⟩: ∃m,jf LL o=cS [[]] m:=⟨_,rfl⟩
     have dQ: ∃j:{o:Nat//o<=LL.length},(o:Int)+1=(j.1:Int)/\jf LL (o+1)=jf LL j.1/\LL.length-j.1<LL.length-o:=⟨⟨o+1,Q0⟩,by simp,rfl,by show LL.length-(o+1)<LL.length-o;omega⟩
     rw[<-hacc]at dQ;generalize jf LL o=E0 at*;have hE5:(zL E0).under (yR E0).length=true:=wj;have hE5b:rq (yR E0).length (yR E0) (yR E0):=PZ;simp-implicitDefEqProofs (disch:=(first|omega|decide)) only[go_sem,↓reduceIte,seval,vm,hd,List.length_map]
     refine qp [9,10,11,15,16] (ι:={j:Nat//j<=l.length}) (fun p=>[(17,.int .i64 p.1),(3,zL (cS E0 (qQ (l.take p.1))))]) (fun p=>yR (cS E0 (qQ (l.take p.1)))) (fun p=>l.length-p.1) ⟨0,by omega⟩ (fun _=>Nat.zero_le _) ?_ ?_
     · have e:cS E0 (qQ (l.take 0))=E0:=rfl
       simp only[e]
       simp-implicitDefEqProofs (disch:=(first|omega|decide)) only[go_sem,↓reduceIte,seval,hE5,hE5b]
     · rintro⟨j,hj⟩
       simp only;obtain⟨m1,hm1⟩: ∃m,cS E0 (qQ (l.take j))=cS [[]] m:=⟨m0++qQ (l.take j),by rw[hm0,pW]⟩
       have hlenE:=(fB (qQ (l.take j)) E0).2;have Gq:=R3 (l.take j)
       rw[List.length_take,Nat.min_eq_left hj]at Gq;have hgeE:=(fB m1 [[]]).1;rw[<-hm1,List.length_singleton]at hgeE;by_cases aw:j<l.length
       · have ae:(j:Int)<(l.length:Int):=by omega
         have e1:=fM aw;have N5:=hlk _ (List.getElem_mem aw)
         have bR:=X' aw
         have M0:cS E0 (qQ (l.take (j+1)))=if ay l[j].r=true then sH (cS E0 (qQ (l.take j))) l[j].r else cS E0 (qQ (l.take j)):=by
          rw[bR,pW]
          by_cases h:ay l[j].r=true
          · rw[if_pos h,if_pos h];rfl
          · rw[if_neg h,if_neg h];rfl
         have next: ∀E',cS E0 (qQ (l.take (j+1)))=E'-> ∃i:{j:Nat//j<=l.length},(j:Int)+1=(i.1:Int)/\(zL (cS E0 (qQ (l.take i.1)))=zL E'/\yR (cS E0 (qQ (l.take i.1)))=yR E')/\l.length-i.1<l.length-j:=fun E' h1=>⟨⟨j+1,aw⟩,by simp,by rw[h1];exact⟨rfl,rfl⟩,by show l.length-(j+1)<l.length-j;omega⟩
         clear bR;generalize cS E0 (qQ (l.take j))=E at*;generalize hx:l[j]=x at*;obtain⟨⟨lo,hi,op⟩,s⟩:=x;simp only at N5 M0;have hU:(zL E).under (yR E).length=true:=wj;have hUb:rq (yR E).length (yR E) (yR E):=PZ;cases hr:ay ⟨lo,hi,op⟩with
         |false=>
          rw[hr,if_neg (by simp)]at M0;obtain⟨i,n1,⟨n2,n3⟩,n4⟩:=next _ M0
          by_cases hE:E.length=1
          · rw[(l7 hE).1,(l7 hE).2]at*
            simp-implicitDefEqProofs (disch:=(first|omega|decide)) only[go_sem,↓reduceIte,seval,ae,e1,hr,wrap_i64,List.length_map]
            refine⟨i, ?_,n4⟩
            rw[n2,n3]
            simp-implicitDefEqProofs (disch:=(first|omega|decide)) only[go_sem,↓reduceIte,seval,n1]
          · rw[(dj hE).1,(dj hE).2]at*
            simp-implicitDefEqProofs (disch:=(first|omega|decide)) only[go_sem,↓reduceIte,seval,ae,e1,hr,wrap_i64,List.length_map]
            refine⟨i, ?_,n4⟩
            rw[n2,n3]
            simp-implicitDefEqProofs (disch:=(first|omega|decide)) only[go_sem,↓reduceIte,seval,n1]
            try simp
         |true=>
          rw[hr,if_pos rfl]at M0;by_cases hE:E.length=1
          · have hE1:E=[[]]:=by rw[hm1]at hE⊢;exact zM hE
            rw[(l7 hE).1,(l7 hE).2]
            subst hE1;cases op with
            |true=>
              obtain⟨i,n1,⟨n2,n3⟩,n4⟩:=next [[],lo] M0
              rw[(dj (E:=[[],lo]) (by simp)).1]at n2;rw[(dj (E:=[[],lo]) (by simp)).2]at n3;simp-implicitDefEqProofs (disch:=(first|omega|decide)) only[go_sem,↓reduceIte,seval,ae,e1,hr,wrap_i64,List.length_map]
              refine⟨i, ?_,n4⟩
              rw[n2,n3]
              simp-implicitDefEqProofs (disch:=(first|omega|decide)) only[go_sem,↓reduceIte,seval,n1]
              try simp
            |false=>
              obtain⟨i,n1,⟨n2,n3⟩,n4⟩:=next [[],lo,hi] M0
              rw[(dj (E:=[[],lo,hi]) (by simp)).1]at n2;rw[(dj (E:=[[],lo,hi]) (by simp)).2]at n3;simp-implicitDefEqProofs (disch:=(first|omega|decide)) only[go_sem,↓reduceIte,seval,ae,e1,hr,wrap_i64,List.length_map]
              refine⟨i, ?_,n4⟩
              rw[n2,n3]
              simp-implicitDefEqProofs (disch:=(first|omega|decide)) only[go_sem,↓reduceIte,seval,n1]
              try simp
          · rw[(dj hE).1,(dj hE).2]
            have tl:(E.map A.str).take E.length=E.map A.str:=List.take_of_length_le (by simp)
            have tl2:(E.map A.str++[A.str lo]).take (E.length+1)=E.map A.str++[A.str lo]:=List.take_of_length_le (by simp)
            have ll2:(E.map A.str++[A.str lo]).length=E.length+1:=by simp
            cases op with
            |true=>
              obtain⟨i,n1,⟨n2,n3⟩,n4⟩:=next (E++[lo]) M0
              have bU:(E++[lo]).length≠1:=by rw[List.length_append];show E.length+1≠1;omega
              rw[(dj bU).1]at n2;rw[(dj bU).2]at n3;simp-implicitDefEqProofs (disch:=(first|omega|decide)) only[go_sem,↓reduceIte,seval,ae,e1,hr,tl,wrap_i64,List.length_map]
              refine⟨⟨Nat.le_refl _,by omega⟩,i, ?_,n4⟩
              rw[n2,n3]
              simp-implicitDefEqProofs (disch:=(first|omega|decide)) only[go_sem,↓reduceIte,seval,n1]
              try simp
            |false=>
              obtain⟨i,n1,⟨n2,n3⟩,n4⟩:=next (E++[lo,hi]) M0
              have bU:(E++[lo,hi]).length≠1:=by rw[List.length_append];show E.length+2≠1;omega
              rw[(dj bU).1]at n2;rw[(dj bU).2]at n3;simp-implicitDefEqProofs (disch:=(first|omega|decide)) only[go_sem,↓reduceIte,seval,ae,e1,hr,tl,tl2,ll2,wrap_i64,List.length_map]
              refine⟨⟨Nat.le_refl _,by omega⟩,⟨Nat.le_refl _,by omega⟩,i, ?_,n4⟩
              rw[n2,n3]
              simp-implicitDefEqProofs (disch:=(first|omega|decide)) only[go_sem,↓reduceIte,seval,n1]
              try simp
       · have ae: ¬(j:Int)<(l.length:Int):=by omega
         rw[List.take_of_length_le (by omega)]at*;obtain⟨i,n1,n2,n3⟩:=dQ;rw[n2]
         have hU:(zL (jf LL i.1)).under (yR (jf LL i.1)).length=true:=wj;have hUb:rq (yR (jf LL i.1)).length (yR (jf LL i.1)) (yR (jf LL i.1)):=PZ;have w:IntKind.i64.wrap ((o:Int)+1)=(o:Int)+1:=wrap_i64 (by omega)
         simp-implicitDefEqProofs (disch:=(first|omega|decide)) only[go_sem,↓reduceIte,seval,ae,w,List.length_map]
         refine⟨i, ?_,n3⟩
         simp-implicitDefEqProofs (disch:=(first|omega|decide)) only[go_sem,↓reduceIte,seval,n1,hU,hUb]
   · have vm: ¬(o:Int)<(LL.length:Int):=by omega
     obtain rfl:o=LL.length:=by omega
     have hE2:jf LL LL.length=cS [[]] (LL.flatMap qQ):=by unfold jf;rw[List.take_length]
     have XH:=Cz (lD LL)
     have Zz:=(fB (LL.flatMap qQ) [[]]).2;have htt:=Cy LL LL.length;rw[List.take_length]at htt;rw[List.length_singleton]at Zz;rw[hE2]
     unfold gh;have cQ:= @zM (LL.flatMap qQ)
     generalize cS [[]] (LL.flatMap qQ)=E at*;by_cases hE:E.length=1
     · have hE1:=cQ hE
       rw[(l7 hE).1,(l7 hE).2]
       subst hE1;have s1:=X9 (.inr []) trivial;have s2:=X_ (.inr []) trivial;simp only[s9,rM,MI]at s1;simp only[xU,u9,MJ]at s2;have hs:jb [[]]=[[]]:=by have:=(eO XH).1;exact(List.perm_replicate (n:=1) (a:=([]:List UInt8))).1 this
       rw[hs]
       simp-implicitDefEqProofs (disch:=(first|omega|decide)) only[go_sem,↓reduceIte,seval,vm,s1,s2,aT,List.contains_nil,List.contains_cons,List.length_map]
     · rw[(dj hE).1,(dj hE).2]
       have s1:=X9 (.inl (Vo E XH)) (by show(Vo E XH).length<_;rw[zK];omega)
       simp only[s9,rM,MI,RT,zK,GM]at s1;have hp:=(eO XH).1.length_eq;have s2:=X_ (.inl (jb E)) (by show(jb E).length<=_;rw[hp];omega)
       simp only[xU,u9,MJ,hp]at s2;have jg:(aT (jb E)).length=((aT (jb E)).map A.str).length:=by simp
       simp-implicitDefEqProofs (disch:=(first|omega|decide)) only[go_sem,↓reduceIte,seval,vm,s1,s2,List.contains_nil,List.contains_cons,List.length_map]
       refine⟨by rw[List.length_append];omega, ?_⟩
       rw[List.map_append,List.take_append_of_le_length (by simp),List.take_of_length_le (by simp)]
set_option maxHeartbeats 16000000
def dg(acc:List Pc):List A:=acc.reverse.map Pc.enc
theorem aW(q:Pc)(qs:List Pc):dg (q::qs)=dg qs++[.agg [.str q.r.lo,.str q.r.hi,.bool q.r.op,.ad (q.s.map ab.enc)]]:=by simp[dg,Pc.enc,Pc.cells]
theorem dH(l:List Pc):(dg l).length=l.length:=by simp[dg]
theorem jT:dg []=[]:=rfl
theorem qc(P:List UInt8->List ab)(es:List (List UInt8)): ∀(k:Nat),∀p∈kL P es k,∃e,p.s=P e
 |0,p,hp=>by cases hp
 |k+1,p,hp=>by
  have ih:=qc P es k;simp only[kL]at hp;split at hp
  · exact ih p hp
  · revert hp
    cases hm:kL P es k with
    |nil=>
     intro hp;simp only[b9,List.mem_singleton]at hp;subst hp;exact⟨_,rfl⟩
    |cons q qs=>
     intro hp;rw[hm]at ih;simp only[b9]at hp;split at hp
     · rcases List.mem_cons.1 hp with rfl|hp
       · obtain⟨e,he⟩:=ih q (by simp)
         exact⟨e,he⟩
       · exact ih p (by simp[hp])
     · rcases List.mem_cons.1 hp with rfl|hp
       · exact⟨_,rfl⟩
       · exact ih p hp
theorem uD{l:List (List UInt8)}{k:Nat}(h:k<l.length):(l.map A.str)[k]? =some (.str (l[k]!)):=by rw[List.getElem?_map,List.getElem?_eq_getElem h,getElem!_pos l k h];rfl
def P1:aj:=Cx.add 139 (entry (fun(v:List Pc×List UInt8)=>[.ad (v.1.map Pc.enc),.str v.2]) (fun v=>cC v.1/\v.2.length<=9223372036854775807) (fun v=> .ad ((df v.1 v.2).map ab.enc)))
theorem P15t_ok:ag Tryz.prog P1:=I4.bG Tryz.func139 (by kernel_rfl) (by kernel_rfl) fun v h=>Uj v.1 v.2 h.1 h.2
@[go_sem] theorem P15t_old{g:FuncId}{xs:List A}(h:g≠139):P1.f g xs=Cx.f g xs:=aj.ak h
theorem I7(v:List Pc×List UInt8)(h:cC v.1/\v.2.length<=9223372036854775807):P1.f 139 [.ad (v.1.map Pc.enc),.str v.2]=some (.ad ((df v.1 v.2).map ab.enc)):=aj.an (Γ:=Cx) (fun i j h=>by simpa[Prod.ext_iff,and_assoc]using h) v h
def M1:aj:=P1.add 192 (entry (fun(v:List Pc×List UInt8)=>[.ad (v.1.map Pc.enc),.str v.2]) (fun v=>gn v.1/\v.2.length<=9223372036854775807) (fun v=> .ad ((df v.1 v.2).map ab.enc)))
theorem P15u_ok:ag Tryz.prog M1:=P15t_ok.bG Tryz.func192 (by kernel_rfl) (by kernel_rfl) fun v h=>PY v.1 v.2 h.1 h.2
@[go_sem] theorem P15u_old{g:FuncId}{xs:List A}(h:g≠192):M1.f g xs=P1.f g xs:=aj.ak h
theorem EN(v:List Pc×List UInt8)(h:gn v.1/\v.2.length<=9223372036854775807):M1.f 192 [.ad (v.1.map Pc.enc),.str v.2]=some (.ad ((df v.1 v.2).map ab.enc)):=aj.an (Γ:=P1) (fun i j h=>by simpa[Prod.ext_iff,and_assoc]using h) v h
def EO:aj:=M1.add 88 (entry (fun(k:List Pc)=>[.ad (k.map Pc.enc)]) (fun k=>cC k) (fun k=> .bool (aS k)))
theorem I8:ag Tryz.prog EO:=P15u_ok.bG Tryz.func88 (by kernel_rfl) (by kernel_rfl) fun k h=>I5 k h
@[go_sem] theorem P15v_old{g:FuncId}{xs:List A}(h:g≠88):EO.f g xs=M1.f g xs:=aj.ak h
@[go_sem] theorem P15v_s:EO.pl M1:=⟨fun _=>rfl,fun _=>rfl,rfl,fun _=>rfl,rfl,fun _=>rfl,rfl⟩
theorem yS(k:List Pc)(h:cC k):EO.f 88 [.ad (k.map Pc.enc)]=some (.bool (aS k)):=aj.an (Γ:=M1) (fun i j h=>by simpa[Prod.ext_iff,and_assoc]using h) k h
theorem p_At{k:List Pc}{x:List UInt8}(h:cC k)(hx:x.length<=9223372036854775807):P1.f 139 [.ad (k.map Pc.enc),.str x]=some (.ad ((df k x).map ab.enc)):=I7 (k,x) ⟨h,hx⟩
theorem p_rAt{k:List Pc}{x:List UInt8}(h:gn k)(hx:x.length<=9223372036854775807):M1.f 192 [.ad (k.map Pc.enc),.str x]=some (.ad ((df k x).map ab.enc)):=EN (k,x) ⟨h,hx⟩
theorem I9{k:List Pc}(h:cC k):EO.f 88 [.ad (k.map Pc.enc)]=some (.bool (aS k)):=yS k h
theorem I_:ai Tryz.prog EO Tryz.f187.ntmps (Tryz.f187.body.getD .skip)=true:=by kernel_rfl
theorem P2(k:List Pc)(x:List UInt8)(hk:cC k)(hx:x.length<=9223372036854775807):az Tryz.prog 187 [.str x,.dz [.ad (k.map Pc.enc)]] (· = .ad ((df k x).map ab.enc)):=by refine aa I8 mixed Tryz.func187 rfl (Nat.le_of_ble_eq_true rfl) I_ ?_;unfold Tryz.f187;have h:=p_At hk hx;simp-implicitDefEqProofs (disch:=(first|omega|decide)) only[go_sem,↓reduceIte,seval,h]
def xW(a b:List Pc)(x:List UInt8):List ab:=N6 3 (df a x) (df b x)
def br(k:List Pc)(l:List ax)(x:List UInt8):List ab:=if ar l x=true then df k x else []
theorem sM:ai Tryz.prog EO Tryz.f138.ntmps (Tryz.f138.body.getD .skip)=true:=by kernel_rfl
theorem wm(k:List Pc)(l:List ax)(x:List UInt8)(hk:cC k)(hl:l.length<=100000)(oN:dp l)(hx:x.length<=9223372036854775807):az Tryz.prog 138 [.str x,.dz [.ad (l.map ax.enc)],.dz [.ad (k.map Pc.enc)]] (· = .ad ((br k l x).map ab.enc)):=by
 refine aa I8 mixed Tryz.func138 rfl (Nat.le_of_ble_eq_true rfl) sM ?_;unfold Tryz.f138;have h1:=p_At hk hx;have h2:=kA hl oN hx;unfold br;cases h:ar l x with
 |false=>
  rw[h]at h2;simp-implicitDefEqProofs (disch:=(first|omega|decide)) only[go_sem,↓reduceIte,seval,h2,List.map_nil,Bool.false_eq_true]
 |true=>
  rw[h]at h2;simp-implicitDefEqProofs (disch:=(first|omega|decide)) only[go_sem,↓reduceIte,seval,h1,h2]
def Ya:aj:=EO.add 187 (entry (fun(v:List UInt8×List Pc)=>[.str v.1,.dz [.ad (v.2.map Pc.enc)]]) (fun v=>cC v.2/\v.1.length<=9223372036854775807) (fun v=> .ad ((df v.2 v.1).map ab.enc)))
theorem P15w_ok:ag Tryz.prog Ya:=I8.bG Tryz.func187 (by kernel_rfl) (by kernel_rfl) fun v h=>P2 v.2 v.1 h.1 h.2
@[go_sem] theorem P15w_old{g:FuncId}{xs:List A}(h:g≠187):Ya.f g xs=EO.f g xs:=aj.ak h
theorem CA(v:List UInt8×List Pc)(h:cC v.2/\v.1.length<=9223372036854775807):Ya.f 187 [.str v.1,.dz [.ad (v.2.map Pc.enc)]]=some (.ad ((df v.2 v.1).map ab.enc)):=aj.an (Γ:=EO) (fun i j h=>by simpa[Prod.ext_iff,and_assoc]using h) v h
def Un:aj:=Ya
theorem P15x_ok:ag Tryz.prog Un:=P15w_ok
@[go_sem] theorem P15x_old{g:FuncId}{xs:List A}:Un.f g xs=Ya.f g xs:=rfl
def wq:aj:=Un.add 138 (entry (fun(v:List UInt8×List ax×List Pc)=>[.str v.1,.dz [.ad (v.2.1.map ax.enc)],.dz [.ad (v.2.2.map Pc.enc)]]) (fun v=>(cC v.2.2/\dp v.2.1)/\v.2.1.length<=100000/\v.1.length<=9223372036854775807) (fun v=> .ad ((br v.2.2 v.2.1 v.1).map ab.enc)))
theorem zP:ag Tryz.prog wq:=P15x_ok.bG Tryz.func138 (by kernel_rfl) (by kernel_rfl) fun v h=>wm v.2.2 v.2.1 v.1 h.1.1 h.2.1 h.1.2 h.2.2
@[go_sem] theorem P15y_old{g:FuncId}{xs:List A}(h:g≠138):wq.f g xs=Un.f g xs:=aj.ak h
@[go_sem] theorem P15y_s:wq.pl Un:=⟨fun _=>rfl,fun _=>rfl,rfl,fun _=>rfl,rfl,fun _=>rfl,rfl⟩
theorem qd(v:List UInt8×List ax×List Pc)(h:(cC v.2.2/\dp v.2.1)/\v.2.1.length<=100000/\v.1.length<=9223372036854775807):wq.f 138 [.str v.1,.dz [.ad (v.2.1.map ax.enc)],.dz [.ad (v.2.2.map Pc.enc)]]=some (.ad ((br v.2.2 v.2.1 v.1).map ab.enc)):=aj.an (Γ:=Un) (fun i j h=>by simpa[Prod.ext_iff,and_assoc]using h) v h
theorem p_Of1{k:List Pc}{x:List UInt8}(h:cC k)(hx:x.length<=9223372036854775807):wq.f 187 [.str x,.dz [.ad (k.map Pc.enc)]]=some (.ad ((df k x).map ab.enc)):=by
 have h:=CA (x,k) ⟨h,hx⟩
 simp-implicitDefEqProofs (disch:=(first|omega|decide)) only[go_sem,↓reduceIte,seval,h]
theorem M3{k:List Pc}{l:List ax}{x:List UInt8}(h:cC k)(hl:l.length<=100000)(oN:dp l)(hx:x.length<=9223372036854775807):wq.f 138 [.str x,.dz [.ad (l.map ax.enc)],.dz [.ad (k.map Pc.enc)]]=some (.ad ((br k l x).map ab.enc)):=qd (x,l,k) ⟨⟨h,oN⟩,hl,hx⟩
structure Caps(ji:List A):Prop where
 pure:A.pure.aY ji=true
 view: ∀H,gO H ji=some ji
 under: ∀m,A.under.fX m ji=true
 mem: ∀n,A.mem.fI n ji=false
def B15:aj:={wq with c6:=fun n=>if n=12 then [[0,1,2,3,4,5,6,7,8,10,11,12,9,13,14,15,16,17],[0,1,2,3,4,5,6,7,8,10,11,12,13,9,14,15,16,17]]else []}
theorem B15_ok:ag Tryz.prog B15:=⟨zP.f,zP.hp⟩
@[go_sem] theorem B15_f:B15.f=wq.f:=rfl
@[go_sem] theorem B15_eff{g:FuncId}:B15.l_ g=false:=rfl
@[go_sem] theorem B15_effT:B15.SZ=false:=rfl
@[go_sem] theorem B15_fix{n:Nat}:B15.fix n=false:=rfl
@[go_sem] theorem B15_ords12:B15.c6 12=[[0,1,2,3,4,5,6,7,8,10,11,12,9,13,14,15,16,17],[0,1,2,3,4,5,6,7,8,10,11,12,13,9,14,15,16,17]]:=rfl
@[go_sem] theorem B15_ords{n:Nat}(h:n≠12):B15.c6 n=[]:=if_neg h
theorem EP:ai Tryz.prog B15 Tryz.f136.ntmps (Tryz.f136.body.getD .skip)=true:=by kernel_rfl
theorem uE(es:List (List UInt8))(g:FuncId)(ji:List A)(P:List UInt8->List ab)(hc:Caps ji)(hE:Kq P es)(Zz:es.length<=1000000)(yQ: ∀x,aG (P x))
 (hg: ∀x∈es,wq.f g (.str x::ji)=some (.ad ((P x).map ab.enc))):
 az Tryz.prog 136 [.ad (es.map .str),.fn g ji] (· = .ad ((aV P).map Pc.enc)):=by
 refine aa B15_ok mixed Tryz.func136 rfl (Nat.le_of_ble_eq_true rfl) EP ?_;unfold Tryz.f136;have Vs:=hc.pure;have Vt:=hc.view;have Uo:=hc.under;have Km:=hc.mem;simp-implicitDefEqProofs (disch:=(first|omega|decide)) only[go_sem,↓reduceIte,seval,List.length_map]
 refine aU 5 4 rfl ?_;refine ao [0,1,11,12] (ι:={k:Nat//k<=es.length}) (fun p=>[(13,.int .i64 p.1),(5,.row 0 0 4 (kL P es p.1).length false)]) (fun p=>[(0,.row 4 (dg (kL P es p.1)))]) (fun p=>es.length-p.1) ⟨0,by omega⟩ (Nat.zero_le _) ?_ ?_
 · simp-implicitDefEqProofs (disch:=(first|omega|decide)) only[go_sem,↓reduceIte,seval,Uo]
   simp[kL,dg]
 · rintro⟨k,hk⟩
   simp only;have qx:=zH P es k;by_cases aw:k<es.length
   · have ae:(k:Int)<(es.length:Int):=by omega
     have e1:=uD aw;have TO:es[k]! ∈es:=by rw[getElem!_pos es k aw];exact List.getElem_mem _
     have yT:=hg _ TO;have By:=(pP hE k (by omega)).1;have uF:=qc P es k;have P3:=yQ (es[k]!)
     have ER:=hE.right (es[k]!)
     have next: ∀m',kL P es (k+1)=m'-> ∃i:{k:Nat//k<=es.length},(((k:Int)+1=(i.1:Int)/\m'.length=(kL P es i.1).length)/\dg m'=dg (kL P es i.1))/\es.length-i.1<es.length-k:=fun m' h=>⟨⟨k+1,aw⟩,⟨⟨by simp,by rw[h]⟩,by rw[h]⟩,by show es.length-(k+1)<es.length-k;omega⟩
     have bR:kL P es (k+1)=if P (es[k]!)=[]then kL P es k else b9 (kL P es k) ⟨jS es k,P (es[k]!)⟩:=rfl
     generalize kL P es k=m at*;generalize hs:es[k]! =s at*;generalize hS:P s=S at*;by_cases hn:k+1<es.length
     · have jw:(k:Int)+1<(es.length:Int):=by omega
       have e2:=uD hn;have c9:((k:Int)+1).toNat=k+1:=by omega
       have c8:(0:Int)<=(k:Int)+1:=by omega
       have hr:jS es k=⟨s,es[k+1]!,false⟩:=by unfold jS;rw[if_pos hn,hs]
       rw[hr]at bR;cases nV:((S.length:Int)==0)with
       |true=>
        have hS00:(S.length:Int)=0:=by simpa using nV
        have P4:S=[]:=List.length_eq_zero_iff.1 (by omega)
        rw[if_pos P4]at bR;have fin:=next _ bR
        simp-implicitDefEqProofs (disch:=(first|omega|decide)) only[go_sem,↓reduceIte,seval,ae,e1,yT,Vs,Vt,Uo,Km,jw,e2,c9,c8,nV,wrap_i64,List.length_map]
        exact fin
       |false=>
        have P4:S≠ []:=fun e=>by rw[e]at nV;simp at nV
        rw[if_neg P4]at bR;cases m with
        |nil=>
          have fin:=next _ bR
          simp only[b9,aW,jT,List.nil_append,List.length_cons,List.length_nil]at fin;rw[jT]
          simp-implicitDefEqProofs (maxSteps:=600000) (disch:=(first|omega|decide)) only[go_sem,↓reduceIte,seval,ae,e1,yT,Vs,Vt,Uo,Km,jw,e2,c9,c8,nV,wrap_i64,List.length_map,List.length_nil]
          exact fin
        |cons q qs=>
          have Rt:aZ q.s=true:=by have:=By q (by simp);simp only[dW,Bool.and_eq_true]at this;exact this.2
          have Up:aG q.s:=by obtain⟨e,he⟩:=uF q (by simp);rw[he];exact yQ e
          obtain⟨⟨gm,eW,lW⟩,s'⟩:=q;simp only at Rt Up;have dN:=IJ Up P3 (by rw[cy Rt];exact Up) (by rw[cy ER];exact P3)
          rw[cy Rt,cy ER]at dN;have hml':qs.length+1<=k:=qx;have b0:(0:Int)<((qs.length+1:Nat):Int):=by omega
          have b1:(((qs.length+1:Nat):Int)-1).toNat=qs.length:=by omega
          have b2:(0:Int)<=((qs.length+1:Nat):Int)-1:=by omega
          have b3:((qs.length+1:Nat):Int)-1<((qs.length+1:Nat):Int):=by omega
          have g1: ∀x:A,(dg qs++[x])[qs.length]? =some x:=fun x=>by
           have:=Go.bJ.ga (x:=x) (l:=dg qs)
           rwa [dH]at this
          have g2: ∀x v:A,cn (dg qs++[x]) qs.length v=dg qs++[v]:=fun x v=>by
           have:=Go.bJ.gf (x:=x) (v:=v) (l:=dg qs)
           rwa [dH]at this
          have gl: ∀x:A,(dg qs++[x]).length=qs.length+1:=fun x=>by rw[List.length_append,dH];rfl
          have gt: ∀x:A,(dg qs++[x]).take (qs.length+1)=dg qs++[x]:=fun x=>List.take_of_length_le (Nat.le_of_eq (gl x))
          rw[aW]
          cases lW with
          |true=>
           have dX:b9 (⟨⟨gm,eW,true⟩,s'⟩::qs) ⟨⟨s,es[k+1]!,false⟩,S⟩=⟨⟨s,es[k+1]!,false⟩,S⟩::⟨⟨gm,eW,true⟩,s'⟩::qs:=by simp[b9]
           have fin:=next _ bR
           rw[dX,aW,aW]at fin;simp-implicitDefEqProofs (maxSteps:=600000) (disch:=(first|omega|decide)) only[go_sem,↓reduceIte,seval,ae,e1,yT,Vs,Vt,Uo,Km,jw,e2,c9,c8,nV,b0,b1,b2,b3,g1,g2,gl,gt,wrap_i64,List.length_map,List.length_cons,Bool.not_true,Bool.false_and]
           exact⟨⟨Nat.le_refl _,by omega⟩,fin⟩
          |false=>
           cases h1:eW==s with
           |false=>
            have dX:b9 (⟨⟨gm,eW,false⟩,s'⟩::qs) ⟨⟨s,es[k+1]!,false⟩,S⟩=⟨⟨s,es[k+1]!,false⟩,S⟩::⟨⟨gm,eW,false⟩,s'⟩::qs:=by simp only[b9];rw[if_neg (by rw[h1];simp)]
            have fin:=next _ bR
            rw[dX,aW,aW]at fin;simp-implicitDefEqProofs (maxSteps:=600000) (disch:=(first|omega|decide)) only[go_sem,↓reduceIte,seval,ae,e1,yT,Vs,Vt,Uo,Km,jw,e2,c9,c8,nV,b0,b1,b2,b3,g1,g2,gl,gt,h1,wrap_i64,List.length_map,List.length_cons,Bool.not_false,Bool.true_and]
            exact⟨⟨Nat.le_refl _,by omega⟩,fin⟩
           |true=>
            cases h2:bQ s' S with
            |false=>
             have mB:s'≠S:=by simpa[bQ]using h2
             rw[h2]at dN;have dX:b9 (⟨⟨gm,eW,false⟩,s'⟩::qs) ⟨⟨s,es[k+1]!,false⟩,S⟩=⟨⟨s,es[k+1]!,false⟩,S⟩::⟨⟨gm,eW,false⟩,s'⟩::qs:=by simp only[b9];rw[if_neg (by simp[mB])]
             have fin:=next _ bR
             rw[dX,aW,aW]at fin;simp-implicitDefEqProofs (maxSteps:=600000) (disch:=(first|omega|decide)) only[go_sem,↓reduceIte,seval,ae,e1,yT,Vs,Vt,Uo,Km,jw,e2,c9,c8,nV,b0,b1,b2,b3,g1,g2,gl,gt,h1,dN,wrap_i64,List.length_map,List.length_cons,Bool.not_false,Bool.true_and]
             exact⟨⟨Nat.le_refl _,by omega⟩,fin⟩
            |true=>
             have mB:s'=S:=by simpa[bQ]using h2
             rw[h2]at dN;have dX:b9 (⟨⟨gm,eW,false⟩,s'⟩::qs) ⟨⟨s,es[k+1]!,false⟩,S⟩=⟨⟨gm,es[k+1]!,false⟩,s'⟩::qs:=by simp only[b9];rw[if_pos (by simp[h1,mB])]
             have fin:=next _ bR
             rw[dX,aW]at fin;simp-implicitDefEqProofs (maxSteps:=600000) (disch:=(first|omega|decide)) only[go_sem,↓reduceIte,seval,ae,e1,yT,Vs,Vt,Uo,Km,jw,e2,c9,c8,nV,b0,b1,b2,b3,g1,g2,gl,gt,h1,dN,wrap_i64,List.length_map,List.length_cons,Bool.not_false,Bool.true_and]
             exact fin
     · have jw: ¬(k:Int)+1<(es.length:Int):=by omega
       have hr:jS es k=⟨s,[],true⟩:=by unfold jS;rw[if_neg hn,hs]
       rw[hr]at bR;cases nV:((S.length:Int)==0)with
       |true=>
        have hS00:(S.length:Int)=0:=by simpa using nV
        have P4:S=[]:=List.length_eq_zero_iff.1 (by omega)
        rw[if_pos P4]at bR;have fin:=next _ bR
        simp-implicitDefEqProofs (disch:=(first|omega|decide)) only[go_sem,↓reduceIte,seval,ae,e1,yT,Vs,Vt,Uo,Km,jw,nV,wrap_i64,List.length_map]
        exact fin
       |false=>
        have P4:S≠ []:=fun e=>by rw[e]at nV;simp at nV
        rw[if_neg P4]at bR;cases m with
        |nil=>
          have fin:=next _ bR
          simp only[b9,aW,jT,List.nil_append,List.length_cons,List.length_nil]at fin;rw[jT]
          simp-implicitDefEqProofs (maxSteps:=600000) (disch:=(first|omega|decide)) only[go_sem,↓reduceIte,seval,ae,e1,yT,Vs,Vt,Uo,Km,jw,nV,wrap_i64,List.length_map,List.length_nil]
          exact fin
        |cons q qs=>
          have Rt:aZ q.s=true:=by have:=By q (by simp);simp only[dW,Bool.and_eq_true]at this;exact this.2
          have Up:aG q.s:=by obtain⟨e,he⟩:=uF q (by simp);rw[he];exact yQ e
          obtain⟨⟨gm,eW,lW⟩,s'⟩:=q;simp only at Rt Up;have dN:=IJ Up P3 (by rw[cy Rt];exact Up) (by rw[cy ER];exact P3)
          rw[cy Rt,cy ER]at dN;have hml':qs.length+1<=k:=qx;have b0:(0:Int)<((qs.length+1:Nat):Int):=by omega
          have b1:(((qs.length+1:Nat):Int)-1).toNat=qs.length:=by omega
          have b2:(0:Int)<=((qs.length+1:Nat):Int)-1:=by omega
          have b3:((qs.length+1:Nat):Int)-1<((qs.length+1:Nat):Int):=by omega
          have g1: ∀x:A,(dg qs++[x])[qs.length]? =some x:=fun x=>by
           have:=Go.bJ.ga (x:=x) (l:=dg qs)
           rwa [dH]at this
          have g2: ∀x v:A,cn (dg qs++[x]) qs.length v=dg qs++[v]:=fun x v=>by
           have:=Go.bJ.gf (x:=x) (v:=v) (l:=dg qs)
           rwa [dH]at this
          have gl: ∀x:A,(dg qs++[x]).length=qs.length+1:=fun x=>by rw[List.length_append,dH];rfl
          have gt: ∀x:A,(dg qs++[x]).take (qs.length+1)=dg qs++[x]:=fun x=>List.take_of_length_le (Nat.le_of_eq (gl x))
          rw[aW]
          cases lW with
          |true=>
           have dX:b9 (⟨⟨gm,eW,true⟩,s'⟩::qs) ⟨⟨s,[],true⟩,S⟩=⟨⟨s,[],true⟩,S⟩::⟨⟨gm,eW,true⟩,s'⟩::qs:=by simp[b9]
           have fin:=next _ bR
           rw[dX,aW,aW]at fin;simp-implicitDefEqProofs (maxSteps:=600000) (disch:=(first|omega|decide)) only[go_sem,↓reduceIte,seval,ae,e1,yT,Vs,Vt,Uo,Km,jw,nV,b0,b1,b2,b3,g1,g2,gl,gt,wrap_i64,List.length_map,List.length_cons,Bool.not_true,Bool.false_and]
           exact⟨⟨Nat.le_refl _,by omega⟩,fin⟩
          |false=>
           cases h1:eW==s with
           |false=>
            have dX:b9 (⟨⟨gm,eW,false⟩,s'⟩::qs) ⟨⟨s,[],true⟩,S⟩=⟨⟨s,[],true⟩,S⟩::⟨⟨gm,eW,false⟩,s'⟩::qs:=by simp only[b9];rw[if_neg (by rw[h1];simp)]
            have fin:=next _ bR
            rw[dX,aW,aW]at fin;simp-implicitDefEqProofs (maxSteps:=600000) (disch:=(first|omega|decide)) only[go_sem,↓reduceIte,seval,ae,e1,yT,Vs,Vt,Uo,Km,jw,nV,b0,b1,b2,b3,g1,g2,gl,gt,h1,wrap_i64,List.length_map,List.length_cons,Bool.not_false,Bool.true_and]
            exact⟨⟨Nat.le_refl _,by omega⟩,fin⟩
           |true=>
            cases h2:bQ s' S with
            |false=>
             have mB:s'≠S:=by simpa[bQ]using h2
             rw[h2]at dN;have dX:b9 (⟨⟨gm,eW,false⟩,s'⟩::qs) ⟨⟨s,[],true⟩,S⟩=⟨⟨s,[],true⟩,S⟩::⟨⟨gm,eW,false⟩,s'⟩::qs:=by simp only[b9];rw[if_neg (by simp[mB])]
             have fin:=next _ bR
             rw[dX,aW,aW]at fin;simp-implicitDefEqProofs (maxSteps:=600000) (disch:=(first|omega|decide)) only[go_sem,↓reduceIte,seval,ae,e1,yT,Vs,Vt,Uo,Km,jw,nV,b0,b1,b2,b3,g1,g2,gl,gt,h1,dN,wrap_i64,List.length_map,List.length_cons,Bool.not_false,Bool.true_and]
             exact⟨⟨Nat.le_refl _,by omega⟩,fin⟩
            |true=>
             have mB:s'=S:=by simpa[bQ]using h2
             rw[h2]at dN;have dX:b9 (⟨⟨gm,eW,false⟩,s'⟩::qs) ⟨⟨s,[],true⟩,S⟩=⟨⟨gm,[],true⟩,s'⟩::qs:=by simp only[b9];rw[if_pos (by simp[h1,mB])]
             have fin:=next _ bR
             rw[dX,aW]at fin;simp-implicitDefEqProofs (maxSteps:=600000) (disch:=(first|omega|decide)) only[go_sem,↓reduceIte,seval,ae,e1,yT,Vs,Vt,Uo,Km,jw,nV,b0,b1,b2,b3,g1,g2,gl,gt,h1,dN,wrap_i64,List.length_map,List.length_cons,Bool.not_false,Bool.true_and]
             exact fin
   · have ae: ¬(k:Int)<(es.length:Int):=by omega
     obtain rfl:k=es.length:=by omega
     have gZ:=(nN hE).1;have dQ:dg (kL P es es.length)=(aV P).map Pc.enc:=by unfold dg;rw[gZ]
     have tk:List.take (kL P es es.length).length (dg (kL P es es.length))=dg (kL P es es.length):=List.take_of_length_le (by rw[dH];exact Nat.le_refl _)
     have LX:=dH (kL P es es.length)
     simp-implicitDefEqProofs (disch:=(first|omega|decide)) only[go_sem,↓reduceIte,seval,ae,tk,LX,wrap_i64,List.length_map]
     rw[<-dQ]
     exact⟨Nat.le_refl _,rfl⟩
end Go.Proofs.YtihgnfmoafjakaaGreat
