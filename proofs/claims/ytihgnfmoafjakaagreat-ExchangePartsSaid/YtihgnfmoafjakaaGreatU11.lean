/- What the laws of this claim rest on: the abstract executor, its soundness, and what the functions compute on pure data. No condition. -/
import Derived.Test.YtihgnfmoafjakaaGreatU10
noncomputable section
set_option linter.unusedVariables false
set_option linter.unusedSimpArgs false
namespace Go.Proofs.YtihgnfmoafjakaaGreat
open Go.bo Go.yv
set_option linter.unusedSimpArgs false
set_option linter.unusedVariables false
set_option maxRecDepth 20000
set_option maxHeartbeats 8000000
def Mi:an:=TKb.add 32 (entry (fun(v:aI×List It×List Pc)=>[v.1.enc,.ab (v.2.1.map It.enc),.ab (v.2.2.map Pc.enc)]) (fun v=>S5 v.1 v.2.1 v.2.2) (fun v=>iV v.1 v.2.1 v.2.2))
theorem X25a_ok:ag Tryz.prog Mi:=S8.bN Tryz.func32 (by kernel_rfl) (by kernel_rfl) fun v h=>Mg v.1 v.2.1 v.2.2 h
@[go_sem] theorem X25a_old{g:FuncId}{xs:List A}(h:g≠32):Mi.f g xs=TKb.f g xs:=an.ak h
theorem Be(v:aI×List It×List Pc)(h:S5 v.1 v.2.1 v.2.2):Mi.f 32 [v.1.enc,.ab (v.2.1.map It.enc),.ab (v.2.2.map Pc.enc)]=some (iV v.1 v.2.1 v.2.2):=an.ao (Γ:=TKb) (fun i j h=>by simpa[Prod.ext_iff,and_assoc]using h) v h
def HT:an:=Mi.add 50 (entry (fun(v:aI×List It×List Pc)=>[v.1.enc,.ab (v.2.1.map It.enc),.ab (v.2.2.map Pc.enc)]) (fun v=>S5 v.1 v.2.1 v.2.2) (fun v=>iV v.1 v.2.1 v.2.2))
theorem Vb:ag Tryz.prog HT:=X25a_ok.bN Tryz.func50 (by kernel_rfl) (by kernel_rfl) fun v h=>Mh v.1 v.2.1 v.2.2 h
@[go_sem] theorem X25b_old{g:FuncId}{xs:List A}(h:g≠50):HT.f g xs=Mi.f g xs:=an.ak h
@[go_sem] theorem X25b_s:HT.pl Mi:=⟨fun _=>rfl,fun _=>rfl,rfl,fun _=>rfl,rfl,fun _=>rfl,rfl⟩
theorem Bf(v:aI×List It×List Pc)(h:S5 v.1 v.2.1 v.2.2):HT.f 50 [v.1.enc,.ab (v.2.1.map It.enc),.ab (v.2.2.map Pc.enc)]=some (iV v.1 v.2.1 v.2.2):=an.ao (Γ:=Mi) (fun i j h=>by simpa[Prod.ext_iff,and_assoc]using h) v h
theorem e_Take{s:aI}{l:List It}{k:List Pc}(h:S5 s l k):Mi.f 32 [.agg [.int .i64 s.id,.ab (s.fl.map ax.enc),.ab (s.az.map It.enc),.ab (s.kn.map Pc.enc),.int .i64 s.ct],.ab (l.map It.enc),.ab (k.map Pc.enc)]=some (iV s l k):=Be (s,l,k) h
theorem Vc{s:aI}{l:List It}{k:List Pc}(h:S5 s l k):HT.f 50 [.agg [.int .i64 s.id,.ab (s.fl.map ax.enc),.ab (s.az.map It.enc),.ab (s.kn.map Pc.enc),.int .i64 s.ct],.ab (l.map It.enc),.ab (k.map Pc.enc)]=some (iV s l k):=Bf (s,l,k) h
theorem yM:ah Tryz.prog HT Tryz.f67.ntmps (Tryz.f67.body.getD .skip)=true:=by kernel_rfl
theorem Bg(s t:aI)(hs:il s)(ht:il t):ay Tryz.prog 67 [s.enc,t.enc] (· = .bool (aU s&&aU t)):=by
 refine aa Vb mixed Tryz.func67 rfl (Nat.le_of_ble_eq_true rfl) yM ?_;unfold Tryz.f67;have g1:=fz s hs;have g2:=fz t ht;simp only[aI.enc,aI.cells]at*;cases h:aU s with
 |false=>
  rw[h]at g1;simp-implicitDefEqProofs (disch:=(first|omega|decide)) only[go_sem,↓reduceIte,seval,g1,Bool.false_and]
 |true=>
  rw[h]at g1;simp-implicitDefEqProofs (disch:=(first|omega|decide)) only[go_sem,↓reduceIte,seval,g1,g2,Bool.true_and]
def Bh:an:=HT.add 67 (entry (fun(v:aI×aI)=>[v.1.enc,v.2.enc]) (fun v=>il v.1/\il v.2) (fun v=> .bool (aU v.1&&aU v.2)))
theorem wD:ag Tryz.prog Bh:=Vb.bN Tryz.func67 (by kernel_rfl) (by kernel_rfl) fun v h=>Bg v.1 v.2 h.1 h.2
@[go_sem] theorem X25c_old{g:FuncId}{xs:List A}(h:g≠67):Bh.f g xs=HT.f g xs:=an.ak h
@[go_sem] theorem X25c_s:Bh.pl HT:=⟨fun _=>rfl,fun _=>rfl,rfl,fun _=>rfl,rfl,fun _=>rfl,rfl⟩
theorem uJ(v:aI×aI)(h:il v.1/\il v.2):Bh.f 67 [v.1.enc,v.2.enc]=some (.bool (aU v.1&&aU v.2)):=an.ao (Γ:=HT) (fun i j h=>by simpa[Prod.ext_iff,and_assoc]using h) v h
theorem Ta{s t:aI}(h:il s/\il t):Bh.f 67 [.agg [.int .i64 s.id,.ab (s.fl.map ax.enc),.ab (s.az.map It.enc),.ab (s.kn.map Pc.enc),.int .i64 s.ct],.agg [.int .i64 t.id,.ab (t.fl.map ax.enc),.ab (t.az.map It.enc),.ab (t.kn.map Pc.enc),.int .i64 t.ct]]=some (.bool (aU s&&aU t)):=uJ (s,t) h
theorem unk_in(s t:aI):(iJ t.fl s.az).filter (fun x=> !bG t.kn x.key x.rep x.bu)=br s t:=by
 unfold iJ br;rw[List.filter_filter]
 congr 1
 funext x
 exact Bool.and_comm _ _
def HU(s t:aI):List It:=if(aU s&&aU t)=true then br s t else []
def uK(s t:aI):List Pc:=if(aU s&&aU t)=true then bm s t else []
theorem sY:ah Tryz.prog Bh Tryz.f22.ntmps (Tryz.f22.body.getD .skip)=true:=by kernel_rfl
theorem uL(s t:aI)(hs:il s)(ht:il t):ay Tryz.prog 22 [s.enc,t.enc] (· = .ab ((HU s t).map It.enc)):=by
 refine aa wD mixed Tryz.func22 rfl (Nat.le_of_ble_eq_true rfl) sY ?_;unfold Tryz.f22;have g0:=Ta ⟨hs,ht⟩
 have g1:=y_In (l:=s.az) (F:=t.fl) ⟨hs.az,by have:=ht.fl.1;omega,ht.fl.2⟩
 have gH: ∀(x:List UInt8) (n c:Int),x.length<=9223372036854775807->AS.f 71 [.ab (t.kn.map Pc.enc),.str x,.agg [.int .i64 n,.int .i64 c]]=some (.bool (bG t.kn x n c)):=fun x n c hx=>Pn ht.kn.1.1 hx;have tk: ∀m:List It,(m.map It.enc).take m.length=m.map It.enc:=fun m=>List.take_of_length_le (by simp)
 simp only[aI.enc,aI.cells]
 unfold HU;cases hb:aU s&&aU t with
 |false=>
  rw[hb]at g0;rw[if_neg (by simp)]
  simp-implicitDefEqProofs (disch:=(first|omega|decide)) only[go_sem,↓reduceIte,seval,g0]
  first|done|rfl
 |true=>
  rw[hb]at g0;rw[if_pos rfl,<-unk_in]
  have u6:mM (iJ t.fl s.az):=fun x hx=>hs.az.2 x (List.mem_filter.1 hx).1;have hln:(iJ t.fl s.az).length<=1000000:=Nat.le_trans (sC _ _) hs.az.1;generalize iJ t.fl s.az=l at*;generalize hQ:(fun x:It=> !bG t.kn x.key x.rep x.bu)=q at*;have hq: ∀x:It,q x= !bG t.kn x.key x.rep x.bu:=fun x=>by rw[<-hQ]
  simp-implicitDefEqProofs (disch:=(first|omega|decide)) only[go_sem,↓reduceIte,seval,g0,g1,List.length_map]
  refine aW 5 7 rfl ?_;refine ar [2,3,16,17] (ι:={j:Nat//j<=l.length}) (fun j=>[(18,.int .i64 j.1),(5,.row 2 0 7 ((l.take j.1).filter q).length false)]) (fun j=>[(2,.row 7 (((l.take j.1).filter q).map It.enc))]) (fun j=>l.length-j.1) ⟨0,by omega⟩ (Nat.zero_le _) ?_ ?_
  · simp-implicitDefEqProofs (disch:=(first|omega|decide)) only[go_sem,↓reduceIte,seval]
    first|done|(simp;done)|exact⟨⟨rfl,rfl⟩,rfl⟩
  · rintro⟨j,hj⟩
    simp only;by_cases pK:j<l.length
    · have k_:(j:Int)<(l.length:Int):=by omega
      have ej:=cN pK;have gr:=gH l[j].key l[j].rep l[j].bu (u6 _ (List.getElem_mem pK)).1;have eZ:(l.take (j+1)).filter q=(l.take j).filter q++(if q l[j]then [l[j]]else []):=jv (f:=q) pK
      have hgl:((l.take j).filter q).length<=1000000:=by
       have:=List.length_filter_le q (l.take j)
       rw[List.length_take]at this;omega
      rw[hq l[j]]at eZ;generalize l[j]=x at*;obtain⟨G,hG⟩: ∃G,(l.take j).filter q=G:=⟨_,rfl⟩
      have tkG:=tk G;rw[hG]at eZ hgl⊢;cases hr:bG t.kn x.key x.rep x.bu with
      |false=>
       rw[hr,Bool.not_false,if_pos rfl]at eZ;rw[hr]at gr;simp-implicitDefEqProofs (disch:=(first|omega|decide)) only[go_sem,↓reduceIte,seval,k_,ej,gr,tkG,wrap_i64,List.length_map]
       refine⟨⟨Nat.le_refl _,by omega⟩,⟨j+1,pK⟩,⟨⟨by simp,by rw[eZ];simp⟩,by rw[eZ,<-iT]⟩,by show l.length-(j+1)<l.length-j;omega⟩
      |true=>
       rw[hr]at eZ gr;simp only[Bool.not_true,Bool.false_eq_true,if_false,List.append_nil]at eZ;simp-implicitDefEqProofs (disch:=(first|omega|decide)) only[go_sem,↓reduceIte,seval,k_,ej,gr,wrap_i64,List.length_map]
       exact⟨⟨j+1,pK⟩,⟨⟨by simp,by rw[eZ]⟩,by rw[eZ]⟩,by show l.length-(j+1)<l.length-j;omega⟩
    · have k_: ¬(j:Int)<(l.length:Int):=by omega
      rw[List.take_of_length_le (by omega)]
      have Ja:=tk (l.filter q)
      simp-implicitDefEqProofs (disch:=(first|omega|decide)) only[go_sem,↓reduceIte,seval,k_,Ja,wrap_i64,List.length_map,Nat.le_refl]
theorem yN:ah Tryz.prog Bh Tryz.f25.ntmps (Tryz.f25.body.getD .skip)=true:=by kernel_rfl
theorem Bi(s t:aI)(hs:il s)(ht:il t):ay Tryz.prog 25 [s.enc,t.enc] (· = .ab ((br s t).map It.enc)):=by
 refine aa wD mixed Tryz.func25 rfl (Nat.le_of_ble_eq_true rfl) yN ?_;unfold Tryz.f25;have gF: ∀x:List UInt8,x.length<=9223372036854775807->Ej.f 36 [.ab (t.fl.map ax.enc),.str x]=some (.bool (aj t.fl x)):=fun x hx=>fE (by have:=ht.fl.1;omega) ht.fl.2 hx;have gH: ∀(x:List UInt8) (n c:Int),x.length<=9223372036854775807->AT.f 74 [.ab (t.kn.map Pc.enc),.str x,.agg [.int .i64 n,.int .i64 c]]=some (.bool (bG t.kn x n c)):=fun x n c hx=>EC ht.kn.1.1 hx;have tk: ∀m:List It,(m.map It.enc).take m.length=m.map It.enc:=fun m=>List.take_of_length_le (by simp)
 have u6:=hs.az.2;have hln:=hs.az.1;simp only[aI.enc,aI.cells]
 unfold br;generalize hQ:(fun x:It=>aj t.fl x.key&& !bG t.kn x.key x.rep x.bu)=q at*;have hq: ∀x:It,q x=(aj t.fl x.key&& !bG t.kn x.key x.rep x.bu):=fun x=>by rw[<-hQ]
 generalize s.az=l at*;simp-implicitDefEqProofs (disch:=(first|omega|decide)) only[go_sem,↓reduceIte,seval]
 refine aW 5 7 rfl ?_;refine ar [2,3] (ι:={j:Nat//j<=l.length}) (fun j=>[(6,.int .i64 j.1),(5,.row 2 0 7 ((l.take j.1).filter q).length false)]) (fun j=>[(2,.row 7 (((l.take j.1).filter q).map It.enc))]) (fun j=>l.length-j.1) ⟨0,by omega⟩ (Nat.zero_le _) ?_ ?_
 · simp-implicitDefEqProofs (disch:=(first|omega|decide)) only[go_sem,↓reduceIte,seval]
   first|done|(simp;done)|exact⟨⟨rfl,rfl⟩,rfl⟩
 · rintro⟨j,hj⟩
   simp only;by_cases pK:j<l.length
   · have k_:(j:Int)<(l.length:Int):=by omega
     have ej:=cN pK;have sS:=u6 _ (List.getElem_mem pK)
     have gf:=gF l[j].key sS.1;have gr:=gH l[j].key l[j].rep l[j].bu sS.1;have eZ:(l.take (j+1)).filter q=(l.take j).filter q++(if q l[j]then [l[j]]else []):=jv (f:=q) pK
     have hgl:((l.take j).filter q).length<=1000000:=by
      have:=List.length_filter_le q (l.take j)
      rw[List.length_take]at this;omega
     rw[hq l[j]]at eZ;generalize l[j]=x at*;obtain⟨G,hG⟩: ∃G,(l.take j).filter q=G:=⟨_,rfl⟩
     have tkG:=tk G;rw[hG]at eZ hgl⊢;cases hf:aj t.fl x.key with
     |false=>
      rw[hf]at eZ gf;simp only[Bool.false_and,Bool.false_eq_true,if_false,List.append_nil]at eZ;simp-implicitDefEqProofs (disch:=(first|omega|decide)) only[go_sem,↓reduceIte,seval,k_,ej,gf,wrap_i64,List.length_map]
      exact⟨⟨j+1,pK⟩,⟨⟨by simp,by rw[eZ]⟩,by rw[eZ]⟩,by show l.length-(j+1)<l.length-j;omega⟩
     |true=>
      rw[hf]at eZ gf;cases hr:bG t.kn x.key x.rep x.bu with
      |false=>
       rw[hr]at eZ gr;simp only[Bool.true_and,Bool.not_false,if_true]at eZ;simp-implicitDefEqProofs (disch:=(first|omega|decide)) only[go_sem,↓reduceIte,seval,k_,ej,gf,gr,tkG,wrap_i64,List.length_map]
       refine⟨⟨Nat.le_refl _,by omega⟩,⟨j+1,pK⟩,⟨⟨by simp,by rw[eZ];simp⟩,by rw[eZ,<-iT]⟩,by show l.length-(j+1)<l.length-j;omega⟩
      |true=>
       rw[hr]at eZ gr;simp only[Bool.true_and,Bool.not_true,Bool.false_eq_true,if_false,List.append_nil]at eZ;simp-implicitDefEqProofs (disch:=(first|omega|decide)) only[go_sem,↓reduceIte,seval,k_,ej,gf,gr,wrap_i64,List.length_map]
       exact⟨⟨j+1,pK⟩,⟨⟨by simp,by rw[eZ]⟩,by rw[eZ]⟩,by show l.length-(j+1)<l.length-j;omega⟩
   · have k_: ¬(j:Int)<(l.length:Int):=by omega
     rw[List.take_of_length_le (by omega)]
     have Ja:=tk (l.filter q)
     simp-implicitDefEqProofs (disch:=(first|omega|decide)) only[go_sem,↓reduceIte,seval,k_,Ja,wrap_i64,List.length_map,Nat.le_refl]
theorem sZ:ah Tryz.prog Bh Tryz.f23.ntmps (Tryz.f23.body.getD .skip)=true:=by kernel_rfl
theorem uM(s t:aI)(hs:il s)(ht:il t):ay Tryz.prog 23 [s.enc,t.enc] (· = .ab ((uK s t).map Pc.enc)):=by
 refine aa wD mixed Tryz.func23 rfl (Nat.le_of_ble_eq_true rfl) sZ ?_;unfold Tryz.f23;have g0:=Ta ⟨hs,ht⟩
 have g1:=ux (k:=s.kn) (l:=t.fl) hs.kn.1.1 (by have:=ht.fl.1;omega) ht.fl.2;rw[EE]at g1;simp only[aI.enc,aI.cells]
 unfold uK bm;cases hb:aU s&&aU t with
 |false=>
  rw[hb]at g0;rw[if_neg (by simp)]
  simp-implicitDefEqProofs (disch:=(first|omega|decide)) only[go_sem,↓reduceIte,seval,g0]
  first|done|rfl
 |true=>
  rw[hb]at g0;rw[if_pos rfl]
  simp-implicitDefEqProofs (disch:=(first|omega|decide)) only[go_sem,↓reduceIte,seval,g0,g1]
theorem yO:ah Tryz.prog Bh Tryz.f27.ntmps (Tryz.f27.body.getD .skip)=true:=by kernel_rfl
theorem Bj(s t:aI)(hs:il s)(ht:il t):ay Tryz.prog 27 [s.enc,t.enc] (· = .ab ((bm s t).map Pc.enc)):=by
 refine aa wD mixed Tryz.func27 rfl (Nat.le_of_ble_eq_true rfl) yO ?_;unfold Tryz.f27;have g1:=uz (a:=s.kn) (l:=t.fl) hs.kn.1 ht.fl.2 ⟨hs.kn.2,ht.fl.1⟩
 simp only[aI.enc,aI.cells]
 unfold bm;simp-implicitDefEqProofs (disch:=(first|omega|decide)) only[go_sem,↓reduceIte,seval,g1]
def P3:an:=Bh.add 22 (entry (fun(v:aI×aI)=>[v.1.enc,v.2.enc]) (fun v=>il v.1/\il v.2) (fun v=> .ab ((HU v.1 v.2).map It.enc)))
theorem X25d_ok:ag Tryz.prog P3:=wD.bN Tryz.func22 (by kernel_rfl) (by kernel_rfl) fun v h=>uL v.1 v.2 h.1 h.2
@[go_sem] theorem X25d_old{g:FuncId}{xs:List A}(h:g≠22):P3.f g xs=Bh.f g xs:=an.ak h
theorem pQ(v:aI×aI)(h:il v.1/\il v.2):P3.f 22 [v.1.enc,v.2.enc]=some (.ab ((HU v.1 v.2).map It.enc)):=an.ao (Γ:=Bh) (fun i j h=>by simpa[Prod.ext_iff,and_assoc]using h) v h
def Tb:an:=P3.add 25 (entry (fun(v:aI×aI)=>[v.1.enc,v.2.enc]) (fun v=>il v.1/\il v.2) (fun v=> .ab ((br v.1 v.2).map It.enc)))
theorem X25e_ok:ag Tryz.prog Tb:=X25d_ok.bN Tryz.func25 (by kernel_rfl) (by kernel_rfl) fun v h=>Bi v.1 v.2 h.1 h.2
@[go_sem] theorem X25e_old{g:FuncId}{xs:List A}(h:g≠25):Tb.f g xs=P3.f g xs:=an.ak h
theorem uN(v:aI×aI)(h:il v.1/\il v.2):Tb.f 25 [v.1.enc,v.2.enc]=some (.ab ((br v.1 v.2).map It.enc)):=an.ao (Γ:=P3) (fun i j h=>by simpa[Prod.ext_iff,and_assoc]using h) v h
def P4:an:=Tb.add 23 (entry (fun(v:aI×aI)=>[v.1.enc,v.2.enc]) (fun v=>il v.1/\il v.2) (fun v=> .ab ((uK v.1 v.2).map Pc.enc)))
theorem X25f_ok:ag Tryz.prog P4:=X25e_ok.bN Tryz.func23 (by kernel_rfl) (by kernel_rfl) fun v h=>uM v.1 v.2 h.1 h.2
@[go_sem] theorem X25f_old{g:FuncId}{xs:List A}(h:g≠23):P4.f g xs=Tb.f g xs:=an.ak h
theorem pR(v:aI×aI)(h:il v.1/\il v.2):P4.f 23 [v.1.enc,v.2.enc]=some (.ab ((uK v.1 v.2).map Pc.enc)):=an.ao (Γ:=Tb) (fun i j h=>by simpa[Prod.ext_iff,and_assoc]using h) v h
def Bk:an:=P4.add 27 (entry (fun(v:aI×aI)=>[v.1.enc,v.2.enc]) (fun v=>il v.1/\il v.2) (fun v=> .ab ((bm v.1 v.2).map Pc.enc)))
theorem wE:ag Tryz.prog Bk:=X25f_ok.bN Tryz.func27 (by kernel_rfl) (by kernel_rfl) fun v h=>Bj v.1 v.2 h.1 h.2
@[go_sem] theorem X25g_old{g:FuncId}{xs:List A}(h:g≠27):Bk.f g xs=P4.f g xs:=an.ak h
@[go_sem] theorem X25g_s:Bk.pl P4:=⟨fun _=>rfl,fun _=>rfl,rfl,fun _=>rfl,rfl,fun _=>rfl,rfl⟩
theorem uO(v:aI×aI)(h:il v.1/\il v.2):Bk.f 27 [v.1.enc,v.2.enc]=some (.ab ((bm v.1 v.2).map Pc.enc)):=an.ao (Γ:=P4) (fun i j h=>by simpa[Prod.ext_iff,and_assoc]using h) v h
theorem l4{s t:aI}(h:il s/\il t):P3.f 22 [.agg [.int .i64 s.id,.ab (s.fl.map ax.enc),.ab (s.az.map It.enc),.ab (s.kn.map Pc.enc),.int .i64 s.ct],.agg [.int .i64 t.id,.ab (t.fl.map ax.enc),.ab (t.az.map It.enc),.ab (t.kn.map Pc.enc),.int .i64 t.ct]]=some (.ab ((HU s t).map It.enc)):=pQ (s,t) h
theorem uP{s t:aI}(h:il s/\il t):Tb.f 25 [.agg [.int .i64 s.id,.ab (s.fl.map ax.enc),.ab (s.az.map It.enc),.ab (s.kn.map Pc.enc),.int .i64 s.ct],.agg [.int .i64 t.id,.ab (t.fl.map ax.enc),.ab (t.az.map It.enc),.ab (t.kn.map Pc.enc),.int .i64 t.ct]]=some (.ab ((br s t).map It.enc)):=uN (s,t) h
theorem Jg{s t:aI}(h:il s/\il t):P4.f 23 [.agg [.int .i64 s.id,.ab (s.fl.map ax.enc),.ab (s.az.map It.enc),.ab (s.kn.map Pc.enc),.int .i64 s.ct],.agg [.int .i64 t.id,.ab (t.fl.map ax.enc),.ab (t.az.map It.enc),.ab (t.kn.map Pc.enc),.int .i64 t.ct]]=some (.ab ((uK s t).map Pc.enc)):=pR (s,t) h
theorem FC{s t:aI}(h:il s/\il t):Bk.f 27 [.agg [.int .i64 s.id,.ab (s.fl.map ax.enc),.ab (s.az.map It.enc),.ab (s.kn.map Pc.enc),.int .i64 s.ct],.agg [.int .i64 t.id,.ab (t.fl.map ax.enc),.ab (t.az.map It.enc),.ab (t.kn.map Pc.enc),.int .i64 t.ct]]=some (.ab ((bm s t).map Pc.enc)):=uO (s,t) h
def ng(s t:aI):A:=if(aU s&&aU t)=true then iV t (br s t) (bm s t)else .cD [cm.enc,.int .i64 41]
structure Mj(s t:aI):Prop where
 hs:il s
 ht:il t
 hx:S5 t (br s t) (bm s t)
theorem yP:ah Tryz.prog Bk Tryz.f16.ntmps (Tryz.f16.body.getD .skip)=true:=by kernel_rfl
theorem Bl(s t:aI)(h:Mj s t):ay Tryz.prog 16 [s.enc,t.enc] (· =ng s t):=by
 refine aa wE mixed Tryz.func16 rfl (Nat.le_of_ble_eq_true rfl) yP ?_;unfold Tryz.f16;obtain⟨hs,ht,hx⟩:=h;have g0:=Ta ⟨hs,ht⟩
 have g1:=l4 ⟨hs,ht⟩
 have g2:=Jg ⟨hs,ht⟩
 have g3:=e_Take hx;unfold HU at g1;unfold uK at g2;unfold ng;cases hb:aU s&&aU t with
 |false=>
  rw[hb]at g0;rw[if_neg (by simp)]
  simp only[aI.enc,aI.cells,cm]
  simp-implicitDefEqProofs (disch:=(first|omega|decide)) only[go_sem,↓reduceIte,seval,g0]
  try rfl
 |true=>
  rw[hb]at g0 g1 g2;rw[if_pos rfl]at g1 g2⊢;obtain⟨u,c,hu⟩: ∃(u:aI) (c:Int),iV t (br s t) (bm s t)= .cD [u.enc,.int .i64 c]:=⟨_,_,rfl⟩
  rw[hu]at g3⊢;simp only[aI.enc,aI.cells]at*;simp-implicitDefEqProofs (disch:=(first|omega|decide)) only[go_sem,↓reduceIte,seval,g0,g1,g2,g3]
theorem HV:ah Tryz.prog Bk Tryz.f17.ntmps (Tryz.f17.body.getD .skip)=true:=by kernel_rfl
theorem Mk(s t:aI)(h:Mj s t):ay Tryz.prog 17 [s.enc,t.enc] (· =ng s t):=by
 refine aa wE mixed Tryz.func17 rfl (Nat.le_of_ble_eq_true rfl) HV ?_;unfold Tryz.f17;obtain⟨hs,ht,hx⟩:=h;have g0:=bx s hs;have g0':=bx t ht;have g1:=uP ⟨hs,ht⟩
 have g2:=FC ⟨hs,ht⟩
 have g3:=Vc hx;unfold ng;obtain⟨u,c,hu⟩: ∃(u:aI) (c:Int),iV t (br s t) (bm s t)= .cD [u.enc,.int .i64 c]:=⟨_,_,rfl⟩
 rw[hu]at g3⊢;cases h1:aU s with
 |false=>
  rw[h1]at g0;rw[Bool.false_and,if_neg (by simp)]
  simp only[aI.enc,aI.cells,cm]at*;simp-implicitDefEqProofs (disch:=(first|omega|decide)) only[go_sem,↓reduceIte,seval,g0]
  try rfl
 |true=>
  rw[h1]at g0;cases h2:aU t with
  |false=>
   rw[h2]at g0';rw[Bool.and_false,if_neg (by simp)]
   simp only[aI.enc,aI.cells,cm]at*;simp-implicitDefEqProofs (disch:=(first|omega|decide)) only[go_sem,↓reduceIte,seval,g0,g0']
   try rfl
  |true=>
   rw[h2]at g0';rw[Bool.and_true,if_pos rfl]
   simp only[aI.enc,aI.cells]at*;simp-implicitDefEqProofs (disch:=(first|omega|decide)) only[go_sem,↓reduceIte,seval,g0,g0',g1,g2,g3]
def s0(t:aI)(x:It):Bool:=match dm t.az x.key with|some y=> !bt x y|none=>false
theorem cmp_bt(x y:It):decide (Hr x y<=0)= !bt x y:=by
 rw[<-UF]
 by_cases h:0<Hr x y
 · rw[decide_eq_true h,decide_eq_false (by omega)];rfl
 · rw[decide_eq_false h,decide_eq_true (by omega)];rfl
theorem uQ:ah Tryz.prog Bk Tryz.f72.ntmps (Tryz.f72.body.getD .skip)=true:=by kernel_rfl
theorem wF(t:aI)(x:It)(ht:t.az.length<=1000000):ay Tryz.prog 72 [t.enc,x.enc] (· = .bool (s0 t x)):=by
 refine aa wE mixed Tryz.func72 rfl (Nat.le_of_ble_eq_true rfl) uQ ?_;unfold Tryz.f72;have g1:=PN (s:=t) (k:=x.key) ht;unfold s0;simp only[aI.enc,aI.cells,It.enc]at*;cases h:dm t.az x.key with
 |none=>
  rw[h]at g1;simp only[PH,UN,It.enc]at g1;simp-implicitDefEqProofs (disch:=(first|omega|decide)) only[go_sem,↓reduceIte,seval,g1]
 |some y=>
  rw[h]at g1;simp only[PH,It.enc]at g1;have g2:=x_Cmp (x:=x) (y:=y)
  have g3:=cmp_bt x y;simp only;rw[<-g3]
  generalize Hr x y=c at*;simp-implicitDefEqProofs (disch:=(first|omega|decide)) only[go_sem,↓reduceIte,seval,g1,g2]
theorem Bm:ah Tryz.prog Bk Tryz.f75.ntmps (Tryz.f75.body.getD .skip)=true:=by kernel_rfl
theorem FD(t:aI)(x:It)(ht:t.az.length<=1000000):ay Tryz.prog 75 [t.enc,x.enc] (· = .bool (s0 t x)):=by
 refine aa wE mixed Tryz.func75 rfl (Nat.le_of_ble_eq_true rfl) Bm ?_;unfold Tryz.f75;have g1:=BO (s:=t) (k:=x.key) ht;have hp:=sD t.az x.key;unfold s0;simp only[aI.enc,aI.cells,It.enc]at*;rcases hp with⟨h1,h2⟩|⟨i,hi,h1,h2⟩
 · rw[h1]at g1
   rw[h2]
   simp-implicitDefEqProofs (disch:=(first|omega|decide)) only[go_sem,↓reduceIte,seval,g1]
 · rw[h1]at g1
   rw[h2]
   have e1:=cN hi;have q2:(0:Int)<=(i:Int):=by omega
   have q3:(i:Int)<(t.az.length:Int):=by omega
   have q4:((i:Nat):Int).toNat=i:=Int.toNat_natCast _;have gB:=UL (x:=x) (y:=t.az[i])
   simp only;generalize t.az[i]=y at*;simp-implicitDefEqProofs (disch:=(first|omega|decide)) only[go_sem,↓reduceIte,seval,g1,e1,q2,q3,q4,gB,List.length_map]
def Ml:an:=Bk.add 16 (entry (fun(v:aI×aI)=>[v.1.enc,v.2.enc]) (fun v=>Mj v.1 v.2) (fun v=>ng v.1 v.2))
theorem X25h_ok:ag Tryz.prog Ml:=wE.bN Tryz.func16 (by kernel_rfl) (by kernel_rfl) fun v h=>Bl v.1 v.2 h
@[go_sem] theorem X25h_old{g:FuncId}{xs:List A}(h:g≠16):Ml.f g xs=Bk.f g xs:=an.ak h
theorem uR(v:aI×aI)(h:Mj v.1 v.2):Ml.f 16 [v.1.enc,v.2.enc]=some (ng v.1 v.2):=an.ao (Γ:=Bk) (fun i j h=>by simpa[Prod.ext_iff,and_assoc]using h) v h
def Tc:an:=Ml.add 17 (entry (fun(v:aI×aI)=>[v.1.enc,v.2.enc]) (fun v=>Mj v.1 v.2) (fun v=>ng v.1 v.2))
theorem X25i_ok:ag Tryz.prog Tc:=X25h_ok.bN Tryz.func17 (by kernel_rfl) (by kernel_rfl) fun v h=>Mk v.1 v.2 h
@[go_sem] theorem X25i_old{g:FuncId}{xs:List A}(h:g≠17):Tc.f g xs=Ml.f g xs:=an.ak h
theorem Bn(v:aI×aI)(h:Mj v.1 v.2):Tc.f 17 [v.1.enc,v.2.enc]=some (ng v.1 v.2):=an.ao (Γ:=Ml) (fun i j h=>by simpa[Prod.ext_iff,and_assoc]using h) v h
def P5:an:=Tc.add 72 (entry (fun(v:aI×It)=>[v.1.enc,v.2.enc]) (fun v=>v.1.az.length<=1000000) (fun v=> .bool (s0 v.1 v.2)))
theorem X25j_ok:ag Tryz.prog P5:=X25i_ok.bN Tryz.func72 (by kernel_rfl) (by kernel_rfl) fun v h=>wF v.1 v.2 h
@[go_sem] theorem X25j_old{g:FuncId}{xs:List A}(h:g≠72):P5.f g xs=Tc.f g xs:=an.ak h
theorem rH(v:aI×It)(h:v.1.az.length<=1000000):P5.f 72 [v.1.enc,v.2.enc]=some (.bool (s0 v.1 v.2)):=an.ao (Γ:=Tc) (fun i j h=>by simpa[Prod.ext_iff,and_assoc]using h) v h
def HW:an:=P5.add 75 (entry (fun(v:aI×It)=>[v.1.enc,v.2.enc]) (fun v=>v.1.az.length<=1000000) (fun v=> .bool (s0 v.1 v.2)))
theorem Mm:ag Tryz.prog HW:=X25j_ok.bN Tryz.func75 (by kernel_rfl) (by kernel_rfl) fun v h=>FD v.1 v.2 h
@[go_sem] theorem X25k_old{g:FuncId}{xs:List A}(h:g≠75):HW.f g xs=P5.f g xs:=an.ak h
@[go_sem] theorem X25k_s:HW.pl P5:=⟨fun _=>rfl,fun _=>rfl,rfl,fun _=>rfl,rfl,fun _=>rfl,rfl⟩
theorem wG(v:aI×It)(h:v.1.az.length<=1000000):HW.f 75 [v.1.enc,v.2.enc]=some (.bool (s0 v.1 v.2)):=an.ao (Γ:=P5) (fun i j h=>by simpa[Prod.ext_iff,and_assoc]using h) v h
theorem rI{s t:aI}(h:Mj s t):Ml.f 16 [.agg [.int .i64 s.id,.ab (s.fl.map ax.enc),.ab (s.az.map It.enc),.ab (s.kn.map Pc.enc),.int .i64 s.ct],.agg [.int .i64 t.id,.ab (t.fl.map ax.enc),.ab (t.az.map It.enc),.ab (t.kn.map Pc.enc),.int .i64 t.ct]]=some (ng s t):=uR (s,t) h
theorem Vd{s t:aI}(h:Mj s t):Tc.f 17 [.agg [.int .i64 s.id,.ab (s.fl.map ax.enc),.ab (s.az.map It.enc),.ab (s.kn.map Pc.enc),.int .i64 s.ct],.agg [.int .i64 t.id,.ab (t.fl.map ax.enc),.ab (t.az.map It.enc),.ab (t.kn.map Pc.enc),.int .i64 t.ct]]=some (ng s t):=Bn (s,t) h
theorem e_effect{t:aI}{x:It}(h:t.az.length<=1000000):P5.f 72 [.agg [.int .i64 t.id,.ab (t.fl.map ax.enc),.ab (t.az.map It.enc),.ab (t.kn.map Pc.enc),.int .i64 t.ct],.agg [.str x.key,.int .i64 x.rep,.int .i64 x.bu,.int .i64 x.bk,.int .i64 x.prio,.bool x.dead,.str x.body]]=some (.bool (s0 t x)):=rH (t,x) h
theorem Xp{t:aI}{x:It}(h:t.az.length<=1000000):HW.f 75 [.agg [.int .i64 t.id,.ab (t.fl.map ax.enc),.ab (t.az.map It.enc),.ab (t.kn.map Pc.enc),.int .i64 t.ct],.agg [.str x.key,.int .i64 x.rep,.int .i64 x.bu,.int .i64 x.bk,.int .i64 x.prio,.bool x.dead,.str x.body]]=some (.bool (s0 t x)):=wG (t,x) h
def Jh(t:aI)(x:It):Bool:=aH x&&(aj t.fl x.key&&(bG t.kn x.key x.rep x.bu&& !s0 t x))
def bU(t:aI)(l:List It):Bool:=l.all fun x=> !Jh t x
theorem wH:ah Tryz.prog HW Tryz.f19.ntmps (Tryz.f19.body.getD .skip)=true:=by kernel_rfl
theorem yQ(t:aI)(l:List It)(ht:il t)(hl:l.length<=4611686018427387904/\mM l):ay Tryz.prog 19 [t.enc,.ab (l.map It.enc)] (· = .bool (bU t l)):=by
 refine aa Mm mixed Tryz.func19 rfl (Nat.le_of_ble_eq_true rfl) wH ?_;unfold Tryz.f19;have gF: ∀x:List UInt8,x.length<=9223372036854775807->K0.f 70 [.ab (t.fl.map ax.enc),.str x]=some (.bool (aj t.fl x)):=fun x hx=>jR (by have:=ht.fl.1;omega) ht.fl.2 hx;have gH: ∀(x:List UInt8) (n c:Int),x.length<=9223372036854775807->AS.f 71 [.ab (t.kn.map Pc.enc),.str x,.agg [.int .i64 n,.int .i64 c]]=some (.bool (bG t.kn x n c)):=fun x n c hx=>Pn ht.kn.1.1 hx;have gE:=fun x:It=>e_effect (t:=t) (x:=x) ht.az.1;simp only[aI.enc,aI.cells]
 simp-implicitDefEqProofs (disch:=(first|omega|decide)) only[go_sem,↓reduceIte,seval,List.length_map]
 refine ar [2,7,8] (ι:={i:Nat//i<=l.length/\bU t l=bU t (l.drop i)}) (fun p=>[(9,.int .i64 p.1)]) (fun _=>[]) (fun p=>l.length-p.1) ⟨0,by omega,rfl⟩ (Nat.zero_le _) ?_ ?_
 · simp-implicitDefEqProofs (disch:=(first|omega|decide)) only[go_sem,↓reduceIte,seval]
   try rfl
 · rintro⟨i,hi,hd⟩
   simp only;by_cases aw:i<l.length
   · have ae:(i:Int)<(l.length:Int):=by omega
     have ei:=cN aw;have sS:=hl.2 _ (List.getElem_mem aw)
     rw[List.drop_eq_getElem_cons aw]at hd;have hd:bU t l=(!Jh t l[i]&&bU t (l.drop (i+1))):=hd;generalize l[i]=x at*;have g1:=UI sS;have g2:=gF x.key sS.1;have g3:=gH x.key x.rep x.bu sS.1;have g4:=gE x;unfold Jh at hd;have dP:bU t l=bU t (l.drop (i+1))-> ∃j:{i:Nat//i<=l.length/\bU t l=bU t (l.drop i)},(i:Int)+1=(j.1:Int)/\l.length-j.1<l.length-i:=fun h=>⟨⟨i+1,aw,h⟩,by simp,by show l.length-(i+1)<l.length-i;omega⟩
     cases k1:aH x with
     |false=>
      rw[k1]at g1 hd;have dP:=dP (by rw[hd];rfl)
      simp-implicitDefEqProofs (disch:=(first|omega|decide)) only[go_sem,↓reduceIte,seval,ae,ei,g1,wrap_i64,List.length_map]
      exact dP
     |true=>
      rw[k1]at g1 hd;cases k2:aj t.fl x.key with
      |false=>
       rw[k2]at g2 hd;have dP:=dP (by rw[hd];rfl)
       simp-implicitDefEqProofs (disch:=(first|omega|decide)) only[go_sem,↓reduceIte,seval,ae,ei,g1,g2,wrap_i64,List.length_map]
       exact dP
      |true=>
       rw[k2]at g2 hd;cases k3:bG t.kn x.key x.rep x.bu with
       |false=>
          rw[k3]at g3 hd;have dP:=dP (by rw[hd];rfl)
          simp-implicitDefEqProofs (disch:=(first|omega|decide)) only[go_sem,↓reduceIte,seval,ae,ei,g1,g2,g3,wrap_i64,List.length_map]
          exact dP
       |true=>
          rw[k3]at g3 hd;cases k4:s0 t x with
          |true=>
           rw[k4]at g4 hd;have dP:=dP (by rw[hd];rfl)
           simp-implicitDefEqProofs (maxSteps:=600000) (disch:=(first|omega|decide)) only[go_sem,↓reduceIte,seval,ae,ei,g1,g2,g3,g4,wrap_i64,List.length_map]
           exact dP
          |false=>
           rw[k4]at g4 hd;have hd:bU t l=false:=by rw[hd];rfl
           rw[hd]
           simp-implicitDefEqProofs (maxSteps:=600000) (disch:=(first|omega|decide)) only[go_sem,↓reduceIte,seval,ae,ei,g1,g2,g3,g4,List.length_map]
   · have ae: ¬(i:Int)<(l.length:Int):=by omega
     rw[List.drop_of_length_le (by omega)]at hd;have hd:bU t l=true:=hd;rw[hd]
     simp-implicitDefEqProofs (disch:=(first|omega|decide)) only[go_sem,↓reduceIte,seval,ae,List.length_map]
theorem FE:ah Tryz.prog HW Tryz.f20.ntmps (Tryz.f20.body.getD .skip)=true:=by kernel_rfl
theorem HX(t:aI)(l:List It)(ht:il t)(hl:l.length<=4611686018427387904/\mM l):ay Tryz.prog 20 [t.enc,.ab (l.map It.enc)] (· = .bool (bU t l)):=by
 refine aa Mm mixed Tryz.func20 rfl (Nat.le_of_ble_eq_true rfl) FE ?_;unfold Tryz.f20;have gF: ∀x:List UInt8,x.length<=9223372036854775807->Ej.f 36 [.ab (t.fl.map ax.enc),.str x]=some (.bool (aj t.fl x)):=fun x hx=>fE (by have:=ht.fl.1;omega) ht.fl.2 hx;have gH: ∀(x:List UInt8) (n c:Int),x.length<=9223372036854775807->AT.f 74 [.ab (t.kn.map Pc.enc),.str x,.agg [.int .i64 n,.int .i64 c]]=some (.bool (bG t.kn x n c)):=fun x n c hx=>EC ht.kn.1.1 hx;have gE:=fun x:It=>Xp (t:=t) (x:=x) ht.az.1;simp only[aI.enc,aI.cells]
 simp-implicitDefEqProofs (disch:=(first|omega|decide)) only[go_sem,↓reduceIte,seval,List.length_map]
 refine ar [1,2] (ι:={i:Nat//i<=l.length/\bU t l=bU t (l.drop i)}) (fun p=>[(5,.int .i64 p.1)]) (fun _=>[]) (fun p=>l.length-p.1) ⟨0,by omega,rfl⟩ (Nat.zero_le _) ?_ ?_
 · simp-implicitDefEqProofs (disch:=(first|omega|decide)) only[go_sem,↓reduceIte,seval]
   try rfl
 · rintro⟨i,hi,hd⟩
   simp only;by_cases aw:i<l.length
   · have ae:(i:Int)<(l.length:Int):=by omega
     have ei:=cN aw;have p1:(0:Int)<=(i:Int):=by omega
     have t1:((i:Nat):Int).toNat=i:=Int.toNat_natCast _;have sS:=hl.2 _ (List.getElem_mem aw)
     rw[List.drop_eq_getElem_cons aw]at hd;have hd:bU t l=(!Jh t l[i]&&bU t (l.drop (i+1))):=hd;generalize l[i]=x at*;have g1:=wz sS;have g2:=gF x.key sS.1;have g3:=gH x.key x.rep x.bu sS.1;have g4:=gE x;unfold Jh at hd;have dP:bU t l=bU t (l.drop (i+1))-> ∃j:{i:Nat//i<=l.length/\bU t l=bU t (l.drop i)},(i:Int)+1=(j.1:Int)/\l.length-j.1<l.length-i:=fun h=>⟨⟨i+1,aw,h⟩,by simp,by show l.length-(i+1)<l.length-i;omega⟩
     cases k1:aH x with
     |false=>
      rw[k1]at g1 hd;have dP:=dP (by rw[hd];rfl)
      simp-implicitDefEqProofs (disch:=(first|omega|decide)) only[go_sem,↓reduceIte,seval,ae,p1,t1,ei,g1,wrap_i64,List.length_map]
      exact dP
     |true=>
      rw[k1]at g1 hd;cases k2:aj t.fl x.key with
      |false=>
       rw[k2]at g2 hd;have dP:=dP (by rw[hd];rfl)
       simp-implicitDefEqProofs (disch:=(first|omega|decide)) only[go_sem,↓reduceIte,seval,ae,p1,t1,ei,g1,g2,wrap_i64,List.length_map]
       exact dP
      |true=>
       rw[k2]at g2 hd;cases k3:bG t.kn x.key x.rep x.bu with
       |false=>
          rw[k3]at g3 hd;have dP:=dP (by rw[hd];rfl)
          simp-implicitDefEqProofs (disch:=(first|omega|decide)) only[go_sem,↓reduceIte,seval,ae,p1,t1,ei,g1,g2,g3,wrap_i64,List.length_map]
          exact dP
       |true=>
          rw[k3]at g3 hd;cases k4:s0 t x with
          |true=>
           rw[k4]at g4 hd;have dP:=dP (by rw[hd];rfl)
           simp-implicitDefEqProofs (maxSteps:=600000) (disch:=(first|omega|decide)) only[go_sem,↓reduceIte,seval,ae,p1,t1,ei,g1,g2,g3,g4,wrap_i64,List.length_map]
           exact dP
          |false=>
           rw[k4]at g4 hd;have hd:bU t l=false:=by rw[hd];rfl
           rw[hd]
           simp-implicitDefEqProofs (maxSteps:=600000) (disch:=(first|omega|decide)) only[go_sem,↓reduceIte,seval,ae,p1,t1,ei,g1,g2,g3,g4,List.length_map]
   · have ae: ¬(i:Int)<(l.length:Int):=by omega
     rw[List.drop_of_length_le (by omega)]at hd;have hd:bU t l=true:=hd;rw[hd]
     simp-implicitDefEqProofs (disch:=(first|omega|decide)) only[go_sem,↓reduceIte,seval,ae,List.length_map]
def iL(k:List UInt8)(l:List It):List It:=(l.filter aH).filter fun x=>k==x.key
theorem fG(k:List UInt8)(a b:List It):iL k (a++b)=iL k a++iL k b:=by simp[iL]
theorem uS(k:List UInt8)(l:List It):iL k (aC l)=(eA bt (iL k l)).toList:=by
 obtain⟨h1,h2⟩:=eW l;have hr:(aC l).filter aH=aC l:=List.filter_eq_self.2 fun x hx=>(cy hx).2;unfold iL;rw[hr]
 have nd:((aC l).filter fun x=>k==x.key).Pairwise fun x y=>False:=by
  refine List.Pairwise.imp_of_mem ?_ (h1.filter _)
  intro a b ha hb NJ;have e1:=(List.mem_filter.1 ha).2;have e2:=(List.mem_filter.1 hb).2;rw[<-show k=a.key by simpa using e1,<-show k=b.key by simpa using e2,lt_irrefl]at NJ;cases NJ
 have mem: ∀z,z∈(aC l).filter (fun x=>k==x.key) ↔ eA bt ((l.filter aH).filter fun x=>k==x.key)=some z:=fun z=>by
  rw[List.mem_filter,h2 z]
  constructor
  · rintro⟨h,e⟩
    rw[show k=z.key by simpa using e];exact h
  · intro h
    have e:=(List.mem_filter.1 (kM h)).2;have e':k=z.key:=by simpa using e
    exact⟨by rw[<-e'];exact h,e⟩
 generalize(aC l).filter (fun x=>k==x.key)=m at nd mem;cases m with
 |nil=>
  cases hb:eA bt ((l.filter aH).filter fun x=>k==x.key)with
  |none=>rfl
  |some z=>have:=(mem z).2 hb;cases this
 |cons z m=>
  have e:=(mem z).1 (by simp)
  cases m with
  |nil=>rw[e];rfl
  |cons w m=>exact((List.pairwise_cons.1 nd).1 w (by simp)).elim
theorem Td(a b:List It):eA bt ((eA bt a).toList++b)=eA bt (a++b):=by
 cases a with
 |nil=>rfl
 |cons y a=>
  show some (b.foldl (better bt) (a.foldl (better bt) y))=some ((a++b).foldl (better bt) y)
  rw[List.foldl_append]
theorem zV(l m:List It):aC (aC l++m)=aC (l++m):=yL fun k=>by
 show eA bt (iL k (aC l++m))=eA bt (iL k (l++m))
 rw[fG,fG,uS,Td]
theorem get_merge(l:List It)(k:List UInt8):dm (aC l) k=eA bt (iL k l):=by
 have h:=uS k l;have hr:(aC l).filter aH=aC l:=List.filter_eq_self.2 fun x hx=>(cy hx).2;unfold iL at h;rw[hr]at h;unfold dm;rw[<-List.head?_filter]
 have e:(fun x:It=>x.key==k)=fun x=>k==x.key:=funext fun x=>by rw[Bool.eq_iff_iff,beq_iff_eq,beq_iff_eq];exact eq_comm
 rw[e,h]
 show((eA bt (iL k l)).toList).head? =_;cases eA bt (iL k l)<;>rfl
theorem wI{l:List It}(h1: ∀x∈l,aH x=true)(h2:l.Pairwise fun x y=>aV x.key y.key=true){x:It}(hx:x∈l):iL x.key l=[x]:=by
 unfold iL;rw[List.filter_eq_self.2 h1]
 induction l with
 |nil=>cases hx
 |cons y l ih=>
  obtain⟨p1,p2⟩:=List.pairwise_cons.1 h2;rcases List.mem_cons.1 hx with rfl|hx
  · rw[List.filter_cons_of_pos (by simp)]
    congr 1
    rw[List.filter_eq_nil_iff]
    intro w hw e;have:=p1 w hw;rw[show x.key=w.key by simpa using e,lt_irrefl]at this;cases this
  · rw[List.filter_cons_of_neg,ih (fun z hz=>h1 z (by simp[hz])) p2 hx]
    intro e;have:=p1 x hx;rw[show x.key=y.key by simpa using e,lt_irrefl]at this;cases this
theorem l5{l:List It}{k:List UInt8}(h: ∀x∈l,x.key≠k):iL k l=[]:=by
 unfold iL;rw[List.filter_eq_nil_iff]
 intro x hx e;exact h x (List.mem_filter.1 hx).1 (show k=x.key by simpa using e).symm
theorem P6{l:List It}(h1: ∀x∈l,aH x=true)(h2:l.Pairwise fun x y=>aV x.key y.key=true)(k:List UInt8):iL k l=(dm l k).toList:=by
 cases hg:dm l k with
 |none=>
  refine l5 fun x hx e=> ?_;have:=List.find?_eq_none.1 hg x hx;simp[e]at this
 |some x=>
  have hx:=List.mem_of_find?_eq_some hg;have e:=List.find?_some hg;rw[<-show x.key=k by simpa using e,wI h1 h2 hx];rfl
theorem FF{l:List It}(h2:l.Pairwise fun x y=>aV x.key y.key=true){x y:It}(hx:x∈l)(hy:y∈l)(e:x.key=y.key):x=y:=by
 obtain⟨i,hi,rfl⟩:=List.getElem_of_mem hx;obtain⟨j,hj,rfl⟩:=List.getElem_of_mem hy;have hp:=List.pairwise_iff_getElem.1 h2;rcases Nat.lt_trichotomy i j with r|r|r
 · have:=hp i j hi hj r;rw[e,lt_irrefl]at this;cases this
 · subst r;rfl
 · have:=hp j i hj hi r;rw[e,lt_irrefl]at this;cases this
theorem Te{s t:aI}(hs:bq s):(∀x∈br s t,aH x=true)/\(br s t).Pairwise fun x y=>aV x.key y.key=true:=
 ⟨fun x hx=>hs.right x (fN.1 hx).1,hs.up.filter _⟩
structure rJ(s t p:aI)(L:List It):Prop where
 right:bq p
 id:p.id=t.id
 fl:p.fl=t.fl
 ct:p.ct=t.ct
 az:p.az=aC (t.az++L)
 sub:L.Sublist (br s t)
 kn: ∀x n,bE n=true-> ∀c,hk (setAt p.kn x) n c=true ↔ hk (setAt t.kn x) n c=true\/ ∃y∈L,x=y.key/\n=y.rep/\c=y.bu
theorem Xq{s t:aI}(ht:bq t):rJ s t t []:=⟨ht,rfl,rfl,rfl,by rw[List.append_nil,uG ht.right ht.up],by simp,fun x n _ c=>by simp⟩
theorem Tf{s t p:aI}{L:List It}(hs:bq s)(ht:bq t)(h:rJ s t p L):aS s p=aS s t/\(lh s t->lh s p):=by
 obtain⟨u1,u2⟩:=Te (t:=t) hs;have hL: ∀y∈L,y∈br s t:=fun y hy=>h.sub.subset hy
 have hunk:br s p=(br s t).filter fun x=> !decide (x∈L):=by
  unfold br;rw[List.filter_filter]
  refine List.filter_congr fun x hx=> ?_;obtain⟨k1,_⟩:=mC hs hx;rw[h.fl]
  have e:bG p.kn x.key x.rep x.bu=(bG t.kn x.key x.rep x.bu||decide (x∈L)):=by
   rw[Bool.eq_iff_iff,Bool.or_eq_true,decide_eq_true_iff,dX k1,dX k1,h.kn _ _ k1]
   refine or_congr Iff.rfl ⟨?_,fun hm=>⟨x,hm,rfl,rfl,rfl⟩⟩
   rintro⟨y,hy,e,_,_⟩
   rw[FF hs.up hx (fN.1 (hL y hy)).1 e];exact hy
  rw[e]
  cases aj t.fl x.key<;>cases bG t.kn x.key x.rep x.bu<;>cases decide (x∈L)<;>rfl
 have Xr:aC (p.az++br s p)=aC (t.az++br s t):=by
  rw[h.az,zV]
  refine yL fun k=> ?_;show eA bt (iL k _)=eA bt (iL k _)
  rw[fG,fG,fG,List.append_assoc]
  congr 2
  by_cases hx: ∃x∈br s t,x.key=k
  · obtain⟨x,hx,rfl⟩:=hx
    rw[wI u1 u2 hx]
    by_cases hm:x∈L
    · rw[wI (fun y hy=>u1 y (hL y hy)) (u2.sublist h.sub) hm,l5]
      · rfl
      · intro y hy e
        rw[hunk,List.mem_filter]at hy;have:=FF u2 hy.1 hx e;subst this;simp[hm]at hy
    · have jz:x∈br s p:=by rw[hunk,List.mem_filter];exact⟨hx,by simp[hm]⟩
      obtain⟨v1,v2⟩:=Te (t:=p) hs;rw[wI v1 v2 jz,l5]
      · rfl
      · intro y hy e
        exact hm (FF u2 (hL y hy) hx e▸hy)
  · have hn: ∀x∈br s t,x.key≠k:=fun x Qo e=>hx ⟨x,Qo,e⟩
    rw[l5 hn,l5 (fun y hy=>hn y (hL y hy)),l5 (fun y hy=>hn y (by rw[hunk]at hy;exact(List.mem_filter.1 hy).1))]
    rfl
 have hlearn:bm s p=bm s t:=by unfold bm;rw[h.fl]
 have hkn:aT (cL (p.kn++bm s p))=aT (cL (t.kn++bm s t)):=by
  refine FB (fe _) (fe _) fun x n hn c=> ?_;rw[dA hn,dA hn,hlearn,Bool.eq_iff_iff,Bool.or_eq_true,Bool.or_eq_true,h.kn x n hn c]
  constructor
  · rintro((g|⟨y,hy,rfl,rfl,rfl⟩)|g)
    · exact .inl g
    · obtain⟨m1,m2,_⟩:=fN.1 (hL y hy)
      obtain⟨_,k2⟩:=mC hs m1;right;rw[kN hn,m2,k2];rfl
    · exact .inr g
  · rintro(g|g)
    · exact .inl (.inl g)
    · exact .inr g
 refine⟨?_,fun ok=>⟨fun x c hc=> ?_,by rw[Xr];exact ok.apart,by rw[Xr];exact ok.len⟩⟩
 · show(⟨p.id,p.fl,aC (p.az++br s p),aT (cL (p.kn++bm s p)),p.ct⟩:aI)=⟨t.id,t.fl,aC (t.az++br s t),aT (cL (t.kn++bm s t)),t.ct⟩
   rw[h.id,h.fl,h.ct,Xr,hkn]
 · rw[h.ct]
   rw[h.id,hlearn]at hc;exact ok.A5 x c hc
theorem both_get{s t:aI}(hs:bq s)(ht:bq t)(h1:jT t s.az)(h2:jT s t.az)(htie: ∀x∈s.az,∀y∈t.az,x.key=y.key->x.bk=y.bk->x.rep=y.rep->x.bu=y.bu->x=y)
 {k:List UInt8} (ks:aj s.fl k=true) (kt:aj t.fl k=true):dm (aS s t).az k=dm (aS (aS s t) s).az k:=by
 have e1:=rG ht h1
 have hsu:jT s (aS s t).az:=fun x hx hr hf FY=>by
  rw[e1]at hx;rcases List.mem_append.1 (cy hx).1 with g|g
  · exact h2 x g hr hf FY
  · exact⟨x,(List.mem_filter.1 g).1,rfl,uD x⟩
 have e2:=rG hs hsu
 have fs:iL k (s.az.filter fun x=>aj t.fl x.key)=iL k s.az:=by
  unfold iL;simp only[List.filter_filter]
  refine List.filter_congr fun x hx=> ?_;cases e:(k==x.key)with
  |false=>simp
  |true=>rw[<-show k=x.key by simpa using e,kt];simp
 have fu:iL k ((aS s t).az.filter fun x=>aj s.fl x.key)=iL k (aS s t).az:=by
  unfold iL;simp only[List.filter_filter]
  refine List.filter_congr fun x hx=> ?_;cases e:(k==x.key)with
  |false=>simp
  |true=>rw[<-show k=x.key by simpa using e,ks];simp
 have g1:dm (aS s t).az k=eA bt (iL k t.az++iL k s.az):=by rw[e1,get_merge,fG,fs]
 have g2:dm (aS (aS s t) s).az k=eA bt (iL k s.az++iL k (aS s t).az):=by rw[e2,get_merge,fG,fu]
 have g3:iL k (aS s t).az=(eA bt (iL k t.az++iL k s.az)).toList:=by rw[e1,uS,fG,fs]
 rw[g1,g2,g3,P6 ht.right ht.up,P6 hs.right hs.up]
 cases ht':dm t.az k with
 |none=>cases Qk:dm s.az k<;>simp[eA,better,uD]
 |some y=>
  cases Qk:dm s.az k with
  |none=>simp[eA]
  |some x=>
   have hx:=List.mem_of_find?_eq_some Qk;have hy:=List.mem_of_find?_eq_some ht';have ex:x.key=k:=by simpa using List.find?_some Qk
   have ey:y.key=k:=by simpa using List.find?_some ht'
   simp only[eA,better,Option.toList,List.cons_append,List.nil_append,List.foldl_cons,List.foldl_nil,Option.some.injEq]
   cases b1:bt x y with
   |true=>simp[uD]
   |false=>
    cases b2:bt y x with
    |true=>simp[b2]
    |false=>
     have:x=y:=by
      have q: ∀a b:It,bt a b=false ↔¬(b.bk<a.bk\/(a.bk=b.bk/\(b.rep<a.rep\/(b.rep=a.rep/\b.bu<a.bu)))):=fun a b=>by
       rw[<-Bool.not_eq_true]
       simp only[bt,Bool.or_eq_true,Bool.and_eq_true,decide_eq_true_eq,fm]
      rw[q]at b1 b2;exact htie x hx y hy (ex.trans ey.symm) (by omega) (by omega) (by omega)
     subst this;simp[uD]
theorem both_unk{s t:aI}(hs:bq s)(ht:bq t)(ok:lh s t)(h1:jT t s.az)(h2:jT s t.az)(ok2:lh (aS s t) s):br (aS s t) (aS (aS s t) s)=[]/\br (aS (aS s t) s) (aS s t)=[]:=by
 have hu:=uH hs ht ok;refine⟨uI hu, ?_⟩
 unfold br;rw[List.filter_eq_nil_iff]
 intro x hx h;simp only[Bool.and_eq_true,Bool.not_eq_true']at h;have hx:x∈aC (s.az++br (aS s t) s):=hx;obtain⟨m1,m2⟩:=cy hx;obtain⟨k1,_,_⟩:=lf m2;have hf:aj t.fl x.key=true:=h.1;have hn:=h.2;rcases List.mem_append.1 m1 with g|g
 · obtain⟨_,k2⟩:=mC hs g
   rw[dX k1,BP k1,hf,k2]at hn;simp at hn
 · obtain⟨_,k2⟩:=mC hu (fN.1 g).1
   rw[dX k1,k2]at hn;cases hn
theorem has_key{s:aI}{k:List UInt8}(h:bq s)(hn:dm s.az k≠none\/s.az.length≠4096):s.az.length<4096\/k∈s.az.map (·.key):=by
 have:=h.len;rcases hn with hn|hn
 · right
   cases hg:dm s.az k with
   |none=>exact absurd hg hn
   |some o=>
    have h1:=List.mem_of_find?_eq_some hg;have h2:(o.key==k)=true:=List.find?_some (p:=fun x:It=>x.key==k) hg;exact List.mem_map.2 ⟨o,h1,by simpa using h2⟩
 · left;omega
theorem Tg{s:aI}{k:List UInt8}{prio:Int}{body:List UInt8}(h:bp s k prio body=0):
 bq s/\s.ct≠1099511627776/\(cb s (lS s k prio body)).ok/\bq (dh s (cb s (lS s k prio body))):=by
 unfold bp at h;split at h
 · cases h
 rename_i hR;have hR:aU s=true:=by simpa using hR
 have hS:=(bQ s).1 hR;have I3:=jh hR k;split at h
 · cases h
 rename_i hb;split at h
 · cases h
 rename_i hf;split at h
 · cases h
 rename_i hm;split at h
 · cases h
 rename_i hl;have hc:s.ct≠1099511627776:=fun e=>hm (.inl e)
 have hv:=yJ hS hc;unfold fM at hb;simp only[Bool.or_eq_true,Bool.not_eq_true',decide_eq_false_iff_not,decide_eq_true_eq,not_or]at hb;obtain⟨⟨⟨b1,b2⟩,b3⟩,b4⟩:=hb;have b1:1<=k.length/\k.length<=16:=Decidable.not_not.1 b1;have hm2:di s.az k≠1099511627776:=fun e=>hm (.inr e)
 have hx:aH (cb s (lS s k prio body))=true:=by
  unfold aH;have hver:aN ⟨(cb s (lS s k prio body)).rep,(cb s (lS s k prio body)).bu⟩=true:=hv;rw[hver]
  have r0:(cb s (lS s k prio body)).key=k:=rfl;have r1:(cb s (lS s k prio body)).bk=di s.az k+1:=rfl;have r2:(cb s (lS s k prio body)).prio=prio:=rfl;have r3:(cb s (lS s k prio body)).body=body:=rfl;have r4:(cb s (lS s k prio body)).dead=false:=rfl;rw[r0,r1,r2,r3,r4]
  simp only[decide_eq_true b1,Bool.true_and,Bool.not_false,Bool.true_or,Bool.and_true,Bool.and_eq_true,decide_eq_true_eq]
  omega
 have hct:=hS.ct;refine⟨hS,hc,⟨by show k.length<=_;omega,by show body.length<=_;omega⟩,W_ hS hx rfl rfl (by show aj s.fl k=true;simpa using hf) (by omega) (has_key hS ?_)⟩
 by_cases hg:dm s.az k=none
 · right;intro e;exact hl ⟨hg,e⟩
 · left;exact hg
theorem Ji{s:aI}{k:List UInt8}{prio:Int}{body:List UInt8}{N w n:Nat}(h:ji s N w n)(hN:N<=198)(hw:w<=2000)(hC:bp s k prio body=0):ji (dh s (cb s (lS s k prio body))) (1+2*(N+1)) (48+w) (n+1):=by obtain⟨_,_,h3,h4⟩:=Tg hC;exact h.put hN hw h4 h3
def Xs:ax:=⟨[],[],true⟩
theorem hasAll(x:List UInt8):aj [Xs] x=true:=by
 have:aA ⟨[],[],true⟩=true:=by decide
 simp[aj,Xs,b_,Kd,this]
theorem FG{P:List UInt8->List ad}{es:List (List UInt8)}(hE:Kc P es){B N:Nat}(hB: ∀x,(P x).length+bA (P x)<=B)(hN:es.length<=N)(hm:N*B<=900000)(Ro:N<=10000)(hB2:B<=40000):
 iI (aT P)/\(aT P).length<=N/\U4 (aT P) B/\wP (aT P)<=N*B:=by
 obtain⟨a,b,c⟩:=EF hE hB hN hm Ro;have hw:=U5 hE hB;exact⟨⟨a,fun x=>by rw[ez (mW hE).2];exact Nat.le_trans (hB x) hB2,fun p hp=>Nat.le_trans (hw p hp) hB2⟩,b,hw,c⟩
theorem okT_of{s:aI}{l:List It}{k:List Pc}{N W:Nat}(hs:il s)(hf:s.fl.length<=8)(hl:l.length<=100000/\mM l)(hi:s.az.length<=100000)(hk:iI k/\k.length<=N)(hW: ∀x,(setAt k x).length+bA (setAt k x)<=W)(hN:N<=240)
 (hw2:W<=30000) (hm:(1+2*(N+8))*(16+W)<=450000) (hs2:wP s.kn<=450000):S5 s l k/\(iK s k).length<=1+2*(N+8)/\U4 (iK s k) (16+W):=by
 have he:=je (LL:=[k,jg s.fl []])
 simp only[mL,List.map_cons,List.map_nil,List.sum_cons,List.sum_nil]at he;have e:(jg s.fl []).length=s.fl.length:=by simp[jg]
 obtain⟨a,b,c,d⟩:=FG (edg3 k s.fl) (B:=16+W) (N:=1+2*(N+8)) (fun x=>U6 (hW x)) (by omega) (by omega) (by omega) (by omega)
 have hko:=hs.kn.1.1;have h5:wP (iK s k)<=450000:=Nat.le_trans d hm;have h6:(iK s k).length<=1+2*(N+8):=b;exact⟨⟨hs,hl,hi,⟨hk.1,by omega⟩,⟨a,by omega⟩,o_ hko a.1 (by have:=hs.kn.2;omega) (by omega)⟩,b,c⟩
theorem Th{s:aI}{l:List It}{k:List Pc}(h:eI s l k=0):bq s/\(ch l=true/\aR k=true)/\(∀x∈iJ s.fl l,bG s.kn x.key x.rep x.bu=true\/bG (iK s k) x.key x.rep x.bu=true)/\dg (iK s k) s.id<=s.ct/\c_ (aC (s.az++iJ s.fl l))=true/\(aC (s.az++iJ s.fl l)).length<=4096:=by
 unfold eI at h;split at h
 · cases h
 rename_i h0;split at h
 · cases h
 rename_i h1;split at h
 · cases h
 rename_i h2;split at h
 · cases h
 rename_i h3;split at h
 · cases h
 rename_i h4;split at h
 · cases h
 rename_i h5;have h0:aU s=true:=by simpa using h0
 refine⟨(bQ s).1 h0,by simpa using h1,fun x hx=> ?_,by omega,by simpa using h4,by omega⟩
 unfold U_ at h2;simp only[List.any_eq_true,Bool.and_eq_true,Bool.not_eq_true',not_exists,not_and]at h2;have:=h2 x hx;cases g:bG s.kn x.key x.rep x.bu with
 |true=>exact .inl rfl
 |false=>right;simpa using this g
theorem P7{s:aI}{l:List It}{k:List Pc}(h:eI s l k=0):bq (PF s (iJ s.fl l) (iK s k)):=by
 obtain⟨hS,_,h2,h3,h4,h5⟩:=Th h;have UM:bE s.id=true:=bL.2 hS.id;refine E_ hS (fun x hx=>(List.mem_filter.1 hx).2) (fun x n hn c hc=> ?_) (fun x c hc=> ?_) h2 (n9.1 h4) h5
 · unfold iK at hc
   rw[ez (kK _ _),wi hn,Bool.and_eq_true]at hc;exact hc.1
 · unfold dg at h3
   rw[ry]at h3;obtain⟨p,hp,_,h⟩:=pe.1 hc;exact(rC UM hS.ct.1).1 (h3.2 p hp) c h
theorem get_key{l:List It}(h2:l.Pairwise fun x y=>aV x.key y.key=true){x:It}(hx:x∈l):dm l x.key=some x:=by
 have:(dm l x.key).isSome=true:=by
  unfold dm;rw[List.find?_isSome]
  exact⟨x,hx,by simp⟩
 obtain⟨y,hy⟩:=Option.isSome_iff_exists.1 this;have h1:y∈l:=List.mem_of_find?_eq_some hy;have h3:(y.key==x.key)=true:=List.find?_some (p:=fun z:It=>z.key==x.key) hy;have h3:y.key=x.key:=by simpa using h3
 obtain⟨i,hi,rfl⟩:=List.getElem_of_mem hx;obtain⟨j,hj,rfl⟩:=List.getElem_of_mem h1;have hp:=List.pairwise_iff_getElem.1 h2;rcases Nat.lt_trichotomy i j with r|r|r
 · have:=hp i j hi hj r
   rw[h3,lt_irrefl]at this;cases this
 · subst r;exact hy
 · have:=hp j i hj hi r
   rw[h3,lt_irrefl]at this;cases this
theorem Ti(s t:aI):iJ t.fl (br s t)=br s t:=List.filter_eq_self.2 fun x hx=>(fN.1 hx).2.1
theorem kr(s t:aI):iK t (bm s t)=bm s t:=by
 unfold iK bm
 congr 1
 funext x
 show(if aj t.fl x=true then cL (aT (bj s.kn t.fl)) x else [])=bj s.kn t.fl x;rw[ED (kK _ _) (uy _ _)]
 unfold bj;split<;>rfl
theorem P8{k:List Pc}{id b:Int}(UM:bE id=true)(hb:0<=b)(lC:aR k=true):dg k id<=b ↔∀x c,hk (setAt k x) id c=true->c<=b:=by
 unfold dg;rw[ry]
 constructor
 · rintro⟨_,h⟩ x c hc
   obtain⟨p,hp,_,g⟩:=pe.1 hc;exact(rC UM hb).1 (h p hp) c g
 · intro h
   refine⟨hb,fun p hp=>(rC UM hb).2 fun c hc=> ?_⟩
   have h1:=(dN.1 lC).1 p hp;unfold dS at h1;simp only[Bool.and_eq_true]at h1;exact h p.r.lo c (pe.2 ⟨p,hp,lI h1.1.1,hc⟩)
theorem Jj{s t:aI}(hs:bq s)(ht:bq t):eI t (br s t) (bm s t)=if t.ct<dg (bm s t) t.id then 2 else if c_ (aC (t.az++br s t))=false then 2 else if 4096<(aC (t.az++br s t)).length then 32 else 0:=by
 obtain⟨u1,u2⟩:=Te (t:=t) hs;have h1:ch (br s t)=true:=E6.2 ⟨u1,u2,fun k hk=>by cases hk⟩
 have h2:aR (bm s t)=true:=fe _
 have h3:U_ t (br s t) (bm s t)=false:=by
  unfold U_;rw[List.any_eq_false]
  intro x hx;rw[Ti]at hx;obtain⟨m1,m2,_⟩:=fN.1 hx;obtain⟨k1,k2⟩:=mC hs m1;rw[kr,dX k1,dX k1,kN k1,m2,k2];simp
 unfold eI;rw[(bQ t).2 ht,h1,h2,h3,Ti,kr,if_neg (by simp),if_neg (by simp),if_neg (by simp)]
theorem n_{s t:aI}(hs:bq s)(ht:bq t):eI t (br s t) (bm s t)=0 ↔ lh s t:=by
 have UM:bE t.id=true:=bL.2 ht.id;have hm:=P8 (k:=bm s t) UM ht.ct.1 (fe _)
 have ha:=n9 (l:=aC (t.az++br s t))
 rw[Jj hs ht]
 constructor
 · intro h
   split at h
   · cases h
   rename_i h1;split at h
   · cases h
   rename_i h2;split at h
   · cases h
   rename_i h3;exact⟨hm.1 (by omega),ha.1 (by simpa using h2),by omega⟩
 · intro h
   have h1:=hm.2 h.A5;have h2:=ha.2 h.apart;have h3:=h.len;rw[if_neg (by omega),h2,if_neg (by simp),if_neg (by omega)]
theorem sync_bad{s t:aI}(hs:bq s)(ht:bq t)(hl:t.az.length+s.az.length<=4096)(h:eI t (br s t) (bm s t)≠0):eI t (br s t) (bm s t)=2:=by
 have h1:=iq (t.az++br s t)
 rw[List.length_append]at h1;have h2:(br s t).length<=s.az.length:=List.length_filter_le _ _;rw[Jj hs ht]at h⊢;split
 · rfl
 rename_i g1;rw[if_neg g1]at h;split
 · rfl
 rename_i g2;rw[if_neg g2,if_neg (by omega)]at h;exact absurd rfl h
theorem yR{s t:aI}(h:eI t (br s t) (bm s t)=0):pD t (br s t) (bm s t)=aS s t:=by unfold pD;rw[if_pos h,Ti,kr];rfl
theorem P9{s t:aI}(hs:bq s)(ht:bq t):ng s t= .cD [(pD t (br s t) (bm s t)).enc,.int .i64 (eI t (br s t) (bm s t))]:=by unfold ng;rw[(bQ s).2 hs,(bQ t).2 ht,Bool.and_self,if_pos rfl];rfl
theorem effB_iff{t:aI}{x:It}(ht:bq t):s0 t x=true ↔ effS t x:=by
 unfold s0 effS;constructor
 · intro h
   cases hg:dm t.az x.key with
   |none=>rw[hg]at h;cases h
   |some y=>
    rw[hg]at h;have h1:y∈t.az:=List.mem_of_find?_eq_some hg;have h2:(y.key==x.key)=true:=List.find?_some (p:=fun z:It=>z.key==x.key) hg;exact⟨y,h1,by simpa using h2,by simpa using h⟩
 · rintro⟨y,hy,hk,hb⟩
   rw[<-hk,get_key ht.up hy]
   simp[hb]
theorem iv{t:aI}{l:List It}(ht:bq t):bU t l=true ↔ jT t l:=by
 unfold bU jT;rw[List.all_eq_true]
 refine forall_congr' fun x=>forall_congr' fun _=> ?_;have:=effB_iff (t:=t) (x:=x) ht;unfold Jh;cases h1:aH x<;>cases h2:aj t.fl x.key<;>cases h3:bG t.kn x.key x.rep x.bu<;>cases h4:s0 t x<;>simp[h4]at this⊢ <;>assumption
structure Sm(s:aI)(B:List ax)(w n:Nat):Prop where
 right:bq s
 fl:s.fl.length<=8/\dB s.fl
 az:s.az.length<=n/\mM s.az
 base: ∀x e,(∀r∈B,b_ r x=b_ r e)->cL s.kn x=cL s.kn e
 wt: ∀x,(setAt s.kn x).length+bA (setAt s.kn x)<=w
theorem P_{P:List UInt8->List ad}{B:List ax}(hr: ∀x,bc (P x)=true)(h: ∀x e,(∀r∈B,b_ r x=b_ r e)->P x=P e): ∃es,Kc P es/\es.length<=1+2*B.length:=by
 have e:([jg B []].flatMap fun k=>k.map (·.r))=B:=by simp[jg,Function.comp_def]
 refine⟨gI [jg B []],BK (m:=B) yf uu yg (fun r hr h=>uv r (by rw[e];exact hr) h) hr h, ?_⟩
 have:=je (LL:=[jg B []])
 have h2:(jg B []).length=B.length:=by simp[jg]
 simp only[mL,List.map_cons,List.map_nil,List.sum_cons,List.sum_nil,h2]at this;omega
theorem Sm.fin{s:aI}{B:List ax}{w n m:Nat}(h:Sm s B w n)(hB:B.length<=m):ji s (1+2*m) w n:=by
 obtain⟨es,hE,hl⟩:=P_ (P:=cL s.kn) (fun x=>eQ _ _) h.base;have hw:U4 s.kn w:=fun p hp=>by have h1:=(dN.1 h.right.kn).1 p hp;unfold dS at h1;simp only[Bool.and_eq_true]at h1;have h2:=h.wt p.r.lo;rw[qP h.right.kn hp (lI h1.1.1)]at h2;exact h2
 refine⟨h.right,h.fl,h.az, ?_,hw⟩
 have h1:=vI (cL s.kn) es es.length;have h2:aT (cL s.kn)=(lL (cL s.kn) es es.length).reverse:=((mW hE).1).symm;rw[gj h.right.kn]at h2;rw[h2,List.length_reverse];omega
theorem Sm.mono{s:aI}{B C:List ax}{w n v m:Nat}(h:Sm s B w n)(hB: ∀r∈B,r∈C)(hw:w<=v)(hn:n<=m):Sm s C v m:=
 ⟨h.right,h.fl,⟨Nat.le_trans h.az.1 hn,h.az.2⟩,fun x e hx=>h.base x e fun r hr=>hx r (hB r hr),fun x=>Nat.le_trans (h.wt x) hw⟩
theorem sm_of{s:aI}{N w n:Nat}(h:ji s N w n):Sm s (s.kn.map (·.r)) w n:=⟨h.right,h.fl,h.az,fun x e hx=>rp hx,fun x=>Fy h.right.kn h.kn.2 x⟩
theorem FH{s t:aI}{B:List ax}{w n:Nat}(h:Sm s B w n)(hf: ∀r∈t.fl,r∈B):(∀x e,(∀r∈B,b_ r x=b_ r e)->bj s.kn t.fl x=bj s.kn t.fl e)/\ ∀x,(bj s.kn t.fl x).length+bA (bj s.kn t.fl x)<=16+w:=by
 refine⟨fun x e hx=> ?_,fun x=>U6 (h.wt x)⟩
 unfold bj;rw[h.base x e hx,rq fun r hr=>hx r (hf r hr)]
theorem learn_ok{s t:aI}{B:List ax}{w n:Nat}(h:Sm s B w n)(hf: ∀r∈t.fl,r∈B)(hB:B.length<=150)(hw:w<=1400):iI (bm s t)/\(bm s t).length<=301/\wP (bm s t)<=301*1416:=by
 obtain⟨h1,h2⟩:=FH h hf;obtain⟨es,hE,hl⟩:=P_ (P:=bj s.kn t.fl) (fun x=>uy _ _ _) h1;obtain⟨a,b,_,d⟩:=FG hE (B:=1416) (N:=301) (fun x=>by have:=h2 x;omega) (by omega) (by decide) (by decide) (by decide)
 exact⟨a,b,d⟩
theorem Mn{s t:aI}{B:List ax}{w v n m:Nat}(hs:Sm s B w n)(ht:Sm t B v m)(hf: ∀r∈t.fl,r∈B)(hB:B.length<=150)(hw:w<=1400)(hv:v<=1400)(hn:n<=500)(hm:m<=500):Mj s t:=by
 have h1:=(hs.fin hB).Ma (by decide) (by omega) (by omega)
 have h2:=(ht.fin hB).Ma (by decide) (by omega) (by omega)
 obtain⟨a,b,c⟩:=learn_ok hs hf hB hw;have hl:(br s t).length<=s.az.length:=List.length_filter_le _ _;have h3:=hs.az;have h4:=ht.az;have h5:=(ht.fin hB).kn;have h6:wP t.kn<=301*1400:=Nat.le_trans (U7 h5.2) (Nat.mul_le_mul h5.1 hv)
 refine⟨h1,h2,⟨h2,⟨by omega,fun x hx=>h3.2 x (fN.1 hx).1⟩,by omega,⟨a,by omega⟩, ?_, ?_⟩⟩
 · rw[kr];exact⟨a,by omega⟩
 · rw[kr]
   exact o_ h2.kn.1.1 a.1 (by have:=h5.1;omega) (by omega)
theorem BQ{s t:aI}{B:List ax}{w v n m:Nat}(hs:Sm s B w n)(ht:Sm t B v m)(hf: ∀r∈t.fl,r∈B)(h:lh s t):Sm (aS s t) B (16+(v+(16+w))) (m+n):=by
 have hR:=uH hs.right ht.right h;obtain⟨h1,h2⟩:=FH hs hf
 have e: ∀x,setAt (t.kn++bm s t) x=setAt t.kn x++bj s.kn t.fl x:=fun x=>by
  rw[iA]
  unfold bm;rw[ez (kK _ _)]
 have zi: ∀x,cL (aS s t).kn x=dG (setAt t.kn x++bj s.kn t.fl x):=fun x=>by
  show cL (aT (cL (t.kn++bm s t))) x=_;rw[ED (yo _) (eQ _)]
  unfold cL;rw[e]
 have fS: ∀x,setAt (aS s t).kn x=dG (setAt t.kn x++bj s.kn t.fl x):=fun x=>by
  show setAt (aT (cL (t.kn++bm s t))) x=_;rw[ez (yo _)]
  unfold cL;rw[e]
 refine⟨hR,ht.fl,⟨?_,fun y hy=> ?_⟩,fun x e' hx=> ?_,fun x=> ?_⟩
 · have:=iq (t.az++br s t)
   rw[List.length_append]at this;have hl:(br s t).length<=s.az.length:=List.length_filter_le _ _;have:=hs.az.1;have:=ht.az.1;show(aC (t.az++br s t)).length<=m+n;omega
 · rcases List.mem_append.1 (cy hy).1 with hy|hy
   · exact ht.az.2 y hy
   · exact hs.az.2 y (fN.1 hy).1
 · refine sB (eQ _ _) (eQ _ _) fun n hn c=> ?_
   have q1:=congrArg (fun z=>hk z n c) (ht.base x e' hx)
   simp only[mz hn]at q1;rw[zi,zi,DW hn,DW hn,kq,kq,q1,h1 x e' hx]
 · rw[fS]
   have q1:=En (setAt t.kn x++bj s.kn t.fl x)
   rw[dZ]at q1;have q2:=h2 x;have q3:=ht.wt x;omega
def Tj:an:=HW.add 19 (entry (fun(v:aI×List It)=>[v.1.enc,.ab (v.2.map It.enc)]) (fun v=>il v.1/\v.2.length<=1000000/\mM v.2) (fun v=> .bool (bU v.1 v.2)))
theorem X25l_ok:ag Tryz.prog Tj:=Mm.bN Tryz.func19 (by kernel_rfl) (by kernel_rfl) fun v h=>yQ v.1 v.2 h.1 ⟨Nat.le_trans h.2.1 (by decide),h.2.2⟩
@[go_sem] theorem X25l_old{g:FuncId}{xs:List A}(h:g≠19):Tj.f g xs=HW.f g xs:=an.ak h
theorem s6(v:aI×List It)(h:il v.1/\v.2.length<=1000000/\mM v.2):Tj.f 19 [v.1.enc,.ab (v.2.map It.enc)]=some (.bool (bU v.1 v.2)):=an.ao (Γ:=HW) (fun i j h=>by simpa[Prod.ext_iff,and_assoc]using h) v h
def Tk:an:=Tj.add 20 (entry (fun(v:aI×List It)=>[v.1.enc,.ab (v.2.map It.enc)]) (fun v=>il v.1/\v.2.length<=1000000/\mM v.2) (fun v=> .bool (bU v.1 v.2)))
theorem X25m_ok:ag Tryz.prog Tk:=X25l_ok.bN Tryz.func20 (by kernel_rfl) (by kernel_rfl) fun v h=>HX v.1 v.2 h.1 ⟨Nat.le_trans h.2.1 (by decide),h.2.2⟩
@[go_sem] theorem X25m_old{g:FuncId}{xs:List A}(h:g≠20):Tk.f g xs=Tj.f g xs:=an.ak h
theorem yS(v:aI×List It)(h:il v.1/\v.2.length<=1000000/\mM v.2):Tk.f 20 [v.1.enc,.ab (v.2.map It.enc)]=some (.bool (bU v.1 v.2)):=an.ao (Γ:=Tj) (fun i j h=>by simpa[Prod.ext_iff,and_assoc]using h) v h
def Mo:an:=Tk.add 18 (entry (fun(v:aI×aI)=>[v.1.enc,v.2.enc]) (fun v=>(v.1.fl.length<=1000000/\v.2.fl.length<=1000000)/\(v.1.az.length<=1000000/\v.2.az.length<=1000000)/\cV v.1.kn/\cV v.2.kn) (fun v=> .bool (zU v.1 v.2)))
theorem X25n_ok:ag Tryz.prog Mo:=X25m_ok.bN Tryz.func18 (by kernel_rfl) (by kernel_rfl) fun v h=>Md v.1 v.2 h
@[go_sem] theorem X25n_old{g:FuncId}{xs:List A}(h:g≠18):Mo.f g xs=Tk.f g xs:=an.ak h
theorem Bo(v:aI×aI)(h:(v.1.fl.length<=1000000/\v.2.fl.length<=1000000)/\(v.1.az.length<=1000000/\v.2.az.length<=1000000)/\cV v.1.kn/\cV v.2.kn):Mo.f 18 [v.1.enc,v.2.enc]=some (.bool (zU v.1 v.2)):=an.ao (Γ:=Tk) (fun i j h=>by simpa[Prod.ext_iff,and_assoc]using h) v h
def Bp:an:=Mo.add 14 (entry (fun(s:aI)=>[s.enc]) (fun s=>(s.fl.length<=9223372036854775807/\s.az.length<=9223372036854775807)/\s.kn.length<=9223372036854775807/\ ∀p∈s.kn,p.s.length<=9223372036854775807) (fun s=> .bool (kL s)))
theorem wJ:ag Tryz.prog Bp:=X25n_ok.bN Tryz.func14 (by kernel_rfl) (by kernel_rfl) fun s h=>wo s h.1.1 h.1.2 h.2.1 h.2.2
@[go_sem] theorem X25o_old{g:FuncId}{xs:List A}(h:g≠14):Bp.f g xs=Mo.f g xs:=an.ak h
@[go_sem] theorem X25o_s:Bp.pl Mo:=⟨fun _=>rfl,fun _=>rfl,rfl,fun _=>rfl,rfl,fun _=>rfl,rfl⟩
theorem Bq(s:aI)(h:(s.fl.length<=9223372036854775807/\s.az.length<=9223372036854775807)/\s.kn.length<=9223372036854775807/\ ∀p∈s.kn,p.s.length<=9223372036854775807):Bp.f 14 [s.enc]=some (.bool (kL s)):=an.ao (Γ:=Mo) (fun i j h=>by simpa[Prod.ext_iff,and_assoc]using h) s h
theorem BR{t:aI}{l:List It}(h:il t/\l.length<=1000000/\mM l):Tj.f 19 [.agg [.int .i64 t.id,.ab (t.fl.map ax.enc),.ab (t.az.map It.enc),.ab (t.kn.map Pc.enc),.int .i64 t.ct],.ab (l.map It.enc)]=some (.bool (bU t l)):=s6 (t,l) h
theorem mD{t:aI}{l:List It}(h:il t/\l.length<=1000000/\mM l):Tk.f 20 [.agg [.int .i64 t.id,.ab (t.fl.map ax.enc),.ab (t.az.map It.enc),.ab (t.kn.map Pc.enc),.int .i64 t.ct],.ab (l.map It.enc)]=some (.bool (bU t l)):=yS (t,l) h
theorem nh{s:aI}(h:(s.fl.length<=9223372036854775807/\s.az.length<=9223372036854775807)/\s.kn.length<=9223372036854775807/\ ∀p∈s.kn,p.s.length<=9223372036854775807):Bp.f 14 [.agg [.int .i64 s.id,.ab (s.fl.map ax.enc),.ab (s.az.map It.enc),.ab (s.kn.map Pc.enc),.int .i64 s.ct]]=some (.bool (kL s)):=Bq s h
theorem e_Same{s t:aI}(h:(s.fl.length<=1000000/\t.fl.length<=1000000)/\(s.az.length<=1000000/\t.az.length<=1000000)/\cV s.kn/\cV t.kn):Mo.f 18 [.agg [.int .i64 s.id,.ab (s.fl.map ax.enc),.ab (s.az.map It.enc),.ab (s.kn.map Pc.enc),.int .i64 s.ct],.agg [.int .i64 t.id,.ab (t.fl.map ax.enc),.ab (t.az.map It.enc),.ab (t.kn.map Pc.enc),.int .i64 t.ct]]=some (.bool (zU s t)):=Bo (s,t) h
theorem Mp{s:aI}{N w n:Nat}(h:s=cm\/ji s N w n)(hN:N<=400)(hw:w<=2200)(hn:n<=1000):Mo.f 18 [.agg [.int .i64 s.id,.ab (s.fl.map ax.enc),.ab (s.az.map It.enc),.ab (s.kn.map Pc.enc),.int .i64 s.ct],.agg [.int .i64 s.id,.ab (s.fl.map ax.enc),.ab (s.az.map It.enc),.ab (s.kn.map Pc.enc),.int .i64 s.ct]]=some (.bool true):=by
 have e:zU s s=true:=Xm.2 rfl;rw[<-e]
 rcases h with rfl|h
 · exact e_Same ⟨by decide,by decide,⟨⟨by decide,by decide⟩,fun p hp=>absurd hp List.not_mem_nil⟩,⟨⟨by decide,by decide⟩,fun p hp=>absurd hp List.not_mem_nil⟩⟩
 · have h1:=h.fl.1
   have h2:=h.az.1;have h3:=(h.cV hN hw).1;exact e_Same ⟨⟨by omega,by omega⟩,⟨by omega,by omega⟩,h3,h3⟩
def jU(s t:aI):Int:=if(aU s&&aU t)=true then eI t (br s t) (bm s t)else 41
def lA(s t:aI):aI:=if(aU s&&aU t)=true then pD t (br s t) (bm s t)else cm
theorem kO(s t:aI):ng s t= .cD [.agg [.int .i64 (lA s t).id,.ab ((lA s t).fl.map ax.enc),.ab ((lA s t).az.map It.enc),.ab ((lA s t).kn.map Pc.enc),.int .i64 (lA s t).ct],.int .i64 (jU s t)]:=by unfold ng lA jU;split<;>rfl
theorem rK{s t:aI}(hs:bq s)(ht:bq t):jU s t=eI t (br s t) (bm s t)/\(jU s t=0->lA s t=aS s t):=by
 unfold jU lA;rw[(bQ s).2 hs,(bQ t).2 ht,Bool.and_self,if_pos rfl,if_pos rfl]
 exact⟨rfl,yR⟩
theorem Br:ah Tryz.prog Bp Tryz.f28.ntmps (Tryz.f28.body.getD .skip)=true:=by kernel_rfl
theorem FI(s t:aI)(h:Mj s t):ay Tryz.prog 28 [s.enc,t.enc] (· = .int .i64 (jU s t)):=by
 refine aa wJ mixed Tryz.func28 rfl (Nat.le_of_ble_eq_true rfl) Br ?_;unfold Tryz.f28;have g:=Vd h;rw[kO]at g;simp only[aI.enc,aI.cells]
 generalize lA s t=u at*;generalize jU s t=c at*;simp-implicitDefEqProofs (disch:=(first|omega|decide)) only[go_sem,↓reduceIte,seval,g]
theorem Bs:ah Tryz.prog Bp Tryz.f31.ntmps (Tryz.f31.body.getD .skip)=true:=by kernel_rfl
theorem FJ(s t:aI)(l:List It)(hl:l.length<=1000000/\mM l):ay Tryz.prog 31 [s.enc,t.enc,.ab (l.map It.enc)] (· = .bool (l.all aH)):=by
 refine aa wJ mixed Tryz.func31 rfl (Nat.le_of_ble_eq_true rfl) Bs ?_;unfold Tryz.f31;simp only[aI.enc,aI.cells]
 simp-implicitDefEqProofs (disch:=(first|omega|decide)) only[go_sem,↓reduceIte,seval,List.length_map]
 refine ar [9,10] (ι:={i:Nat//i<=l.length/\l.all aH=(l.drop i).all aH}) (fun p=>[(11,.int .i64 p.1)]) (fun _=>[]) (fun p=>l.length-p.1) ⟨0,by omega,rfl⟩ (Nat.zero_le _) ?_ ?_
 · simp-implicitDefEqProofs (disch:=(first|omega|decide)) only[go_sem,↓reduceIte,seval]
   try rfl
 · rintro⟨i,hi,hd⟩
   simp only;by_cases aw:i<l.length
   · have ae:(i:Int)<(l.length:Int):=by omega
     have ei:=cN aw;have sS:=hl.2 _ (List.getElem_mem aw)
     rw[List.drop_eq_getElem_cons aw,List.all_cons]at hd;generalize l[i]=x at*;have g1:=wz sS;cases k1:aH x with
     |false=>
      rw[k1]at g1 hd;rw[Bool.false_and]at hd;rw[hd]
      simp-implicitDefEqProofs (disch:=(first|omega|decide)) only[go_sem,↓reduceIte,seval,ae,ei,g1,List.length_map]
     |true=>
      rw[k1]at g1 hd;rw[Bool.true_and]at hd;simp-implicitDefEqProofs (disch:=(first|omega|decide)) only[go_sem,↓reduceIte,seval,ae,ei,g1,wrap_i64,List.length_map]
      exact⟨⟨i+1,aw,hd⟩,by simp,by show l.length-(i+1)<l.length-i;omega⟩
   · have ae: ¬(i:Int)<(l.length:Int):=by omega
     rw[List.drop_of_length_le (by omega)]at hd;have hd:l.all aH=true:=hd;rw[hd]
     simp-implicitDefEqProofs (disch:=(first|omega|decide)) only[go_sem,↓reduceIte,seval,ae,List.length_map]
theorem HY:ah Tryz.prog Bp Tryz.f34.ntmps (Tryz.f34.body.getD .skip)=true:=by kernel_rfl
theorem Mq(s:aI)(x:It)(hx:x.key.length<=9223372036854775807/\aN ⟨x.rep,x.bu⟩=true)(h:S5 s [x] (cB x.key [⟨x.rep,x.bu⟩])):ay Tryz.prog 34 [s.enc,x.enc] (· = .int .i64 (eI s [x] (cB x.key [⟨x.rep,x.bu⟩]))):=by
 refine aa wJ mixed Tryz.func34 rfl (Nat.le_of_ble_eq_true rfl) HY ?_;unfold Tryz.f34;have g1:=y_Ver hx;have g2:=Vc h;obtain⟨u,hu⟩: ∃u:aI,pD s [x] (cB x.key [⟨x.rep,x.bu⟩])=u:=⟨_,rfl⟩
 unfold iV at g2;rw[hu]at g2;simp only[aI.enc,aI.cells,It.enc,List.map_cons,List.map_nil]at*;generalize eI s [x] (cB x.key [⟨x.rep,x.bu⟩])=c at*;generalize(cB x.key [⟨x.rep,x.bu⟩]).map Pc.enc=O at*;simp-implicitDefEqProofs (disch:=(first|omega|decide)) only[go_sem,↓reduceIte,seval,g1,g2]
def wK(x y:It):Bool:=x.key==y.key&&(x.bk==y.bk&&((x.rep==y.rep&&x.bu==y.bu)&& !(x.prio==y.prio&&(x.dead==y.dead&&x.body==y.body))))
def zW(s t:aI):Bool:=s.az.any fun x=>t.az.any fun y=>wK x y
theorem tied_not{s t:aI}(h:zW s t=false){x y:It}(hx:x∈s.az)(hy:y∈t.az)(h1:x.key=y.key)(h2:x.bk=y.bk)(h3:x.rep=y.rep)(h4:x.bu=y.bu):x=y:=by unfold zW at h;rw[List.any_eq_false]at h;have h:=h x hx;simp only[List.any_eq_true,not_exists,not_and]at h;have h:=h y hy;unfold wK at h;obtain⟨a,b,c,d,e,f,g⟩:=x;obtain⟨a',b',c',d',e',f',g'⟩:=y;simp only at h1 h2 h3 h4;subst h1;subst h2;subst h3;subst h4;simp at h;simp[h]
theorem HZ:ah Tryz.prog Bp Tryz.f35.ntmps (Tryz.f35.body.getD .skip)=true:=by kernel_rfl
theorem Mr(s t:aI)(hs:s.az.length<=1000000)(ht:t.az.length<=1000000):ay Tryz.prog 35 [s.enc,t.enc] (· = .bool (zW s t)):=by
 refine aa wJ mixed Tryz.func35 rfl (Nat.le_of_ble_eq_true rfl) HZ ?_;unfold Tryz.f35;simp only[aI.enc,aI.cells]
 have hT:zW s t=s.az.any fun x=>t.az.any fun y=>wK x y:=rfl;rw[hT]
 generalize s.az=l at*;generalize t.az=m at*;simp-implicitDefEqProofs (disch:=(first|omega|decide)) only[go_sem,↓reduceIte,seval,List.length_map]
 refine ar [2,3,10,11] (ι:={i:Nat//i<=l.length/\(l.any fun x=>m.any fun y=>wK x y)=((l.drop i).any fun x=>m.any fun y=>wK x y)}) (fun p=>[(12,.int .i64 p.1)]) (fun _=>[]) (fun p=>l.length-p.1) ⟨0,by omega,rfl⟩ (Nat.zero_le _) ?_ ?_
 · simp-implicitDefEqProofs (disch:=(first|omega|decide)) only[go_sem,↓reduceIte,seval]
   try rfl
 · rintro⟨i,hi,hd⟩
   simp only;by_cases aw:i<l.length
   · have ae:(i:Int)<(l.length:Int):=by omega
     have ei:=cN aw;rw[List.drop_eq_getElem_cons aw,List.any_cons]at hd;generalize l[i]=x at*;simp-implicitDefEqProofs (disch:=(first|omega|decide)) only[go_sem,↓reduceIte,seval,ae,ei,List.length_map]
     refine ar [2,3,6,10,11,12,17,18] (ι:={q:Nat//q<=m.length/\(m.any fun y=>wK x y)=((m.drop q).any fun y=>wK x y)}) (fun p=>[(19,.int .i64 p.1)]) (fun _=>[]) (fun p=>m.length-p.1) ⟨0,by omega,rfl⟩ (Nat.zero_le _) ?_ ?_
     · simp-implicitDefEqProofs (disch:=(first|omega|decide)) only[go_sem,↓reduceIte,seval]
       try rfl
     · rintro⟨q,hq,zS⟩
       simp only;by_cases hlq:q<m.length
       · have wv:(q:Int)<(m.length:Int):=by omega
         have eq':=cN hlq;rw[List.drop_eq_getElem_cons hlq,List.any_cons]at zS;generalize m[q]=y at*;have dP:wK x y=false-> ∃j:{q:Nat//q<=m.length/\(m.any fun y=>wK x y)=((m.drop q).any fun y=>wK x y)},(q:Int)+1=(j.1:Int)/\m.length-j.1<m.length-q:=fun h=>⟨⟨q+1,hlq,by rw[zS,h,Bool.false_or]⟩,by simp,by show m.length-(q+1)<m.length-q;omega⟩
         unfold wK at dP zS;cases h1:x.key==y.key with
         |false=>
          have dP:=dP (by rw[h1];rfl)
          simp-implicitDefEqProofs (disch:=(first|omega|decide)) only[go_sem,↓reduceIte,seval,wv,eq',h1,wrap_i64,List.length_map]
          exact dP
         |true=>
          cases h2:x.bk==y.bk with
          |false=>
           have dP:=dP (by rw[h1,h2];rfl)
           simp-implicitDefEqProofs (disch:=(first|omega|decide)) only[go_sem,↓reduceIte,seval,wv,eq',h1,h2,wrap_i64,List.length_map]
           exact dP
          |true=>
           cases h3:x.rep==y.rep with
           |false=>
              have dP:=dP (by rw[h1,h2,h3];rfl)
              simp-implicitDefEqProofs (disch:=(first|omega|decide)) only[go_sem,↓reduceIte,seval,wv,eq',h1,h2,h3,wrap_i64,List.length_map]
              exact dP
           |true=>
              cases h4:x.bu==y.bu with
              |false=>
               have dP:=dP (by rw[h1,h2,h3,h4];rfl)
               simp-implicitDefEqProofs (disch:=(first|omega|decide)) only[go_sem,↓reduceIte,seval,wv,eq',h1,h2,h3,h4,wrap_i64,List.length_map]
               exact dP
              |true=>
               cases h5:(x.prio==y.prio&&(x.dead==y.dead&&x.body==y.body))with
               |true=>
                have dP:=dP (by rw[h1,h2,h3,h4,h5];rfl)
                simp-implicitDefEqProofs (disch:=(first|omega|decide)) only[go_sem,↓reduceIte,seval,wv,eq',h1,h2,h3,h4,h5,wrap_i64,List.length_map]
                exact dP
               |false=>
                rw[h1,h2,h3,h4,h5]at zS;have zS:(m.any fun y=>wK x y)=true:=zS;rw[zS,Bool.true_or]at hd;rw[hd]
                simp-implicitDefEqProofs (disch:=(first|omega|decide)) only[go_sem,↓reduceIte,seval,wv,eq',h1,h2,h3,h4,h5,List.length_map]
       · have wv: ¬(q:Int)<(m.length:Int):=by omega
         rw[List.drop_of_length_le (by omega)]at zS;have zS:(m.any fun y=>wK x y)=false:=zS;rw[zS,Bool.false_or]at hd;simp-implicitDefEqProofs (disch:=(first|omega|decide)) only[go_sem,↓reduceIte,seval,wv,wrap_i64,List.length_map]
         exact⟨⟨i+1,aw,hd⟩,by simp,by show l.length-(i+1)<l.length-i;omega⟩
   · have ae: ¬(i:Int)<(l.length:Int):=by omega
     rw[List.drop_of_length_le (by omega)]at hd;have hd:(l.any fun x=>m.any fun y=>wK x y)=false:=hd;rw[hd]
     simp-implicitDefEqProofs (disch:=(first|omega|decide)) only[go_sem,↓reduceIte,seval,ae,List.length_map]
def mE(s t:aI):List ax:=s.kn.map (·.r)++(t.kn.map (·.r)++(s.fl++t.fl))
theorem od{s t:aI}(hs:s.kn.length<=24/\s.fl.length<=8)(ht:t.kn.length<=24/\t.fl.length<=8):(mE s t).length<=64:=by unfold mE;simp only[List.length_append,List.length_map];omega
theorem rL{s t:aI}{N w n M v m:Nat}(hs:ji s N w n)(ht:ji t M v m):Sm s (mE s t) w n/\Sm t (mE s t) v m/\(∀r∈s.fl,r∈mE s t)/\ ∀r∈t.fl,r∈mE s t:=by refine⟨(sm_of hs).mono (fun r hr=> ?_) (Nat.le_refl _) (Nat.le_refl _),(sm_of ht).mono (fun r hr=> ?_) (Nat.le_refl _) (Nat.le_refl _),fun r hr=> ?_,fun r hr=> ?_⟩<;>unfold mE<;>simp only[List.mem_append]<;>simp[hr]
theorem rM{s t:aI}(hs:OkS s)(ht:OkS t):Mj s t:=by
 have h1:=hs.toR;have h2:=ht.toR;have he:=je (LL:=[s.kn,jg t.fl []])
 simp only[mL,List.map_cons,List.map_nil,List.sum_cons,List.sum_nil]at he;have e:(jg t.fl []).length=t.fl.length:=by simp[jg]
 have k1:=hs.kn;have k2:=ht.kn;have f2:=ht.fl;have i1:=hs.az;have i2:=ht.az;have hl:(br s t).length<=s.az.length:=List.length_filter_le _ _;obtain⟨a,b,c,d⟩:=FG (edg3 s.kn t.fl) (B:=6544) (N:=65) (fun x=>by have:=rest_w (k:=s.kn) (l:=t.fl) x;omega) (by omega) (by decide) (by decide) (by decide)
 refine⟨h1,h2,⟨h2,⟨by omega,fun x hx=>i1.2 x (fN.1 hx).1⟩,by omega,⟨a,by have:(bm s t).length<=65:=b;omega⟩, ?_, ?_⟩⟩
 · rw[kr];exact⟨a,by have:(bm s t).length<=65:=b;omega⟩
 · rw[kr]
   exact o_ h2.kn.1.1 a.1 (by have:(bm s t).length<=65:=b;omega) (by have:wP (bm s t)<=65*6544:=d;omega)
theorem sync_out{s t:aI}(hs:OkS s)(ht:OkS t)(ws:U4 s.kn 272)(wt:U4 t.kn 272):lA s t=cm\/ji (lA s t) 129 576 48:=by
 unfold lA;split
 · rename_i hb
   rw[Bool.and_eq_true]at hb;have hS:=(bQ s).1 hb.1;have hT:=(bQ t).1 hb.2;by_cases h0:eI t (br s t) (bm s t)=0
   · right
     rw[yR h0]
     have fs:ji s 24 272 24:=⟨hS,hs.fl,hs.az,hs.kn.1,ws⟩
     have ft:ji t 24 272 24:=⟨hT,ht.fl,ht.az,ht.kn.1,wt⟩
     obtain⟨b1,b2,_,b4⟩:=rL fs ft;have hB:=od (s:=s) (t:=t) ⟨hs.kn.1,hs.fl.1⟩ ⟨ht.kn.1,ht.fl.1⟩
     exact(BQ b1 b2 b4 ((n_ hS hT).1 h0)).fin hB
   · left;unfold pD;rw[if_neg h0]
 · exact .inl rfl
def Ve:aI:=⟨1,[Xs],[],[],0⟩
def H0:aI:=dh Ve (cb Ve (lS Ve [97] 0 [120]))
def pE:aI:=dh H0 (cb H0 (lS H0 [98] 0 [121]))
def BS:aI:=⟨2,[⟨[98],[],true⟩],[],[],0⟩
theorem Vf{id:Int}{F:List ax}(h1:1<=id/\id<=16)(h2:aP F=true)(h3:F.length<=8/\dB F):ji ⟨id,F,[],[],0⟩ 0 0 0:=by
 refine⟨⟨h1,⟨by show(0:Int)<=0;omega,by show(0:Int)<=_;omega⟩,by show(0:Nat)<=_;omega,h2,List.Pairwise.nil,(fun x hx=>absurd hx List.not_mem_nil),rfl,(fun x n hn c hc=> ?_),(fun x c hc=> ?_),List.Pairwise.nil,(fun x hx=>absurd hx List.not_mem_nil)⟩,h3,⟨Nat.le_refl 0,(fun x hx=>absurd hx List.not_mem_nil)⟩,⟨Nat.le_refl 0,(fun p hp=>absurd hp List.not_mem_nil)⟩⟩
 · obtain⟨p,hp,_⟩:=pe.1 hc
   cases hp
 · obtain⟨p,hp,_⟩:=pe.1 hc
   cases hp
theorem BT:ji Ve 0 0 0:=Vf (by decide) (by decide) ⟨by decide,fun r hr=>by obtain rfl:=List.mem_singleton.1 hr;simp[Xs,ax.ok]⟩
theorem sG:ji BS 0 0 0:=Vf (by decide) (by decide) ⟨by decide,fun r hr=>by obtain rfl:=List.mem_singleton.1 hr;simp[ax.ok]⟩
theorem ax0_C:bp Ve [97] 0 [120]=0:=by have hR:=(bQ Ve).2 BT.right;unfold bp;rw[if_neg (by rw[hR];simp),if_neg (by decide),if_neg (by show¬aj [Xs] [97]=false;rw[hasAll];simp),if_neg (by decide),if_neg (by decide)]
theorem BU:ji H0 3 48 1:=Ji BT (by decide) (by decide) ax0_C
theorem Ms:H0.az=[⟨[97],1,1,1,0,false,[120]⟩]:=by
 have h:L8 (cb Ve (lS Ve [97] 0 [120])) []=aC [cb Ve (lS Ve [97] 0 [120])]:=uF List.Pairwise.nil (fun y hy=>by cases hy) (by decide) fun y hy=>by cases hy
 have e:H0.az=aC [cb Ve (lS Ve [97] 0 [120])]:=rfl;rw[e,<-h];rfl
theorem ax1_C:bp H0 [98] 0 [121]=0:=by
 have hR:=(bQ H0).2 BU.right;unfold bp;rw[if_neg (by rw[hR];simp),if_neg (by decide),if_neg (by show¬aj [Xs] [98]=false;rw[hasAll];simp)]
 rw[Ms]
 have e:H0.ct=1:=rfl;rw[e,if_neg (by decide),if_neg (by decide)]
theorem kA:ji pE 9 96 2:=Ji BU (by decide) (by decide) ax1_C
theorem ax2_its:pE.az=[⟨[97],1,1,1,0,false,[120]⟩,⟨[98],1,2,1,0,false,[121]⟩]:=by
 have hx:cb H0 (lS H0 [98] 0 [121])=⟨[98],1,2,1,0,false,[121]⟩:=by unfold cb lS;rw[Ms];rfl
 have h:L8 ⟨[98],1,2,1,0,false,[121]⟩ [⟨[97],1,1,1,0,false,[120]⟩]=aC [⟨[98],1,2,1,0,false,[121]⟩,⟨[97],1,1,1,0,false,[120]⟩]:=uF (by simp) (fun y hy=>by obtain rfl:=List.mem_singleton.1 hy;decide) (by decide) fun y hy e=>by obtain rfl:=List.mem_singleton.1 hy;cases e
 have e:pE.az=aC (cb H0 (lS H0 [98] 0 [121])::H0.az):=rfl;rw[e,hx,Ms,<-h];rfl
theorem Mt:br pE BS=[⟨[98],1,2,1,0,false,[121]⟩]:=by
 unfold br;rw[ax2_its]
 rfl
theorem FK:aC ([]++[⟨[98],1,2,1,0,false,[121]⟩])=[⟨[98],1,2,1,0,false,[121]⟩]:=uG (fun x hx=>by obtain rfl:=List.mem_singleton.1 hx;decide) (by simp)
theorem ax_ok:lh pE BS:=by
 refine⟨fun x c hc=> ?_, ?_, ?_⟩
 · have hn:bE (2:Int)=true:=by decide
   have hc:hk (setAt (bm pE BS) x) 2 c=true:=hc;rw[kN hn,Bool.and_eq_true]at hc;have h2:hk (setAt (aT (cL (H0.kn++cB [98] [⟨1,2⟩]))) x) 2 c=true:=hc.2;have h1:hk (setAt H0.kn x) 2 c=true\/hk (setAt (cB [98] [⟨1,2⟩]) x) 2 c=true:=by rw[dA hn,Bool.or_eq_true]at h2;exact h2
   rcases h1 with h1|h1
   · have h1:hk (setAt (aT (cL ([]++cB [97] [⟨1,1⟩]))) x) 2 c=true:=h1
     rw[dA hn,Bool.or_eq_true]at h1;rcases h1 with h1|h1
     · obtain⟨p,hp,_⟩:=pe.1 h1;cases hp
     · have:=((E7 (by decide) (by decide) hn).1 h1).2.1
       cases this
   · have:=((E7 (by decide) (by decide) hn).1 h1).2.1
     cases this
 · rw[Mt]
   show(aC ([]++_)).Pairwise _;rw[FK];simp
 · rw[Mt]
   show(aC ([]++_)).length<=4096;rw[FK];decide
theorem ax_its:(aS pE BS).az=[⟨[98],1,2,1,0,false,[121]⟩]:=by show aC ([]++br pE BS)=_;rw[Mt];exact FK
theorem Vg:eI BS (br pE BS) (bm pE BS)=0:=(n_ kA.right sG.right).2 ax_ok
theorem ax_fin:ji (aS pE BS) 129 176 4:=by
 obtain⟨b1,b2,_,b4⟩:=rL kA sG;have h:=(BQ b1 b2 b4 ax_ok).mono (C:=mE pE BS) (fun r hr=>hr) (v:=176) (m:=4) (by decide) (by decide)
 exact h.fin (m:=64) (od ⟨by have:=kA.kn.1;omega,by decide⟩ ⟨by decide,by decide⟩)
theorem ax_sound:bU (aS pE BS) pE.az=true:=by
 refine(iv ax_fin.right).2 (FA kA.right sG.right fun x hx hr hf FY=> ?_)
 rw[show bG BS.kn x.key x.rep x.bu=false from rfl]at FY;cases FY
structure H2(s:aI):Prop where
 fl:s.fl.length<=9223372036854775807/\dB s.fl
 az:s.az.length<=9223372036854775807/\mM s.az
 kn:s.kn.length<=9223372036854775807/\ ∀p∈s.kn,p.s.length<=9223372036854775807
theorem jw{s:aI}(h:H2 s)(hl:kL s=false):OkS s/\U4 s.kn 272:=by
 unfold kL at hl;simp only[Bool.or_eq_false_iff]at hl;have h1:=long_len hl.1.1;have h2:=yr hl.1.2;refine⟨⟨⟨by omega,h.fl.2⟩,⟨by omega,h.az.2⟩,Ps (m:=24) hl.2⟩,fun p hp=> ?_⟩
 have h3:=hl.2;unfold lx at h3;rw[Bool.or_eq_false_iff,List.any_eq_false]at h3;have:=h3.2 p hp;simp only[Ez,Bool.not_eq_true,Bool.or_eq_false_iff,decide_eq_false_iff_not]at this;obtain⟨a,b,c⟩:=this;have:=DV (m:=16) c;omega
theorem yT{x:A}(h:fits (.rows [.str,.int .i64,.int .i64,.int .i64,.int .i64,.bool,.str]) x): ∃l:List It,x= .ab (l.map It.enc)/\l.length<=maxLen/\mM l:=by
 simp only[fits]at h;obtain⟨es,rfl,hl,he⟩:=h;have ml:=kg;obtain⟨l,rfl,hk⟩:=sh (f:=It.enc) (P:=fun x=>x.ok) (es:=es) (fun e hx=>by obtain⟨ys,rfl,hy⟩:=he e hx;simp only[cI]at hy;obtain⟨y1,z1,rfl,h1,y2,z2,rfl,h2,y3,z3,rfl,h3,y4,z4,rfl,h4,y5,z5,rfl,h5,y6,z6,rfl,h6,y7,z7,rfl,h7,rfl⟩:=hy;simp only[fits]at h1 h2 h3 h4 h5 h6 h7;obtain⟨s,rfl,hs⟩:=h1;obtain⟨a,rfl,_⟩:=h2;obtain⟨b,rfl,_⟩:=h3;obtain⟨c,rfl,_⟩:=h4;obtain⟨d,rfl,_⟩:=h5;obtain⟨e,rfl⟩:=h6;obtain⟨t,rfl,ht⟩:=h7;exact⟨⟨s,a,b,c,d,e,t⟩,rfl,⟨by show s.length<=_;omega,by show t.length<=_;omega⟩⟩)
 exact⟨l,rfl,by simpa using hl,hk⟩
theorem jx{x:List A}(h:cI [.int .i64,.rows [.str,.str,.bool],.rows [.str,.int .i64,.int .i64,.int .i64,.int .i64,.bool,.str],.rows [.str,.str,.bool,.rows [.int .i64,.rows [.int .i64,.int .i64]]],.int .i64] x): ∃s:aI,x=s.cells/\H2 s:=by simp only[cI]at h;have ml:=kg;obtain⟨y1,z1,rfl,h1,y2,z2,rfl,h2,y3,z3,rfl,h3,y4,z4,rfl,h4,y5,z5,rfl,h5,rfl⟩:=h;simp only[fits]at h1 h5;obtain⟨id,rfl,_⟩:=h1;obtain⟨ct,rfl,_⟩:=h5;obtain⟨F,rfl,f1,f2⟩:=WY h2;obtain⟨I,rfl,i1,i2⟩:=yT h3;obtain⟨K,rfl,k1,k2⟩:=fits_pcs h4;exact⟨⟨id,F,I,K,ct⟩,rfl,⟨⟨by show F.length<=_;omega,f2⟩,⟨by show I.length<=_;omega,i2⟩,⟨by show K.length<=_;omega,fun p hp=>by have:=k2 p hp;omega⟩⟩⟩
def Tl:an:=Bp.add 28 (entry (fun(v:aI×aI)=>[v.1.enc,v.2.enc]) (fun v=>Mj v.1 v.2) (fun v=> .int .i64 (jU v.1 v.2)))
theorem X25p_ok:ag Tryz.prog Tl:=wJ.bN Tryz.func28 (by kernel_rfl) (by kernel_rfl) fun v h=>FI v.1 v.2 h
@[go_sem] theorem X25p_old{g:FuncId}{xs:List A}(h:g≠28):Tl.f g xs=Bp.f g xs:=an.ak h
theorem wL(v:aI×aI)(h:Mj v.1 v.2):Tl.f 28 [v.1.enc,v.2.enc]=some (.int .i64 (jU v.1 v.2)):=an.ao (Γ:=Bp) (fun i j h=>by simpa[Prod.ext_iff,and_assoc]using h) v h
def Tm:an:=Tl.add 31 (entry (fun(v:aI×aI×List It)=>[v.1.enc,v.2.1.enc,.ab (v.2.2.map It.enc)]) (fun v=>v.2.2.length<=1000000/\mM v.2.2) (fun v=> .bool (v.2.2.all aH)))
theorem X25q_ok:ag Tryz.prog Tm:=X25p_ok.bN Tryz.func31 (by kernel_rfl) (by kernel_rfl) fun v h=>FJ v.1 v.2.1 v.2.2 h
@[go_sem] theorem X25q_old{g:FuncId}{xs:List A}(h:g≠31):Tm.f g xs=Tl.f g xs:=an.ak h
theorem wM(v:aI×aI×List It)(h:v.2.2.length<=1000000/\mM v.2.2):Tm.f 31 [v.1.enc,v.2.1.enc,.ab (v.2.2.map It.enc)]=some (.bool (v.2.2.all aH)):=an.ao (Γ:=Tl) (fun i j h=>by simpa[Prod.ext_iff,and_assoc]using h) v h
def Mu:an:=Tm.add 34 (entry (fun(v:aI×It)=>[v.1.enc,v.2.enc]) (fun v=>(v.2.key.length<=9223372036854775807/\aN ⟨v.2.rep,v.2.bu⟩=true)/\S5 v.1 [v.2] (cB v.2.key [⟨v.2.rep,v.2.bu⟩])) (fun v=> .int .i64 (eI v.1 [v.2] (cB v.2.key [⟨v.2.rep,v.2.bu⟩]))))
theorem X25r_ok:ag Tryz.prog Mu:=X25q_ok.bN Tryz.func34 (by kernel_rfl) (by kernel_rfl) fun v h=>Mq v.1 v.2 h.1 h.2
@[go_sem] theorem X25r_old{g:FuncId}{xs:List A}(h:g≠34):Mu.f g xs=Tm.f g xs:=an.ak h
theorem Bt(v:aI×It)(h:(v.2.key.length<=9223372036854775807/\aN ⟨v.2.rep,v.2.bu⟩=true)/\S5 v.1 [v.2] (cB v.2.key [⟨v.2.rep,v.2.bu⟩])):Mu.f 34 [v.1.enc,v.2.enc]=some (.int .i64 (eI v.1 [v.2] (cB v.2.key [⟨v.2.rep,v.2.bu⟩]))):=an.ao (Γ:=Tm) (fun i j h=>by simpa[Prod.ext_iff,and_assoc]using h) v h
def H3:an:=Mu.add 35 (entry (fun(v:aI×aI)=>[v.1.enc,v.2.enc]) (fun v=>v.1.az.length<=1000000/\v.2.az.length<=1000000) (fun v=> .bool (zW v.1 v.2)))
theorem Vh:ag Tryz.prog H3:=X25r_ok.bN Tryz.func35 (by kernel_rfl) (by kernel_rfl) fun v h=>Mr v.1 v.2 h.1 h.2
@[go_sem] theorem X25s_old{g:FuncId}{xs:List A}(h:g≠35):H3.f g xs=Mu.f g xs:=an.ak h
@[go_sem] theorem X25s_s:H3.pl Mu:=⟨fun _=>rfl,fun _=>rfl,rfl,fun _=>rfl,rfl,fun _=>rfl,rfl⟩
theorem Bu(v:aI×aI)(h:v.1.az.length<=1000000/\v.2.az.length<=1000000):H3.f 35 [v.1.enc,v.2.enc]=some (.bool (zW v.1 v.2)):=an.ao (Γ:=Mu) (fun i j h=>by simpa[Prod.ext_iff,and_assoc]using h) v h
theorem wN{s t:aI}(h:Mj s t):Tl.f 28 [.agg [.int .i64 s.id,.ab (s.fl.map ax.enc),.ab (s.az.map It.enc),.ab (s.kn.map Pc.enc),.int .i64 s.ct],.agg [.int .i64 t.id,.ab (t.fl.map ax.enc),.ab (t.az.map It.enc),.ab (t.kn.map Pc.enc),.int .i64 t.ct]]=some (.int .i64 (jU s t)):=wL (s,t) h
theorem e_within{s t:aI}{l:List It}(h:l.length<=1000000/\mM l):Tm.f 31 [.agg [.int .i64 s.id,.ab (s.fl.map ax.enc),.ab (s.az.map It.enc),.ab (s.kn.map Pc.enc),.int .i64 s.ct],.agg [.int .i64 t.id,.ab (t.fl.map ax.enc),.ab (t.az.map It.enc),.ab (t.kn.map Pc.enc),.int .i64 t.ct],.ab (l.map It.enc)]=some (.bool (l.all aH)):=wM (s,t,l) h
theorem e_lone{s:aI}{x:It}(h:(x.key.length<=9223372036854775807/\aN ⟨x.rep,x.bu⟩=true)/\S5 s [x] (cB x.key [⟨x.rep,x.bu⟩])):Mu.f 34 [.agg [.int .i64 s.id,.ab (s.fl.map ax.enc),.ab (s.az.map It.enc),.ab (s.kn.map Pc.enc),.int .i64 s.ct],.agg [.str x.key,.int .i64 x.rep,.int .i64 x.bu,.int .i64 x.bk,.int .i64 x.prio,.bool x.dead,.str x.body]]=some (.int .i64 (eI s [x] (cB x.key [⟨x.rep,x.bu⟩]))):=Bt (s,x) h
theorem e_tied{s t:aI}(h:s.az.length<=1000000/\t.az.length<=1000000):H3.f 35 [.agg [.int .i64 s.id,.ab (s.fl.map ax.enc),.ab (s.az.map It.enc),.ab (s.kn.map Pc.enc),.int .i64 s.ct],.agg [.int .i64 t.id,.ab (t.fl.map ax.enc),.ab (t.az.map It.enc),.ab (t.kn.map Pc.enc),.int .i64 t.ct]]=some (.bool (zW s t)):=Bu (s,t) h
theorem FL:ah Tryz.prog H3 Tryz.f13.ntmps (Tryz.f13.body.getD .skip)=true:=by kernel_rfl
theorem H4:ay Tryz.prog 13 [] (· = .bool true):=by
 refine aa Vh mixed Tryz.func13 rfl (Nat.le_of_ble_eq_true rfl) FL ?_;unfold Tryz.f13;have w1:lg Ve [97] 0 [120]= .cD [H0.enc,.int .i64 0]:=by unfold lg Fp;rw[ax0_C,if_pos rfl];rfl
 have w2:lg H0 [98] 0 [121]= .cD [pE.enc,.int .i64 0]:=by unfold lg Fp;rw[ax1_C,if_pos rfl];rfl
 have g1:L3.f 61 [.agg [.int .i64 1,.ab [.agg [.str [],.str [],.bool true]],.ab [],.ab [],.int .i64 0],.str [97],.int .i64 0,.str [120]]=some (.cD [H0.enc,.int .i64 0]):=by
  have:=UU (s:=Ve) (k:=[97]) (prio:=0) (body:=[120]) ⟨⟨BT.Ma (by decide) (by decide) (by decide),fun _=>BT.okPut (by decide) (by decide) (by decide) ⟨by decide,by decide⟩⟩,by decide,by decide⟩
  rw[w1]at this;exact this
 have g2:=UU (s:=H0) (k:=[98]) (prio:=0) (body:=[121]) ⟨⟨BU.Ma (by decide) (by decide) (by decide),fun _=>BU.okPut (by decide) (by decide) (by decide) ⟨by decide,by decide⟩⟩,by decide,by decide⟩
 rw[w2]at g2;obtain⟨b1,b2,_,b4⟩:=rL kA sG;have hB:=od (s:=pE) (t:=BS) ⟨by have:=kA.kn.1;omega,by decide⟩ ⟨by decide,by decide⟩
 have hX:Mj pE BS:=Mn b1 b2 b4 (by omega) (by decide) (by decide) (by decide) (by decide)
 have hU:=ax_fin.Ma (by decide) (by decide) (by decide)
 have r1:=(bQ pE).2 kA.right;have r2:=(bQ BS).2 sG.right;have g3:Ml.f 16 [.agg [.int .i64 pE.id,.ab (pE.fl.map ax.enc),.ab (pE.az.map It.enc),.ab (pE.kn.map Pc.enc),.int .i64 pE.ct],.agg [.int .i64 2,.ab [.agg [.str [98],.str [],.bool true]],.ab [],.ab [],.int .i64 0]]=some (.cD [(aS pE BS).enc,.int .i64 0]):=by have:=rI hX;rw[P9 kA.right sG.right,Vg,yR Vg]at this;exact this
 have g4:P3.f 22 [.agg [.int .i64 pE.id,.ab (pE.fl.map ax.enc),.ab (pE.az.map It.enc),.ab (pE.kn.map Pc.enc),.int .i64 pE.ct],.agg [.int .i64 2,.ab [.agg [.str [98],.str [],.bool true]],.ab [],.ab [],.int .i64 0]]=some (.ab [It.enc ⟨[98],1,2,1,0,false,[121]⟩]):=by
  have:=l4 ⟨hX.hs,hX.ht⟩
  unfold HU at this;rw[r1,r2,Bool.and_self,if_pos rfl,Mt]at this;exact this
 have g5:=BR (t:=aS pE BS) (l:=pE.az) ⟨hU,by have:=kA.az;omega,kA.az.2⟩
 rw[ax_sound,ax_its]at g5;have g3':(aS pE BS).enc= .agg [.int .i64 (aS pE BS).id,.ab ((aS pE BS).fl.map ax.enc),.ab [It.enc ⟨[98],1,2,1,0,false,[121]⟩],.ab ((aS pE BS).kn.map Pc.enc),.int .i64 (aS pE BS).ct]:=by unfold aI.enc aI.cells;rw[ax_its];rfl
 rw[g3']at g3;clear hX hU b1 b2 b4 r1 r2 g3';simp only[aI.enc,aI.cells,It.enc,List.map_cons,List.map_nil]at g1 g2 g3 g4 g5;generalize aS pE BS=u at*;generalize pE=a2 at*;generalize H0=a1 at*;simp-implicitDefEqProofs (maxSteps:=600000) (disch:=(first|omega|decide)) only[go_sem,↓reduceIte,seval,g1,g2,g3,g4,g5]
def H5:an:=H3.add 13 (entry (fun(u:Unit)=>[]) (fun u=>True) (fun u=> .bool true))
theorem wO:ag Tryz.prog H5:=Vh.bN Tryz.func13 (by kernel_rfl) (by kernel_rfl) fun u h=>H4
@[go_sem] theorem X25t_old{g:FuncId}{xs:List A}(h:g≠13):H5.f g xs=H3.f g xs:=an.ak h
@[go_sem] theorem X25t_s:H5.pl H3:=⟨fun _=>rfl,fun _=>rfl,rfl,fun _=>rfl,rfl,fun _=>rfl,rfl⟩
theorem yU(u:Unit)(h:True):H5.f 13 []=some (.bool true):=an.ao (Γ:=H3) (fun i j h=>by first|(cases i;cases j;rfl;done)|simpa[Prod.ext_iff,and_assoc]using h|(simp at h;omega)|(simp at h;exact Prod.ext h.1 (Prod.ext h.2.1 (by omega)))) u h
theorem BV:H5.f 13 []=some (.bool true):=yU () trivial
theorem Qa(l:List It)(h:l.length<=1000000):Mc.f 24 [.ab (l.map It.enc),.ab (l.map It.enc)]=some (.bool true):=by
 have:=P1 (a:=l) (b:=l) ⟨h,h⟩
 rwa [S3]at this
theorem sameP_me{k:List Pc}(h:cV k):Pm.f 26 [.ab (k.map Pc.enc),.ab (k.map Pc.enc)]=some (.bool true):=by
 have:=Ls h h
 rwa [show cZ k k=true by simp[cZ]]at this
theorem pf:ah Tryz.prog H5 Tryz.f3.ntmps (Tryz.f3.body.getD .skip)=true:=by kernel_rfl
theorem pS(s t:aI)(l:List It)(hs:H2 s)(ht:H2 t)(hl:l.length<=9223372036854775807/\mM l):ay Tryz.prog 3 [s.enc,t.enc,.ab (l.map It.enc)] (· = .bool true):=by
 refine aa wO mixed Tryz.func3 rfl (Nat.le_of_ble_eq_true rfl) pf ?_;unfold Tryz.f3;have g0:=BV;have g1:=nh (s:=s) ⟨⟨hs.fl.1,hs.az.1⟩,hs.kn⟩
 have g2:=nh (s:=t) ⟨⟨ht.fl.1,ht.az.1⟩,ht.kn⟩
 have g3:=k9 (l,20) hl.1;simp only[aI.enc,aI.cells]at g3⊢;cases c1:kL s with
 |true=>rw[c1]at g1;simp-implicitDefEqProofs (disch:=(first|omega|decide)) only[go_sem,↓reduceIte,seval,g0,g1]
 |false=>
  rw[c1]at g1;cases c2:kL t with
  |true=>rw[c2]at g2;simp-implicitDefEqProofs (disch:=(first|omega|decide)) only[go_sem,↓reduceIte,seval,g0,g1,g2]
  |false=>
   rw[c2]at g2;cases c3:nc l 20 with
   |true=>rw[c3]at g3;simp-implicitDefEqProofs (disch:=(first|omega|decide)) only[go_sem,↓reduceIte,seval,g0,g1,g2,g3]
   |false=>
    rw[c3]at g3;obtain⟨os,ws⟩:=jw hs c1;obtain⟨ot,wt⟩:=jw ht c2;have hlen:=yr c3;have hX:=rM os ot;have g4:=rI hX;have g5:=Vd hX;rw[kO]at g4 g5;have g6:=Mp (sync_out os ot ws wt) (by decide) (by decide) (by decide)
    have g7:=BR (t:=t) (l:=l) ⟨hX.ht,by omega,hl.2⟩
    have g8:=mD (t:=t) (l:=l) ⟨hX.ht,by omega,hl.2⟩
    have g9:=bx s hX.hs;have g10:=bx t hX.ht;have g11:=l4 ⟨hX.hs,hX.ht⟩
    have g12:=uP ⟨hX.hs,hX.ht⟩
    have g13:=Jg ⟨hX.hs,hX.ht⟩
    have g14:=FC ⟨hX.hs,hX.ht⟩
    have g15:=Qa (br s t) (by have:=hX.hx.hl.1;omega)
    have g16:=sameP_me hX.hx.hk.1.1;unfold HU at g11;unfold uK at g13;simp only[aI.enc,aI.cells]at g9 g10;generalize lA s t=u at*;generalize jU s t=c at*;generalize bU t l=b at*;generalize br s t=U at*;generalize bm s t=K at*;cases b1:aU s with
    |false=>
     rw[b1]at g9 g11 g13;rw[Bool.false_and,if_neg (by simp)]at g11 g13;simp only[List.map_nil]at g11 g13;simp-implicitDefEqProofs (maxSteps:=600000) (disch:=(first|omega|decide)) only[go_sem,↓reduceIte,seval,g0,g1,g2,g3,g4,g5,g6,g7,g8,g9,g11,g13,beq_self_eq_true]
    |true=>
     rw[b1]at g9 g11 g13;rw[Bool.true_and]at g11 g13;cases b2:aU t with
     |false=>
      rw[b2]at g10 g11 g13;rw[if_neg (by simp)]at g11 g13;simp only[List.map_nil]at g11 g13;simp-implicitDefEqProofs (maxSteps:=600000) (disch:=(first|omega|decide)) only[go_sem,↓reduceIte,seval,g0,g1,g2,g3,g4,g5,g6,g7,g8,g9,g10,g11,g13,beq_self_eq_true]
     |true=>
      rw[b2]at g10 g11 g13;rw[if_pos rfl]at g11 g13;simp-implicitDefEqProofs (maxSteps:=600000) (disch:=(first|omega|decide)) only[go_sem,↓reduceIte,seval,g0,g1,g2,g3,g4,g5,g6,g7,g8,g9,g10,g11,g12,g13,g14,g15,g16,beq_self_eq_true]
structure Pair(s t:aI):Prop where
 fs:ji s 24 272 24
 ft:ji t 24 272 24
 fx:Mj s t
theorem Mv{s t:aI}(os:OkS s)(ot:OkS t)(ws:U4 s.kn 272)(wt:U4 t.kn 272)(hs:aU s=true)(ht:aU t=true):Pair s t:=
 ⟨⟨(bQ s).1 hs,os.fl,os.az,os.kn.1,ws⟩,⟨(bQ t).1 ht,ot.fl,ot.az,ot.kn.1,wt⟩,rM os ot⟩
theorem Pair.base{s t:aI}(h:Pair s t):Sm s (mE s t) 272 24/\Sm t (mE s t) 272 24/\(∀r∈s.fl,r∈mE s t)/\(∀r∈t.fl,r∈mE s t)/\(mE s t).length<=64:=by obtain⟨a,b,c,d⟩:=rL h.fs h.ft;exact⟨a,b,c,d,od ⟨h.fs.kn.1,h.fs.fl.1⟩ ⟨h.ft.kn.1,h.ft.fl.1⟩⟩
theorem Pair.sync{s t:aI}(h:Pair s t):(jU s t=2)\/(jU s t=0/\lh s t/\lA s t=aS s t/\Sm (aS s t) (mE s t) 576 48):=by
 obtain⟨e1,e2⟩:=rK h.fs.right h.ft.right;by_cases h0:jU s t=0
 · right
   have ok:=(n_ h.fs.right h.ft.right).1 (by rw[<-e1];exact h0)
   obtain⟨b1,b2,_,b4,_⟩:=h.base;exact⟨h0,ok,e2 h0,BQ b1 b2 b4 ok⟩
 · left
   rw[e1]at h0⊢;exact sync_bad h.fs.right h.ft.right (by have:=h.fs.az.1;have:=h.ft.az.1;omega) h0
theorem Vi{s t:aI}(hs:bq s)(ht:bq t)(h:lh s t):jU s t=0/\lA s t=aS s t:=by
 obtain⟨e1,e2⟩:=rK hs ht;have h0:jU s t=0:=by rw[e1];exact(n_ hs ht).2 h
 exact⟨h0,e2 h0⟩
set_option maxHeartbeats 16000000
def zX:an:={H5 with mH:=fun f=>f==29,pZ:=fun f=>f==29,c6:=fun n=>if n=8 then [[0,1,2,3,4,5,6,7,8,9,10,11],[0,1,2,4,3,5,6,7,8,9,10,11],[0,1,2,4,5,3,6,7,8,9,10,11],[0,1,2,4,5,6,3,7,8,9,10,11],[0,1,2,4,5,6,7,3,8,9,10,11],[0,1,2,4,6,3,5,7,8,9,10,11],[0,1,2,4,6,5,3,7,8,9,10,11],[0,1,2,4,6,5,7,3,8,9,10,11],[0,1,2,4,6,7,3,5,8,9,10,11],[0,1,2,4,6,7,5,3,8,9,10,11],[0,1,2,6,3,4,5,7,8,9,10,11],[0,1,2,6,4,3,5,7,8,9,10,11],[0,1,2,6,4,5,3,7,8,9,10,11],[0,1,2,6,4,5,7,3,8,9,10,11],[0,1,2,6,4,7,3,5,8,9,10,11],[0,1,2,6,4,7,5,3,8,9,10,11],[0,1,2,6,7,3,4,5,8,9,10,11],[0,1,2,6,7,4,3,5,8,9,10,11],[0,1,2,6,7,4,5,3,8,9,10,11]]else []}
theorem X25m'_ok:ag Tryz.prog zX:=⟨wO.f,wO.hp⟩
@[go_sem] theorem X25m'_f:zX.f=H5.f:=rfl
@[go_sem] theorem X25m'_eff{g:FuncId}:zX.mH g=(g==29):=rfl
@[go_sem] theorem X25m'_frz{g:FuncId}:zX.pZ g=(g==29):=rfl
@[go_sem] theorem X25m'_fix{n:Nat}:zX.fix n=false:=rfl
theorem Qb:zX.c6 8=[[0,1,2,3,4,5,6,7,8,9,10,11],[0,1,2,4,3,5,6,7,8,9,10,11],[0,1,2,4,5,3,6,7,8,9,10,11],[0,1,2,4,5,6,3,7,8,9,10,11],[0,1,2,4,5,6,7,3,8,9,10,11],[0,1,2,4,6,3,5,7,8,9,10,11],[0,1,2,4,6,5,3,7,8,9,10,11],[0,1,2,4,6,5,7,3,8,9,10,11],[0,1,2,4,6,7,3,5,8,9,10,11],[0,1,2,4,6,7,5,3,8,9,10,11],[0,1,2,6,3,4,5,7,8,9,10,11],[0,1,2,6,4,3,5,7,8,9,10,11],[0,1,2,6,4,5,3,7,8,9,10,11],[0,1,2,6,4,5,7,3,8,9,10,11],[0,1,2,6,4,7,3,5,8,9,10,11],[0,1,2,6,4,7,5,3,8,9,10,11],[0,1,2,6,7,3,4,5,8,9,10,11],[0,1,2,6,7,4,3,5,8,9,10,11],[0,1,2,6,7,4,5,3,8,9,10,11]]:=rfl
@[go_sem] theorem X25m'_ords{n:Nat}(h:n≠8):zX.c6 n=[]:=if_neg h
theorem regW_cut{P:Program}{Γ:an}{os:List (List Nat)}{ops:Array Oper}{Q:Ex->St->Prop}{σ:St}(q:St->Prop)(hw:w4 P Γ os ops (fun _=>q) σ)(h: ∀τ,q τ->Q .normal τ):w4 P Γ os ops Q σ:=by
 have key: ∀(os:List (List Nat)) (σ:St),Jp P Γ os ops (fun _=>q) σ->Jp P Γ os ops Q σ:=fun os σ=>by
  cases os with
  |nil=>
   rintro⟨τ,hr,hq⟩
   exact⟨τ,hr,h _ hq⟩
  |cons o os=>
   have key: ∀os:List (List Nat),pn P Γ (Go.bo.dstsOf ops.toList) (j9 P σ.H.length ops.toList) (pre P ops.toList σ) q os->pn P Γ (Go.bo.dstsOf ops.toList) (j9 P σ.H.length ops.toList) (pre P ops.toList σ) (Q .normal) os:=by
    intro os;induction os with
    |nil=>exact fun h=>h
    |cons o os ih=>rintro⟨⟨τ,hr,hq⟩,h2⟩;exact⟨⟨τ,hr,h _ hq⟩,ih h2⟩
   exact key _
 unfold w4 at hw⊢;cases hf:H6 os with
 |none=>rw[hf]at hw;exact key _ _ hw
 |some ρ=>
  rw[hf]at hw;obtain⟨cr,h1,h2⟩:=hw;exact⟨cr,h1,key _ _ h2⟩
theorem pT:ah Tryz.prog zX Tryz.f4.ntmps (Tryz.f4.body.getD .skip)=true:=by kernel_rfl
theorem rN(s t:aI)(l:List It)(hs:H2 s)(ht:H2 t)(hl:l.length<=9223372036854775807/\mM l):ay Tryz.prog 4 [s.enc,t.enc,.ab (l.map It.enc)] (· = .bool true):=by
 refine aa X25m'_ok mixed Tryz.func4 rfl (Nat.le_of_ble_eq_true rfl) pT ?_;unfold Tryz.f4;have g0:=BV;have g1:=nh (s:=s) ⟨⟨hs.fl.1,hs.az.1⟩,hs.kn⟩
 have g2:=nh (s:=t) ⟨⟨ht.fl.1,ht.az.1⟩,ht.kn⟩
 have g3:=k9 (l,20) hl.1;simp only[aI.enc,aI.cells]at g3⊢;cases c1:kL s with
 |true=>rw[c1]at g1;simp-implicitDefEqProofs (disch:=(first|omega|decide)) only[go_sem,↓reduceIte,seval,g0,g1]
 |false=>
  rw[c1]at g1;cases c2:kL t with
  |true=>rw[c2]at g2;simp-implicitDefEqProofs (disch:=(first|omega|decide)) only[go_sem,↓reduceIte,seval,g0,g1,g2]
  |false=>
   rw[c2]at g2;cases c3:nc l 20 with
   |true=>rw[c3]at g3;simp-implicitDefEqProofs (disch:=(first|omega|decide)) only[go_sem,↓reduceIte,seval,g0,g1,g2,g3]
   |false=>
    rw[c3]at g3;obtain⟨os,ws⟩:=jw hs c1;obtain⟨ot,wt⟩:=jw ht c2;have hlen:=yr c3;have hX:=rM os ot;have g4:=bx s hX.hs;have g5:=bx t hX.ht;have g6:=mD (t:=t) (l:=s.az) ⟨hX.ht,by have:=os.az.1;omega,os.az.2⟩
    simp only[aI.enc,aI.cells]at g4 g5;cases d1:aU s with
    |false=>rw[d1]at g4;simp-implicitDefEqProofs (maxSteps:=600000) (disch:=(first|omega|decide)) only[go_sem,↓reduceIte,seval,g0,g1,g2,g3,g4]
    |true=>
     rw[d1]at g4;cases d2:aU t with
     |false=>rw[d2]at g5;simp-implicitDefEqProofs (maxSteps:=600000) (disch:=(first|omega|decide)) only[go_sem,↓reduceIte,seval,g0,g1,g2,g3,g4,g5]
     |true=>
      rw[d2]at g5;cases d3:bU t s.az with
      |false=>rw[d3]at g6;simp-implicitDefEqProofs (maxSteps:=600000) (disch:=(first|omega|decide)) only[go_sem,↓reduceIte,seval,g0,g1,g2,g3,g4,g5,g6]
      |true=>
       rw[d3]at g6;have hP:=Mv os ot ws wt d1 d2;have hS:=hP.fs.right;have hT:=hP.ft.right;have hSo:=(iv hT).1 d3;have g7:=rI hX;have g8:=wN hX;rw[kO]at g7;rcases hP.sync with h2|⟨h0,ok,hu,hm⟩
       · rw[h2]at g7 g8
         simp-implicitDefEqProofs (maxSteps:=600000) (disch:=(first|omega|decide)) only[go_sem,↓reduceIte,seval,g0,g1,g2,g3,g4,g5,g6,g7,g8]
       · obtain⟨b1,b2,b3,b4,hB⟩:=hP.base
         rw[h0,hu]at g7;have hfu:=hm.fin (m:=64) hB;have Yg:=hfu.Ma (by decide) (by decide) (by decide)
         have hX2:Mj s (aS s t):=Mn b1 hm b4 (by omega) (by decide) (by decide) (by decide) (by decide)
         obtain⟨ok2,e2⟩:=S_ hS hT ok;obtain⟨f1,f2⟩:=Vi hS hm.right ok2;have gIn:=y_rIn (l:=s.az) (F:=t.fl) ⟨⟨by have:=os.az.1;omega,os.az.2⟩,by have:=ot.fl.1;omega,ot.fl.2⟩
         have Rl:mM (iJ t.fl s.az):=fun x hx=>os.az.2 x (List.mem_filter.1 hx).1;have hil:=sC t.fl s.az
         have gM:=P2 (l:=t.az++iJ t.fl s.az) ⟨by rw[List.length_append];have:=os.az.1;have:=ot.az.1;omega,fun x hx=>by
          rcases List.mem_append.1 hx with hx|hx
          · exact ot.az.2 x hx
          · exact Rl x hx⟩
         have Xr:aC (t.az++iJ t.fl s.az)=(aS s t).az:=(rG hT hSo).symm;rw[Xr,List.map_append]at gM;have gS:=Qa (aS s t).az (by have:=hm.az.1;omega)
         have gU1:=BR (t:=aS s t) (l:=s.az) ⟨Yg,by have:=os.az.1;omega,os.az.2⟩
         rw[(iv hm.right).2 (FA hS hT hSo)]at gU1;have gR:=bx (aS s t) Yg;rw[(bQ _).2 hm.right]at gR;have gA:=mD (t:=s) (l:=l) ⟨hX.hs,by omega,hl.2⟩
         have gB:=mD (t:=t) (l:=l) ⟨hX.ht,by omega,hl.2⟩
         have gW:=e_within (s:=s) (t:=t) (l:=l) ⟨by omega,hl.2⟩
         have gC:=BR (t:=aS s t) (l:=l) ⟨Yg,by omega,hl.2⟩
         have hboth:bU s l=true->bU t l=true->bU (aS s t) l=true:=fun q1 q2=>(iv hm.right).2 (Xo hS hT hSo ((iv hS).1 q1) ((iv hT).1 q2))
         have gD:=rI hX2;rw[kO,f1,f2,e2]at gD;have gE:=l4 ⟨hX2.hs,hX2.ht⟩
         unfold HU at gE;rw[d1,(bQ _).2 hm.right,Bool.and_self,if_pos rfl,uI hS,List.map_nil]at gE;have gF:=Mp (.inr hfu) (by decide) (by decide) (by decide)
         have stI:=stIt t.az;have stL:=stIt (iJ t.fl s.az)
         have tk1:(t.az.map It.enc).take t.az.length=t.az.map It.enc:=List.take_of_length_le (by simp)
         have tk2:(t.az.map It.enc++(iJ t.fl s.az).map It.enc).take (t.az.length+(iJ t.fl s.az).length)=t.az.map It.enc++(iJ t.fl s.az).map It.enc:=List.take_of_length_le (by simp)
         have Zi:=ot.az.1;have hl2:=os.az.1;simp only[aI.enc,aI.cells]at gR;clear Xr hm Yg hX2 ok2 f1 f2 e2 hfu hu ok hP hSo hX b1 b2 b3 b4;generalize aS s t=u at*;generalize iJ t.fl s.az=L at*;generalize bU s l=sa at*;generalize bU t l=sb at*;generalize bU u l=sc at*;generalize l.all aH=sw at*;simp-implicitDefEqProofs (maxSteps:=600000) (disch:=(first|omega|decide)) only[go_sem,↓reduceIte,seval,g0,g1,g2,g3,g4,g5,g6,g7,List.length_map]
         rw[Qb]
         refine regW_cut (fun τ=>(Go.bo.look τ.s 2= .ab (l.map It.enc)/\Go.bo.look τ.s 3= .ref 0 0/\Go.bo.look τ.s 4= .ref 1 0/\Go.bo.look τ.s 7= .ref 2 0/\Go.bo.look τ.s 9= .ab (u.az.map It.enc))/\τ.H=[.box [.int .i64 s.id,.ab (s.fl.map ax.enc),.ab (s.az.map It.enc),.ab (s.kn.map Pc.enc),.int .i64 s.ct],.box [.int .i64 t.id,.ab (t.fl.map ax.enc),.ab (t.az.map It.enc),.ab (t.kn.map Pc.enc),.int .i64 t.ct],.box [.int .i64 u.id,.ab (u.fl.map ax.enc),.ab (u.az.map It.enc),.ab (u.kn.map Pc.enc),.int .i64 u.ct],.row 0 [],.row 0 []]) ?_ ?_
         · simp-implicitDefEqProofs (maxSteps:=6000000) (disch:=(first|omega|decide)) only[go_sem,↓reduceIte,seval,gIn,gM,stI,stL,tk1,tk2,List.length_map]
           exact⟨by omega,⟨Nat.le_refl _,by omega⟩,by simp⟩
         · rintro⟨τs,τH⟩ ⟨⟨e2,e3,e4,e7,e9⟩,eH⟩
           simp only at e2 e3 e4 e7 e9 eH;subst eH;cases sa with
           |false=>simp-implicitDefEqProofs (maxSteps:=600000) (disch:=(first|omega|decide)) only[go_sem,↓reduceIte,seval,e2,e3,e4,e7,e9,gS,gU1,gR,gA,gD,gE,gF,List.length_map]
           |true=>
            cases sb with
            |false=>simp-implicitDefEqProofs (maxSteps:=600000) (disch:=(first|omega|decide)) only[go_sem,↓reduceIte,seval,e2,e3,e4,e7,e9,gS,gU1,gR,gA,gB,gD,gE,gF,List.length_map]
            |true=>
             have hboth:=hboth rfl rfl;subst hboth;cases sw<;>simp-implicitDefEqProofs (maxSteps:=600000) (disch:=(first|omega|decide)) only[go_sem,↓reduceIte,seval,e2,e3,e4,e7,e9,gS,gU1,gR,gA,gB,gW,gC,gD,gE,gF,List.length_map]
theorem sH{s t:aI}(hs:bq s){x:It}(hx:x∈br s t):aH x=true/\aj t.fl x.key=true:=⟨hs.right x (fN.1 hx).1,(fN.1 hx).2.1⟩
theorem in_one{F:List ax}{x:It}(h:aj F x.key=true):iJ F [x]=[x]:=List.filter_eq_self.2 fun y hy=>by obtain rfl:=List.mem_singleton.1 hy;exact h
theorem Tn{s t p:aI}{L:List It}{x:It}{i:Nat}(hs:bq s)(h:rJ s t p L)(hi:i<(br s t).length)(hx:(br s t)[i]=x)(hL:L.Sublist ((br s t).take i))(h0:eI p [x] (cB x.key [⟨x.rep,x.bu⟩])=0):
 rJ s t (pD p [x] (cB x.key [⟨x.rep,x.bu⟩])) (L++[x])/\(L++[x]).Sublist ((br s t).take (i+1)):=by
 have hm:x∈br s t:=by rw[<-hx];exact List.getElem_mem _
 obtain⟨hr,hf⟩:=sH hs hm;obtain⟨k1,k2,k3⟩:=lf hr
 have hsub:(L++[x]).Sublist ((br s t).take (i+1)):=by
  rw[<-List.take_append_getElem hi,hx]
  exact hL.append (List.Sublist.refl _)
 have hR:=P7 h0;have e:pD p [x] (cB x.key [⟨x.rep,x.bu⟩])=PF p (iJ p.fl [x]) (iK p (cB x.key [⟨x.rep,x.bu⟩])):=by unfold pD;rw[if_pos h0]
 rw[e]
 have MY:aj p.fl x.key=true:=by rw[h.fl];exact hf
 refine⟨⟨hR,h.id,h.fl,h.ct, ?_,hsub.trans (List.take_sublist _ _),fun z n hn c=> ?_⟩,hsub⟩
 · show aC (p.az++iJ p.fl [x])=_
   rw[in_one MY,h.az,zV,List.append_assoc]
 · show hk (setAt (aT (cL (p.kn++iK p (cB x.key [⟨x.rep,x.bu⟩])))) z) n c=true ↔ _
   rw[dA hn,Bool.or_eq_true,h.kn z n hn c]
   unfold iK;rw[ez (kK _ _),wi hn,Bool.and_eq_true,E7 k2 k3 hn]
   constructor
   · rintro((g|⟨y,hy,g⟩)|⟨_,g1,g2,g3⟩)
     · exact .inl g
     · exact .inr ⟨y,List.mem_append.2 (.inl hy),g⟩
     · exact .inr ⟨x,by simp,g1,g2,g3⟩
   · rintro(g|⟨y,hy,g1,g2,g3⟩)
     · exact .inl (.inl g)
     · rcases List.mem_append.1 hy with hy|hy
       · exact .inl (.inr ⟨y,hy,g1,g2,g3⟩)
       · obtain rfl:=List.mem_singleton.1 hy
         exact .inr ⟨by rw[g1];exact MY,g1,g2,g3⟩
theorem hk_flat{α:Type}(f:α->List ad)(L:List α)(n c:Int):hk (L.flatMap f) n c=L.any fun y=>hk (f y) n c:=by
 induction L with
 |nil=>rfl
 |cons y L ih=>rw[List.flatMap_cons,kq,ih,List.any_cons]
theorem flat_w{α:Type}(f:α->List ad)(w:Nat): ∀L:List α,(∀y∈L,bA (f y)<=w)->bA (L.flatMap f)<=L.length*w
 | [],_=>by simp[bA]
 |y::L,h=>by
  have:=flat_w f w L fun z hz=>h z (by simp[hz])
  have:=h y (by simp)
  rw[List.flatMap_cons,dZ,List.length_cons,Nat.succ_mul];omega
def Jk(s t:aI)(L:List It):List ax:=mE s t++L.map fun x=>nq x.key
theorem ahead_at{s t p:aI}{L:List It}(hs:bq s)(h:rJ s t p L)(x:List UInt8):setAt p.kn x=dG (setAt t.kn x++L.flatMap fun y=>setAt (cB y.key [⟨y.rep,y.bu⟩]) x):=by
 have e:setAt p.kn x=cL p.kn x:=by
  conv=>lhs;rw[<-gj h.right.kn]
  rw[ez (yo _)]
 rw[e]
 refine sB (eQ _ _) (IT _) fun n hn c=> ?_;rw[mz hn,DW hn,kq,hk_flat,Bool.eq_iff_iff,h.kn x n hn c,Bool.or_eq_true,List.any_eq_true]
 refine or_congr Iff.rfl (exists_congr fun y=>and_congr_right fun hy=> ?_)
 obtain⟨_,k2,k3⟩:=lf (sH hs (h.sub.subset hy)).1;rw[E7 k2 k3 hn]
theorem ahead_sm{s t p:aI}{L:List It}{w n m:Nat}(hs:ji s 24 w n)(ht:ji t 24 w m)(hw:w<=272)(hn:n<=24)(hm:m<=24)(h:rJ s t p L):Sm p (Jk s t (br s t)) 1056 48:=by
 obtain⟨b1,b2,b3,b4⟩:=rL hs ht;have hl:L.length<=24:=by have h1:=h.sub.length_le;have h2:(br s t).length<=s.az.length:=List.length_filter_le _ _;have:=hs.az.1;omega
 refine⟨h.right,by rw[h.fl];exact ht.fl,⟨?_,fun y hy=> ?_⟩,fun x e hx=> ?_,fun x=> ?_⟩
 · rw[h.az]
   have:=iq (t.az++L)
   rw[List.length_append]at this;have:=ht.az.1;omega
 · rw[h.az]at hy
   rcases List.mem_append.1 (cy hy).1 with hy|hy
   · exact ht.az.2 y hy
   · exact hs.az.2 y (fN.1 (h.sub.subset hy)).1
 · refine sB (eQ _ _) (eQ _ _) fun n hn c=> ?_
   have q:=congrArg (fun z=>hk z n c) (b2.base x e fun r hr=>hx r (List.mem_append.2 (.inl hr)))
   simp only[mz hn]at q;rw[mz hn,mz hn,Bool.eq_iff_iff,h.kn x n hn c,h.kn e n hn c,q]
   refine or_congr Iff.rfl (exists_congr fun y=>and_congr_right fun hy=> ?_)
   have xe:=h.sub.subset hy;obtain⟨_,k2,_⟩:=lf (sH hs.right xe).1;have:=hx (nq y.key) (List.mem_append.2 (.inr (List.mem_map.2 ⟨y,xe,rfl⟩)))
   rw[JZ k2.2,JZ k2.2]at this;have e1:(x=y.key) ↔ (e=y.key):=by rw[Bool.eq_iff_iff]at this;simpa using this
   rw[e1]
 · rw[ahead_at hs.right h x]
   have q1:=En (setAt t.kn x++L.flatMap fun y=>setAt (cB y.key [⟨y.rep,y.bu⟩]) x)
   rw[dZ]at q1;have q2:=flat_w (fun y:It=>setAt (cB y.key [⟨y.rep,y.bu⟩]) x) 32 L fun y hy=>by have h1:=na (cB y.key [⟨y.rep,y.bu⟩]) x;have h2:=(P0 y.key ⟨y.rep,y.bu⟩).2;omega
   have q3:=b2.wt x;have q4:L.length*32<=24*32:=Nat.mul_le_mul_right _ hl;omega
theorem Xt{s t:aI}{w n m:Nat}(hs:ji s 24 w n)(ht:ji t 24 w m)(hn:n<=24):(Jk s t (br s t)).length<=88:=by
 have h1:=od (s:=s) (t:=t) ⟨hs.kn.1,hs.fl.1⟩ ⟨ht.kn.1,ht.fl.1⟩
 have h2:(br s t).length<=s.az.length:=List.length_filter_le _ _;have:=hs.az.1;unfold Jk;rw[List.length_append,List.length_map];omega
theorem okT_one{p:aI}{B:List ax}{x:It}(h:Sm p B 1056 48)(hB:B.length<=150)(hx:x.ok):S5 p [x] (cB x.key [⟨x.rep,x.bu⟩]):=by
 have hf:=h.fin hB;have hr:=hf.Ma (by decide) (by decide) (by decide)
 have h1:=P0 x.key ⟨x.rep,x.bu⟩
 have h2:wP p.kn<=301*1056:=Nat.le_trans (U7 hf.kn.2) (Nat.mul_le_mul_right _ hf.kn.1)
 have ho:iI (cB x.key [⟨x.rep,x.bu⟩]):=okR_w ⟨⟨by omega,by omega⟩,U8 _ _⟩ (by omega)
 exact(okT_of (N:=1) (W:=32) hr h.fl.1 ⟨by simp,fun y hy=>by obtain rfl:=List.mem_singleton.1 hy;exact hx⟩ (by have:=h.az.1;omega) ⟨ho,h1.1⟩ (fun z=>by have:=na (cB x.key [⟨x.rep,x.bu⟩]) z;omega) (by omega) (by omega) (by decide) (by omega)).1
set_option maxHeartbeats 8000000
theorem fits_u32{x:A}(h:fits (.int .u32) x): ∃n:Int,x= .int .u32 n/\True:=by simp only[fits]at h;obtain⟨n,rfl,_⟩:=h;exact⟨n,rfl,trivial⟩
theorem pg:ah Tryz.prog H5 Tryz.f5.ntmps (Tryz.f5.body.getD .skip)=true:=by kernel_rfl
theorem pU(s t:aI)(pick:Int)(hs:H2 s)(ht:H2 t):ay Tryz.prog 5 [s.enc,t.enc,.int .u32 pick] (· = .bool true):=by
 refine aa wO mixed Tryz.func5 rfl (Nat.le_of_ble_eq_true rfl) pg ?_;unfold Tryz.f5;have g0:=BV;have g1:=nh (s:=s) ⟨⟨hs.fl.1,hs.az.1⟩,hs.kn⟩
 have g2:=nh (s:=t) ⟨⟨ht.fl.1,ht.az.1⟩,ht.kn⟩
 simp only[aI.enc,aI.cells]
 cases c1:kL s with
 |true=>rw[c1]at g1;simp-implicitDefEqProofs (disch:=(first|omega|decide)) only[go_sem,↓reduceIte,seval,g0,g1]
 |false=>
  rw[c1]at g1;cases c2:kL t with
  |true=>rw[c2]at g2;simp-implicitDefEqProofs (disch:=(first|omega|decide)) only[go_sem,↓reduceIte,seval,g0,g1,g2]
  |false=>
   rw[c2]at g2;obtain⟨os,ws⟩:=jw hs c1;obtain⟨ot,wt⟩:=jw ht c2;have hX:=rM os ot;have g4:=bx s hX.hs;have g5:=bx t hX.ht;have g6:=mD (t:=t) (l:=s.az) ⟨hX.ht,by have:=os.az.1;omega,os.az.2⟩
   simp only[aI.enc,aI.cells]at g4 g5;cases d1:aU s with
   |false=>rw[d1]at g4;simp-implicitDefEqProofs (maxSteps:=600000) (disch:=(first|omega|decide)) only[go_sem,↓reduceIte,seval,g0,g1,g2,g4]
   |true=>
    rw[d1]at g4;cases d2:aU t with
    |false=>rw[d2]at g5;simp-implicitDefEqProofs (maxSteps:=600000) (disch:=(first|omega|decide)) only[go_sem,↓reduceIte,seval,g0,g1,g2,g4,g5]
    |true=>
     rw[d2]at g5;cases d3:bU t s.az with
     |false=>rw[d3]at g6;simp-implicitDefEqProofs (maxSteps:=600000) (disch:=(first|omega|decide)) only[go_sem,↓reduceIte,seval,g0,g1,g2,g4,g5,g6]
     |true=>
      rw[d3]at g6;have hP:=Mv os ot ws wt d1 d2;have hS:=hP.fs.right;have hT:=hP.ft.right;have g7:=rI hX;have g8:=wN hX;rw[kO]at g7;rcases hP.sync with h2|⟨h0,ok,hu,hm⟩
      · rw[h2]at g7 g8
        simp-implicitDefEqProofs (maxSteps:=600000) (disch:=(first|omega|decide)) only[go_sem,↓reduceIte,seval,g0,g1,g2,g4,g5,g6,g7,g8]
      · rw[h0,hu]at g7
        have hfu:=hm.fin (m:=64) hP.base.2.2.2.2;have gS:=Mp (.inr hfu) (by decide) (by decide) (by decide)
        have g9:=uP ⟨hX.hs,hX.ht⟩
        have hlu:(br s t).length<=24:=Nat.le_trans (List.length_filter_le _ _) os.az.1;have hB3:=Xt hP.fs hP.ft (Nat.le_refl _)
        have wa: ∀{p:aI} {L:List It},rJ s t p L->Sm p (Jk s t (br s t)) 1056 48:=fun h=>ahead_sm hP.fs hP.ft (by decide) (by decide) (by decide) h;have XG: ∀r∈t.fl,r∈Jk s t (br s t):=fun r hr=>List.mem_append.2 (.inl (hP.base.2.2.2.1 r hr))
        have hss:Sm s (Jk s t (br s t)) 272 24:=hP.base.1.mono (fun r hr=>List.mem_append.2 (.inl hr)) (by decide) (by decide)
        have iB: ∀{p:aI} {L:List It},rJ s t p L->Ml.f 16 [.agg [.int .i64 s.id,.ab (s.fl.map ax.enc),.ab (s.az.map It.enc),.ab (s.kn.map Pc.enc),.int .i64 s.ct],.agg [.int .i64 p.id,.ab (p.fl.map ax.enc),.ab (p.az.map It.enc),.ab (p.kn.map Pc.enc),.int .i64 p.ct]]=some (.cD [.agg [.int .i64 (aS s t).id,.ab ((aS s t).fl.map ax.enc),.ab ((aS s t).az.map It.enc),.ab ((aS s t).kn.map Pc.enc),.int .i64 (aS s t).ct],.int .i64 0]):=fun{p L} h=>by
         have hp:=wa h;have hXp:Mj s p:=Mn hss hp (by rw[h.fl];exact XG) (by omega) (by decide) (by decide) (by decide) (by decide)
         obtain⟨e1,e2⟩:=Tf hS hT h;obtain⟨f1,f2⟩:=Vi hS h.right (e2 ok)
         have:=rI hXp
         rwa [kO,f1,f2,e1]at this
        have du: ∀{p:aI} {L:List It} {i:Nat} (h:rJ s t p L) (hi:i<(br s t).length) (hL:L.Sublist ((br s t).take i)),∃(q:aI) (c:Int),
         Mi.f 32 [.agg [.int .i64 p.id,.ab (p.fl.map ax.enc),.ab (p.az.map It.enc),.ab (p.kn.map Pc.enc),.int .i64 p.ct],.ab [(br s t)[i].enc],.ab ((cB (br s t)[i].key [⟨(br s t)[i].rep,(br s t)[i].bu⟩]).map Pc.enc)]=some (.cD [.agg [.int .i64 q.id,.ab (q.fl.map ax.enc),.ab (q.az.map It.enc),.ab (q.kn.map Pc.enc),.int .i64 q.ct],.int .i64 c])/\
         Mu.f 34 [.agg [.int .i64 p.id,.ab (p.fl.map ax.enc),.ab (p.az.map It.enc),.ab (p.kn.map Pc.enc),.int .i64 p.ct],(br s t)[i].enc]=some (.int .i64 c)/\
         L6.f 33 [.str (br s t)[i].key,.agg [.int .i64 (br s t)[i].rep,.int .i64 (br s t)[i].bu]]=some (.ab ((cB (br s t)[i].key [⟨(br s t)[i].rep,(br s t)[i].bu⟩]).map Pc.enc))/\
         (c=0->rJ s t q (L++[(br s t)[i]])/\(L++[(br s t)[i]]).Sublist ((br s t).take (i+1))):=fun{p L i} h hi hL=>by
         have hxm:(br s t)[i]∈br s t:=List.getElem_mem _;obtain⟨hr,_⟩:=sH hS hxm;obtain⟨_,k2,k3⟩:=lf hr;have QM:=os.az.2 _ (fN.1 hxm).1;have hT1:=okT_one (wa h) (by omega) QM;have e1:=e_Take hT1;unfold iV at e1;exact⟨_,_,e1,e_lone ⟨⟨QM.1,k3⟩,hT1⟩,y_Ver ⟨QM.1,k3⟩,fun h0=>Tn hS h hi rfl hL h0⟩
        have Xu:=Xq (s:=s) hT;clear wa XG hss hB3 hP hX hm hfu;generalize hUU:br s t=U at*;generalize aS s t=u at*;simp-implicitDefEqProofs (maxSteps:=600000) (disch:=(first|omega|decide)) only[go_sem,↓reduceIte,seval,g0,g1,g2,g4,g5,g6,g7,g9,List.length_map]
        refine ar [2,3,4,7,9,57,58] (ι:={p:Nat×List It×aI//p.1<=U.length/\rJ s t p.2.2 p.2.1/\p.2.1.Sublist (U.take p.1)}) (fun p=>[(59,.int .i64 p.1.1)]) (fun p=>[(3,.box [.int .i64 p.1.2.2.id,.ab (p.1.2.2.fl.map ax.enc),.ab (p.1.2.2.az.map It.enc),.ab (p.1.2.2.kn.map Pc.enc),.int .i64 p.1.2.2.ct])]) (fun p=>U.length-p.1.1) ⟨(0,[],t),by omega,Xu,List.nil_sublist _⟩ (Nat.zero_le _) ?_ ?_
        · simp-implicitDefEqProofs (disch:=(first|omega|decide)) only[go_sem,↓reduceIte,seval]
          try rfl
        · rintro⟨⟨i,L,p⟩,hi,hA,hL⟩
          simp only at hi hA hL⊢;by_cases aw:i<U.length
          · have ae:(i:Int)<(U.length:Int):=by omega
            have ei:=cN aw;obtain⟨q,c,s1,s2,s3,s4⟩:=du hA aw hL;generalize U[i]=x at*;simp only[It.enc]at s1 s2;have hrem: ¬(i:Int).tmod 32<0:=by have:=Int.tmod_nonneg 32 (show(0:Int)<=(i:Int) by omega);omega
            simp-implicitDefEqProofs (maxSteps:=600000) (disch:=(first|omega|decide)) only[go_sem,↓reduceIte,seval,ae,ei,hrem,wrap_i64,List.length_map]
            refine⟨fun _=>⟨⟨(i+1,L,p),aw,hA,hL.trans (List.take_sublist_take_left (Nat.le_succ i))⟩,⟨by simp,rfl,rfl,rfl,rfl,rfl⟩,by show U.length-(i+1)<U.length-i;omega⟩,fun hb=> ?_⟩
            cases hc:c==0 with
            |true=>
             obtain⟨t1,t2⟩:=s4 (by simpa using hc)
             simp-implicitDefEqProofs (maxSteps:=600000) (disch:=(first|omega|decide)) only[go_sem,↓reduceIte,seval,s1,s2,s3,hc,wrap_i64,List.length_map]
             exact⟨⟨(i+1,L++[x],q),aw,t1,t2⟩,⟨by simp,rfl,rfl,rfl,rfl,rfl⟩,by show U.length-(i+1)<U.length-i;omega⟩
            |false=>
             simp-implicitDefEqProofs (maxSteps:=600000) (disch:=(first|omega|decide)) only[go_sem,↓reduceIte,seval,s1,s2,s3,hc,wrap_i64,List.length_map,beq_self_eq_true]
          · have ae: ¬(i:Int)<(U.length:Int):=by omega
            have g10:=iB hA;simp-implicitDefEqProofs (maxSteps:=600000) (disch:=(first|omega|decide)) only[go_sem,↓reduceIte,seval,ae,g10,gS,List.length_map]
theorem pV:ah Tryz.prog H5 Tryz.f6.ntmps (Tryz.f6.body.getD .skip)=true:=by kernel_rfl
theorem rO(s t:aI)(k:List UInt8)(hs:H2 s)(ht:H2 t)(hk:k.length<=9223372036854775807):ay Tryz.prog 6 [s.enc,t.enc,.str k] (· = .bool true):=by
 refine aa wO mixed Tryz.func6 rfl (Nat.le_of_ble_eq_true rfl) pV ?_;unfold Tryz.f6;have g0:=BV;have g1:=nh (s:=s) ⟨⟨hs.fl.1,hs.az.1⟩,hs.kn⟩
 have g2:=nh (s:=t) ⟨⟨ht.fl.1,ht.az.1⟩,ht.kn⟩
 simp only[aI.enc,aI.cells]
 cases c1:kL s with
 |true=>rw[c1]at g1;simp-implicitDefEqProofs (disch:=(first|omega|decide)) only[go_sem,↓reduceIte,seval,g0,g1]
 |false=>
  rw[c1]at g1;cases c2:kL t with
  |true=>rw[c2]at g2;simp-implicitDefEqProofs (disch:=(first|omega|decide)) only[go_sem,↓reduceIte,seval,g0,g1,g2]
  |false=>
   rw[c2]at g2;by_cases c3:(60:Int)<(k.length:Int)
   · simp-implicitDefEqProofs (disch:=(first|omega|decide)) only[go_sem,↓reduceIte,seval,g0,g1,g2,c3]
   · obtain⟨os,ws⟩:=jw hs c1
     obtain⟨ot,wt⟩:=jw ht c2;have hX:=rM os ot;have g4:=bx s hX.hs;have g5:=bx t hX.ht;have g6:=mD (t:=t) (l:=s.az) ⟨hX.ht,by have:=os.az.1;omega,os.az.2⟩
     have g6':=mD (t:=s) (l:=t.az) ⟨hX.hs,by have:=ot.az.1;omega,ot.az.2⟩
     have gT:=e_tied (s:=s) (t:=t) ⟨by have:=os.az.1;omega,by have:=ot.az.1;omega⟩
     simp only[aI.enc,aI.cells]at g4 g5;cases d1:aU s with
     |false=>rw[d1]at g4;simp-implicitDefEqProofs (maxSteps:=600000) (disch:=(first|omega|decide)) only[go_sem,↓reduceIte,seval,g0,g1,g2,c3,g4]
     |true=>
      rw[d1]at g4;cases d2:aU t with
      |false=>rw[d2]at g5;simp-implicitDefEqProofs (maxSteps:=600000) (disch:=(first|omega|decide)) only[go_sem,↓reduceIte,seval,g0,g1,g2,c3,g4,g5]
      |true=>
       rw[d2]at g5;cases d3:bU t s.az with
       |false=>rw[d3]at g6;simp-implicitDefEqProofs (maxSteps:=600000) (disch:=(first|omega|decide)) only[go_sem,↓reduceIte,seval,g0,g1,g2,c3,g4,g5,g6]
       |true=>
        rw[d3]at g6;cases d4:bU s t.az with
        |false=>rw[d4]at g6';simp-implicitDefEqProofs (maxSteps:=600000) (disch:=(first|omega|decide)) only[go_sem,↓reduceIte,seval,g0,g1,g2,c3,g4,g5,g6,g6']
        |true=>
            rw[d4]at g6';cases d5:zW s t with
            |true=>rw[d5]at gT;simp-implicitDefEqProofs (maxSteps:=600000) (disch:=(first|omega|decide)) only[go_sem,↓reduceIte,seval,g0,g1,g2,c3,g4,g5,g6,g6',gT]
            |false=>
             rw[d5]at gT;have hP:=Mv os ot ws wt d1 d2;have hS:=hP.fs.right;have hT:=hP.ft.right;have hSo:=(iv hT).1 d3;have hSo2:=(iv hS).1 d4;have g7:=rI hX;have g8:=wN hX;rw[kO]at g7;rcases hP.sync with h2|⟨h0,ok,hu,hm⟩
             · rw[h2]at g7 g8
               simp-implicitDefEqProofs (maxSteps:=600000) (disch:=(first|omega|decide)) only[go_sem,↓reduceIte,seval,g0,g1,g2,c3,g4,g5,g6,g6',gT,g7,g8]
             · obtain⟨b1,b2,b3,b4,hB⟩:=hP.base
               rw[h0,hu]at g7;have Yg:=(hm.fin (m:=64) hB).Ma (by decide) (by decide) (by decide)
               have hX2:Mj (aS s t) s:=Mn hm b1 b3 (by omega) (by decide) (by decide) (by decide) (by decide)
               have g9:=rI hX2;have g10:=wN hX2;rw[kO]at g9;obtain⟨e1,e2⟩:=rK hm.right hS;by_cases h3:jU (aS s t) s=0
               · have ok2:=(n_ hm.right hS).1 (by rw[<-e1];exact h3)
                 rw[h3,e2 h3]at g9;have hv:=BQ hm b1 b3 ok2;have Yh:=(hv.fin (m:=64) hB).Ma (by decide) (by decide) (by decide)
                 have g11:=fE (l:=s.fl) (s:=k) (by have:=os.fl.1;omega) os.fl.2 hk;have g12:=fE (l:=t.fl) (s:=k) (by have:=ot.fl.1;omega) ot.fl.2 hk;have g13:=PN (s:=aS s t) (k:=k) Yg.az.1;have g14:=PN (s:=aS (aS s t) s) (k:=k) Yh.az.1;have htie: ∀x∈s.az,∀y∈t.az,x.key=y.key->x.bk=y.bk->x.rep=y.rep->x.bu=y.bu->x=y:=fun x hx y hy q1 q2 q3 q4=>tied_not d5 hx hy q1 q2 q3 q4;have nk:aj s.fl k=true->aj t.fl k=true->dm (aS s t).az k=dm (aS (aS s t) s).az k:=fun q1 q2=>both_get hS hT hSo hSo2 htie q1 q2;obtain⟨n1,n2⟩:=both_unk hS hT ok hSo hSo2 ok2;have g15:=l4 (s:=aS s t) (t:=aS (aS s t) s) ⟨Yg,Yh⟩
                 have g16:=l4 (s:=aS (aS s t) s) (t:=aS s t) ⟨Yh,Yg⟩
                 unfold HU at g15 g16;rw[(bQ _).2 hm.right,(bQ _).2 hv.right,Bool.and_self,if_pos rfl]at g15 g16;rw[n1,List.map_nil]at g15;rw[n2,List.map_nil]at g16;clear e1 e2 ok2 hv Yh hX2 Yg hm n1 n2 htie ok hP hX b1 b2 b3 b4;generalize aS (aS s t) s=v at*;generalize aS s t=u at*;cases q1:aj s.fl k with
                 |false=>
                  rw[q1]at g11;simp-implicitDefEqProofs (maxSteps:=600000) (disch:=(first|omega|decide)) only[go_sem,↓reduceIte,seval,g0,g1,g2,c3,g4,g5,g6,g6',gT,g7,g9,g11]
                 |true=>
                  rw[q1]at g11;cases q2:aj t.fl k with
                  |false=>
                   rw[q2]at g12;simp-implicitDefEqProofs (maxSteps:=600000) (disch:=(first|omega|decide)) only[go_sem,↓reduceIte,seval,g0,g1,g2,c3,g4,g5,g6,g6',gT,g7,g9,g11,g12]
                  |true=>
                   rw[q2]at g12;rw[<-nk q1 q2]at g14;obtain⟨o,ob,ho,_⟩:=Jd u.az k;rw[ho]at g13 g14;simp only[It.enc]at g13 g14;simp-implicitDefEqProofs (maxSteps:=600000) (disch:=(first|omega|decide)) only[go_sem,↓reduceIte,seval,g0,g1,g2,c3,g4,g5,g6,g6',gT,g7,g9,g11,g12,g13,g14,g15,g16,beq_self_eq_true,Bool.and_self]
               · have h3':(jU (aS s t) s==0)=false:=by simpa using h3
                 generalize jU (aS s t) s=c at*;generalize lA (aS s t) s=v at*;generalize aS s t=u at*;simp-implicitDefEqProofs (maxSteps:=600000) (disch:=(first|omega|decide)) only[go_sem,↓reduceIte,seval,g0,g1,g2,c3,g4,g5,g6,g6',gT,g7,g9,g10,h3',beq_self_eq_true]
end Go.Proofs.YtihgnfmoafjakaaGreat
