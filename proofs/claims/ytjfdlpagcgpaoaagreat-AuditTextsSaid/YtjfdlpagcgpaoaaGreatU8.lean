/- What the laws of this claim rest on: the abstract executor, its soundness, and what the functions compute on pure data. No condition. -/
import Derived.Test.YtjfdlpagcgpaoaaGreatU7
set_option linter.unusedVariables false
set_option linter.unusedSimpArgs false
namespace Go.Proofs.YtjfdlpagcgpaoaaGreat
open Go.Abs
set_option linter.unusedSimpArgs false
set_option linter.unusedVariables false
set_option maxRecDepth 20000
set_option maxHeartbeats 8000000
noncomputable def E15a:Tab:=P15s.addH 199 (entryH stE stO stK stR)
noncomputable def E15b:Tab:=E15a.addH 200 (entryH cpE cpO cpK cpR)
noncomputable def E15:Tab:={ E15b with eff:=fun f=>f == 199 || f == 200 }
theorem E15a_ok:TabOK Tryz.prog E15a:=P15s_ok.addH (callable_of Tryz.func199 (by kernel_rfl) (by kernel_rfl)) (entryH_ok stH)
theorem E15b_ok:TabOK Tryz.prog E15b:=E15a_ok.addH (callable_of Tryz.func200 (by kernel_rfl) (by kernel_rfl)) (entryH_ok cpH)
theorem E15_ok:TabOK Tryz.prog E15:=⟨E15b_ok.f,E15b_ok.hp⟩
@[go_sem] theorem E15_f:E15.f = P15s.f:=rfl
@[go_sem] theorem E15_eff {g:FuncId}:E15.eff g = (g == 199 || g == 200):=rfl
@[go_sem] theorem E15_frz {g:FuncId}:E15.frz g = false:=rfl
@[go_sem] theorem E15_fix {n:Nat}:E15.fix n = false:=rfl
@[go_sem] theorem E15_ords {n:Nat}:E15.ords n = []:=rfl
theorem E15_st (i:StI) (h:stK i):E15.hp 199 (stE i) (stO i) = some (stR i):=by
 have h1:E15b.hp 199 (stE i) (stO i) = E15a.hp 199 (stE i) (stO i):=Tab.addH_ne (by decide)
 have h2:E15a.hp 199 (stE i) (stO i) = entryH stE stO stK stR (stE i) (stO i):=Tab.addH_eq
 have h3:=entryH_eq (enc:=stE) (obs:=stO) (ok:=stK) (spec:=stR) (fun i j h h'=>st_inj i j h h') i h
 exact (show E15.hp 199 (stE i) (stO i) = E15b.hp 199 (stE i) (stO i) from rfl).trans (h1.trans (h2.trans h3))
theorem E15_cp (i:CpI) (h:cpK i):E15.hp 200 (cpE i) (cpO i) = some (cpR i):=by
 have h2:E15b.hp 200 (cpE i) (cpO i) = entryH cpE cpO cpK cpR (cpE i) (cpO i):=Tab.addH_eq
 have h3:=entryH_eq (enc:=cpE) (obs:=cpO) (ok:=cpK) (spec:=cpR) (fun i j h h'=>cp_inj i j h h') i h
 exact (show E15.hp 200 (cpE i) (cpO i) = E15b.hp 200 (cpE i) (cpO i) from rfl).trans (h2.trans h3)
def pcL (k:List Pc):A:=.slc (k.map Pc.enc)
theorem pcL_inj (l m:List Pc) (h:pcL l = pcL m):l = m:=by simpa [pcL] using h
@[simp] theorem map_pcL_inj {L M:List (List Pc)}:(L.map pcL = M.map pcL) = (L = M):=map_inj pcL_inj
def rsP (k:List Pc):List Rng:=(k.map (·.r)).filter rightR
theorem rsP_snoc {k:List Pc} {j:Nat} (h:j < k.length):rsP (k.take (j + 1)) = rsP (k.take j) ++ (if rightR k[j].r = true then [k[j].r] else []):=by
 rw [← List.take_append_getElem h]
 unfold rsP
 rw [List.map_append,List.filter_append]
 congr 1
 by_cases h:rightR k[j].r = true
 ·simp [h]
 ·simp [h]
theorem rsP_len (k:List Pc):(rsP k).length ≤ k.length:=by
 unfold rsP
 exact Nat.le_trans (List.length_filter_le _ _) (by simp)
theorem rsP_right (k:List Pc):∀ r ∈ rsP k,rightR r = true:=fun r hr=>(List.mem_filter.1 hr).2
noncomputable def rawLL (LL:List (List Pc)) (o:Nat):List (List UInt8):=rawE [[]] ((LL.take o).flatMap rsP)
noncomputable def edgesK (LL:List (List Pc)):List (List UInt8):=compL (sortT (rawE [[]] (LL.flatMap rsP)))
def shK (E:List (List UInt8)):List Go.Abs.Obj:=if E.length = 1 then [] else [.box [.any,.any,.any,.any],.row 1 (E.map .str)]
theorem shK_one {E:List (List UInt8)} (h:E.length = 1):sh5 E = .clip [.str []] ∧ shK E = []:=by simp [sh5,shK,h]
theorem shK_more {E:List (List UInt8)} (h:E.length ≠ 1):sh5 E = .row 1 0 1 E.length false ∧ shK E = [.box [.any,.any,.any,.any],.row 1 (E.map .str)]:=by simp [sh5,shK,h]
theorem shK_under {E:List (List UInt8)}:(sh5 E).under (shK E).length = true:=by
 by_cases h:E.length = 1
 ·rw [(shK_one h).1]; simp [A.under]
 ·rw [(shK_more h).1,(shK_more h).2]; simp [A.under]
theorem shK_le {E:List (List UInt8)}:leH (shK E).length (shK E) (shK E):=by
 by_cases h:E.length = 1
 ·rw [(shK_one h).2]; simp [leH]
 ·rw [(shK_more h).2]; simp [leH,leO,leL]
theorem rawLL_step {LL:List (List Pc)} {o:Nat} (h:o < LL.length):rawE (rawLL LL o) (rsP LL[o]) = rawLL LL (o + 1):=by
 unfold rawLL
 rw [← List.take_append_getElem h,List.flatMap_append,rawE_app]
 simp
def totP (LL:List (List Pc)):Nat:=(LL.map List.length).sum
theorem tot_take (LL:List (List Pc)) (o:Nat):((LL.take o).flatMap rsP).length ≤ totP LL:=by
 have h1:∀ M:List (List Pc),(M.flatMap rsP).length ≤ totP M:=fun M=>by
  induction M with
  | nil=>simp
  | cons k M ih=>
   have:=rsP_len k
   simp only [List.flatMap_cons,List.length_append,totP,List.map_cons,List.sum_cons] at ih ⊢
   omega
 have h2:totP LL = totP (LL.take o) + totP (LL.drop o):=by
  unfold totP
  rw [← List.sum_append,← List.map_append,List.take_append_drop]
 have:=h1 (LL.take o)
 omega
theorem tot_mem {LL:List (List Pc)} {k:List Pc} (h:k ∈ LL):k.length ≤ totP LL:=by
 induction LL with
 | nil=>cases h
 | cons q M ih=>
  unfold totP at ih ⊢
  rw [List.map_cons,List.sum_cons]
  rcases List.mem_cons.1 h with rfl | h
  ·omega
  ·have:=ih h; omega
theorem pcL_get {LL:List (List Pc)} {o:Nat} (h:o < LL.length):(LL.map pcL)[o]? = some (.slc (LL[o].map Pc.enc)):=by
 rw [List.getElem?_map,List.getElem?_eq_getElem h]; rfl
theorem raw17K {m:List Rng} (hm:∀ r ∈ m,rightR r = true):∀ s ∈ rawE [[]] m,s.length ≤ 17:=fun s hs=>by
 rcases (rawE_mem _ _ _).1 hs with h | ⟨r,hr,h⟩
 ·simp at h; subst h; simp
 ·obtain ⟨k1,k2,_,_⟩:=right_parts (hm r hr)
  rcases h with rfl | ⟨_,rfl⟩
  ·exact k1
  ·exact k2
theorem flat_right (LL:List (List Pc)):∀ r ∈ LL.flatMap rsP,rightR r = true:=fun r hr=>by
 obtain ⟨k,_,h⟩:=List.mem_flatMap.1 hr
 exact rsP_right k r h
theorem ok_know_edges:codeOK Tryz.prog E15 Tryz.f149.ntmps (Tryz.f149.body.getD .skip) = true:=by kernel_rfl
theorem c_know_edges (LL:List (List Pc)) (hL:LL.length ≤ 1000) (ht:totP LL ≤ 1000000) (hok:∀ k ∈ LL,∀ p ∈ k,p.r.lo.length ≤ 9223372036854775807 ∧ p.r.hi.length ≤ 9223372036854775807):CallA Tryz.prog 149 [.slc (LL.map pcL)] (· = .slc ((edgesK LL).map .str)):=by
 refine callA_of_body E15_ok mixed Tryz.func149 rfl (Nat.le_of_ble_eq_true rfl) ok_know_edges ?_
 unfold Tryz.f149
 simp -implicitDefEqProofs (maxSteps:=600000) (disch:=(first | omega | decide)) only [go_sem,↓reduceIte,seval,List.length_map]
 refine wpA_loopH [9,10] (ι:={o:Nat // o ≤ LL.length}) (fun p=>[(11,.int .i64 p.1),(3,sh5 (rawLL LL p.1))]) (fun p=>shK (rawLL LL p.1)) (fun p=>LL.length - p.1) ⟨0,by omega⟩ (fun _=>Nat.zero_le _) ?_ ?_
 ·have e:rawLL LL 0 = [[]]:=rfl
  simp only [e]
  simp -implicitDefEqProofs (maxSteps:=600000) (disch:=(first | omega | decide)) only [go_sem,↓reduceIte,seval,sh5,shK]
 ·rintro ⟨o,ho⟩
  simp only
  by_cases ho2:o < LL.length
  ·have ho':(o:Int) < (LL.length:Int):=by omega
   have hd:=pcL_get ho2
   have hacc:=rawLL_step ho2
   have hll:=tot_mem (List.getElem_mem ho2)
   have hlk:=hok _ (List.getElem_mem ho2)
   generalize LL[o] = l at *
   have hel:(rawLL LL o).length ≤ 2000001:=by
    unfold rawLL
    have h1:=(rawE_len ((LL.take o).flatMap rsP) [[]]).2
    have h2:=tot_take LL o
    simp only [List.length_singleton] at h1
    omega
   obtain ⟨m0,hm0⟩:∃ m,rawLL LL o = rawE [[]] m:=⟨_,rfl⟩
   have hfin:∃ j:{o:Nat // o ≤ LL.length},(o:Int) + 1 = (j.1:Int) ∧ rawLL LL (o + 1) = rawLL LL j.1 ∧ LL.length - j.1 < LL.length - o:=⟨⟨o + 1,ho2⟩,by simp,rfl,by show LL.length - (o + 1) < LL.length - o; omega⟩
   rw [← hacc] at hfin
   generalize rawLL LL o = E0 at *
   have hE5:(sh5 E0).under (shK E0).length = true:=shK_under
   have hE5b:leH (shK E0).length (shK E0) (shK E0):=shK_le
   simp -implicitDefEqProofs (maxSteps:=600000) (disch:=(first | omega | decide)) only [go_sem,↓reduceIte,seval,ho',hd,List.length_map]
   refine wpA_loopH [9,10,11,15,16] (ι:={j:Nat // j ≤ l.length}) (fun p=>[(17,.int .i64 p.1),(3,sh5 (rawE E0 (rsP (l.take p.1))))]) (fun p=>shK (rawE E0 (rsP (l.take p.1)))) (fun p=>l.length - p.1) ⟨0,by omega⟩ (fun _=>Nat.zero_le _) ?_ ?_
   ·have e:rawE E0 (rsP (l.take 0)) = E0:=rfl
    simp only [e]
    simp -implicitDefEqProofs (maxSteps:=600000) (disch:=(first | omega | decide)) only [go_sem,↓reduceIte,seval,hE5,hE5b]
   ·rintro ⟨j,hj⟩
    simp only
    obtain ⟨m1,hm1⟩:∃ m,rawE E0 (rsP (l.take j)) = rawE [[]] m:=⟨m0 ++ rsP (l.take j),by rw [hm0,rawE_app]⟩
    have hlenE:=(rawE_len (rsP (l.take j)) E0).2
    have hrl:=rsP_len (l.take j)
    rw [List.length_take,Nat.min_eq_left hj] at hrl
    have hgeE:=(rawE_len m1 [[]]).1
    rw [← hm1,List.length_singleton] at hgeE
    by_cases hlt:j < l.length
    ·have hlt':(j:Int) < (l.length:Int):=by omega
     have e1:=pc_get hlt
     have hpk:=hlk _ (List.getElem_mem hlt)
     have hst:=rsP_snoc hlt
     have hstE:rawE E0 (rsP (l.take (j + 1))) = if rightR l[j].r = true then rawS (rawE E0 (rsP (l.take j))) l[j].r else rawE E0 (rsP (l.take j)):=by
          rw [hst,rawE_app]
          by_cases h:rightR l[j].r = true
          ·rw [if_pos h,if_pos h]; rfl
          ·rw [if_neg h,if_neg h]; rfl
     have next:∀ E',rawE E0 (rsP (l.take (j + 1))) = E' → ∃ i:{j:Nat // j ≤ l.length},(j:Int) + 1 = (i.1:Int) ∧ (sh5 (rawE E0 (rsP (l.take i.1))) = sh5 E' ∧ shK (rawE E0 (rsP (l.take i.1))) = shK E') ∧ l.length - i.1 < l.length - j:=fun E' h1=>⟨⟨j + 1,hlt⟩,by simp,by rw [h1]; exact ⟨rfl,rfl⟩,by show l.length - (j + 1) < l.length - j; omega⟩
     clear hst
     generalize rawE E0 (rsP (l.take j)) = E at *
     generalize hx:l[j] = x at *
     obtain ⟨⟨lo,hi,op⟩,s⟩:=x
     simp only at hpk hstE
     have hU:(sh5 E).under (shK E).length = true:=shK_under
     have hUb:leH (shK E).length (shK E) (shK E):=shK_le
     cases hr:rightR ⟨lo,hi,op⟩ with
     | false=>
          rw [hr,if_neg (by simp)] at hstE
          obtain ⟨i,n1,⟨n2,n3⟩,n4⟩:=next _ hstE
          by_cases hE:E.length = 1
          ·rw [(shK_one hE).1,(shK_one hE).2] at *
           simp -implicitDefEqProofs (maxSteps:=600000) (disch:=(first | omega | decide)) only [go_sem,↓reduceIte,seval,hlt',e1,hr,wrap_i64,List.length_map]
           refine ⟨i,?_,n4⟩
           rw [n2,n3]
           simp -implicitDefEqProofs (maxSteps:=600000) (disch:=(first | omega | decide)) only [go_sem,↓reduceIte,seval,n1]
          ·rw [(shK_more hE).1,(shK_more hE).2] at *
           simp -implicitDefEqProofs (maxSteps:=600000) (disch:=(first | omega | decide)) only [go_sem,↓reduceIte,seval,hlt',e1,hr,wrap_i64,List.length_map]
           refine ⟨i,?_,n4⟩
           rw [n2,n3]
           simp -implicitDefEqProofs (maxSteps:=600000) (disch:=(first | omega | decide)) only [go_sem,↓reduceIte,seval,n1]
           try simp
     | true=>
          rw [hr,if_pos rfl] at hstE
          by_cases hE:E.length = 1
          ·have hE1:E = [[]]:=by rw [hm1] at hE ⊢; exact raw_one hE
           rw [(shK_one hE).1,(shK_one hE).2]
           subst hE1
           cases op with
           | true=>
            obtain ⟨i,n1,⟨n2,n3⟩,n4⟩:=next [[],lo] hstE
            rw [(shK_more (E:=[[],lo]) (by simp)).1] at n2
            rw [(shK_more (E:=[[],lo]) (by simp)).2] at n3
            simp -implicitDefEqProofs (maxSteps:=600000) (disch:=(first | omega | decide)) only [go_sem,↓reduceIte,seval,hlt',e1,hr,wrap_i64,List.length_map]
            refine ⟨i,?_,n4⟩
            rw [n2,n3]
            simp -implicitDefEqProofs (maxSteps:=600000) (disch:=(first | omega | decide)) only [go_sem,↓reduceIte,seval,n1]
            try simp
           | false=>
            obtain ⟨i,n1,⟨n2,n3⟩,n4⟩:=next [[],lo,hi] hstE
            rw [(shK_more (E:=[[],lo,hi]) (by simp)).1] at n2
            rw [(shK_more (E:=[[],lo,hi]) (by simp)).2] at n3
            simp -implicitDefEqProofs (maxSteps:=600000) (disch:=(first | omega | decide)) only [go_sem,↓reduceIte,seval,hlt',e1,hr,wrap_i64,List.length_map]
            refine ⟨i,?_,n4⟩
            rw [n2,n3]
            simp -implicitDefEqProofs (maxSteps:=600000) (disch:=(first | omega | decide)) only [go_sem,↓reduceIte,seval,n1]
            try simp
          ·rw [(shK_more hE).1,(shK_more hE).2]
           have tl:(E.map A.str).take E.length = E.map A.str:=List.take_of_length_le (by simp)
           have tl2:(E.map A.str ++ [A.str lo]).take (E.length + 1) = E.map A.str ++ [A.str lo]:=List.take_of_length_le (by simp)
           have ll2:(E.map A.str ++ [A.str lo]).length = E.length + 1:=by simp
           cases op with
           | true=>
            obtain ⟨i,n1,⟨n2,n3⟩,n4⟩:=next (E ++ [lo]) hstE
            have hne:(E ++ [lo]).length ≠ 1:=by rw [List.length_append]; show E.length + 1 ≠ 1; omega
            rw [(shK_more hne).1] at n2
            rw [(shK_more hne).2] at n3
            simp -implicitDefEqProofs (maxSteps:=600000) (disch:=(first | omega | decide)) only [go_sem,↓reduceIte,seval,hlt',e1,hr,tl,wrap_i64,List.length_map]
            refine ⟨⟨Nat.le_refl _,by omega⟩,i,?_,n4⟩
            rw [n2,n3]
            simp -implicitDefEqProofs (maxSteps:=600000) (disch:=(first | omega | decide)) only [go_sem,↓reduceIte,seval,n1]
            try simp
           | false=>
            obtain ⟨i,n1,⟨n2,n3⟩,n4⟩:=next (E ++ [lo,hi]) hstE
            have hne:(E ++ [lo,hi]).length ≠ 1:=by rw [List.length_append]; show E.length + 2 ≠ 1; omega
            rw [(shK_more hne).1] at n2
            rw [(shK_more hne).2] at n3
            simp -implicitDefEqProofs (maxSteps:=600000) (disch:=(first | omega | decide)) only [go_sem,↓reduceIte,seval,hlt',e1,hr,tl,tl2,ll2,wrap_i64,List.length_map]
            refine ⟨⟨Nat.le_refl _,by omega⟩,⟨Nat.le_refl _,by omega⟩,i,?_,n4⟩
            rw [n2,n3]
            simp -implicitDefEqProofs (maxSteps:=600000) (disch:=(first | omega | decide)) only [go_sem,↓reduceIte,seval,n1]
            try simp
    ·have hlt':¬ (j:Int) < (l.length:Int):=by omega
     rw [List.take_of_length_le (by omega)] at *
     obtain ⟨i,n1,n2,n3⟩:=hfin
     rw [n2]
     have hU:(sh5 (rawLL LL i.1)).under (shK (rawLL LL i.1)).length = true:=shK_under
     have hUb:leH (shK (rawLL LL i.1)).length (shK (rawLL LL i.1)) (shK (rawLL LL i.1)):=shK_le
     have w:IntKind.i64.wrap ((o:Int) + 1) = (o:Int) + 1:=wrap_i64 (by omega)
     simp -implicitDefEqProofs (maxSteps:=600000) (disch:=(first | omega | decide)) only [go_sem,↓reduceIte,seval,hlt',w,List.length_map]
     refine ⟨i,?_,n3⟩
     simp -implicitDefEqProofs (maxSteps:=600000) (disch:=(first | omega | decide)) only [go_sem,↓reduceIte,seval,n1,hU,hUb]
  ·have ho':¬ (o:Int) < (LL.length:Int):=by omega
   obtain rfl:o = LL.length:=by omega
   have hE2:rawLL LL LL.length = rawE [[]] (LL.flatMap rsP):=by unfold rawLL; rw [List.take_length]
   have h17:=raw17K (flat_right LL)
   have hel:=(rawE_len (LL.flatMap rsP) [[]]).2
   have htt:=tot_take LL LL.length
   rw [List.take_length] at htt
   rw [List.length_singleton] at hel
   rw [hE2]
   unfold edgesK
   have hone:=@raw_one (LL.flatMap rsP)
   generalize rawE [[]] (LL.flatMap rsP) = E at *
   by_cases hE:E.length = 1
   ·have hE1:=hone hE
    rw [(shK_one hE).1,(shK_one hE).2]
    subst hE1
    have s1:=E15_st (.inr []) trivial
    have s2:=E15_cp (.inr []) trivial
    simp only [stE,stO,stR] at s1
    simp only [cpE,cpO,cpR] at s2
    have hs:sortT [[]] = [[]]:=by
     have:=(sortT_spec h17).1
     exact (List.perm_replicate (n:=1) (a:=([]:List UInt8))).1 this
    rw [hs]
    simp -implicitDefEqProofs (maxSteps:=600000) (disch:=(first | omega | decide)) only [go_sem,↓reduceIte,seval,ho',s1,s2,compL,List.contains_nil,List.contains_cons,List.length_map]
   ·rw [(shK_more hE).1,(shK_more hE).2]
    have s1:=E15_st (.inl (asB E h17)) (by show (asB E h17).length < _; rw [asB_len]; omega)
    simp only [stE,stO,stR,asB_enc,asB_len,sortT_enc] at s1
    have hp:=(sortT_spec h17).1.length_eq
    have s2:=E15_cp (.inl (sortT E)) (by show (sortT E).length ≤ _; rw [hp]; omega)
    simp only [cpE,cpO,cpR,hp] at s2
    have hcl:(compL (sortT E)).length = ((compL (sortT E)).map A.str).length:=by simp
    simp -implicitDefEqProofs (maxSteps:=600000) (disch:=(first | omega | decide)) only [go_sem,↓reduceIte,seval,ho',s1,s2,List.contains_nil,List.contains_cons,List.length_map]
    refine ⟨by rw [List.length_append]; omega,?_⟩
    rw [List.map_append,List.take_append_of_le_length (by simp),List.take_of_length_le (by simp)]
set_option maxHeartbeats 16000000
def rowP (acc:List Pc):List A:=acc.reverse.map Pc.enc
theorem rowP_cons (q:Pc) (qs:List Pc):rowP (q :: qs) = rowP qs ++ [.agg [.str q.r.lo,.str q.r.hi,.bool q.r.op,.slc (q.s.map Known.enc)]]:=by
 simp [rowP,Pc.enc,Pc.cells]
theorem rowP_len (l:List Pc):(rowP l).length = l.length:=by simp [rowP]
theorem rowP_nil:rowP [] = []:=rfl
theorem mkP_from (P:List UInt8 → List Known) (es:List (List UInt8)):∀ (k:Nat),∀ p ∈ mkP P es k,∃ e,p.s = P e
 | 0,p,hp=>by cases hp
 | k + 1,p,hp=>by
  have ih:=mkP_from P es k
  simp only [mkP] at hp
  split at hp
  ·exact ih p hp
  ·revert hp
   cases hm:mkP P es k with
   | nil=>
    intro hp
    simp only [pushP,List.mem_singleton] at hp
    subst hp; exact ⟨_,rfl⟩
   | cons q qs=>
    intro hp
    rw [hm] at ih
    simp only [pushP] at hp
    split at hp
    ·rcases List.mem_cons.1 hp with rfl | hp
     ·obtain ⟨e,he⟩:=ih q (by simp)
      exact ⟨e,he⟩
     ·exact ih p (by simp [hp])
    ·rcases List.mem_cons.1 hp with rfl | hp
     ·exact ⟨_,rfl⟩
     ·exact ih p hp
theorem strE_get {l:List (List UInt8)} {k:Nat} (h:k < l.length):(l.map A.str)[k]? = some (.str (l[k]!)):=by
 rw [List.getElem?_map,List.getElem?_eq_getElem h,getElem!_pos l k h]; rfl
noncomputable def P15t:Tab:=P15s.add 151 (entry (fun (v:List Pc × List UInt8)=>[.slc (v.1.map Pc.enc),.str v.2]) (fun v=>okP v.1 ∧ v.2.length ≤ 9223372036854775807) (fun v=>.slc ((atP v.1 v.2).map Known.enc)))
theorem P15t_ok:TabOK Tryz.prog P15t:=P15s_ok.add (callable_of Tryz.func151 (by kernel_rfl) (by kernel_rfl)) (entry_ok fun v h=>c_know_At v.1 v.2 h.1 h.2)
@[go_sem] theorem P15t_old {g:FuncId} {xs:List A} (h:g ≠ 151):P15t.f g xs = P15s.f g xs:=Tab.add_ne h
theorem P15t_know_At (v:List Pc × List UInt8) (h:okP v.1 ∧ v.2.length ≤ 9223372036854775807):P15t.f 151 [.slc (v.1.map Pc.enc),.str v.2] = some (.slc ((atP v.1 v.2).map Known.enc)):=
 (Tab.add_eq:P15t.f 151 [.slc (v.1.map Pc.enc),.str v.2] = (entry (fun (v:List Pc × List UInt8)=>[.slc (v.1.map Pc.enc),.str v.2]) (fun v=>okP v.1 ∧ v.2.length ≤ 9223372036854775807) (fun v=>.slc ((atP v.1 v.2).map Known.enc))) [.slc (v.1.map Pc.enc),.str v.2]).trans (entry_eq (fun i j h=>by first | (cases i; cases j; rfl; done) | simpa [Prod.ext_iff,and_assoc] using h | (simp at h; omega) | (simp at h; exact Prod.ext h.1 (Prod.ext h.2.1 (by omega)))) v h)
noncomputable def P15u:Tab:=P15t.add 224 (entry (fun (v:List Pc × List UInt8)=>[.slc (v.1.map Pc.enc),.str v.2]) (fun v=>okR v.1 ∧ v.2.length ≤ 9223372036854775807) (fun v=>.slc ((atP v.1 v.2).map Known.enc)))
theorem P15u_ok:TabOK Tryz.prog P15u:=P15t_ok.add (callable_of Tryz.func224 (by kernel_rfl) (by kernel_rfl)) (entry_ok fun v h=>c_ref15_At v.1 v.2 h.1 h.2)
@[go_sem] theorem P15u_old {g:FuncId} {xs:List A} (h:g ≠ 224):P15u.f g xs = P15t.f g xs:=Tab.add_ne h
theorem P15u_ref15_At (v:List Pc × List UInt8) (h:okR v.1 ∧ v.2.length ≤ 9223372036854775807):P15u.f 224 [.slc (v.1.map Pc.enc),.str v.2] = some (.slc ((atP v.1 v.2).map Known.enc)):=
 (Tab.add_eq:P15u.f 224 [.slc (v.1.map Pc.enc),.str v.2] = (entry (fun (v:List Pc × List UInt8)=>[.slc (v.1.map Pc.enc),.str v.2]) (fun v=>okR v.1 ∧ v.2.length ≤ 9223372036854775807) (fun v=>.slc ((atP v.1 v.2).map Known.enc))) [.slc (v.1.map Pc.enc),.str v.2]).trans (entry_eq (fun i j h=>by first | (cases i; cases j; rfl; done) | simpa [Prod.ext_iff,and_assoc] using h | (simp at h; omega) | (simp at h; exact Prod.ext h.1 (Prod.ext h.2.1 (by omega)))) v h)
noncomputable def P15v:Tab:=P15u.add 71 (entry (fun (k:List Pc)=>[.slc (k.map Pc.enc)]) (fun k=>okP k) (fun k=>.bool (rightP k)))
theorem P15v_ok:TabOK Tryz.prog P15v:=P15u_ok.add (callable_of Tryz.func71 (by kernel_rfl) (by kernel_rfl)) (entry_ok fun k h=>c_know_Right k h)
@[go_sem] theorem P15v_old {g:FuncId} {xs:List A} (h:g ≠ 71):P15v.f g xs = P15u.f g xs:=Tab.add_ne h
@[go_sem] theorem P15v_eff {g:FuncId}:P15v.eff g = false:=rfl
@[go_sem] theorem P15v_ords {n:Nat}:P15v.ords n = []:=rfl
theorem P15v_know_Right (k:List Pc) (h:okP k):P15v.f 71 [.slc (k.map Pc.enc)] = some (.bool (rightP k)):=
 (Tab.add_eq:P15v.f 71 [.slc (k.map Pc.enc)] = (entry (fun (k:List Pc)=>[.slc (k.map Pc.enc)]) (fun k=>okP k) (fun k=>.bool (rightP k))) [.slc (k.map Pc.enc)]).trans (entry_eq (fun i j h=>by first | (cases i; cases j; rfl; done) | simpa [Prod.ext_iff,and_assoc] using h | (simp at h; omega) | (simp at h; exact Prod.ext h.1 (Prod.ext h.2.1 (by omega)))) k h)
theorem p_At {k:List Pc} {x:List UInt8} (h:okP k) (hx:x.length ≤ 9223372036854775807):P15t.f 151 [.slc (k.map Pc.enc),.str x] = some (.slc ((atP k x).map Known.enc)):=P15t_know_At (k,x) ⟨h,hx⟩
theorem p_rAt {k:List Pc} {x:List UInt8} (h:okR k) (hx:x.length ≤ 9223372036854775807):P15u.f 224 [.slc (k.map Pc.enc),.str x] = some (.slc ((atP k x).map Known.enc)):=P15u_ref15_At (k,x) ⟨h,hx⟩
theorem p_Right {k:List Pc} (h:okP k):P15v.f 71 [.slc (k.map Pc.enc)] = some (.bool (rightP k)):=P15v_know_Right k h
theorem ok_know_Of_1:codeOK Tryz.prog P15v Tryz.f205.ntmps (Tryz.f205.body.getD .skip) = true:=by kernel_rfl
theorem c_know_Of1 (k:List Pc) (x:List UInt8) (hk:okP k) (hx:x.length ≤ 9223372036854775807):CallA Tryz.prog 205 [.str x,.dptr [.slc (k.map Pc.enc)]] (· = .slc ((atP k x).map Known.enc)):=by
 refine callA_of_body P15v_ok mixed Tryz.func205 rfl (Nat.le_of_ble_eq_true rfl) ok_know_Of_1 ?_
 unfold Tryz.f205
 have h:=p_At hk hx
 simp -implicitDefEqProofs (maxSteps:=600000) (disch:=(first | omega | decide)) only [go_sem,↓reduceIte,seval,h]
noncomputable def restP (k:List Pc) (l:List Rng) (x:List UInt8):List Known:=if hasRs l x = true then atP k x else []
theorem ok_know_Restrict_1:codeOK Tryz.prog P15v Tryz.f150.ntmps (Tryz.f150.body.getD .skip) = true:=by kernel_rfl
theorem c_know_Restrict1 (k:List Pc) (l:List Rng) (x:List UInt8) (hk:okP k) (hl:l.length ≤ 100000) (hol:okL l) (hx:x.length ≤ 9223372036854775807):CallA Tryz.prog 150 [.str x,.dptr [.slc (l.map Rng.enc)],.dptr [.slc (k.map Pc.enc)]] (· = .slc ((restP k l x).map Known.enc)):=by
 refine callA_of_body P15v_ok mixed Tryz.func150 rfl (Nat.le_of_ble_eq_true rfl) ok_know_Restrict_1 ?_
 unfold Tryz.f150
 have h1:=p_At hk hx
 have h2:=p_ranges_Has hl hol hx
 unfold restP
 cases h:hasRs l x with
 | false=>
  rw [h] at h2
  simp -implicitDefEqProofs (maxSteps:=600000) (disch:=(first | omega | decide)) only [go_sem,↓reduceIte,seval,h2,List.map_nil,Bool.false_eq_true]
 | true=>
  rw [h] at h2
  simp -implicitDefEqProofs (maxSteps:=600000) (disch:=(first | omega | decide)) only [go_sem,↓reduceIte,seval,h1,h2]
noncomputable def P15w:Tab:=P15v.add 205 (entry (fun (v:List UInt8 × List Pc)=>[.str v.1,.dptr [.slc (v.2.map Pc.enc)]]) (fun v=>okP v.2 ∧ v.1.length ≤ 9223372036854775807) (fun v=>.slc ((atP v.2 v.1).map Known.enc)))
theorem P15w_ok:TabOK Tryz.prog P15w:=P15v_ok.add (callable_of Tryz.func205 (by kernel_rfl) (by kernel_rfl)) (entry_ok fun v h=>c_know_Of1 v.2 v.1 h.1 h.2)
@[go_sem] theorem P15w_old {g:FuncId} {xs:List A} (h:g ≠ 205):P15w.f g xs = P15v.f g xs:=Tab.add_ne h
theorem P15w_know_Of_1 (v:List UInt8 × List Pc) (h:okP v.2 ∧ v.1.length ≤ 9223372036854775807):P15w.f 205 [.str v.1,.dptr [.slc (v.2.map Pc.enc)]] = some (.slc ((atP v.2 v.1).map Known.enc)):=
 (Tab.add_eq:P15w.f 205 [.str v.1,.dptr [.slc (v.2.map Pc.enc)]] = (entry (fun (v:List UInt8 × List Pc)=>[.str v.1,.dptr [.slc (v.2.map Pc.enc)]]) (fun v=>okP v.2 ∧ v.1.length ≤ 9223372036854775807) (fun v=>.slc ((atP v.2 v.1).map Known.enc))) [.str v.1,.dptr [.slc (v.2.map Pc.enc)]]).trans (entry_eq (fun i j h=>by first | (cases i; cases j; rfl; done) | simpa [Prod.ext_iff,and_assoc] using h | (simp at h; omega) | (simp at h; exact Prod.ext h.1 (Prod.ext h.2.1 (by omega)))) v h)
noncomputable def P15x:Tab:=P15w
theorem P15x_ok:TabOK Tryz.prog P15x:=P15w_ok
@[go_sem] theorem P15x_old {g:FuncId} {xs:List A}:P15x.f g xs = P15w.f g xs:=rfl
noncomputable def P15y:Tab:=P15x.add 150 (entry (fun (v:List UInt8 × List Rng × List Pc)=>[.str v.1,.dptr [.slc (v.2.1.map Rng.enc)],.dptr [.slc (v.2.2.map Pc.enc)]]) (fun v=>(okP v.2.2 ∧ okL v.2.1) ∧ v.2.1.length ≤ 100000 ∧ v.1.length ≤ 9223372036854775807) (fun v=>.slc ((restP v.2.2 v.2.1 v.1).map Known.enc)))
theorem P15y_ok:TabOK Tryz.prog P15y:=P15x_ok.add (callable_of Tryz.func150 (by kernel_rfl) (by kernel_rfl)) (entry_ok fun v h=>c_know_Restrict1 v.2.2 v.2.1 v.1 h.1.1 h.2.1 h.1.2 h.2.2)
@[go_sem] theorem P15y_old {g:FuncId} {xs:List A} (h:g ≠ 150):P15y.f g xs = P15x.f g xs:=Tab.add_ne h
@[go_sem] theorem P15y_eff {g:FuncId}:P15y.eff g = false:=rfl
@[go_sem] theorem P15y_fix {n:Nat}:P15y.fix n = false:=rfl
@[go_sem] theorem P15y_ords {n:Nat}:P15y.ords n = []:=rfl
theorem P15y_know_Restrict_1 (v:List UInt8 × List Rng × List Pc) (h:(okP v.2.2 ∧ okL v.2.1) ∧ v.2.1.length ≤ 100000 ∧ v.1.length ≤ 9223372036854775807):P15y.f 150 [.str v.1,.dptr [.slc (v.2.1.map Rng.enc)],.dptr [.slc (v.2.2.map Pc.enc)]] = some (.slc ((restP v.2.2 v.2.1 v.1).map Known.enc)):=
 (Tab.add_eq:P15y.f 150 [.str v.1,.dptr [.slc (v.2.1.map Rng.enc)],.dptr [.slc (v.2.2.map Pc.enc)]] = (entry (fun (v:List UInt8 × List Rng × List Pc)=>[.str v.1,.dptr [.slc (v.2.1.map Rng.enc)],.dptr [.slc (v.2.2.map Pc.enc)]]) (fun v=>(okP v.2.2 ∧ okL v.2.1) ∧ v.2.1.length ≤ 100000 ∧ v.1.length ≤ 9223372036854775807) (fun v=>.slc ((restP v.2.2 v.2.1 v.1).map Known.enc))) [.str v.1,.dptr [.slc (v.2.1.map Rng.enc)],.dptr [.slc (v.2.2.map Pc.enc)]]).trans (entry_eq (fun i j h=>by first | (cases i; cases j; rfl; done) | simpa [Prod.ext_iff,and_assoc] using h | (simp at h; omega) | (simp at h; exact Prod.ext h.1 (Prod.ext h.2.1 (by omega)))) v h)
theorem p_Of1 {k:List Pc} {x:List UInt8} (h:okP k) (hx:x.length ≤ 9223372036854775807):P15y.f 205 [.str x,.dptr [.slc (k.map Pc.enc)]] = some (.slc ((atP k x).map Known.enc)):=by
 have h:=P15w_know_Of_1 (x,k) ⟨h,hx⟩
 simp -implicitDefEqProofs (maxSteps:=600000) (disch:=(first | omega | decide)) only [go_sem,↓reduceIte,seval,h]
theorem p_Restrict1 {k:List Pc} {l:List Rng} {x:List UInt8} (h:okP k) (hl:l.length ≤ 100000) (hol:okL l) (hx:x.length ≤ 9223372036854775807):P15y.f 150 [.str x,.dptr [.slc (l.map Rng.enc)],.dptr [.slc (k.map Pc.enc)]] = some (.slc ((restP k l x).map Known.enc)):=P15y_know_Restrict_1 (x,l,k) ⟨⟨h,hol⟩,hl,hx⟩
structure Caps (caps:List A):Prop where
 pure:A.pure.pureL caps = true
 view:∀ H,viewL H caps = some caps
 under:∀ m,A.under.underL m caps = true
 mem:∀ n,A.mem.memL n caps = false
noncomputable def B15:Tab:={ P15y with ords:=fun n=>if n = 12 then [[0,1,2,3,4,5,6,7,8,10,11,12,9,13,14,15,16,17],[0,1,2,3,4,5,6,7,8,10,11,12,13,9,14,15,16,17]] else [] }
theorem B15_ok:TabOK Tryz.prog B15:=⟨P15y_ok.f,P15y_ok.hp⟩
@[go_sem] theorem B15_f:B15.f = P15y.f:=rfl
@[go_sem] theorem B15_eff {g:FuncId}:B15.eff g = false:=rfl
@[go_sem] theorem B15_effT:B15.effT = false:=rfl
@[go_sem] theorem B15_fix {n:Nat}:B15.fix n = false:=rfl
@[go_sem] theorem B15_ords12:B15.ords 12 = [[0,1,2,3,4,5,6,7,8,10,11,12,9,13,14,15,16,17],[0,1,2,3,4,5,6,7,8,10,11,12,13,9,14,15,16,17]]:=rfl
@[go_sem] theorem B15_ords {n:Nat} (h:n ≠ 12):B15.ords n = []:=if_neg h
theorem ok_know_build:codeOK Tryz.prog B15 Tryz.f148.ntmps (Tryz.f148.body.getD .skip) = true:=by kernel_rfl
theorem c_know_build (es:List (List UInt8)) (g:FuncId) (caps:List A) (P:List UInt8 → List Known) (hc:Caps caps) (hE:Edg P es) (hel:es.length ≤ 1000000) (hsm:∀ x,smallK (P x))
 (hg:∀ x ∈ es,P15y.f g (.str x :: caps) = some (.slc ((P x).map Known.enc))) :
 CallA Tryz.prog 148 [.slc (es.map .str),.fn g caps] (· = .slc ((setP P).map Pc.enc)):=by
 refine callA_of_body B15_ok mixed Tryz.func148 rfl (Nat.le_of_ble_eq_true rfl) ok_know_build ?_
 unfold Tryz.f148
 have hcp:=hc.pure
 have hcv:=hc.view
 have hcu:=hc.under
 have hcm:=hc.mem
 simp -implicitDefEqProofs (maxSteps:=600000) (disch:=(first | omega | decide)) only [go_sem,↓reduceIte,seval,List.length_map]
 refine wpA_loop_nil 5 4 rfl ?_
 refine wpA_loop [0,1,11,12] (ι:={k:Nat // k ≤ es.length}) (fun p=>[(13,.int .i64 p.1),(5,.row 0 0 4 (mkP P es p.1).length false)]) (fun p=>[(0,.row 4 (rowP (mkP P es p.1)))]) (fun p=>es.length - p.1) ⟨0,by omega⟩ (Nat.zero_le _) ?_ ?_
 ·simp -implicitDefEqProofs (maxSteps:=600000) (disch:=(first | omega | decide)) only [go_sem,↓reduceIte,seval,hcu]
  simp [mkP,rowP]
 ·rintro ⟨k,hk⟩
  simp only
  have hml:=mkP_len P es k
  by_cases hlt:k < es.length
  ·have hlt':(k:Int) < (es.length:Int):=by omega
   have e1:=strE_get hlt
   have hin:es[k]! ∈ es:=by rw [getElem!_pos es k hlt]; exact List.getElem_mem _
   have hgx:=hg _ hin
   have hspec:=(mkP_spec hE k (by omega)).1
   have hfrom:=mkP_from P es k
   have hsmk:=hsm (es[k]!)
   have hrk:=hE.right (es[k]!)
   have next:∀ m',mkP P es (k + 1) = m' → ∃ i:{k:Nat // k ≤ es.length},(((k:Int) + 1 = (i.1:Int) ∧ m'.length = (mkP P es i.1).length) ∧ rowP m' = rowP (mkP P es i.1)) ∧ es.length - i.1 < es.length - k:=fun m' h=>⟨⟨k + 1,hlt⟩,⟨⟨by simp,by rw [h]⟩,by rw [h]⟩,by show es.length - (k + 1) < es.length - k; omega⟩
   have hst:mkP P es (k + 1) = if P (es[k]!) = [] then mkP P es k else pushP (mkP P es k) ⟨rngE es k,P (es[k]!)⟩:=rfl
   generalize mkP P es k = m at *
   generalize hs:es[k]! = s at *
   generalize hS:P s = S at *
   by_cases hn:k + 1 < es.length
   ·have hn':(k:Int) + 1 < (es.length:Int):=by omega
    have e2:=strE_get hn
    have c9:((k:Int) + 1).toNat = k + 1:=by omega
    have c8:(0:Int) ≤ (k:Int) + 1:=by omega
    have hr:rngE es k = ⟨s,es[k + 1]!,false⟩:=by unfold rngE; rw [if_pos hn,hs]
    rw [hr] at hst
    cases hSl:((S.length:Int) == 0) with
    | true=>
     have hS00:(S.length:Int) = 0:=by simpa using hSl
     have hS0:S = []:=List.length_eq_zero_iff.1 (by omega)
     rw [if_pos hS0] at hst
     have fin:=next _ hst
     simp -implicitDefEqProofs (maxSteps:=600000) (disch:=(first | omega | decide)) only [go_sem,↓reduceIte,seval,hlt',e1,hgx,hcp,hcv,hcu,hcm,hn',e2,c9,c8,hSl,wrap_i64,List.length_map]
     exact fin
    | false=>
     have hS0:S ≠ []:=fun e=>by rw [e] at hSl; simp at hSl
     rw [if_neg hS0] at hst
     cases m with
     | nil=>
          have fin:=next _ hst
          simp only [pushP,rowP_cons,rowP_nil,List.nil_append,List.length_cons,List.length_nil] at fin
          rw [rowP_nil]
          simp -implicitDefEqProofs (maxSteps:=600000) (disch:=(first | omega | decide)) only [go_sem,↓reduceIte,seval,hlt',e1,hgx,hcp,hcv,hcu,hcm,hn',e2,c9,c8,hSl,wrap_i64,List.length_map,List.length_nil]
          exact fin
     | cons q qs=>
          have hqr:rightK q.s = true:=by have:=hspec q (by simp); simp only [onePc,Bool.and_eq_true] at this; exact this.2
          have hqs:smallK q.s:=by obtain ⟨e,he⟩:=hfrom q (by simp); rw [he]; exact hsm e
          obtain ⟨⟨lo',hi',op'⟩,s'⟩:=q
          simp only at hqr hqs
          have hsame:=l_Same hqs hsmk (by rw [ofK_self hqr]; exact hqs) (by rw [ofK_self hrk]; exact hsmk)
          rw [ofK_self hqr,ofK_self hrk] at hsame
          have hml':qs.length + 1 ≤ k:=hml
          have b0:(0:Int) < ((qs.length + 1:Nat):Int):=by omega
          have b1:(((qs.length + 1:Nat):Int) - 1).toNat = qs.length:=by omega
          have b2:(0:Int) ≤ ((qs.length + 1:Nat):Int) - 1:=by omega
          have b3:((qs.length + 1:Nat):Int) - 1 < ((qs.length + 1:Nat):Int):=by omega
          have g1:∀ x:A,(rowP qs ++ [x])[qs.length]? = some x:=fun x=>by
           have:=Go.Abs.get_last (x:=x) (l:=rowP qs)
           rwa [rowP_len] at this
          have g2:∀ x v:A,setNth (rowP qs ++ [x]) qs.length v = rowP qs ++ [v]:=fun x v=>by
           have:=Go.Abs.setNth_last (x:=x) (v:=v) (l:=rowP qs)
           rwa [rowP_len] at this
          have gl:∀ x:A,(rowP qs ++ [x]).length = qs.length + 1:=fun x=>by rw [List.length_append,rowP_len]; rfl
          have gt:∀ x:A,(rowP qs ++ [x]).take (qs.length + 1) = rowP qs ++ [x]:=fun x=>List.take_of_length_le (Nat.le_of_eq (gl x))
          rw [rowP_cons]
          cases op' with
          | true=>
           have hpush:pushP (⟨⟨lo',hi',true⟩,s'⟩ :: qs) ⟨⟨s,es[k + 1]!,false⟩,S⟩ = ⟨⟨s,es[k + 1]!,false⟩,S⟩ :: ⟨⟨lo',hi',true⟩,s'⟩ :: qs:=by simp [pushP]
           have fin:=next _ hst
           rw [hpush,rowP_cons,rowP_cons] at fin
           simp -implicitDefEqProofs (maxSteps:=600000) (disch:=(first | omega | decide)) only [go_sem,↓reduceIte,seval,hlt',e1,hgx,hcp,hcv,hcu,hcm,hn',e2,c9,c8,hSl,b0,b1,b2,b3,g1,g2,gl,gt,wrap_i64,List.length_map,List.length_cons,Bool.not_true,Bool.false_and]
           exact ⟨⟨Nat.le_refl _,by omega⟩,fin⟩
          | false=>
           cases h1:hi' == s with
           | false=>
            have hpush:pushP (⟨⟨lo',hi',false⟩,s'⟩ :: qs) ⟨⟨s,es[k + 1]!,false⟩,S⟩ = ⟨⟨s,es[k + 1]!,false⟩,S⟩ :: ⟨⟨lo',hi',false⟩,s'⟩ :: qs:=by simp only [pushP]; rw [if_neg (by rw [h1]; simp)]
            have fin:=next _ hst
            rw [hpush,rowP_cons,rowP_cons] at fin
            simp -implicitDefEqProofs (maxSteps:=600000) (disch:=(first | omega | decide)) only [go_sem,↓reduceIte,seval,hlt',e1,hgx,hcp,hcv,hcu,hcm,hn',e2,c9,c8,hSl,b0,b1,b2,b3,g1,g2,gl,gt,h1,wrap_i64,List.length_map,List.length_cons,Bool.not_false,Bool.true_and]
            exact ⟨⟨Nat.le_refl _,by omega⟩,fin⟩
           | true=>
            cases h2:sameK s' S with
            | false=>
             have h2':s' ≠ S:=by simpa [sameK] using h2
             rw [h2] at hsame
             have hpush:pushP (⟨⟨lo',hi',false⟩,s'⟩ :: qs) ⟨⟨s,es[k + 1]!,false⟩,S⟩ = ⟨⟨s,es[k + 1]!,false⟩,S⟩ :: ⟨⟨lo',hi',false⟩,s'⟩ :: qs:=by simp only [pushP]; rw [if_neg (by simp [h2'])]
             have fin:=next _ hst
             rw [hpush,rowP_cons,rowP_cons] at fin
             simp -implicitDefEqProofs (maxSteps:=600000) (disch:=(first | omega | decide)) only [go_sem,↓reduceIte,seval,hlt',e1,hgx,hcp,hcv,hcu,hcm,hn',e2,c9,c8,hSl,b0,b1,b2,b3,g1,g2,gl,gt,h1,hsame,wrap_i64,List.length_map,List.length_cons,Bool.not_false,Bool.true_and]
             exact ⟨⟨Nat.le_refl _,by omega⟩,fin⟩
            | true=>
             have h2':s' = S:=by simpa [sameK] using h2
             rw [h2] at hsame
             have hpush:pushP (⟨⟨lo',hi',false⟩,s'⟩ :: qs) ⟨⟨s,es[k + 1]!,false⟩,S⟩ = ⟨⟨lo',es[k + 1]!,false⟩,s'⟩ :: qs:=by simp only [pushP]; rw [if_pos (by simp [h1,h2'])]
             have fin:=next _ hst
             rw [hpush,rowP_cons] at fin
             simp -implicitDefEqProofs (maxSteps:=600000) (disch:=(first | omega | decide)) only [go_sem,↓reduceIte,seval,hlt',e1,hgx,hcp,hcv,hcu,hcm,hn',e2,c9,c8,hSl,b0,b1,b2,b3,g1,g2,gl,gt,h1,hsame,wrap_i64,List.length_map,List.length_cons,Bool.not_false,Bool.true_and]
             exact fin
   ·have hn':¬ (k:Int) + 1 < (es.length:Int):=by omega
    have hr:rngE es k = ⟨s,[],true⟩:=by unfold rngE; rw [if_neg hn,hs]
    rw [hr] at hst
    cases hSl:((S.length:Int) == 0) with
    | true=>
     have hS00:(S.length:Int) = 0:=by simpa using hSl
     have hS0:S = []:=List.length_eq_zero_iff.1 (by omega)
     rw [if_pos hS0] at hst
     have fin:=next _ hst
     simp -implicitDefEqProofs (maxSteps:=600000) (disch:=(first | omega | decide)) only [go_sem,↓reduceIte,seval,hlt',e1,hgx,hcp,hcv,hcu,hcm,hn',hSl,wrap_i64,List.length_map]
     exact fin
    | false=>
     have hS0:S ≠ []:=fun e=>by rw [e] at hSl; simp at hSl
     rw [if_neg hS0] at hst
     cases m with
     | nil=>
          have fin:=next _ hst
          simp only [pushP,rowP_cons,rowP_nil,List.nil_append,List.length_cons,List.length_nil] at fin
          rw [rowP_nil]
          simp -implicitDefEqProofs (maxSteps:=600000) (disch:=(first | omega | decide)) only [go_sem,↓reduceIte,seval,hlt',e1,hgx,hcp,hcv,hcu,hcm,hn',hSl,wrap_i64,List.length_map,List.length_nil]
          exact fin
     | cons q qs=>
          have hqr:rightK q.s = true:=by have:=hspec q (by simp); simp only [onePc,Bool.and_eq_true] at this; exact this.2
          have hqs:smallK q.s:=by obtain ⟨e,he⟩:=hfrom q (by simp); rw [he]; exact hsm e
          obtain ⟨⟨lo',hi',op'⟩,s'⟩:=q
          simp only at hqr hqs
          have hsame:=l_Same hqs hsmk (by rw [ofK_self hqr]; exact hqs) (by rw [ofK_self hrk]; exact hsmk)
          rw [ofK_self hqr,ofK_self hrk] at hsame
          have hml':qs.length + 1 ≤ k:=hml
          have b0:(0:Int) < ((qs.length + 1:Nat):Int):=by omega
          have b1:(((qs.length + 1:Nat):Int) - 1).toNat = qs.length:=by omega
          have b2:(0:Int) ≤ ((qs.length + 1:Nat):Int) - 1:=by omega
          have b3:((qs.length + 1:Nat):Int) - 1 < ((qs.length + 1:Nat):Int):=by omega
          have g1:∀ x:A,(rowP qs ++ [x])[qs.length]? = some x:=fun x=>by
           have:=Go.Abs.get_last (x:=x) (l:=rowP qs)
           rwa [rowP_len] at this
          have g2:∀ x v:A,setNth (rowP qs ++ [x]) qs.length v = rowP qs ++ [v]:=fun x v=>by
           have:=Go.Abs.setNth_last (x:=x) (v:=v) (l:=rowP qs)
           rwa [rowP_len] at this
          have gl:∀ x:A,(rowP qs ++ [x]).length = qs.length + 1:=fun x=>by rw [List.length_append,rowP_len]; rfl
          have gt:∀ x:A,(rowP qs ++ [x]).take (qs.length + 1) = rowP qs ++ [x]:=fun x=>List.take_of_length_le (Nat.le_of_eq (gl x))
          rw [rowP_cons]
          cases op' with
          | true=>
           have hpush:pushP (⟨⟨lo',hi',true⟩,s'⟩ :: qs) ⟨⟨s,[],true⟩,S⟩ = ⟨⟨s,[],true⟩,S⟩ :: ⟨⟨lo',hi',true⟩,s'⟩ :: qs:=by simp [pushP]
           have fin:=next _ hst
           rw [hpush,rowP_cons,rowP_cons] at fin
           simp -implicitDefEqProofs (maxSteps:=600000) (disch:=(first | omega | decide)) only [go_sem,↓reduceIte,seval,hlt',e1,hgx,hcp,hcv,hcu,hcm,hn',hSl,b0,b1,b2,b3,g1,g2,gl,gt,wrap_i64,List.length_map,List.length_cons,Bool.not_true,Bool.false_and]
           exact ⟨⟨Nat.le_refl _,by omega⟩,fin⟩
          | false=>
           cases h1:hi' == s with
           | false=>
            have hpush:pushP (⟨⟨lo',hi',false⟩,s'⟩ :: qs) ⟨⟨s,[],true⟩,S⟩ = ⟨⟨s,[],true⟩,S⟩ :: ⟨⟨lo',hi',false⟩,s'⟩ :: qs:=by simp only [pushP]; rw [if_neg (by rw [h1]; simp)]
            have fin:=next _ hst
            rw [hpush,rowP_cons,rowP_cons] at fin
            simp -implicitDefEqProofs (maxSteps:=600000) (disch:=(first | omega | decide)) only [go_sem,↓reduceIte,seval,hlt',e1,hgx,hcp,hcv,hcu,hcm,hn',hSl,b0,b1,b2,b3,g1,g2,gl,gt,h1,wrap_i64,List.length_map,List.length_cons,Bool.not_false,Bool.true_and]
            exact ⟨⟨Nat.le_refl _,by omega⟩,fin⟩
           | true=>
            cases h2:sameK s' S with
            | false=>
             have h2':s' ≠ S:=by simpa [sameK] using h2
             rw [h2] at hsame
             have hpush:pushP (⟨⟨lo',hi',false⟩,s'⟩ :: qs) ⟨⟨s,[],true⟩,S⟩ = ⟨⟨s,[],true⟩,S⟩ :: ⟨⟨lo',hi',false⟩,s'⟩ :: qs:=by simp only [pushP]; rw [if_neg (by simp [h2'])]
             have fin:=next _ hst
             rw [hpush,rowP_cons,rowP_cons] at fin
             simp -implicitDefEqProofs (maxSteps:=600000) (disch:=(first | omega | decide)) only [go_sem,↓reduceIte,seval,hlt',e1,hgx,hcp,hcv,hcu,hcm,hn',hSl,b0,b1,b2,b3,g1,g2,gl,gt,h1,hsame,wrap_i64,List.length_map,List.length_cons,Bool.not_false,Bool.true_and]
             exact ⟨⟨Nat.le_refl _,by omega⟩,fin⟩
            | true=>
             have h2':s' = S:=by simpa [sameK] using h2
             rw [h2] at hsame
             have hpush:pushP (⟨⟨lo',hi',false⟩,s'⟩ :: qs) ⟨⟨s,[],true⟩,S⟩ = ⟨⟨lo',[],true⟩,s'⟩ :: qs:=by simp only [pushP]; rw [if_pos (by simp [h1,h2'])]
             have fin:=next _ hst
             rw [hpush,rowP_cons] at fin
             simp -implicitDefEqProofs (maxSteps:=600000) (disch:=(first | omega | decide)) only [go_sem,↓reduceIte,seval,hlt',e1,hgx,hcp,hcv,hcu,hcm,hn',hSl,b0,b1,b2,b3,g1,g2,gl,gt,h1,hsame,wrap_i64,List.length_map,List.length_cons,Bool.not_false,Bool.true_and]
             exact fin
  ·have hlt':¬ (k:Int) < (es.length:Int):=by omega
   obtain rfl:k = es.length:=by omega
   have hall:=(mkP_all hE).1
   have hfin:rowP (mkP P es es.length) = (setP P).map Pc.enc:=by unfold rowP; rw [hall]
   have tk:List.take (mkP P es es.length).length (rowP (mkP P es es.length)) = rowP (mkP P es es.length):=List.take_of_length_le (by rw [rowP_len]; exact Nat.le_refl _)
   have hll:=rowP_len (mkP P es es.length)
   simp -implicitDefEqProofs (maxSteps:=600000) (disch:=(first | omega | decide)) only [go_sem,↓reduceIte,seval,hlt',tk,hll,wrap_i64,List.length_map]
   rw [← hfin]
   exact ⟨Nat.le_refl _,rfl⟩
end Go.Proofs.YtjfdlpagcgpaoaaGreat
namespace Go.Proofs.YtjfdlpagcgpaoaaGreat
open Go.Abs
set_option linter.unusedSimpArgs false
set_option linter.unusedVariables false
theorem hasR_flat1 {r:Rng} {es:List (List UInt8)} (he:rightR r = true → r.lo ∈ es ∧ (r.op = false → r.hi ∈ es)) {x e:List UInt8} (h1:ltB x e = false) (h2:∀ y ∈ es,ltB e y = true → ltB x y = true):hasR r x = hasR r e:=by
 have:=hasRs_flat (l:=[r]) (es:=es) (fun q hq=>by simp only [List.mem_singleton] at hq; subst hq; exact he) h1 h2
 simpa [hasRs] using this
theorem setAt_congr {k:List Pc} {x e:List UInt8} (h:∀ p ∈ k,hasR p.r x = hasR p.r e):setAt k x = setAt k e:=by
 unfold setAt
 rw [List.filter_congr h]
theorem edg_raw {m:List Rng} {P:List UInt8 → List Known} {es:List (List UInt8)} (up:es.Pairwise (fun x y=>ltB x y = true)) (nil:[] ∈ es) (len:∀ e ∈ es,e.length ≤ 17)
 (all:∀ r ∈ m,rightR r = true → r.lo ∈ es ∧ (r.op = false → r.hi ∈ es)) (hright:∀ x,rightK (P x) = true) (hflat:∀ x e,(∀ r ∈ m,hasR r x = hasR r e) → P x = P e):Edg P es:=
 ⟨up,nil,len,fun x e he h1 h2=>hflat x e fun r hr=>hasR_flat1 (all r hr) h1 h2,hright⟩
section
variable {LL:List (List Pc)}
theorem edgesK_mem (x:List UInt8):x ∈ edgesK LL ↔ x ∈ rawE [[]] (LL.flatMap rsP):=by
 unfold edgesK
 rw [compL_mem]
 exact (sortT_spec (raw17K (flat_right LL))).1.mem_iff
theorem edgesK_up:(edgesK LL).Pairwise (fun x y=>ltB x y = true):=comp_up (sortT_spec (raw17K (flat_right LL))).2
theorem edgesK_nil:[] ∈ edgesK LL:=(edgesK_mem []).2 ((rawE_mem _ _ _).2 (.inl (by simp)))
theorem edgesK_17:∀ e ∈ edgesK LL,e.length ≤ 17:=fun e he=>raw17K (flat_right LL) e ((edgesK_mem e).1 he)
theorem edgesK_all:∀ r ∈ (LL.flatMap fun k=>k.map (·.r)),rightR r = true → r.lo ∈ edgesK LL ∧ (r.op = false → r.hi ∈ edgesK LL):=fun r hr h=>by
 have hm:r ∈ LL.flatMap rsP:=by
  obtain ⟨k,hk,hr⟩:=List.mem_flatMap.1 hr
  exact List.mem_flatMap.2 ⟨k,hk,List.mem_filter.2 ⟨hr,h⟩⟩
 exact ⟨(edgesK_mem _).2 ((rawE_mem _ _ _).2 (.inr ⟨r,hm,.inl rfl⟩)),fun ho=>(edgesK_mem _).2 ((rawE_mem _ _ _).2 (.inr ⟨r,hm,.inr ⟨ho,rfl⟩⟩))⟩
theorem edgesK_len:(edgesK LL).length ≤ 1 + 2 * totP LL:=by
 have h1:=(sortT_spec (raw17K (flat_right LL))).1.length_eq
 have h2:=(rawE_len (LL.flatMap rsP) [[]]).2
 have h3:=compL_len (sortT (rawE [[]] (LL.flatMap rsP)))
 have h4:=tot_take LL LL.length
 rw [List.take_length] at h4
 rw [List.length_singleton] at h2
 unfold edgesK; omega
end
theorem atP_flat {k:List Pc} {x e:List UInt8} (h:∀ r ∈ k.map (·.r),hasR r x = hasR r e):atP k x = atP k e:=by
 unfold atP
 rw [setAt_congr fun p hp=>h p.r (List.mem_map.2 ⟨p,hp,rfl⟩)]
theorem hasRs_flat1 {l:List Rng} {x e:List UInt8} (h:∀ r ∈ l,hasR r x = hasR r e):hasRs l x = hasRs l e:=by
 unfold hasRs
 induction l with
 | nil=>rfl
 | cons r l ih=>rw [List.any_cons,List.any_cons,h r (by simp),ih fun q hq=>h q (by simp [hq])]
theorem atP_right (k:List Pc) (x:List UInt8):rightK (atP k x) = true:=ofK_right _
theorem opK_right (op:Int) (a b:List Known):rightK (opK op a b) = true:=setT_right fun n=>setR_right _
theorem ofP_right {k:List Pc} (h:rightP k = true):setP (atP k) = k:=by
 symm
 have hone:=(rightP_can.1 h).1
 refine setP_eq h fun x l=>?_
 rw [says_iff hone]
 have key:∀ p ∈ k,hasR p.r x = true → atP k x = p.s:=fun p hp hx=>by
  unfold atP
  rw [right_at h hp hx]
  have:=hone p hp
  simp only [onePc,Bool.and_eq_true] at this
  exact ofK_self this.2
 constructor
 ·rintro ⟨p,hp,hx,rfl⟩
  refine ⟨key p hp hx,fun e=>?_⟩
  have:=hone p hp
  simp only [onePc,Bool.and_eq_true] at this
  rw [e] at this; simp at this
 ·rintro ⟨h1,h2⟩
  by_cases hex:∃ p ∈ k,hasR p.r x = true
  ·obtain ⟨p,hp,hx⟩:=hex
   exact ⟨p,hp,hx,by rw [← key p hp hx]; exact h1⟩
  ·exfalso
   apply h2
   rw [← h1]
   have:setAt k x = []:=by
    unfold setAt
    rw [List.filter_eq_nil_iff.2 (fun p hp hx=>hex ⟨p,hp,hx⟩)]; rfl
   unfold atP
   rw [this]
   exact mkT_nil fun n _=>setR_none fun c=>rfl
end Go.Proofs.YtjfdlpagcgpaoaaGreat
namespace Go.Proofs.YtjfdlpagcgpaoaaGreat
open Go.Abs
set_option linter.unusedSimpArgs false
set_option linter.unusedVariables false
set_option maxRecDepth 20000
set_option maxHeartbeats 16000000
theorem caps1 (cs:List A):Caps [.dptr cs]:=⟨rfl,fun _=>rfl,fun _=>rfl,fun _=>rfl⟩
theorem caps2 (cs ds:List A):Caps [.dptr cs,.dptr ds]:=⟨rfl,fun _=>rfl,fun _=>rfl,fun _=>rfl⟩
theorem stP (l:List Pc):((l.map Pc.enc).isEmpty || strideOf (l.map Pc.enc) == 4) = true:=by cases l <;> rfl
noncomputable def cloneP (k:List Pc):List Pc:=k.map fun p=>⟨p.r,ofK p.s⟩
theorem ok_know_clone:codeOK Tryz.prog P15y Tryz.f204.ntmps (Tryz.f204.body.getD .skip) = true:=by kernel_rfl
theorem c_know_clone (k:List Pc) (hk:okP k):CallA Tryz.prog 204 [.slc (k.map Pc.enc)] (· = .slc ((cloneP k).map Pc.enc)):=by
 refine callA_of_body P15y_ok mixed Tryz.func204 rfl (Nat.le_of_ble_eq_true rfl) ok_know_clone ?_
 unfold Tryz.f204
 obtain ⟨⟨k1,k2⟩,k3⟩:=id hk
 simp -implicitDefEqProofs (maxSteps:=600000) (disch:=(first | omega | decide)) only [go_sem,↓reduceIte,seval,List.length_map]
 refine wpA_loop_nil 3 4 rfl ?_
 refine wpA_loop [0,6,7] (ι:={j:Nat // j ≤ k.length}) (fun p=>[(8,.int .i64 p.1),(3,.row 0 0 4 p.1 false)]) (fun p=>[(0,.row 4 ((cloneP (k.take p.1)).map Pc.enc))]) (fun p=>k.length - p.1) ⟨0,by omega⟩ (Nat.zero_le _) ?_ ?_
 ·simp -implicitDefEqProofs (maxSteps:=600000) (disch:=(first | omega | decide)) only [go_sem,↓reduceIte,seval]
  simp [cloneP]
 ·rintro ⟨j,hj⟩
  simp only
  have hcl:((cloneP (k.take j)).map Pc.enc).length = j:=by simp [cloneP]; omega
  have tl:((cloneP (k.take j)).map Pc.enc).take j = (cloneP (k.take j)).map Pc.enc:=List.take_of_length_le (Nat.le_of_eq hcl)
  by_cases hlt:j < k.length
  ·have hlt':(j:Int) < (k.length:Int):=by omega
   have e1:=pc_get hlt
   have hsm:=okP_small hk (List.getElem_mem hlt)
   have hst:cloneP (k.take (j + 1)) = cloneP (k.take j) ++ [⟨k[j].r,ofK k[j].s⟩]:=by
    rw [← List.take_append_getElem hlt]; unfold cloneP; rw [List.map_append]; rfl
   generalize hp:k[j] = p at *
   obtain ⟨⟨lo,hi,op⟩,s⟩:=p
   simp only at hsm hst
   have ho:=k_vset_Of hsm
   simp -implicitDefEqProofs (maxSteps:=600000) (disch:=(first | omega | decide)) only [go_sem,↓reduceIte,seval,hlt',e1,ho,tl,hcl,wrap_i64,List.length_map]
   exact ⟨by omega,⟨j + 1,hlt⟩,⟨⟨by simp,rfl⟩,by rw [hst,List.map_append]; rfl⟩,by show k.length - (j + 1) < k.length - j; omega⟩
  ·have hlt':¬ (j:Int) < (k.length:Int):=by omega
   obtain rfl:j = k.length:=by omega
   rw [List.take_length] at *
   simp -implicitDefEqProofs (maxSteps:=600000) (disch:=(first | omega | decide)) only [go_sem,↓reduceIte,seval,hlt',tl,hcl,List.length_map]
   try exact Nat.le_refl _
noncomputable def P16a:Tab:=P15y.add 204 (entry (fun (k:List Pc)=>[.slc (k.map Pc.enc)]) (fun k=>okP k) (fun k=>.slc ((cloneP k).map Pc.enc)))
theorem P16a_ok:TabOK Tryz.prog P16a:=P15y_ok.add (callable_of Tryz.func204 (by kernel_rfl) (by kernel_rfl)) (entry_ok fun k h=>c_know_clone k h)
@[go_sem] theorem P16a_old {g:FuncId} {xs:List A} (h:g ≠ 204):P16a.f g xs = P15y.f g xs:=Tab.add_ne h
theorem P16a_know_clone (k:List Pc) (h:okP k):P16a.f 204 [.slc (k.map Pc.enc)] = some (.slc ((cloneP k).map Pc.enc)):=
 (Tab.add_eq:P16a.f 204 [.slc (k.map Pc.enc)] = (entry (fun (k:List Pc)=>[.slc (k.map Pc.enc)]) (fun k=>okP k) (fun k=>.slc ((cloneP k).map Pc.enc))) [.slc (k.map Pc.enc)]).trans (entry_eq (fun i j h=>by first | (cases i; cases j; rfl; done) | simpa [Prod.ext_iff,and_assoc] using h | (simp at h; omega) | (simp at h; exact Prod.ext h.1 (Prod.ext h.2.1 (by omega)))) k h)
noncomputable def P16b:Tab:=P16a.add 149 (entry (fun (LL:List (List Pc))=>[.slc (LL.map pcL)]) (fun LL=>(LL.length ≤ 1000 ∧ totP LL ≤ 1000000) ∧ ∀ k ∈ LL,∀ p ∈ k,p.r.lo.length ≤ 9223372036854775807 ∧ p.r.hi.length ≤ 9223372036854775807) (fun LL=>.slc ((edgesK LL).map .str)))
theorem P16b_ok:TabOK Tryz.prog P16b:=P16a_ok.add (callable_of Tryz.func149 (by kernel_rfl) (by kernel_rfl)) (entry_ok fun LL h=>c_know_edges LL h.1.1 h.1.2 h.2)
@[go_sem] theorem P16b_old {g:FuncId} {xs:List A} (h:g ≠ 149):P16b.f g xs = P16a.f g xs:=Tab.add_ne h
theorem P16b_know_edges (LL:List (List Pc)) (h:(LL.length ≤ 1000 ∧ totP LL ≤ 1000000) ∧ ∀ k ∈ LL,∀ p ∈ k,p.r.lo.length ≤ 9223372036854775807 ∧ p.r.hi.length ≤ 9223372036854775807):P16b.f 149 [.slc (LL.map pcL)] = some (.slc ((edgesK LL).map .str)):=
 (Tab.add_eq:P16b.f 149 [.slc (LL.map pcL)] = (entry (fun (LL:List (List Pc))=>[.slc (LL.map pcL)]) (fun LL=>(LL.length ≤ 1000 ∧ totP LL ≤ 1000000) ∧ ∀ k ∈ LL,∀ p ∈ k,p.r.lo.length ≤ 9223372036854775807 ∧ p.r.hi.length ≤ 9223372036854775807) (fun LL=>.slc ((edgesK LL).map .str))) [.slc (LL.map pcL)]).trans (entry_eq (fun i j h=>by first | (cases i; cases j; rfl; done) | simpa [Prod.ext_iff,and_assoc] using h | (simp at h; omega) | (simp at h; exact Prod.ext h.1 (Prod.ext h.2.1 (by omega)))) LL h)
theorem p_clone {k:List Pc} (h:okP k):P16a.f 204 [.slc (k.map Pc.enc)] = some (.slc ((cloneP k).map Pc.enc)):=P16a_know_clone k h
theorem p_edges1 {k:List Pc} (h:okP k):P16b.f 149 [.slc [.slc (k.map Pc.enc)]] = some (.slc ((edgesK [k]).map .str)):=P16b_know_edges [k] ⟨⟨by simp,by have:=h.1.1; simp [totP]; omega⟩,fun m hm=>by simp only [List.mem_singleton] at hm; subst hm; exact h.2⟩
theorem p_edges2 {a b:List Pc} (ha:okP a) (hb:okP b):P16b.f 149 [.slc [.slc (a.map Pc.enc),.slc (b.map Pc.enc)]] = some (.slc ((edgesK [a,b]).map .str)):=P16b_know_edges [a,b] ⟨⟨by simp,by have:=ha.1.1; have:=hb.1.1; simp [totP]; omega⟩,fun m hm=>by
 simp only [List.mem_cons,List.not_mem_nil,or_false] at hm
 rcases hm with rfl | rfl
 ·exact ha.2
 ·exact hb.2⟩
theorem edg1 (k:List Pc):Edg (atP k) (edgesK [k]):=edg_raw edgesK_up edgesK_nil edgesK_17 edgesK_all (atP_right k) fun x e h=>atP_flat fun r hr=>h r (by simpa using hr)
theorem clone_self {k:List Pc} (h:rightP k = true):cloneP k = k:=by
 have hone:=(rightP_can.1 h).1
 unfold cloneP
 conv=>rhs; rw [← List.map_id k]
 apply List.map_congr_left
 intro p hp
 have:=hone p hp
 simp only [onePc,Bool.and_eq_true] at this
 rw [ofK_self this.2]; rfl
noncomputable def P16c:Tab:=P16b.add 148 (entry (fun (v:List (List UInt8) × List Pc)=>[.slc (v.1.map .str),.fn 205 [.dptr [.slc (v.2.map Pc.enc)]]]) (fun v=>(Edg (atP v.2) v.1 ∧ okP v.2) ∧ v.1.length ≤ 1000000) (fun v=>.slc ((setP (atP v.2)).map Pc.enc)))
theorem P16c_ok:TabOK Tryz.prog P16c:=P16b_ok.add (callable_of Tryz.func148 (by kernel_rfl) (by kernel_rfl)) (entry_ok fun v h=>c_know_build v.1 _ _ (atP v.2) (caps1 _) h.1.1 h.2 (fun x=>(setAt_small h.1.2 x).2) (fun x hx=>p_Of1 h.1.2 (by have:=h.1.1.len x hx; omega)))
@[go_sem] theorem P16c_old {g:FuncId} {xs:List A} (h:g ≠ 148):P16c.f g xs = P16b.f g xs:=Tab.add_ne h
theorem P16c_know_build (v:List (List UInt8) × List Pc) (h:(Edg (atP v.2) v.1 ∧ okP v.2) ∧ v.1.length ≤ 1000000):P16c.f 148 [.slc (v.1.map .str),.fn 205 [.dptr [.slc (v.2.map Pc.enc)]]] = some (.slc ((setP (atP v.2)).map Pc.enc)):=
 (Tab.add_eq:P16c.f 148 [.slc (v.1.map .str),.fn 205 [.dptr [.slc (v.2.map Pc.enc)]]] = (entry (fun (v:List (List UInt8) × List Pc)=>[.slc (v.1.map .str),.fn 205 [.dptr [.slc (v.2.map Pc.enc)]]]) (fun v=>(Edg (atP v.2) v.1 ∧ okP v.2) ∧ v.1.length ≤ 1000000) (fun v=>.slc ((setP (atP v.2)).map Pc.enc))) [.slc (v.1.map .str),.fn 205 [.dptr [.slc (v.2.map Pc.enc)]]]).trans (entry_eq (fun i j h=>by first | (cases i; cases j; rfl; done) | simpa [Prod.ext_iff,and_assoc] using h | (simp at h; omega) | (simp at h; exact Prod.ext h.1 (Prod.ext h.2.1 (by omega)))) v h)
theorem p_buildOf {es:List (List UInt8)} {k:List Pc} (hE:Edg (atP k) es) (hk:okP k) (hl:es.length ≤ 1000000):P16c.f 148 [.slc (es.map .str),.fn 205 [.dptr [.slc (k.map Pc.enc)]]] = some (.slc ((setP (atP k)).map Pc.enc)):=P16c_know_build (es,k) ⟨⟨hE,hk⟩,hl⟩
noncomputable def O15:Tab:={ P16c with eff:=fun f=>f == 148,frz:=fun f=>f == 148 }
theorem O15_ok:TabOK Tryz.prog O15:=⟨P16c_ok.f,P16c_ok.hp⟩
@[go_sem] theorem O15_f:O15.f = P16c.f:=rfl
@[go_sem] theorem O15_eff {g:FuncId}:O15.eff g = (g == 148):=rfl
@[go_sem] theorem O15_frz {g:FuncId}:O15.frz g = (g == 148):=rfl
@[go_sem] theorem O15_fix {n:Nat}:O15.fix n = false:=rfl
@[go_sem] theorem O15_ords {n:Nat}:O15.ords n = []:=rfl
theorem ok_know_Of:codeOK Tryz.prog O15 Tryz.f156.ntmps (Tryz.f156.body.getD .skip) = true:=by kernel_rfl
theorem c_know_Of (k:List Pc) (hk:okP k):CallA Tryz.prog 156 [.slc (k.map Pc.enc)] (· = .slc ((setP (atP k)).map Pc.enc)):=by
 refine callA_of_body O15_ok mixed Tryz.func156 rfl (Nat.le_of_ble_eq_true rfl) ok_know_Of ?_
 unfold Tryz.f156
 have h1:=p_Right hk
 cases hr:rightP k with
 | true=>
  rw [hr] at h1
  have h2:=p_clone hk
  rw [clone_self hr] at h2
  simp -implicitDefEqProofs (maxSteps:=600000) (disch:=(first | omega | decide)) only [go_sem,↓reduceIte,seval,h1,h2]
  rw [ofP_right hr]
 | false=>
  rw [hr] at h1
  have h2:=p_edges1 hk
  have h3:=p_buildOf (edg1 k) hk (by have:=edgesK_len (LL:=[k]); have:=hk.1.1; simp [totP] at *; omega)
  simp -implicitDefEqProofs (maxSteps:=600000) (disch:=(first | omega | decide)) only [go_sem,↓reduceIte,seval,h1,h2,h3,List.contains_nil,List.contains_cons]
noncomputable def P16e:Tab:=P16b.add 156 (entry (fun (k:List Pc)=>[.slc (k.map Pc.enc)]) (fun k=>okP k) (fun k=>.slc ((setP (atP k)).map Pc.enc)))
theorem P16e_ok:TabOK Tryz.prog P16e:=P16b_ok.add (callable_of Tryz.func156 (by kernel_rfl) (by kernel_rfl)) (entry_ok fun k h=>c_know_Of k h)
@[go_sem] theorem P16e_old {g:FuncId} {xs:List A} (h:g ≠ 156):P16e.f g xs = P16b.f g xs:=Tab.add_ne h
theorem P16e_know_Of (k:List Pc) (h:okP k):P16e.f 156 [.slc (k.map Pc.enc)] = some (.slc ((setP (atP k)).map Pc.enc)):=
 (Tab.add_eq:P16e.f 156 [.slc (k.map Pc.enc)] = (entry (fun (k:List Pc)=>[.slc (k.map Pc.enc)]) (fun k=>okP k) (fun k=>.slc ((setP (atP k)).map Pc.enc))) [.slc (k.map Pc.enc)]).trans (entry_eq (fun i j h=>by first | (cases i; cases j; rfl; done) | simpa [Prod.ext_iff,and_assoc] using h | (simp at h; omega) | (simp at h; exact Prod.ext h.1 (Prod.ext h.2.1 (by omega)))) k h)
noncomputable def P16f:Tab:=P16e
theorem P16f_ok:TabOK Tryz.prog P16f:=P16e_ok
@[go_sem] theorem P16f_old {g:FuncId} {xs:List A}:P16f.f g xs = P16e.f g xs:=rfl
theorem p_Of {k:List Pc} (h:okP k):P16e.f 156 [.slc (k.map Pc.enc)] = some (.slc ((setP (atP k)).map Pc.enc)):=P16e_know_Of k h
noncomputable def J15:Tab:={ P16f with eff:=fun f=>f == 156,frz:=fun f=>f == 156 }
theorem J15_ok:TabOK Tryz.prog J15:=⟨P16f_ok.f,P16f_ok.hp⟩
@[go_sem] theorem J15_f:J15.f = P16f.f:=rfl
@[go_sem] theorem J15_eff {g:FuncId}:J15.eff g = (g == 156):=rfl
@[go_sem] theorem J15_frz {g:FuncId}:J15.frz g = (g == 156):=rfl
@[go_sem] theorem J15_fix {n:Nat}:J15.fix n = false:=rfl
@[go_sem] theorem J15_ords {n:Nat}:J15.ords n = []:=rfl
theorem flat_take {LL:List (List Pc)} {o:Nat} (h:o < LL.length):(LL.take (o + 1)).flatten = (LL.take o).flatten ++ LL[o]:=by
 rw [← List.take_append_getElem h,List.flatten_append]; simp
theorem flat_len (LL:List (List Pc)) (o:Nat):(LL.take o).flatten.length ≤ LL.flatten.length:=by
 conv=>rhs; rw [← List.take_append_drop o LL]
 rw [List.flatten_append,List.length_append]; omega
theorem ok_know_Join:codeOK Tryz.prog J15 Tryz.f92.ntmps (Tryz.f92.body.getD .skip) = true:=by kernel_rfl
theorem c_know_Join (LL:List (List Pc)) (hL:LL.length ≤ 1000000) (hk:okP LL.flatten):CallA Tryz.prog 92 [.slc (LL.map pcL)] (· = .slc ((setP (atP LL.flatten)).map Pc.enc)):=by
 refine callA_of_body J15_ok mixed Tryz.func92 rfl (Nat.le_of_ble_eq_true rfl) ok_know_Join ?_
 unfold Tryz.f92
 have hkl:=hk.1.1
 simp -implicitDefEqProofs (maxSteps:=600000) (disch:=(first | omega | decide)) only [go_sem,↓reduceIte,seval,List.length_map]
 refine wpA_loop_nil 3 4 rfl ?_
 refine wpA_loop [0,6,7] (ι:={o:Nat // o ≤ LL.length}) (fun p=>[(8,.int .i64 p.1),(3,.row 0 0 4 (LL.take p.1).flatten.length false)]) (fun p=>[(0,.row 4 ((LL.take p.1).flatten.map Pc.enc))]) (fun p=>LL.length - p.1) ⟨0,by omega⟩ (Nat.zero_le _) ?_ ?_
 ·simp -implicitDefEqProofs (maxSteps:=600000) (disch:=(first | omega | decide)) only [go_sem,↓reduceIte,seval]
  simp
 ·rintro ⟨o,ho⟩
  simp only
  have hfl:=flat_len LL (o + 1)
  by_cases hlt:o < LL.length
  ·have hlt':(o:Int) < (LL.length:Int):=by omega
   have hd:=pcL_get hlt
   have hst:=flat_take hlt
   rw [hst,List.length_append] at hfl
   generalize LL[o] = k at *
   have st:=stP k
   have tl:((LL.take o).flatten.map Pc.enc).take (LL.take o).flatten.length = (LL.take o).flatten.map Pc.enc:=List.take_of_length_le (by rw [List.length_map]; exact Nat.le_refl _)
   simp -implicitDefEqProofs (maxSteps:=600000) (disch:=(first | omega | decide)) only [go_sem,↓reduceIte,seval,hlt',hd,st,tl,wrap_i64,List.length_map]
   exact ⟨⟨Nat.le_refl _,by omega⟩,⟨o + 1,hlt⟩,⟨⟨by simp,by rw [hst,List.length_append]⟩,by rw [hst,List.map_append]⟩,by show LL.length - (o + 1) < LL.length - o; omega⟩
  ·have hlt':¬ (o:Int) < (LL.length:Int):=by omega
   obtain rfl:o = LL.length:=by omega
   rw [List.take_length] at *
   have h:=p_Of hk
   have tl:(LL.flatten.map Pc.enc).take LL.flatten.length = LL.flatten.map Pc.enc:=List.take_of_length_le (by rw [List.length_map]; exact Nat.le_refl _)
   simp -implicitDefEqProofs (maxSteps:=600000) (disch:=(first | omega | decide)) only [go_sem,↓reduceIte,seval,hlt',h,tl,List.length_map,List.contains_nil,List.contains_cons]
   exact Nat.le_refl _
noncomputable def P16g:Tab:=P16f
theorem P16g_ok:TabOK Tryz.prog P16g:=P16f_ok
@[go_sem] theorem P16g_old {g:FuncId} {xs:List A}:P16g.f g xs = P16f.f g xs:=rfl
noncomputable def P16h:Tab:=P16g.add 92 (entry (fun (LL:List (List Pc))=>[.slc (LL.map pcL)]) (fun LL=>LL.length ≤ 1000000 ∧ okP LL.flatten) (fun LL=>.slc ((setP (atP LL.flatten)).map Pc.enc)))
theorem P16h_ok:TabOK Tryz.prog P16h:=P16g_ok.add (callable_of Tryz.func92 (by kernel_rfl) (by kernel_rfl)) (entry_ok fun LL h=>c_know_Join LL h.1 h.2)
@[go_sem] theorem P16h_old {g:FuncId} {xs:List A} (h:g ≠ 92):P16h.f g xs = P16g.f g xs:=Tab.add_ne h
@[go_sem] theorem P16h_eff {g:FuncId}:P16h.eff g = false:=rfl
@[go_sem] theorem P16h_ords {n:Nat}:P16h.ords n = []:=rfl
theorem P16h_know_Join (LL:List (List Pc)) (h:LL.length ≤ 1000000 ∧ okP LL.flatten):P16h.f 92 [.slc (LL.map pcL)] = some (.slc ((setP (atP LL.flatten)).map Pc.enc)):=
 (Tab.add_eq:P16h.f 92 [.slc (LL.map pcL)] = (entry (fun (LL:List (List Pc))=>[.slc (LL.map pcL)]) (fun LL=>LL.length ≤ 1000000 ∧ okP LL.flatten) (fun LL=>.slc ((setP (atP LL.flatten)).map Pc.enc))) [.slc (LL.map pcL)]).trans (entry_eq (fun i j h=>by first | (cases i; cases j; rfl; done) | simpa [Prod.ext_iff,and_assoc] using h | (simp at h; omega) | (simp at h; exact Prod.ext h.1 (Prod.ext h.2.1 (by omega)))) LL h)
theorem p_Join2 {a b:List Pc} (h:okP (a ++ b)):P16h.f 92 [.slc [.slc (a.map Pc.enc),.slc (b.map Pc.enc)]] = some (.slc ((setP (atP (a ++ b))).map Pc.enc)):=by
 have e:[a,b].flatten = a ++ b:=by simp
 have:=P16h_know_Join [a,b] ⟨by simp,by rw [e]; exact h⟩
 rw [e] at this; exact this
def sameP (a b:List Pc):Bool:=decide (a = b)
def rEq (lo hi:List UInt8) (op:Bool) (lo' hi':List UInt8) (op':Bool):Bool:=(lo == lo' && hi == hi') && op == op'
theorem ok_know_Same_1:codeOK Tryz.prog P16h Tryz.f168.ntmps (Tryz.f168.body.getD .skip) = true:=by kernel_rfl
theorem c_know_Same1 (x y:Pc) (hx:smallK x.s ∧ smallK (ofK x.s)) (hy:smallK y.s ∧ smallK (ofK y.s)):CallA Tryz.prog 168 [.agg [.str x.r.lo,.str x.r.hi,.bool x.r.op,.slc (x.s.map Known.enc)],.agg [.str y.r.lo,.str y.r.hi,.bool y.r.op,.slc (y.s.map Known.enc)]] (· = .bool (rEq x.r.lo x.r.hi x.r.op y.r.lo y.r.hi y.r.op && sameK (ofK x.s) (ofK y.s))):=by
 refine callA_of_body P16h_ok mixed Tryz.func168 rfl (Nat.le_of_ble_eq_true rfl) ok_know_Same_1 ?_
 unfold Tryz.f168
 have h:=l_Same hx.1 hy.1 hx.2 hy.2
 unfold rEq
 cases h1:x.r.lo == y.r.lo with
 | false=>simp -implicitDefEqProofs (maxSteps:=600000) (disch:=(first | omega | decide)) only [go_sem,↓reduceIte,seval,h1,Bool.false_and]
 | true=>
  cases h2:x.r.hi == y.r.hi with
  | false=>simp -implicitDefEqProofs (maxSteps:=600000) (disch:=(first | omega | decide)) only [go_sem,↓reduceIte,seval,h1,h2,Bool.false_and,Bool.and_false,Bool.true_and]
  | true=>
   cases h3:x.r.op == y.r.op with
   | false=>simp -implicitDefEqProofs (maxSteps:=600000) (disch:=(first | omega | decide)) only [go_sem,↓reduceIte,seval,h1,h2,h3,Bool.false_and,Bool.and_false,Bool.true_and]
   | true=>simp -implicitDefEqProofs (maxSteps:=600000) (disch:=(first | omega | decide)) only [go_sem,↓reduceIte,seval,h1,h2,h3,h,Bool.true_and,Bool.and_true]
noncomputable def P16i:Tab:=P16h.add 168 (entry (fun (v:((List UInt8 × List UInt8 × Bool) × List Known) × ((List UInt8 × List UInt8 × Bool) × List Known))=>[.agg [.str v.1.1.1,.str v.1.1.2.1,.bool v.1.1.2.2,.slc (v.1.2.map Known.enc)],.agg [.str v.2.1.1,.str v.2.1.2.1,.bool v.2.1.2.2,.slc (v.2.2.map Known.enc)]]) (fun v=>(smallK v.1.2 ∧ smallK (ofK v.1.2)) ∧ smallK v.2.2 ∧ smallK (ofK v.2.2)) (fun v=>.bool (rEq v.1.1.1 v.1.1.2.1 v.1.1.2.2 v.2.1.1 v.2.1.2.1 v.2.1.2.2 && sameK (ofK v.1.2) (ofK v.2.2))))
theorem P16i_ok:TabOK Tryz.prog P16i:=P16h_ok.add (callable_of Tryz.func168 (by kernel_rfl) (by kernel_rfl)) (entry_ok fun v h=>c_know_Same1 ⟨⟨v.1.1.1,v.1.1.2.1,v.1.1.2.2⟩,v.1.2⟩ ⟨⟨v.2.1.1,v.2.1.2.1,v.2.1.2.2⟩,v.2.2⟩ h.1 h.2)
@[go_sem] theorem P16i_old {g:FuncId} {xs:List A} (h:g ≠ 168):P16i.f g xs = P16h.f g xs:=Tab.add_ne h
@[go_sem] theorem P16i_effT:P16i.effT = false:=rfl
@[go_sem] theorem P16i_ords {n:Nat}:P16i.ords n = []:=rfl
theorem P16i_know_Same_1 (v:((List UInt8 × List UInt8 × Bool) × List Known) × ((List UInt8 × List UInt8 × Bool) × List Known)) (h:(smallK v.1.2 ∧ smallK (ofK v.1.2)) ∧ smallK v.2.2 ∧ smallK (ofK v.2.2)):P16i.f 168 [.agg [.str v.1.1.1,.str v.1.1.2.1,.bool v.1.1.2.2,.slc (v.1.2.map Known.enc)],.agg [.str v.2.1.1,.str v.2.1.2.1,.bool v.2.1.2.2,.slc (v.2.2.map Known.enc)]] = some (.bool (rEq v.1.1.1 v.1.1.2.1 v.1.1.2.2 v.2.1.1 v.2.1.2.1 v.2.1.2.2 && sameK (ofK v.1.2) (ofK v.2.2))):=
 (Tab.add_eq:P16i.f 168 [.agg [.str v.1.1.1,.str v.1.1.2.1,.bool v.1.1.2.2,.slc (v.1.2.map Known.enc)],.agg [.str v.2.1.1,.str v.2.1.2.1,.bool v.2.1.2.2,.slc (v.2.2.map Known.enc)]] = (entry (fun (v:((List UInt8 × List UInt8 × Bool) × List Known) × ((List UInt8 × List UInt8 × Bool) × List Known))=>[.agg [.str v.1.1.1,.str v.1.1.2.1,.bool v.1.1.2.2,.slc (v.1.2.map Known.enc)],.agg [.str v.2.1.1,.str v.2.1.2.1,.bool v.2.1.2.2,.slc (v.2.2.map Known.enc)]]) (fun v=>(smallK v.1.2 ∧ smallK (ofK v.1.2)) ∧ smallK v.2.2 ∧ smallK (ofK v.2.2)) (fun v=>.bool (rEq v.1.1.1 v.1.1.2.1 v.1.1.2.2 v.2.1.1 v.2.1.2.1 v.2.1.2.2 && sameK (ofK v.1.2) (ofK v.2.2)))) [.agg [.str v.1.1.1,.str v.1.1.2.1,.bool v.1.1.2.2,.slc (v.1.2.map Known.enc)],.agg [.str v.2.1.1,.str v.2.1.2.1,.bool v.2.1.2.2,.slc (v.2.2.map Known.enc)]]).trans (entry_eq (fun i j h=>by first | (cases i; cases j; rfl; done) | simpa [Prod.ext_iff,and_assoc] using h | (simp at h; omega) | (simp at h; exact Prod.ext h.1 (Prod.ext h.2.1 (by omega)))) v h)
theorem p_Same1 {lo hi lo' hi':List UInt8} {op op':Bool} {s s':List Known} (h:smallK s ∧ smallK (ofK s)) (h':smallK s' ∧ smallK (ofK s')):P16i.f 168 [.agg [.str lo,.str hi,.bool op,.slc (s.map Known.enc)],.agg [.str lo',.str hi',.bool op',.slc (s'.map Known.enc)]] = some (.bool (rEq lo hi op lo' hi' op' && sameK (ofK s) (ofK s'))):=P16i_know_Same_1 (((lo,hi,op),s),((lo',hi',op'),s')) ⟨h,h'⟩
theorem ok_slices_EqualFunc_winnower_api_Piece_winnower_api_Piece_winnower_api_Piece_winnower_api_Piece:codeOK Tryz.prog P16i Tryz.f117.ntmps (Tryz.f117.body.getD .skip) = true:=by kernel_rfl
theorem c_EqualFuncP (a b:List Pc) (ha:okP a) (hb:okP b) (ra:∀ p ∈ a,rightK p.s = true) (rb:∀ p ∈ b,rightK p.s = true):CallA Tryz.prog 117 [.slc (a.map Pc.enc),.slc (b.map Pc.enc),.fn 168 []] (· = .bool (sameP a b)):=by
 refine callA_of_body P16i_ok mixed Tryz.func117 rfl (Nat.le_of_ble_eq_true rfl) ok_slices_EqualFunc_winnower_api_Piece_winnower_api_Piece_winnower_api_Piece_winnower_api_Piece ?_
 unfold Tryz.f117
 obtain ⟨⟨a1,a2⟩,a3⟩:=id ha
 obtain ⟨⟨b1,b2⟩,b3⟩:=id hb
 cases h0:((a.length:Int) == (b.length:Int)) with
 | false=>
  have hne:a.length ≠ b.length:=by
   have:(a.length:Int) ≠ (b.length:Int):=by simpa using h0
   omega
  have hh:sameP a b = false:=by unfold sameP; simp; intro e; exact hne (by rw [e])
  simp -implicitDefEqProofs (maxSteps:=600000) (disch:=(first | omega | decide)) only [go_sem,↓reduceIte,seval,h0,hh,List.length_map]
 | true=>
  have he:a.length = b.length:=by
   have:(a.length:Int) = (b.length:Int):=by simpa using h0
   omega
  simp -implicitDefEqProofs (maxSteps:=600000) (disch:=(first | omega | decide)) only [go_sem,↓reduceIte,seval,h0,List.length_map]
  refine wpA_loop [0,1,2,15,16] (ι:={k:Nat // k ≤ a.length ∧ a.take k = b.take k}) (fun p=>[(17,.int .i64 p.1)]) (fun _=>[]) (fun p=>a.length - p.1) ⟨0,by omega,rfl⟩ (Nat.zero_le _) ?_ ?_
  ·simp -implicitDefEqProofs (maxSteps:=600000) (disch:=(first | omega | decide)) only [go_sem,↓reduceIte,seval]
  ·rintro ⟨k,hk,hd⟩
   simp only
   by_cases hlt:k < a.length
   ·have hlt':(k:Int) < (a.length:Int):=by omega
    have hlt3:(k:Int) < (b.length:Int):=by omega
    have hltb:k < b.length:=by omega
    have e1:=pc_get hlt
    have e2:=pc_get hltb
    have s1:=okP_small ha (List.getElem_mem hlt)
    have s2:=okP_small hb (List.getElem_mem hltb)
    have r1:=ra _ (List.getElem_mem hlt)
    have r2:=rb _ (List.getElem_mem hltb)
    have t1:=(List.take_append_getElem hlt).symm
    have t2:=(List.take_append_getElem hltb).symm
    have hno:a[k] ≠ b[k] → sameP a b = false:=fun h=>by
     unfold sameP; simp; intro e; subst e; exact h rfl
    generalize hx:a[k] = x at *
    generalize hy:b[k] = y at *
    obtain ⟨⟨lo,hi,op⟩,s⟩:=x
    obtain ⟨⟨lo',hi',op'⟩,s'⟩:=y
    simp only at s1 s2 r1 r2
    have hs:=p_Same1 (lo:=lo) (hi:=hi) (op:=op) (lo':=lo') (hi':=hi') (op':=op') (s:=s) (s':=s') ⟨s1,by rw [ofK_self r1]; exact s1⟩ ⟨s2,by rw [ofK_self r2]; exact s2⟩
    rw [ofK_self r1,ofK_self r2] at hs
    cases h1:(rEq lo hi op lo' hi' op' && sameK s s') with
    | false=>
     have hh:=hno (fun e=>by
      simp only [Pc.mk.injEq,Rng.mk.injEq] at e
      obtain ⟨⟨rfl,rfl,rfl⟩,rfl⟩:=e
      simp [rEq,sameK] at h1)
     rw [h1] at hs
     simp -implicitDefEqProofs (maxSteps:=600000) (disch:=(first | omega | decide)) only [go_sem,↓reduceIte,seval,hlt',hlt3,e1,e2,hs,hh,List.length_map]
    | true=>
     rw [h1] at hs
     have e:(⟨⟨lo,hi,op⟩,s⟩:Pc) = ⟨⟨lo',hi',op'⟩,s'⟩:=by
      simp only [rEq,sameK,Bool.and_eq_true,beq_iff_eq,decide_eq_true_iff] at h1
      obtain ⟨⟨⟨rfl,rfl⟩,rfl⟩,rfl⟩:=h1
      rfl
     simp -implicitDefEqProofs (maxSteps:=600000) (disch:=(first | omega | decide)) only [go_sem,↓reduceIte,seval,hlt',hlt3,e1,e2,hs,wrap_i64,List.length_map]
     exact ⟨⟨k + 1,hlt,by rw [t1,t2,hd,e]⟩,by simp,by show a.length - (k + 1) < a.length - k; omega⟩
   ·have hlt':¬ (k:Int) < (a.length:Int):=by omega
    have hh:sameP a b = true:=by
     rw [List.take_of_length_le (by omega),List.take_of_length_le (by omega)] at hd
     simp [sameP,hd]
    simp -implicitDefEqProofs (maxSteps:=600000) (disch:=(first | omega | decide)) only [go_sem,↓reduceIte,seval,hlt',hh,List.length_map]
noncomputable def P16j:Tab:=P16i.add 117 (entry (fun (v:List Pc × List Pc)=>[.slc (v.1.map Pc.enc),.slc (v.2.map Pc.enc),.fn 168 []]) (fun v=>(okP v.1 ∧ okP v.2) ∧ (∀ p ∈ v.1,rightK p.s = true) ∧ ∀ p ∈ v.2,rightK p.s = true) (fun v=>.bool (sameP v.1 v.2)))
theorem P16j_ok:TabOK Tryz.prog P16j:=P16i_ok.add (callable_of Tryz.func117 (by kernel_rfl) (by kernel_rfl)) (entry_ok fun v h=>c_EqualFuncP v.1 v.2 h.1.1 h.1.2 h.2.1 h.2.2)
@[go_sem] theorem P16j_old {g:FuncId} {xs:List A} (h:g ≠ 117):P16j.f g xs = P16i.f g xs:=Tab.add_ne h
@[go_sem] theorem P16j_eff {g:FuncId}:P16j.eff g = false:=rfl
@[go_sem] theorem P16j_ords {n:Nat}:P16j.ords n = []:=rfl
theorem P16j_slices_EqualFunc_winnower_api_Piece_winnower_api_Piece_winnower_api_Piece_winnower_api_Piece (v:List Pc × List Pc) (h:(okP v.1 ∧ okP v.2) ∧ (∀ p ∈ v.1,rightK p.s = true) ∧ ∀ p ∈ v.2,rightK p.s = true):P16j.f 117 [.slc (v.1.map Pc.enc),.slc (v.2.map Pc.enc),.fn 168 []] = some (.bool (sameP v.1 v.2)):=
 (Tab.add_eq:P16j.f 117 [.slc (v.1.map Pc.enc),.slc (v.2.map Pc.enc),.fn 168 []] = (entry (fun (v:List Pc × List Pc)=>[.slc (v.1.map Pc.enc),.slc (v.2.map Pc.enc),.fn 168 []]) (fun v=>(okP v.1 ∧ okP v.2) ∧ (∀ p ∈ v.1,rightK p.s = true) ∧ ∀ p ∈ v.2,rightK p.s = true) (fun v=>.bool (sameP v.1 v.2))) [.slc (v.1.map Pc.enc),.slc (v.2.map Pc.enc),.fn 168 []]).trans (entry_eq (fun i j h=>by first | (cases i; cases j; rfl; done) | simpa [Prod.ext_iff,and_assoc] using h | (simp at h; omega) | (simp at h; exact Prod.ext h.1 (Prod.ext h.2.1 (by omega)))) v h)
theorem setP_sets (P:List UInt8 → List Known):∀ p ∈ setP P,rightK p.s = true:=fun p hp=>by
 have:=(rightP_can.1 (setP_right P)).1 p hp
 simp only [onePc,Bool.and_eq_true] at this
 exact this.2
theorem p_EqualFunc {P Q:List UInt8 → List Known} (ha:okP (setP P)) (hb:okP (setP Q)):P16j.f 117 [.slc ((setP P).map Pc.enc),.slc ((setP Q).map Pc.enc),.fn 168 []] = some (.bool (sameP (setP P) (setP Q))):=P16j_slices_EqualFunc_winnower_api_Piece_winnower_api_Piece_winnower_api_Piece_winnower_api_Piece (setP P,setP Q) ⟨⟨ha,hb⟩,setP_sets P,setP_sets Q⟩
theorem ok_know_Same:codeOK Tryz.prog P16j Tryz.f110.ntmps (Tryz.f110.body.getD .skip) = true:=by kernel_rfl
theorem c_know_Same (a b:List Pc) (ha:okP a) (hb:okP b) (ha':okP (setP (atP a))) (hb':okP (setP (atP b))):CallA Tryz.prog 110 [.slc (a.map Pc.enc),.slc (b.map Pc.enc)] (· = .bool (sameP (setP (atP a)) (setP (atP b)))):=by
 refine callA_of_body P16j_ok mixed Tryz.func110 rfl (Nat.le_of_ble_eq_true rfl) ok_know_Same ?_
 unfold Tryz.f110
 have h1:=p_Of ha
 have h2:=p_Of hb
 have h3:=p_EqualFunc ha' hb'
 simp -implicitDefEqProofs (maxSteps:=600000) (disch:=(first | omega | decide)) only [go_sem,↓reduceIte,seval,h1,h2,h3]
noncomputable def P16k:Tab:=P16j.add 110 (entry (fun (v:List Pc × List Pc)=>[.slc (v.1.map Pc.enc),.slc (v.2.map Pc.enc)]) (fun v=>(okP v.1 ∧ okP v.2) ∧ okP (setP (atP v.1)) ∧ okP (setP (atP v.2))) (fun v=>.bool (sameP (setP (atP v.1)) (setP (atP v.2)))))
theorem P16k_ok:TabOK Tryz.prog P16k:=P16j_ok.add (callable_of Tryz.func110 (by kernel_rfl) (by kernel_rfl)) (entry_ok fun v h=>c_know_Same v.1 v.2 h.1.1 h.1.2 h.2.1 h.2.2)
@[go_sem] theorem P16k_old {g:FuncId} {xs:List A} (h:g ≠ 110):P16k.f g xs = P16j.f g xs:=Tab.add_ne h
theorem P16k_know_Same (v:List Pc × List Pc) (h:(okP v.1 ∧ okP v.2) ∧ okP (setP (atP v.1)) ∧ okP (setP (atP v.2))):P16k.f 110 [.slc (v.1.map Pc.enc),.slc (v.2.map Pc.enc)] = some (.bool (sameP (setP (atP v.1)) (setP (atP v.2)))):=
 (Tab.add_eq:P16k.f 110 [.slc (v.1.map Pc.enc),.slc (v.2.map Pc.enc)] = (entry (fun (v:List Pc × List Pc)=>[.slc (v.1.map Pc.enc),.slc (v.2.map Pc.enc)]) (fun v=>(okP v.1 ∧ okP v.2) ∧ okP (setP (atP v.1)) ∧ okP (setP (atP v.2))) (fun v=>.bool (sameP (setP (atP v.1)) (setP (atP v.2))))) [.slc (v.1.map Pc.enc),.slc (v.2.map Pc.enc)]).trans (entry_eq (fun i j h=>by first | (cases i; cases j; rfl; done) | simpa [Prod.ext_iff,and_assoc] using h | (simp at h; omega) | (simp at h; exact Prod.ext h.1 (Prod.ext h.2.1 (by omega)))) v h)
theorem p_Same {a b:List Pc} (ha:okP a) (hb:okP b) (ha':okP (setP (atP a))) (hb':okP (setP (atP b))):P16k.f 110 [.slc (a.map Pc.enc),.slc (b.map Pc.enc)] = some (.bool (sameP (setP (atP a)) (setP (atP b)))):=P16k_know_Same (a,b) ⟨⟨ha,hb⟩,ha',hb'⟩
def allP (l:List Rng) (s:List Known):List Pc:=l.map fun r=>⟨r,s⟩
theorem edg3 (k:List Pc) (own:List Rng):Edg (restP k own) (edgesK [k,allP own []]):=edg_raw edgesK_up edgesK_nil edgesK_17 edgesK_all (fun x=>by
 unfold restP; split
 ·exact atP_right k x
 ·rfl) fun x e h=>by
 unfold restP
 rw [atP_flat (k:=k) fun r hr=>h r (by simp only [List.flatMap_cons,List.mem_append]; exact .inl hr),hasRs_flat1 (l:=own) fun r hr=>h r (by
  simp only [List.flatMap_cons,List.mem_append]
  exact .inr (.inl (List.mem_map.2 ⟨⟨r,[]⟩,List.mem_map.2 ⟨r,hr,rfl⟩,rfl⟩)))]
noncomputable def P16l:Tab:=P16k.add 148 (entry (fun (v:List (List UInt8) × List Rng × List Pc)=>[.slc (v.1.map .str),.fn 150 [.dptr [.slc (v.2.1.map Rng.enc)],.dptr [.slc (v.2.2.map Pc.enc)]]]) (fun v=>((Edg (restP v.2.2 v.2.1) v.1 ∧ okP v.2.2) ∧ okL v.2.1 ∧ v.2.1.length ≤ 100000) ∧ v.1.length ≤ 1000000) (fun v=>.slc ((setP (restP v.2.2 v.2.1)).map Pc.enc)))
theorem P16l_ok:TabOK Tryz.prog P16l:=P16k_ok.add (callable_of Tryz.func148 (by kernel_rfl) (by kernel_rfl)) (entry_ok fun v h=>c_know_build v.1 _ _ (restP v.2.2 v.2.1) (caps2 _ _) h.1.1.1 h.2 (fun x=>by unfold restP; split; exact (setAt_small h.1.1.2 x).2; exact ⟨by simp,by simp [sumK]⟩) (fun x hx=>p_Restrict1 h.1.1.2 h.1.2.2 h.1.2.1 (by have:=h.1.1.1.len x hx; omega)))
@[go_sem] theorem P16l_old {g:FuncId} {xs:List A} (h:g ≠ 148):P16l.f g xs = P16k.f g xs:=Tab.add_ne h
theorem P16l_know_build (v:List (List UInt8) × List Rng × List Pc) (h:((Edg (restP v.2.2 v.2.1) v.1 ∧ okP v.2.2) ∧ okL v.2.1 ∧ v.2.1.length ≤ 100000) ∧ v.1.length ≤ 1000000):P16l.f 148 [.slc (v.1.map .str),.fn 150 [.dptr [.slc (v.2.1.map Rng.enc)],.dptr [.slc (v.2.2.map Pc.enc)]]] = some (.slc ((setP (restP v.2.2 v.2.1)).map Pc.enc)):=
 (Tab.add_eq:P16l.f 148 [.slc (v.1.map .str),.fn 150 [.dptr [.slc (v.2.1.map Rng.enc)],.dptr [.slc (v.2.2.map Pc.enc)]]] = (entry (fun (v:List (List UInt8) × List Rng × List Pc)=>[.slc (v.1.map .str),.fn 150 [.dptr [.slc (v.2.1.map Rng.enc)],.dptr [.slc (v.2.2.map Pc.enc)]]]) (fun v=>((Edg (restP v.2.2 v.2.1) v.1 ∧ okP v.2.2) ∧ okL v.2.1 ∧ v.2.1.length ≤ 100000) ∧ v.1.length ≤ 1000000) (fun v=>.slc ((setP (restP v.2.2 v.2.1)).map Pc.enc))) [.slc (v.1.map .str),.fn 150 [.dptr [.slc (v.2.1.map Rng.enc)],.dptr [.slc (v.2.2.map Pc.enc)]]]).trans (entry_eq (fun i j h=>by first | (cases i; cases j; rfl; done) | simpa [Prod.ext_iff,and_assoc] using h | (simp at h; omega) | (simp at h; exact Prod.ext h.1 (Prod.ext h.2.1 (by omega)))) v h)
theorem p_buildRest {es:List (List UInt8)} {own:List Rng} {k:List Pc} (hE:Edg (restP k own) es) (hk:okP k) (ho:okL own) (hol:own.length ≤ 100000) (hl:es.length ≤ 1000000):P16l.f 148 [.slc (es.map .str),.fn 150 [.dptr [.slc (own.map Rng.enc)],.dptr [.slc (k.map Pc.enc)]]] = some (.slc ((setP (restP k own)).map Pc.enc)):=P16l_know_build (es,own,k) ⟨⟨⟨hE,hk⟩,ho,hol⟩,hl⟩
noncomputable def R15:Tab:={ P16l with eff:=fun f=>f == 148,frz:=fun f=>f == 148,ords:=fun n=>if n = 8 then [[999999,2]] else [] }
theorem R15_ok:TabOK Tryz.prog R15:=⟨P16l_ok.f,P16l_ok.hp⟩
@[go_sem] theorem R15_f:R15.f = P16l.f:=rfl
@[go_sem] theorem R15_eff {g:FuncId}:R15.eff g = (g == 148):=rfl
@[go_sem] theorem R15_frz {g:FuncId}:R15.frz g = (g == 148):=rfl
@[go_sem] theorem R15_fix {n:Nat}:R15.fix n = false:=rfl
@[go_sem] theorem R15_ords8:R15.ords 8 = [[999999,2]]:=rfl
@[go_sem] theorem R15_ords {n:Nat} (h:n ≠ 8):R15.ords n = []:=if_neg h
theorem setS_okL (l:List Rng):okL (setS (hasRs l)) ∧ (setS (hasRs l)).length ≤ l.length:=⟨setS_ok _,setS_len l⟩
theorem ok_know_Restrict:codeOK Tryz.prog R15 Tryz.f84.ntmps (Tryz.f84.body.getD .skip) = true:=by kernel_rfl
theorem c_know_Restrict (k:List Pc) (l:List Rng) (hk:okP k) (hl:l.length ≤ 1000) (hol:okL l):CallA Tryz.prog 84 [.slc (k.map Pc.enc),.slc (l.map Rng.enc)] (· = .slc ((setP (restP k (setS (hasRs l)))).map Pc.enc)):=by
 refine callA_of_body R15_ok mixed Tryz.func84 rfl (Nat.le_of_ble_eq_true rfl) ok_know_Restrict ?_
 unfold Tryz.f84
 have h0:=p_ranges_Of (l:=l) (by omega) hol
 obtain ⟨o1,o2⟩:=setS_okL l
 generalize setS (hasRs l) = own at *
 simp -implicitDefEqProofs (maxSteps:=600000) (disch:=(first | omega | decide)) only [go_sem,↓reduceIte,seval,h0,List.length_map]
 refine wpA_loop_nil 6 4 rfl ?_
 refine wpA_loop [0,1,2,4,5,11,12] (ι:={j:Nat // j ≤ own.length}) (fun p=>[(13,.int .i64 p.1),(6,.row 2 0 4 p.1 false)]) (fun p=>[(2,.row 4 ((allP (own.take p.1) []).map Pc.enc))]) (fun p=>own.length - p.1) ⟨0,by omega⟩ (Nat.zero_le _) ?_ ?_
 ·simp -implicitDefEqProofs (maxSteps:=600000) (disch:=(first | omega | decide)) only [go_sem,↓reduceIte,seval]
  simp [allP]
 ·rintro ⟨j,hj⟩
  simp only
  have hcl:((allP (own.take j) []).map Pc.enc).length = j:=by simp [allP]; omega
  have tl:((allP (own.take j) []).map Pc.enc).take j = (allP (own.take j) []).map Pc.enc:=List.take_of_length_le (Nat.le_of_eq hcl)
  by_cases hlt:j < own.length
  ·have hlt':(j:Int) < (own.length:Int):=by omega
   have e1:=rng_get hlt
   have hst:allP (own.take (j + 1)) [] = allP (own.take j) [] ++ [⟨own[j],[]⟩]:=by
    rw [← List.take_append_getElem hlt]; unfold allP; rw [List.map_append]; rfl
   generalize hp:own[j] = p at *
   obtain ⟨lo,hi,op⟩:=p
   simp -implicitDefEqProofs (maxSteps:=600000) (disch:=(first | omega | decide)) only [go_sem,↓reduceIte,seval,hlt',e1,tl,hcl,wrap_i64,List.length_map]
   exact ⟨by omega,⟨j + 1,hlt⟩,⟨⟨by simp,rfl⟩,by rw [hst,List.map_append]; rfl⟩,by show own.length - (j + 1) < own.length - j; omega⟩
  ·have hlt':¬ (j:Int) < (own.length:Int):=by omega
   obtain rfl:j = own.length:=by omega
   rw [List.take_length] at *
   have oc:okP (allP own []):=⟨⟨by simp [allP]; omega,by
    have:∀ m:List Rng,wP (allP m []) = 0:=fun m=>by
     induction m with
     | nil=>rfl
     | cons r m ih=>show wP (⟨r,[]⟩ :: allP m []) = 0; rw [wP_cons,ih]; rfl
    rw [this]; omega⟩,fun p hp=>by
    obtain ⟨r,hr,rfl⟩:=List.mem_map.1 hp
    exact o1 r hr⟩
   have h2:=p_edges2 hk oc
   have h3:=p_buildRest (edg3 k own) hk o1 (by omega) (by have:=edgesK_len (LL:=[k,allP own []]); have:=hk.1.1; simp [totP,allP] at *; omega)
   have hle:(own.length ≤ own.length) = True:=by simp
   simp -implicitDefEqProofs (maxSteps:=600000) (disch:=(first | omega | decide)) only [go_sem,↓reduceIte,seval,hlt',h2,h3,tl,hcl,hle,List.length_map,List.contains_nil,List.contains_cons]
noncomputable def P17a:Tab:=P16l
theorem P17a_ok:TabOK Tryz.prog P17a:=P16l_ok
@[go_sem] theorem P17a_old {g:FuncId} {xs:List A}:P17a.f g xs = P16l.f g xs:=rfl
noncomputable def P17b:Tab:=P17a.add 84 (entry (fun (v:List Pc × List Rng)=>[.slc (v.1.map Pc.enc),.slc (v.2.map Rng.enc)]) (fun v=>(okP v.1 ∧ okL v.2) ∧ v.2.length ≤ 1000) (fun v=>.slc ((setP (restP v.1 (setS (hasRs v.2)))).map Pc.enc)))
theorem P17b_ok:TabOK Tryz.prog P17b:=P17a_ok.add (callable_of Tryz.func84 (by kernel_rfl) (by kernel_rfl)) (entry_ok fun v h=>c_know_Restrict v.1 v.2 h.1.1 h.2 h.1.2)
@[go_sem] theorem P17b_old {g:FuncId} {xs:List A} (h:g ≠ 84):P17b.f g xs = P17a.f g xs:=Tab.add_ne h
@[go_sem] theorem P17b_eff {g:FuncId}:P17b.eff g = false:=rfl
@[go_sem] theorem P17b_fix {n:Nat}:P17b.fix n = false:=rfl
@[go_sem] theorem P17b_ords {n:Nat}:P17b.ords n = []:=rfl
theorem P17b_know_Restrict (v:List Pc × List Rng) (h:(okP v.1 ∧ okL v.2) ∧ v.2.length ≤ 1000):P17b.f 84 [.slc (v.1.map Pc.enc),.slc (v.2.map Rng.enc)] = some (.slc ((setP (restP v.1 (setS (hasRs v.2)))).map Pc.enc)):=
 (Tab.add_eq:P17b.f 84 [.slc (v.1.map Pc.enc),.slc (v.2.map Rng.enc)] = (entry (fun (v:List Pc × List Rng)=>[.slc (v.1.map Pc.enc),.slc (v.2.map Rng.enc)]) (fun v=>(okP v.1 ∧ okL v.2) ∧ v.2.length ≤ 1000) (fun v=>.slc ((setP (restP v.1 (setS (hasRs v.2)))).map Pc.enc))) [.slc (v.1.map Pc.enc),.slc (v.2.map Rng.enc)]).trans (entry_eq (fun i j h=>by first | (cases i; cases j; rfl; done) | simpa [Prod.ext_iff,and_assoc] using h | (simp at h; omega) | (simp at h; exact Prod.ext h.1 (Prod.ext h.2.1 (by omega)))) v h)
theorem p_Restrict {k:List Pc} {l:List Rng} (hk:okP k) (hl:l.length ≤ 1000) (hol:okL l):P17b.f 84 [.slc (k.map Pc.enc),.slc (l.map Rng.enc)] = some (.slc ((setP (restP k (setS (hasRs l)))).map Pc.enc)):=P17b_know_Restrict (k,l) ⟨⟨hk,hol⟩,hl⟩
theorem hasP_cons (p:Pc) (k:List Pc) (x:List UInt8) (n c:Int):hasP (p :: k) x n c = ((hasR p.r x && hasK p.s n c) || hasP k x n c):=rfl
theorem ok_know_Has:codeOK Tryz.prog P17b Tryz.f79.ntmps (Tryz.f79.body.getD .skip) = true:=by kernel_rfl
theorem c_know_Has (k:List Pc) (x:List UInt8) (n c:Int) (hk:okP k) (hx:x.length ≤ 9223372036854775807):CallA Tryz.prog 79 [.slc (k.map Pc.enc),.str x,.agg [.int .i64 n,.int .i64 c]] (· = .bool (hasP k x n c)):=by
 refine callA_of_body P17b_ok mixed Tryz.func79 rfl (Nat.le_of_ble_eq_true rfl) ok_know_Has ?_
 unfold Tryz.f79
 obtain ⟨⟨k1,k2⟩,k3⟩:=id hk
 simp -implicitDefEqProofs (maxSteps:=600000) (disch:=(first | omega | decide)) only [go_sem,↓reduceIte,seval,List.length_map]
 refine wpA_loop [0,1,5,9,10] (ι:={j:Nat // j ≤ k.length ∧ hasP k x n c = hasP (k.drop j) x n c}) (fun p=>[(11,.int .i64 p.1)]) (fun _=>[]) (fun p=>k.length - p.1) ⟨0,by omega,rfl⟩ (Nat.zero_le _) ?_ ?_
 ·simp -implicitDefEqProofs (maxSteps:=600000) (disch:=(first | omega | decide)) only [go_sem,↓reduceIte,seval]
 ·rintro ⟨j,hj,hd⟩
  simp only at hj hd ⊢
  by_cases hlt:j < k.length
  ·have hlt':(j:Int) < (k.length:Int):=by omega
   have e1:=pc_get hlt
   have hok:=k3 _ (List.getElem_mem hlt)
   have hsm:=okP_small hk (List.getElem_mem hlt)
   rw [List.drop_eq_getElem_cons hlt,hasP_cons] at hd
   generalize hp:k[j] = p at *
   obtain ⟨⟨lo,hi,op⟩,s⟩:=p
   simp only at hd hok hsm
   have hh:=k_vset_Has (n:=n) (c:=c) hsm
   have next:hasP k x n c = hasP (k.drop (j + 1)) x n c → ∃ i:{j:Nat // j ≤ k.length ∧ hasP k x n c = hasP (k.drop j) x n c},(j:Int) + 1 = (i.1:Int) ∧ k.length - i.1 < k.length - j:=fun h=>⟨⟨j + 1,hlt,h⟩,by simp,by show k.length - (j + 1) < k.length - j; omega⟩
   cases h1:hasR ⟨lo,hi,op⟩ x with
   | false=>
    rw [h1,Bool.false_and,Bool.false_or] at hd
    simp -implicitDefEqProofs (maxSteps:=600000) (disch:=(first | omega | decide)) only [go_sem,↓reduceIte,seval,hlt',e1,h1,wrap_i64,List.length_map]
    exact next hd
   | true=>
    cases h2:hasK s n c with
    | false=>
     rw [h1,h2,Bool.and_false,Bool.false_or] at hd
     rw [h2] at hh
     simp -implicitDefEqProofs (maxSteps:=600000) (disch:=(first | omega | decide)) only [go_sem,↓reduceIte,seval,hlt',e1,h1,hh,wrap_i64,List.length_map]
     exact next hd
    | true=>
     rw [h1,h2] at hd
     have hh2:hasP k x n c = true:=by rw [hd]; rfl
     rw [h2] at hh
     simp -implicitDefEqProofs (maxSteps:=600000) (disch:=(first | omega | decide)) only [go_sem,↓reduceIte,seval,hlt',e1,h1,hh,hh2,wrap_i64,List.length_map]
  ·have hlt':¬ (j:Int) < (k.length:Int):=by omega
   have hh:hasP k x n c = false:=by rw [hd,List.drop_of_length_le (by omega)]; rfl
   simp -implicitDefEqProofs (maxSteps:=600000) (disch:=(first | omega | decide)) only [go_sem,↓reduceIte,seval,hlt',hh,List.length_map]
theorem ok_ref15_Has:codeOK Tryz.prog P17b Tryz.f67.ntmps (Tryz.f67.body.getD .skip) = true:=by kernel_rfl
theorem c_ref15_Has (k:List Pc) (x:List UInt8) (n c:Int) (hk:okP k) (hx:x.length ≤ 9223372036854775807):CallA Tryz.prog 67 [.slc (k.map Pc.enc),.str x,.agg [.int .i64 n,.int .i64 c]] (· = .bool (hasP k x n c)):=by
 refine callA_of_body P17b_ok mixed Tryz.func67 rfl (Nat.le_of_ble_eq_true rfl) ok_ref15_Has ?_
 unfold Tryz.f67
 obtain ⟨⟨k1,k2⟩,k3⟩:=id hk
 simp -implicitDefEqProofs (maxSteps:=600000) (disch:=(first | omega | decide)) only [go_sem,↓reduceIte,seval,List.length_map]
 refine wpA_loop [0,1,5] (ι:={j:Nat // j ≤ k.length ∧ hasP k x n c = hasP (k.drop j) x n c}) (fun p=>[(7,.int .i64 p.1)]) (fun _=>[]) (fun p=>k.length - p.1) ⟨0,by omega,rfl⟩ (Nat.zero_le _) ?_ ?_
 ·simp -implicitDefEqProofs (maxSteps:=600000) (disch:=(first | omega | decide)) only [go_sem,↓reduceIte,seval]
 ·rintro ⟨j,hj,hd⟩
  simp only at hj hd ⊢
  by_cases hlt:j < k.length
  ·have hlt':(j:Int) < (k.length:Int):=by omega
   have e1:=pc_get hlt
   have hok:=k3 _ (List.getElem_mem hlt)
   have hsm:=okP_small hk (List.getElem_mem hlt)
   rw [List.drop_eq_getElem_cons hlt,hasP_cons] at hd
   generalize hp:k[j] = p at *
   obtain ⟨⟨lo,hi,op⟩,s⟩:=p
   simp only at hd hok hsm
   have hh:=k_ref14_Has (n:=n) (c:=c) hsm
   have next:hasP k x n c = hasP (k.drop (j + 1)) x n c → ∃ i:{j:Nat // j ≤ k.length ∧ hasP k x n c = hasP (k.drop j) x n c},(j:Int) + 1 = (i.1:Int) ∧ k.length - i.1 < k.length - j:=fun h=>⟨⟨j + 1,hlt,h⟩,by simp,by show k.length - (j + 1) < k.length - j; omega⟩
   cases h1:hasR ⟨lo,hi,op⟩ x with
   | false=>
    rw [h1,Bool.false_and,Bool.false_or] at hd
    simp -implicitDefEqProofs (maxSteps:=600000) (disch:=(first | omega | decide)) only [go_sem,↓reduceIte,seval,hlt',e1,h1,wrap_i64,List.length_map]
    exact next hd
   | true=>
    cases h2:hasK s n c with
    | false=>
     rw [h1,h2,Bool.and_false,Bool.false_or] at hd
     rw [h2] at hh
     simp -implicitDefEqProofs (maxSteps:=600000) (disch:=(first | omega | decide)) only [go_sem,↓reduceIte,seval,hlt',e1,h1,hh,wrap_i64,List.length_map]
     exact next hd
    | true=>
     rw [h1,h2] at hd
     have hh2:hasP k x n c = true:=by rw [hd]; rfl
     rw [h2] at hh
     simp -implicitDefEqProofs (maxSteps:=600000) (disch:=(first | omega | decide)) only [go_sem,↓reduceIte,seval,hlt',e1,h1,hh,hh2,wrap_i64,List.length_map]
  ·have hlt':¬ (j:Int) < (k.length:Int):=by omega
   have hh:hasP k x n c = false:=by rw [hd,List.drop_of_length_le (by omega)]; rfl
   simp -implicitDefEqProofs (maxSteps:=600000) (disch:=(first | omega | decide)) only [go_sem,↓reduceIte,seval,hlt',hh,List.length_map]
def longPc (p:Pc):Bool:=decide ((40:Int) < (p.r.lo.length:Int)) || (decide ((40:Int) < (p.r.hi.length:Int)) || longK p.s 16)
def longP (k:List Pc) (m:Int):Bool:=decide (m < (k.length:Int)) || k.any longPc
theorem ok_ref15_Long:codeOK Tryz.prog P17b Tryz.f56.ntmps (Tryz.f56.body.getD .skip) = true:=by kernel_rfl
theorem c_ref15_Long (k:List Pc) (m:Int) (hk:k.length ≤ 9223372036854775807) (hs:∀ p ∈ k,p.s.length ≤ 9223372036854775807):CallA Tryz.prog 56 [.slc (k.map Pc.enc),.int .i64 m] (· = .bool (longP k m)):=by
 refine callA_of_body P17b_ok mixed Tryz.func56 rfl (Nat.le_of_ble_eq_true rfl) ok_ref15_Long ?_
 unfold Tryz.f56
 by_cases h0:m < (k.length:Int)
 ·have hh:longP k m = true:=by unfold longP; rw [decide_eq_true h0]; rfl
  simp -implicitDefEqProofs (maxSteps:=600000) (disch:=(first | omega | decide)) only [go_sem,↓reduceIte,seval,h0,hh,List.length_map]
 ·simp -implicitDefEqProofs (maxSteps:=600000) (disch:=(first | omega | decide)) only [go_sem,↓reduceIte,seval,h0,List.length_map]
  refine wpA_loop [0,1] (ι:={j:Nat // j ≤ k.length ∧ longP k m = (k.drop j).any longPc}) (fun p=>[(5,.int .i64 p.1)]) (fun _=>[]) (fun p=>k.length - p.1) ⟨0,by omega,by unfold longP; rw [decide_eq_false h0,Bool.false_or]; rfl⟩ (Nat.zero_le _) ?_ ?_
  ·simp -implicitDefEqProofs (maxSteps:=600000) (disch:=(first | omega | decide)) only [go_sem,↓reduceIte,seval]
  ·rintro ⟨j,hj,hd⟩
   simp only at hj hd ⊢
   by_cases hlt:j < k.length
   ·have hlt':(j:Int) < (k.length:Int):=by omega
    have e1:=pc_get hlt
    have hsl:=hs _ (List.getElem_mem hlt)
    rw [List.drop_eq_getElem_cons hlt,List.any_cons] at hd
    generalize hp:k[j] = p at *
    obtain ⟨⟨lo,hi,op⟩,s⟩:=p
    simp only [longPc] at hd hsl
    have hL:=k_ref14_Long (m:=16) hsl
    by_cases h1:(40:Int) < (lo.length:Int)
    ·have hh:longP k m = true:=by rw [hd,decide_eq_true h1]; rfl
     simp -implicitDefEqProofs (maxSteps:=600000) (disch:=(first | omega | decide)) only [go_sem,↓reduceIte,seval,hlt',e1,h1,hh,List.length_map]
    ·by_cases h2:(40:Int) < (hi.length:Int)
     ·have hh:longP k m = true:=by rw [hd,decide_eq_true h2]; simp
      simp -implicitDefEqProofs (maxSteps:=600000) (disch:=(first | omega | decide)) only [go_sem,↓reduceIte,seval,hlt',e1,h1,h2,hh,List.length_map]
     ·cases h3:longK s 16 with
      | true=>
           have hh:longP k m = true:=by rw [hd,h3]; simp
           rw [h3] at hL
           simp -implicitDefEqProofs (maxSteps:=600000) (disch:=(first | omega | decide)) only [go_sem,↓reduceIte,seval,hlt',e1,h1,h2,hL,hh,List.length_map]
      | false=>
           rw [decide_eq_false h1,decide_eq_false h2,h3] at hd
           simp only [Bool.or_self,Bool.false_or] at hd
           rw [h3] at hL
           simp -implicitDefEqProofs (maxSteps:=600000) (disch:=(first | omega | decide)) only [go_sem,↓reduceIte,seval,hlt',e1,h1,h2,hL,wrap_i64,List.length_map]
           exact ⟨⟨j + 1,hlt,hd⟩,by simp,by show k.length - (j + 1) < k.length - j; omega⟩
   ·have hlt':¬ (j:Int) < (k.length:Int):=by omega
    have hh:longP k m = false:=by rw [hd,List.drop_of_length_le (by omega)]; rfl
    simp -implicitDefEqProofs (maxSteps:=600000) (disch:=(first | omega | decide)) only [go_sem,↓reduceIte,seval,hlt',hh,List.length_map]
theorem ok_ref15_Same:codeOK Tryz.prog P17b Tryz.f28.ntmps (Tryz.f28.body.getD .skip) = true:=by kernel_rfl
theorem c_ref15_Same (a b:List Pc) (ha:okP a) (hb:okP b):CallA Tryz.prog 28 [.slc (a.map Pc.enc),.slc (b.map Pc.enc)] (· = .bool (sameP a b)):=by
 refine callA_of_body P17b_ok mixed Tryz.func28 rfl (Nat.le_of_ble_eq_true rfl) ok_ref15_Same ?_
 unfold Tryz.f28
 obtain ⟨⟨a1,a2⟩,a3⟩:=id ha
 obtain ⟨⟨b1,b2⟩,b3⟩:=id hb
 cases h0:((a.length:Int) == (b.length:Int)) with
 | false=>
  have hne:a.length ≠ b.length:=by
   have:(a.length:Int) ≠ (b.length:Int):=by simpa using h0
   omega
  have hh:sameP a b = false:=by unfold sameP; simp; intro e; exact hne (by rw [e])
  simp -implicitDefEqProofs (maxSteps:=600000) (disch:=(first | omega | decide)) only [go_sem,↓reduceIte,seval,h0,hh,List.length_map]
 | true=>
  have he:a.length = b.length:=by
   have:(a.length:Int) = (b.length:Int):=by simpa using h0
   omega
  simp -implicitDefEqProofs (maxSteps:=600000) (disch:=(first | omega | decide)) only [go_sem,↓reduceIte,seval,h0,List.length_map]
  refine wpA_loop [0,1] (ι:={k:Nat // k ≤ a.length ∧ a.take k = b.take k}) (fun p=>[(5,.int .i64 p.1)]) (fun _=>[]) (fun p=>a.length - p.1) ⟨0,by omega,rfl⟩ (Nat.zero_le _) ?_ ?_
  ·simp -implicitDefEqProofs (maxSteps:=600000) (disch:=(first | omega | decide)) only [go_sem,↓reduceIte,seval]
  ·rintro ⟨k,hk,hd⟩
   simp only
   by_cases hlt:k < a.length
   ·have hlt':(k:Int) < (a.length:Int):=by omega
    have hlt3:(k:Int) < (b.length:Int):=by omega
    have hltb:k < b.length:=by omega
    have e1:=pc_get hlt
    have e2:=pc_get hltb
    have s1:=okP_small ha (List.getElem_mem hlt)
    have s2:=okP_small hb (List.getElem_mem hltb)
    have t1:=(List.take_append_getElem hlt).symm
    have t2:=(List.take_append_getElem hltb).symm
    have hno:a[k] ≠ b[k] → sameP a b = false:=fun h=>by
     unfold sameP; simp; intro e; subst e; exact h rfl
    generalize hx:a[k] = x at *
    generalize hy:b[k] = y at *
    obtain ⟨⟨lo,hi,op⟩,s⟩:=x
    obtain ⟨⟨lo',hi',op'⟩,s'⟩:=y
    simp only at s1 s2
    have hs:=k_ref14_Same s1 s2
    cases h1:lo == lo' with
    | false=>
     have hh:=hno (fun e=>by injection e with e _; injection e with e _ _; simp [e] at h1)
     simp -implicitDefEqProofs (maxSteps:=600000) (disch:=(first | omega | decide)) only [go_sem,↓reduceIte,seval,hlt',hlt3,e1,e2,h1,hh,Bool.false_and,Bool.not_false,List.length_map]
    | true=>
     cases h2:hi == hi' with
     | false=>
      have hh:=hno (fun e=>by injection e with e _; injection e with _ e _; simp [e] at h2)
      simp -implicitDefEqProofs (maxSteps:=600000) (disch:=(first | omega | decide)) only [go_sem,↓reduceIte,seval,hlt',hlt3,e1,e2,h1,h2,hh,Bool.false_and,Bool.true_and,Bool.not_false,List.length_map]
     | true=>
      cases h3:op == op' with
      | false=>
           have hh:=hno (fun e=>by injection e with e _; injection e with _ _ e; simp [e] at h3)
           simp -implicitDefEqProofs (maxSteps:=600000) (disch:=(first | omega | decide)) only [go_sem,↓reduceIte,seval,hlt',hlt3,e1,e2,h1,h2,h3,hh,Bool.false_and,Bool.true_and,Bool.not_false,List.length_map]
      | true=>
           cases h4:sameK s s' with
           | false=>
            have hh:=hno (fun e=>by injection e with _ e; simp [sameK,e] at h4)
            rw [h4] at hs
            simp -implicitDefEqProofs (maxSteps:=600000) (disch:=(first | omega | decide)) only [go_sem,↓reduceIte,seval,hlt',hlt3,e1,e2,h1,h2,h3,hs,hh,Bool.true_and,Bool.not_true,List.length_map]
           | true=>
            obtain rfl:lo = lo':=by simpa using h1
            obtain rfl:hi = hi':=by simpa using h2
            obtain rfl:op = op':=by simpa using h3
            obtain rfl:s = s':=by simpa [sameK] using h4
            rw [h4] at hs
            simp -implicitDefEqProofs (maxSteps:=600000) (disch:=(first | omega | decide)) only [go_sem,↓reduceIte,seval,hlt',hlt3,e1,e2,h1,h2,h3,hs,Bool.true_and,Bool.not_true,wrap_i64,List.length_map]
            exact ⟨⟨k + 1,hlt,by rw [t1,t2,hd]⟩,by simp,by show a.length - (k + 1) < a.length - k; omega⟩
   ·have hlt':¬ (k:Int) < (a.length:Int):=by omega
    have hh:sameP a b = true:=by
     rw [List.take_of_length_le (by omega),List.take_of_length_le (by omega)] at hd
     simp [sameP,hd]
    simp -implicitDefEqProofs (maxSteps:=600000) (disch:=(first | omega | decide)) only [go_sem,↓reduceIte,seval,hlt',hh,List.length_map]
def spansP (k:List Pc):List Rng:=k.map (·.r)
theorem ok_ref15_spans:codeOK Tryz.prog P17b Tryz.f170.ntmps (Tryz.f170.body.getD .skip) = true:=by kernel_rfl
theorem c_ref15_spans (k:List Pc) (hk:okP k):CallA Tryz.prog 170 [.slc (k.map Pc.enc)] (· = .slc ((spansP k).map Rng.enc)):=by
 refine callA_of_body P17b_ok mixed Tryz.func170 rfl (Nat.le_of_ble_eq_true rfl) ok_ref15_spans ?_
 unfold Tryz.f170
 obtain ⟨⟨k1,k2⟩,k3⟩:=id hk
 simp -implicitDefEqProofs (maxSteps:=600000) (disch:=(first | omega | decide)) only [go_sem,↓reduceIte,seval,List.length_map]
 refine wpA_loop_nil 3 3 rfl ?_
 refine wpA_loop [0] (ι:={j:Nat // j ≤ k.length}) (fun p=>[(4,.int .i64 p.1),(3,.row 0 0 3 p.1 false)]) (fun p=>[(0,.row 3 ((spansP (k.take p.1)).map Rng.enc))]) (fun p=>k.length - p.1) ⟨0,by omega⟩ (Nat.zero_le _) ?_ ?_
 ·simp -implicitDefEqProofs (maxSteps:=600000) (disch:=(first | omega | decide)) only [go_sem,↓reduceIte,seval]
  simp [spansP]
 ·rintro ⟨j,hj⟩
  simp only
  have hcl:((spansP (k.take j)).map Rng.enc).length = j:=by simp [spansP]; omega
  have tl:((spansP (k.take j)).map Rng.enc).take j = (spansP (k.take j)).map Rng.enc:=List.take_of_length_le (Nat.le_of_eq hcl)
  by_cases hlt:j < k.length
  ·have hlt':(j:Int) < (k.length:Int):=by omega
   have e1:=pc_get hlt
   have hst:spansP (k.take (j + 1)) = spansP (k.take j) ++ [k[j].r]:=by
    rw [← List.take_append_getElem hlt]; unfold spansP; rw [List.map_append]; rfl
   generalize hp:k[j] = p at *
   obtain ⟨⟨lo,hi,op⟩,s⟩:=p
   simp only at hst
   simp -implicitDefEqProofs (maxSteps:=600000) (disch:=(first | omega | decide)) only [go_sem,↓reduceIte,seval,hlt',e1,tl,hcl,wrap_i64,List.length_map]
   exact ⟨by omega,⟨j + 1,hlt⟩,⟨⟨by simp,rfl⟩,by rw [hst,List.map_append]; rfl⟩,by show k.length - (j + 1) < k.length - j; omega⟩
  ·have hlt':¬ (j:Int) < (k.length:Int):=by omega
   obtain rfl:j = k.length:=by omega
   rw [List.take_length] at *
   simp -implicitDefEqProofs (maxSteps:=600000) (disch:=(first | omega | decide)) only [go_sem,↓reduceIte,seval,hlt',tl,hcl,List.length_map]
   try exact Nat.le_refl _
noncomputable def whatP (op:Int) (a b:List Pc) (l:List Rng) (x:List UInt8):List Known:=if op = 1 then opK 1 (atP a x) (atP b x) else if op = 2 then opK 3 (atP a x) (atP b x) else restP a l x
theorem ok_ref15_What:codeOK Tryz.prog P17b Tryz.f171.ntmps (Tryz.f171.body.getD .skip) = true:=by kernel_rfl
theorem c_ref15_What (op:Int) (a b:List Pc) (l:List Rng) (x:List UInt8) (ha:okR a) (hb:okR b) (hl:l.length ≤ 100000) (hol:okL l) (hx:x.length ≤ 9223372036854775807):CallA Tryz.prog 171 [.int .i64 op,.slc (a.map Pc.enc),.slc (b.map Pc.enc),.slc (l.map Rng.enc),.str x] (· = .slc ((whatP op a b l x).map Known.enc)):=by
 refine callA_of_body P17b_ok mixed Tryz.func171 rfl (Nat.le_of_ble_eq_true rfl) ok_ref15_What ?_
 unfold Tryz.f171
 have h1:=p_rAt ha hx
 have h2:=p_rAt hb hx
 have h3:=k_ref14_Make (a:=atP a x) (b:=atP b x) opOK1 (setAt_mid ha x).2 (setAt_mid hb x).2
 have h4:=k_ref14_Make (a:=atP a x) (b:=atP b x) opOK3 (setAt_mid ha x).2 (setAt_mid hb x).2
 have h5:=p_ref08_Has hl hol hx
 unfold whatP
 cases e1:op == 1 with
 | true=>
  have e1':op = 1:=by simpa using e1
  rw [if_pos e1']
  simp -implicitDefEqProofs (maxSteps:=600000) (disch:=(first | omega | decide)) only [go_sem,↓reduceIte,seval,h1,h2,h3,e1]
 | false=>
  have e1':op ≠ 1:=by simpa using e1
  rw [if_neg e1']
  cases e2:op == 2 with
  | true=>
   have e2':op = 2:=by simpa using e2
   rw [if_pos e2']
   simp -implicitDefEqProofs (maxSteps:=600000) (disch:=(first | omega | decide)) only [go_sem,↓reduceIte,seval,h1,h2,h4,e1,e2]
  | false=>
   have e2':op ≠ 2:=by simpa using e2
   rw [if_neg e2']
   unfold restP
   cases e3:hasRs l x with
   | true=>
    rw [e3] at h5
    simp -implicitDefEqProofs (maxSteps:=600000) (disch:=(first | omega | decide)) only [go_sem,↓reduceIte,seval,h1,h5,e1,e2]
   | false=>
    rw [e3] at h5
    simp -implicitDefEqProofs (maxSteps:=600000) (disch:=(first | omega | decide)) only [go_sem,↓reduceIte,seval,h5,e1,e2,List.map_nil,Bool.false_eq_true]
noncomputable def P17c:Tab:=P17b.add 79 (entry (fun (v:List Pc × List UInt8 × Int × Int)=>[.slc (v.1.map Pc.enc),.str v.2.1,.agg [.int .i64 v.2.2.1,.int .i64 v.2.2.2]]) (fun v=>okP v.1 ∧ v.2.1.length ≤ 9223372036854775807) (fun v=>.bool (hasP v.1 v.2.1 v.2.2.1 v.2.2.2)))
theorem P17c_ok:TabOK Tryz.prog P17c:=P17b_ok.add (callable_of Tryz.func79 (by kernel_rfl) (by kernel_rfl)) (entry_ok fun v h=>c_know_Has v.1 v.2.1 v.2.2.1 v.2.2.2 h.1 h.2)
@[go_sem] theorem P17c_old {g:FuncId} {xs:List A} (h:g ≠ 79):P17c.f g xs = P17b.f g xs:=Tab.add_ne h
theorem P17c_know_Has (v:List Pc × List UInt8 × Int × Int) (h:okP v.1 ∧ v.2.1.length ≤ 9223372036854775807):P17c.f 79 [.slc (v.1.map Pc.enc),.str v.2.1,.agg [.int .i64 v.2.2.1,.int .i64 v.2.2.2]] = some (.bool (hasP v.1 v.2.1 v.2.2.1 v.2.2.2)):=
 (Tab.add_eq:P17c.f 79 [.slc (v.1.map Pc.enc),.str v.2.1,.agg [.int .i64 v.2.2.1,.int .i64 v.2.2.2]] = (entry (fun (v:List Pc × List UInt8 × Int × Int)=>[.slc (v.1.map Pc.enc),.str v.2.1,.agg [.int .i64 v.2.2.1,.int .i64 v.2.2.2]]) (fun v=>okP v.1 ∧ v.2.1.length ≤ 9223372036854775807) (fun v=>.bool (hasP v.1 v.2.1 v.2.2.1 v.2.2.2))) [.slc (v.1.map Pc.enc),.str v.2.1,.agg [.int .i64 v.2.2.1,.int .i64 v.2.2.2]]).trans (entry_eq (fun i j h=>by first | (cases i; cases j; rfl; done) | simpa [Prod.ext_iff,and_assoc] using h | (simp at h; omega) | (simp at h; exact Prod.ext h.1 (Prod.ext h.2.1 (by omega)))) v h)
noncomputable def P17d:Tab:=P17c.add 67 (entry (fun (v:List Pc × List UInt8 × Int × Int)=>[.slc (v.1.map Pc.enc),.str v.2.1,.agg [.int .i64 v.2.2.1,.int .i64 v.2.2.2]]) (fun v=>okP v.1 ∧ v.2.1.length ≤ 9223372036854775807) (fun v=>.bool (hasP v.1 v.2.1 v.2.2.1 v.2.2.2)))
theorem P17d_ok:TabOK Tryz.prog P17d:=P17c_ok.add (callable_of Tryz.func67 (by kernel_rfl) (by kernel_rfl)) (entry_ok fun v h=>c_ref15_Has v.1 v.2.1 v.2.2.1 v.2.2.2 h.1 h.2)
@[go_sem] theorem P17d_old {g:FuncId} {xs:List A} (h:g ≠ 67):P17d.f g xs = P17c.f g xs:=Tab.add_ne h
theorem P17d_ref15_Has (v:List Pc × List UInt8 × Int × Int) (h:okP v.1 ∧ v.2.1.length ≤ 9223372036854775807):P17d.f 67 [.slc (v.1.map Pc.enc),.str v.2.1,.agg [.int .i64 v.2.2.1,.int .i64 v.2.2.2]] = some (.bool (hasP v.1 v.2.1 v.2.2.1 v.2.2.2)):=
 (Tab.add_eq:P17d.f 67 [.slc (v.1.map Pc.enc),.str v.2.1,.agg [.int .i64 v.2.2.1,.int .i64 v.2.2.2]] = (entry (fun (v:List Pc × List UInt8 × Int × Int)=>[.slc (v.1.map Pc.enc),.str v.2.1,.agg [.int .i64 v.2.2.1,.int .i64 v.2.2.2]]) (fun v=>okP v.1 ∧ v.2.1.length ≤ 9223372036854775807) (fun v=>.bool (hasP v.1 v.2.1 v.2.2.1 v.2.2.2))) [.slc (v.1.map Pc.enc),.str v.2.1,.agg [.int .i64 v.2.2.1,.int .i64 v.2.2.2]]).trans (entry_eq (fun i j h=>by first | (cases i; cases j; rfl; done) | simpa [Prod.ext_iff,and_assoc] using h | (simp at h; omega) | (simp at h; exact Prod.ext h.1 (Prod.ext h.2.1 (by omega)))) v h)
noncomputable def P17e:Tab:=P17d.add 56 (entry (fun (v:List Pc × Int)=>[.slc (v.1.map Pc.enc),.int .i64 v.2]) (fun v=>v.1.length ≤ 9223372036854775807 ∧ ∀ p ∈ v.1,p.s.length ≤ 9223372036854775807) (fun v=>.bool (longP v.1 v.2)))
theorem P17e_ok:TabOK Tryz.prog P17e:=P17d_ok.add (callable_of Tryz.func56 (by kernel_rfl) (by kernel_rfl)) (entry_ok fun v h=>c_ref15_Long v.1 v.2 h.1 h.2)
@[go_sem] theorem P17e_old {g:FuncId} {xs:List A} (h:g ≠ 56):P17e.f g xs = P17d.f g xs:=Tab.add_ne h
theorem P17e_ref15_Long (v:List Pc × Int) (h:v.1.length ≤ 9223372036854775807 ∧ ∀ p ∈ v.1,p.s.length ≤ 9223372036854775807):P17e.f 56 [.slc (v.1.map Pc.enc),.int .i64 v.2] = some (.bool (longP v.1 v.2)):=
 (Tab.add_eq:P17e.f 56 [.slc (v.1.map Pc.enc),.int .i64 v.2] = (entry (fun (v:List Pc × Int)=>[.slc (v.1.map Pc.enc),.int .i64 v.2]) (fun v=>v.1.length ≤ 9223372036854775807 ∧ ∀ p ∈ v.1,p.s.length ≤ 9223372036854775807) (fun v=>.bool (longP v.1 v.2))) [.slc (v.1.map Pc.enc),.int .i64 v.2]).trans (entry_eq (fun i j h=>by first | (cases i; cases j; rfl; done) | simpa [Prod.ext_iff,and_assoc] using h | (simp at h; omega) | (simp at h; exact Prod.ext h.1 (Prod.ext h.2.1 (by omega)))) v h)
noncomputable def P17f:Tab:=P17e.add 28 (entry (fun (v:List Pc × List Pc)=>[.slc (v.1.map Pc.enc),.slc (v.2.map Pc.enc)]) (fun v=>okP v.1 ∧ okP v.2) (fun v=>.bool (sameP v.1 v.2)))
theorem P17f_ok:TabOK Tryz.prog P17f:=P17e_ok.add (callable_of Tryz.func28 (by kernel_rfl) (by kernel_rfl)) (entry_ok fun v h=>c_ref15_Same v.1 v.2 h.1 h.2)
@[go_sem] theorem P17f_old {g:FuncId} {xs:List A} (h:g ≠ 28):P17f.f g xs = P17e.f g xs:=Tab.add_ne h
theorem P17f_ref15_Same (v:List Pc × List Pc) (h:okP v.1 ∧ okP v.2):P17f.f 28 [.slc (v.1.map Pc.enc),.slc (v.2.map Pc.enc)] = some (.bool (sameP v.1 v.2)):=
 (Tab.add_eq:P17f.f 28 [.slc (v.1.map Pc.enc),.slc (v.2.map Pc.enc)] = (entry (fun (v:List Pc × List Pc)=>[.slc (v.1.map Pc.enc),.slc (v.2.map Pc.enc)]) (fun v=>okP v.1 ∧ okP v.2) (fun v=>.bool (sameP v.1 v.2))) [.slc (v.1.map Pc.enc),.slc (v.2.map Pc.enc)]).trans (entry_eq (fun i j h=>by first | (cases i; cases j; rfl; done) | simpa [Prod.ext_iff,and_assoc] using h | (simp at h; omega) | (simp at h; exact Prod.ext h.1 (Prod.ext h.2.1 (by omega)))) v h)
noncomputable def P17g:Tab:=P17f.add 170 (entry (fun (k:List Pc)=>[.slc (k.map Pc.enc)]) (fun k=>okP k) (fun k=>.slc ((spansP k).map Rng.enc)))
theorem P17g_ok:TabOK Tryz.prog P17g:=P17f_ok.add (callable_of Tryz.func170 (by kernel_rfl) (by kernel_rfl)) (entry_ok fun k h=>c_ref15_spans k h)
@[go_sem] theorem P17g_old {g:FuncId} {xs:List A} (h:g ≠ 170):P17g.f g xs = P17f.f g xs:=Tab.add_ne h
theorem P17g_ref15_spans (k:List Pc) (h:okP k):P17g.f 170 [.slc (k.map Pc.enc)] = some (.slc ((spansP k).map Rng.enc)):=
 (Tab.add_eq:P17g.f 170 [.slc (k.map Pc.enc)] = (entry (fun (k:List Pc)=>[.slc (k.map Pc.enc)]) (fun k=>okP k) (fun k=>.slc ((spansP k).map Rng.enc))) [.slc (k.map Pc.enc)]).trans (entry_eq (fun i j h=>by first | (cases i; cases j; rfl; done) | simpa [Prod.ext_iff,and_assoc] using h | (simp at h; omega) | (simp at h; exact Prod.ext h.1 (Prod.ext h.2.1 (by omega)))) k h)
noncomputable def P17h:Tab:=P17g.add 171 (entry (fun (v:(Int × List Pc × List Pc) × List Rng × List UInt8)=>[.int .i64 v.1.1,.slc (v.1.2.1.map Pc.enc),.slc (v.1.2.2.map Pc.enc),.slc (v.2.1.map Rng.enc),.str v.2.2]) (fun v=>(okR v.1.2.1 ∧ okR v.1.2.2) ∧ (v.2.1.length ≤ 100000 ∧ okL v.2.1) ∧ v.2.2.length ≤ 9223372036854775807) (fun v=>.slc ((whatP v.1.1 v.1.2.1 v.1.2.2 v.2.1 v.2.2).map Known.enc)))
theorem P17h_ok:TabOK Tryz.prog P17h:=P17g_ok.add (callable_of Tryz.func171 (by kernel_rfl) (by kernel_rfl)) (entry_ok fun v h=>c_ref15_What v.1.1 v.1.2.1 v.1.2.2 v.2.1 v.2.2 h.1.1 h.1.2 h.2.1.1 h.2.1.2 h.2.2)
@[go_sem] theorem P17h_old {g:FuncId} {xs:List A} (h:g ≠ 171):P17h.f g xs = P17g.f g xs:=Tab.add_ne h
theorem P17h_ref15_What (v:(Int × List Pc × List Pc) × List Rng × List UInt8) (h:(okR v.1.2.1 ∧ okR v.1.2.2) ∧ (v.2.1.length ≤ 100000 ∧ okL v.2.1) ∧ v.2.2.length ≤ 9223372036854775807):P17h.f 171 [.int .i64 v.1.1,.slc (v.1.2.1.map Pc.enc),.slc (v.1.2.2.map Pc.enc),.slc (v.2.1.map Rng.enc),.str v.2.2] = some (.slc ((whatP v.1.1 v.1.2.1 v.1.2.2 v.2.1 v.2.2).map Known.enc)):=
 (Tab.add_eq:P17h.f 171 [.int .i64 v.1.1,.slc (v.1.2.1.map Pc.enc),.slc (v.1.2.2.map Pc.enc),.slc (v.2.1.map Rng.enc),.str v.2.2] = (entry (fun (v:(Int × List Pc × List Pc) × List Rng × List UInt8)=>[.int .i64 v.1.1,.slc (v.1.2.1.map Pc.enc),.slc (v.1.2.2.map Pc.enc),.slc (v.2.1.map Rng.enc),.str v.2.2]) (fun v=>(okR v.1.2.1 ∧ okR v.1.2.2) ∧ (v.2.1.length ≤ 100000 ∧ okL v.2.1) ∧ v.2.2.length ≤ 9223372036854775807) (fun v=>.slc ((whatP v.1.1 v.1.2.1 v.1.2.2 v.2.1 v.2.2).map Known.enc))) [.int .i64 v.1.1,.slc (v.1.2.1.map Pc.enc),.slc (v.1.2.2.map Pc.enc),.slc (v.2.1.map Rng.enc),.str v.2.2]).trans (entry_eq (fun i j h=>by first | (cases i; cases j; rfl; done) | simpa [Prod.ext_iff,and_assoc] using h | (simp at h; omega) | (simp at h; exact Prod.ext h.1 (Prod.ext h.2.1 (by omega)))) v h)
theorem p_Has {k:List Pc} {x:List UInt8} {n c:Int} (h:okP k) (hx:x.length ≤ 9223372036854775807):P17c.f 79 [.slc (k.map Pc.enc),.str x,.agg [.int .i64 n,.int .i64 c]] = some (.bool (hasP k x n c)):=P17c_know_Has (k,x,n,c) ⟨h,hx⟩
theorem p_rHas {k:List Pc} {x:List UInt8} {n c:Int} (h:okP k) (hx:x.length ≤ 9223372036854775807):P17d.f 67 [.slc (k.map Pc.enc),.str x,.agg [.int .i64 n,.int .i64 c]] = some (.bool (hasP k x n c)):=P17d_ref15_Has (k,x,n,c) ⟨h,hx⟩
theorem p_rLong {k:List Pc} {m:Int} (h:k.length ≤ 9223372036854775807) (h':∀ p ∈ k,p.s.length ≤ 9223372036854775807):P17e.f 56 [.slc (k.map Pc.enc),.int .i64 m] = some (.bool (longP k m)):=P17e_ref15_Long (k,m) ⟨h,h'⟩
theorem p_rSame {a b:List Pc} (ha:okP a) (hb:okP b):P17f.f 28 [.slc (a.map Pc.enc),.slc (b.map Pc.enc)] = some (.bool (sameP a b)):=P17f_ref15_Same (a,b) ⟨ha,hb⟩
theorem p_spans {k:List Pc} (h:okP k):P17g.f 170 [.slc (k.map Pc.enc)] = some (.slc ((spansP k).map Rng.enc)):=P17g_ref15_spans k h
theorem p_What {op:Int} {a b:List Pc} {l:List Rng} {x:List UInt8} (ha:okR a) (hb:okR b) (hl:l.length ≤ 100000) (hol:okL l) (hx:x.length ≤ 9223372036854775807):P17h.f 171 [.int .i64 op,.slc (a.map Pc.enc),.slc (b.map Pc.enc),.slc (l.map Rng.enc),.str x] = some (.slc ((whatP op a b l x).map Known.enc)):=P17h_ref15_What ((op,a,b),l,x) ⟨⟨ha,hb⟩,⟨hl,hol⟩,hx⟩
theorem edg4 (op:Int) (a b:List Pc) (l:List Rng):Edg (whatP op a b l) (edgesS (spansP a) (spansP b ++ l)):=edg_raw (m:=spansP a ++ (spansP b ++ l)) (edgesS_up _ _) (edgesS_nil _ _) (edgesS_len17 _ _) (fun r hr h=>edgesS_all _ _ r hr h) (fun x=>by
 unfold whatP; split
 ·exact opK_right _ _ _
 ·split
  ·exact opK_right _ _ _
  ·unfold restP; split
   ·exact atP_right _ _
   ·rfl) fun x e h=>by
 have h1:=atP_flat (k:=a) (x:=x) (e:=e) fun r hr=>h r (by simp only [List.mem_append]; exact .inl hr)
 have h2:=atP_flat (k:=b) (x:=x) (e:=e) fun r hr=>h r (by simp only [List.mem_append]; exact .inr (.inl hr))
 have h3:=hasRs_flat1 (l:=l) (x:=x) (e:=e) fun r hr=>h r (by simp only [List.mem_append]; exact .inr (.inr hr))
 unfold whatP restP
 rw [h1,h2,h3]
theorem what_small {op:Int} {a b:List Pc} {l:List Rng} (ha:okR a) (hb:okR b) (x:List UInt8):smallK (whatP op a b l x):=by
 have h1:=ofK_w (setAt a x)
 have h2:=ofK_w (setAt b x)
 have h3:=setAt_w a x
 have h4:=setAt_w b x
 have h5:=ha.2
 have h6:=hb.2
 unfold whatP
 split
 ·have:=opK_w 1 (atP a x) (atP b x); unfold atP at *; exact ⟨by omega,by omega⟩
 ·split
  ·have:=opK_w 3 (atP a x) (atP b x); unfold atP at *; exact ⟨by omega,by omega⟩
  ·unfold restP; split
   ·unfold atP; exact ⟨by omega,by omega⟩
   ·exact ⟨by simp,by simp [sumK]⟩
noncomputable def M15:Tab:={ P17h with eff:=fun f=>f == 108,frz:=fun f=>f == 108 }
theorem M15_ok:TabOK Tryz.prog M15:=⟨P17h_ok.f,P17h_ok.hp⟩
@[go_sem] theorem M15_f:M15.f = P17h.f:=rfl
@[go_sem] theorem M15_eff {g:FuncId}:M15.eff g = (g == 108):=rfl
@[go_sem] theorem M15_frz {g:FuncId}:M15.frz g = (g == 108):=rfl
@[go_sem] theorem M15_fix {n:Nat}:M15.fix n = false:=rfl
@[go_sem] theorem M15_ords {n:Nat}:M15.ords n = []:=rfl
theorem spans_ok {k:List Pc} (h:okP k):okL (spansP k) ∧ (spansP k).length = k.length:=⟨fun r hr=>by
 obtain ⟨p,hp,rfl⟩:=List.mem_map.1 hr
 exact h.2 p hp,by simp [spansP]⟩
theorem stG (l:List Rng):((l.map Rng.enc).isEmpty || strideOf (l.map Rng.enc) == 3) = true:=by cases l <;> rfl
theorem ok_ref15_Make:codeOK Tryz.prog M15 Tryz.f126.ntmps (Tryz.f126.body.getD .skip) = true:=by kernel_rfl
theorem c_ref15_Make (op:Int) (a b:List Pc) (l:List Rng) (ha:okR a) (hb:okR b) (hal:a.length ≤ 500) (hbl:b.length ≤ 500) (hl:l.length ≤ 500) (hol:okL l) :
 CallA Tryz.prog 126 [.int .i64 op,.slc (a.map Pc.enc),.slc (b.map Pc.enc),.slc (l.map Rng.enc)] (· = .slc ((setP (whatP op a b l)).map Pc.enc)):=by
 refine callA_of_body M15_ok mixed Tryz.func126 rfl (Nat.le_of_ble_eq_true rfl) ok_ref15_Make ?_
 unfold Tryz.f126
 have hE:=edg4 op a b l
 have hsm:=fun x=>what_small (op:=op) (l:=l) ha hb x
 have s1:=p_spans ha.1
 have s2:=p_spans hb.1
 obtain ⟨oa,la⟩:=spans_ok ha.1
 obtain ⟨ob,lb⟩:=spans_ok hb.1
 have ocut:okL (spansP b ++ l):=fun r hr=>by
  rcases List.mem_append.1 hr with hr | hr
  ·exact ob r hr
  ·exact hol r hr
 have he:=p_ref08_Edges (a:=spansP a) (b:=spansP b ++ l) ⟨by omega,by rw [List.length_append]; omega⟩ oa ocut
 have hel:=edgesS_len (spansP a) (spansP b ++ l)
 rw [List.length_append] at hel
 have hWh:=fun x (hx:x ∈ edgesS (spansP a) (spansP b ++ l))=>p_What (op:=op) (x:=x) ha hb (l:=l) (by omega) hol (by have:=hE.len x hx; omega)
 generalize edgesS (spansP a) (spansP b ++ l) = es at *
 generalize whatP op a b l = P at *
 have st2:=stG (spansP b)
 have st3:=stG l
 have tl0:List.take (spansP b).length ((spansP b).map Rng.enc) = (spansP b).map Rng.enc:=List.take_of_length_le (by simp)
 have tl1:List.take ((spansP b).length + l.length) ((spansP b).map Rng.enc ++ l.map Rng.enc) = (spansP b).map Rng.enc ++ l.map Rng.enc:=List.take_of_length_le (by simp)
 rw [List.map_append] at he
 simp -implicitDefEqProofs (maxSteps:=600000) (disch:=(first | omega | decide)) only [go_sem,↓reduceIte,seval,s1,s2,st2,st3,tl0,tl1,he,List.length_map,List.contains_nil,List.contains_cons]
 refine ⟨by omega,⟨Nat.le_refl _,by omega⟩,by simp,?_⟩
 refine wpA_loop_nil 11 4 rfl ?_
 refine wpA_loop [0,1,2,3,10] (ι:={k:Nat // k ≤ es.length}) (fun p=>[(12,.int .i64 p.1),(11,.row 2 0 4 (mkP P es p.1).length false)]) (fun p=>[(2,.row 4 (rowP (mkP P es p.1)))]) (fun p=>es.length - p.1) ⟨0,by omega⟩ (Nat.zero_le _) ?_ ?_
 ·simp -implicitDefEqProofs (maxSteps:=600000) (disch:=(first | omega | decide)) only [go_sem,↓reduceIte,seval]
  simp [mkP,rowP]
 ·rintro ⟨k,hk⟩
  simp only
  have hml:=mkP_len P es k
  by_cases hlt:k < es.length
  ·have hlt':(k:Int) < (es.length:Int):=by omega
   have e1:=strE_get hlt
   have hin:es[k]! ∈ es:=by rw [getElem!_pos es k hlt]; exact List.getElem_mem _
   have hgx:=hWh _ hin
   have hspec:=(mkP_spec hE k (by omega)).1
   have hfrom:=mkP_from P es k
   have hsmk:=hsm (es[k]!)
   have hrk:=hE.right (es[k]!)
   have next:∀ m',mkP P es (k + 1) = m' → ∃ i:{k:Nat // k ≤ es.length},(((k:Int) + 1 = (i.1:Int) ∧ m'.length = (mkP P es i.1).length) ∧ rowP m' = rowP (mkP P es i.1)) ∧ es.length - i.1 < es.length - k:=fun m' h=>⟨⟨k + 1,hlt⟩,⟨⟨by simp,by rw [h]⟩,by rw [h]⟩,by show es.length - (k + 1) < es.length - k; omega⟩
   have hst:mkP P es (k + 1) = if P (es[k]!) = [] then mkP P es k else pushP (mkP P es k) ⟨rngE es k,P (es[k]!)⟩:=rfl
   generalize mkP P es k = m at *
   generalize hs:es[k]! = s at *
   generalize hS:P s = S at *
   by_cases hn:k + 1 < es.length
   ·have hn':(k:Int) + 1 < (es.length:Int):=by omega
    have e2:=strE_get hn
    have c9:((k:Int) + 1).toNat = k + 1:=by omega
    have c8:(0:Int) ≤ (k:Int) + 1:=by omega
    have hr:rngE es k = ⟨s,es[k + 1]!,false⟩:=by unfold rngE; rw [if_pos hn,hs]
    rw [hr] at hst
    cases hSl:((S.length:Int) == 0) with
    | true=>
     have hS00:(S.length:Int) = 0:=by simpa using hSl
     have hS0:S = []:=List.length_eq_zero_iff.1 (by omega)
     rw [if_pos hS0] at hst
     have fin:=next _ hst
     simp -implicitDefEqProofs (maxSteps:=600000) (disch:=(first | omega | decide)) only [go_sem,↓reduceIte,seval,hlt',e1,hgx,hn',e2,c9,c8,hSl,wrap_i64,List.length_map]
     exact fin
    | false=>
     have hS0:S ≠ []:=fun e=>by rw [e] at hSl; simp at hSl
     rw [if_neg hS0] at hst
     cases m with
     | nil=>
          have fin:=next _ hst
          simp only [pushP,rowP_cons,rowP_nil,List.nil_append,List.length_cons,List.length_nil] at fin
          rw [rowP_nil]
          simp -implicitDefEqProofs (maxSteps:=600000) (disch:=(first | omega | decide)) only [go_sem,↓reduceIte,seval,hlt',e1,hgx,hn',e2,c9,c8,hSl,wrap_i64,List.length_map,List.length_nil]
          exact fin
     | cons q qs=>
          have hqr:rightK q.s = true:=by have:=hspec q (by simp); simp only [onePc,Bool.and_eq_true] at this; exact this.2
          have hqs:smallK q.s:=by obtain ⟨e,he⟩:=hfrom q (by simp); rw [he]; exact hsm e
          obtain ⟨⟨lo',hi',op'⟩,s'⟩:=q
          simp only at hqr hqs
          have hsame:=k_ref14_Same hqs hsmk
          have hml':qs.length + 1 ≤ k:=hml
          have b0:(0:Int) < ((qs.length + 1:Nat):Int):=by omega
          have b1:(((qs.length + 1:Nat):Int) - 1).toNat = qs.length:=by omega
          have b2:(0:Int) ≤ ((qs.length + 1:Nat):Int) - 1:=by omega
          have b3:((qs.length + 1:Nat):Int) - 1 < ((qs.length + 1:Nat):Int):=by omega
          have g1:∀ x:A,(rowP qs ++ [x])[qs.length]? = some x:=fun x=>by
           have:=Go.Abs.get_last (x:=x) (l:=rowP qs)
           rwa [rowP_len] at this
          have g2:∀ x v:A,setNth (rowP qs ++ [x]) qs.length v = rowP qs ++ [v]:=fun x v=>by
           have:=Go.Abs.setNth_last (x:=x) (v:=v) (l:=rowP qs)
           rwa [rowP_len] at this
          have gl:∀ x:A,(rowP qs ++ [x]).length = qs.length + 1:=fun x=>by rw [List.length_append,rowP_len]; rfl
          have gt:∀ x:A,(rowP qs ++ [x]).take (qs.length + 1) = rowP qs ++ [x]:=fun x=>List.take_of_length_le (Nat.le_of_eq (gl x))
          rw [rowP_cons]
          cases op' with
          | true=>
           have hpush:pushP (⟨⟨lo',hi',true⟩,s'⟩ :: qs) ⟨⟨s,es[k + 1]!,false⟩,S⟩ = ⟨⟨s,es[k + 1]!,false⟩,S⟩ :: ⟨⟨lo',hi',true⟩,s'⟩ :: qs:=by simp [pushP]
           have fin:=next _ hst
           rw [hpush,rowP_cons,rowP_cons] at fin
           simp -implicitDefEqProofs (maxSteps:=600000) (disch:=(first | omega | decide)) only [go_sem,↓reduceIte,seval,hlt',e1,hgx,hn',e2,c9,c8,hSl,b0,b1,b2,b3,g1,g2,gl,gt,wrap_i64,List.length_map,List.length_cons,Bool.not_true,Bool.false_and]
           exact ⟨⟨Nat.le_refl _,by omega⟩,fin⟩
          | false=>
           cases h1:hi' == s with
           | false=>
            have hpush:pushP (⟨⟨lo',hi',false⟩,s'⟩ :: qs) ⟨⟨s,es[k + 1]!,false⟩,S⟩ = ⟨⟨s,es[k + 1]!,false⟩,S⟩ :: ⟨⟨lo',hi',false⟩,s'⟩ :: qs:=by simp only [pushP]; rw [if_neg (by rw [h1]; simp)]
            have fin:=next _ hst
            rw [hpush,rowP_cons,rowP_cons] at fin
            simp -implicitDefEqProofs (maxSteps:=600000) (disch:=(first | omega | decide)) only [go_sem,↓reduceIte,seval,hlt',e1,hgx,hn',e2,c9,c8,hSl,b0,b1,b2,b3,g1,g2,gl,gt,h1,wrap_i64,List.length_map,List.length_cons,Bool.not_false,Bool.true_and]
            exact ⟨⟨Nat.le_refl _,by omega⟩,fin⟩
           | true=>
            cases h2:sameK s' S with
            | false=>
             have h2':s' ≠ S:=by simpa [sameK] using h2
             rw [h2] at hsame
             have hpush:pushP (⟨⟨lo',hi',false⟩,s'⟩ :: qs) ⟨⟨s,es[k + 1]!,false⟩,S⟩ = ⟨⟨s,es[k + 1]!,false⟩,S⟩ :: ⟨⟨lo',hi',false⟩,s'⟩ :: qs:=by simp only [pushP]; rw [if_neg (by simp [h2'])]
             have fin:=next _ hst
             rw [hpush,rowP_cons,rowP_cons] at fin
             simp -implicitDefEqProofs (maxSteps:=600000) (disch:=(first | omega | decide)) only [go_sem,↓reduceIte,seval,hlt',e1,hgx,hn',e2,c9,c8,hSl,b0,b1,b2,b3,g1,g2,gl,gt,h1,hsame,wrap_i64,List.length_map,List.length_cons,Bool.not_false,Bool.true_and]
             exact ⟨⟨Nat.le_refl _,by omega⟩,fin⟩
            | true=>
             have h2':s' = S:=by simpa [sameK] using h2
             rw [h2] at hsame
             have hpush:pushP (⟨⟨lo',hi',false⟩,s'⟩ :: qs) ⟨⟨s,es[k + 1]!,false⟩,S⟩ = ⟨⟨lo',es[k + 1]!,false⟩,s'⟩ :: qs:=by simp only [pushP]; rw [if_pos (by simp [h1,h2'])]
             have fin:=next _ hst
             rw [hpush,rowP_cons] at fin
             simp -implicitDefEqProofs (maxSteps:=600000) (disch:=(first | omega | decide)) only [go_sem,↓reduceIte,seval,hlt',e1,hgx,hn',e2,c9,c8,hSl,b0,b1,b2,b3,g1,g2,gl,gt,h1,hsame,wrap_i64,List.length_map,List.length_cons,Bool.not_false,Bool.true_and]
             exact fin
   ·have hn':¬ (k:Int) + 1 < (es.length:Int):=by omega
    have hr:rngE es k = ⟨s,[],true⟩:=by unfold rngE; rw [if_neg hn,hs]
    rw [hr] at hst
    cases hSl:((S.length:Int) == 0) with
    | true=>
     have hS00:(S.length:Int) = 0:=by simpa using hSl
     have hS0:S = []:=List.length_eq_zero_iff.1 (by omega)
     rw [if_pos hS0] at hst
     have fin:=next _ hst
     simp -implicitDefEqProofs (maxSteps:=600000) (disch:=(first | omega | decide)) only [go_sem,↓reduceIte,seval,hlt',e1,hgx,hn',hSl,wrap_i64,List.length_map]
     exact fin
    | false=>
     have hS0:S ≠ []:=fun e=>by rw [e] at hSl; simp at hSl
     rw [if_neg hS0] at hst
     cases m with
     | nil=>
          have fin:=next _ hst
          simp only [pushP,rowP_cons,rowP_nil,List.nil_append,List.length_cons,List.length_nil] at fin
          rw [rowP_nil]
          simp -implicitDefEqProofs (maxSteps:=600000) (disch:=(first | omega | decide)) only [go_sem,↓reduceIte,seval,hlt',e1,hgx,hn',hSl,wrap_i64,List.length_map,List.length_nil]
          exact fin
     | cons q qs=>
          have hqr:rightK q.s = true:=by have:=hspec q (by simp); simp only [onePc,Bool.and_eq_true] at this; exact this.2
          have hqs:smallK q.s:=by obtain ⟨e,he⟩:=hfrom q (by simp); rw [he]; exact hsm e
          obtain ⟨⟨lo',hi',op'⟩,s'⟩:=q
          simp only at hqr hqs
          have hsame:=k_ref14_Same hqs hsmk
          have hml':qs.length + 1 ≤ k:=hml
          have b0:(0:Int) < ((qs.length + 1:Nat):Int):=by omega
          have b1:(((qs.length + 1:Nat):Int) - 1).toNat = qs.length:=by omega
          have b2:(0:Int) ≤ ((qs.length + 1:Nat):Int) - 1:=by omega
          have b3:((qs.length + 1:Nat):Int) - 1 < ((qs.length + 1:Nat):Int):=by omega
          have g1:∀ x:A,(rowP qs ++ [x])[qs.length]? = some x:=fun x=>by
           have:=Go.Abs.get_last (x:=x) (l:=rowP qs)
           rwa [rowP_len] at this
          have g2:∀ x v:A,setNth (rowP qs ++ [x]) qs.length v = rowP qs ++ [v]:=fun x v=>by
           have:=Go.Abs.setNth_last (x:=x) (v:=v) (l:=rowP qs)
           rwa [rowP_len] at this
          have gl:∀ x:A,(rowP qs ++ [x]).length = qs.length + 1:=fun x=>by rw [List.length_append,rowP_len]; rfl
          have gt:∀ x:A,(rowP qs ++ [x]).take (qs.length + 1) = rowP qs ++ [x]:=fun x=>List.take_of_length_le (Nat.le_of_eq (gl x))
          rw [rowP_cons]
          cases op' with
          | true=>
           have hpush:pushP (⟨⟨lo',hi',true⟩,s'⟩ :: qs) ⟨⟨s,[],true⟩,S⟩ = ⟨⟨s,[],true⟩,S⟩ :: ⟨⟨lo',hi',true⟩,s'⟩ :: qs:=by simp [pushP]
           have fin:=next _ hst
           rw [hpush,rowP_cons,rowP_cons] at fin
           simp -implicitDefEqProofs (maxSteps:=600000) (disch:=(first | omega | decide)) only [go_sem,↓reduceIte,seval,hlt',e1,hgx,hn',hSl,b0,b1,b2,b3,g1,g2,gl,gt,wrap_i64,List.length_map,List.length_cons,Bool.not_true,Bool.false_and]
           exact ⟨⟨Nat.le_refl _,by omega⟩,fin⟩
          | false=>
           cases h1:hi' == s with
           | false=>
            have hpush:pushP (⟨⟨lo',hi',false⟩,s'⟩ :: qs) ⟨⟨s,[],true⟩,S⟩ = ⟨⟨s,[],true⟩,S⟩ :: ⟨⟨lo',hi',false⟩,s'⟩ :: qs:=by simp only [pushP]; rw [if_neg (by rw [h1]; simp)]
            have fin:=next _ hst
            rw [hpush,rowP_cons,rowP_cons] at fin
            simp -implicitDefEqProofs (maxSteps:=600000) (disch:=(first | omega | decide)) only [go_sem,↓reduceIte,seval,hlt',e1,hgx,hn',hSl,b0,b1,b2,b3,g1,g2,gl,gt,h1,wrap_i64,List.length_map,List.length_cons,Bool.not_false,Bool.true_and]
            exact ⟨⟨Nat.le_refl _,by omega⟩,fin⟩
           | true=>
            cases h2:sameK s' S with
            | false=>
             have h2':s' ≠ S:=by simpa [sameK] using h2
             rw [h2] at hsame
             have hpush:pushP (⟨⟨lo',hi',false⟩,s'⟩ :: qs) ⟨⟨s,[],true⟩,S⟩ = ⟨⟨s,[],true⟩,S⟩ :: ⟨⟨lo',hi',false⟩,s'⟩ :: qs:=by simp only [pushP]; rw [if_neg (by simp [h2'])]
             have fin:=next _ hst
             rw [hpush,rowP_cons,rowP_cons] at fin
             simp -implicitDefEqProofs (maxSteps:=600000) (disch:=(first | omega | decide)) only [go_sem,↓reduceIte,seval,hlt',e1,hgx,hn',hSl,b0,b1,b2,b3,g1,g2,gl,gt,h1,hsame,wrap_i64,List.length_map,List.length_cons,Bool.not_false,Bool.true_and]
             exact ⟨⟨Nat.le_refl _,by omega⟩,fin⟩
            | true=>
             have h2':s' = S:=by simpa [sameK] using h2
             rw [h2] at hsame
             have hpush:pushP (⟨⟨lo',hi',false⟩,s'⟩ :: qs) ⟨⟨s,[],true⟩,S⟩ = ⟨⟨lo',[],true⟩,s'⟩ :: qs:=by simp only [pushP]; rw [if_pos (by simp [h1,h2'])]
             have fin:=next _ hst
             rw [hpush,rowP_cons] at fin
             simp -implicitDefEqProofs (maxSteps:=600000) (disch:=(first | omega | decide)) only [go_sem,↓reduceIte,seval,hlt',e1,hgx,hn',hSl,b0,b1,b2,b3,g1,g2,gl,gt,h1,hsame,wrap_i64,List.length_map,List.length_cons,Bool.not_false,Bool.true_and]
             exact fin
  ·have hlt':¬ (k:Int) < (es.length:Int):=by omega
   obtain rfl:k = es.length:=by omega
   have hall:=(mkP_all hE).1
   have hfin:rowP (mkP P es es.length) = (setP P).map Pc.enc:=by unfold rowP; rw [hall]
   have tk:List.take (mkP P es es.length).length (rowP (mkP P es es.length)) = rowP (mkP P es es.length):=List.take_of_length_le (by rw [rowP_len]; exact Nat.le_refl _)
   have hll:=rowP_len (mkP P es es.length)
   simp -implicitDefEqProofs (maxSteps:=600000) (disch:=(first | omega | decide)) only [go_sem,↓reduceIte,seval,hlt',tk,hll,wrap_i64,List.length_map]
   rw [← hfin]
   exact ⟨Nat.le_refl _,rfl⟩
noncomputable def P17i:Tab:=P17h.add 126 (entry (fun (v:(Int × List Pc × List Pc) × List Rng)=>[.int .i64 v.1.1,.slc (v.1.2.1.map Pc.enc),.slc (v.1.2.2.map Pc.enc),.slc (v.2.map Rng.enc)]) (fun v=>(okR v.1.2.1 ∧ okR v.1.2.2) ∧ (v.1.2.1.length ≤ 500 ∧ v.1.2.2.length ≤ 500 ∧ v.2.length ≤ 500) ∧ okL v.2) (fun v=>.slc ((setP (whatP v.1.1 v.1.2.1 v.1.2.2 v.2)).map Pc.enc)))
theorem P17i_ok:TabOK Tryz.prog P17i:=P17h_ok.add (callable_of Tryz.func126 (by kernel_rfl) (by kernel_rfl)) (entry_ok fun v h=>c_ref15_Make v.1.1 v.1.2.1 v.1.2.2 v.2 h.1.1 h.1.2 h.2.1.1 h.2.1.2.1 h.2.1.2.2 h.2.2)
@[go_sem] theorem P17i_old {g:FuncId} {xs:List A} (h:g ≠ 126):P17i.f g xs = P17h.f g xs:=Tab.add_ne h
@[go_sem] theorem P17i_eff {g:FuncId}:P17i.eff g = false:=rfl
@[go_sem] theorem P17i_ords {n:Nat}:P17i.ords n = []:=rfl
theorem P17i_ref15_Make (v:(Int × List Pc × List Pc) × List Rng) (h:(okR v.1.2.1 ∧ okR v.1.2.2) ∧ (v.1.2.1.length ≤ 500 ∧ v.1.2.2.length ≤ 500 ∧ v.2.length ≤ 500) ∧ okL v.2):P17i.f 126 [.int .i64 v.1.1,.slc (v.1.2.1.map Pc.enc),.slc (v.1.2.2.map Pc.enc),.slc (v.2.map Rng.enc)] = some (.slc ((setP (whatP v.1.1 v.1.2.1 v.1.2.2 v.2)).map Pc.enc)):=
 (Tab.add_eq:P17i.f 126 [.int .i64 v.1.1,.slc (v.1.2.1.map Pc.enc),.slc (v.1.2.2.map Pc.enc),.slc (v.2.map Rng.enc)] = (entry (fun (v:(Int × List Pc × List Pc) × List Rng)=>[.int .i64 v.1.1,.slc (v.1.2.1.map Pc.enc),.slc (v.1.2.2.map Pc.enc),.slc (v.2.map Rng.enc)]) (fun v=>(okR v.1.2.1 ∧ okR v.1.2.2) ∧ (v.1.2.1.length ≤ 500 ∧ v.1.2.2.length ≤ 500 ∧ v.2.length ≤ 500) ∧ okL v.2) (fun v=>.slc ((setP (whatP v.1.1 v.1.2.1 v.1.2.2 v.2)).map Pc.enc))) [.int .i64 v.1.1,.slc (v.1.2.1.map Pc.enc),.slc (v.1.2.2.map Pc.enc),.slc (v.2.map Rng.enc)]).trans (entry_eq (fun i j h=>by first | (cases i; cases j; rfl; done) | simpa [Prod.ext_iff,and_assoc] using h | (simp at h; omega) | (simp at h; exact Prod.ext h.1 (Prod.ext h.2.1 (by omega)))) v h)
theorem p_Make {op:Int} {a b:List Pc} {l:List Rng} (ha:okR a) (hb:okR b) (hl:a.length ≤ 500 ∧ b.length ≤ 500 ∧ l.length ≤ 500) (hol:okL l):P17i.f 126 [.int .i64 op,.slc (a.map Pc.enc),.slc (b.map Pc.enc),.slc (l.map Rng.enc)] = some (.slc ((setP (whatP op a b l)).map Pc.enc)):=P17i_ref15_Make ((op,a,b),l) ⟨⟨ha,hb⟩,hl,hol⟩
theorem okR_nil:okR []:=⟨⟨⟨by simp,by simp [wP]⟩,fun p hp=>by cases hp⟩,by simp [wP]⟩
theorem ok_ref15_Of:codeOK Tryz.prog P17i Tryz.f159.ntmps (Tryz.f159.body.getD .skip) = true:=by kernel_rfl
theorem c_ref15_Of (a:List Pc) (ha:okR a) (hal:a.length ≤ 500):CallA Tryz.prog 159 [.slc (a.map Pc.enc)] (· = .slc ((setP (whatP 1 a [] [])).map Pc.enc)):=by
 refine callA_of_body P17i_ok mixed Tryz.func159 rfl (Nat.le_of_ble_eq_true rfl) ok_ref15_Of ?_
 unfold Tryz.f159
 have h:=p_Make (op:=1) ha okR_nil ⟨hal,by simp,by simp⟩ okL_nil
 simp only [List.map_nil] at h
 simp -implicitDefEqProofs (maxSteps:=600000) (disch:=(first | omega | decide)) only [go_sem,↓reduceIte,seval,h]
theorem ok_ref15_Join:codeOK Tryz.prog P17i Tryz.f124.ntmps (Tryz.f124.body.getD .skip) = true:=by kernel_rfl
theorem c_ref15_Join (a b:List Pc) (ha:okR a) (hb:okR b) (hal:a.length ≤ 500) (hbl:b.length ≤ 500):CallA Tryz.prog 124 [.slc (a.map Pc.enc),.slc (b.map Pc.enc)] (· = .slc ((setP (whatP 1 a b [])).map Pc.enc)):=by
 refine callA_of_body P17i_ok mixed Tryz.func124 rfl (Nat.le_of_ble_eq_true rfl) ok_ref15_Join ?_
 unfold Tryz.f124
 have h:=p_Make (op:=1) ha hb ⟨hal,hbl,by simp⟩ okL_nil
 simp only [List.map_nil] at h
 simp -implicitDefEqProofs (maxSteps:=600000) (disch:=(first | omega | decide)) only [go_sem,↓reduceIte,seval,h]
theorem ok_ref15_Less:codeOK Tryz.prog P17i Tryz.f59.ntmps (Tryz.f59.body.getD .skip) = true:=by kernel_rfl
theorem c_ref15_Less (a b:List Pc) (ha:okR a) (hb:okR b) (hal:a.length ≤ 500) (hbl:b.length ≤ 500):CallA Tryz.prog 59 [.slc (a.map Pc.enc),.slc (b.map Pc.enc)] (· = .slc ((setP (whatP 2 a b [])).map Pc.enc)):=by
 refine callA_of_body P17i_ok mixed Tryz.func59 rfl (Nat.le_of_ble_eq_true rfl) ok_ref15_Less ?_
 unfold Tryz.f59
 have h:=p_Make (op:=2) ha hb ⟨hal,hbl,by simp⟩ okL_nil
 simp only [List.map_nil] at h
 simp -implicitDefEqProofs (maxSteps:=600000) (disch:=(first | omega | decide)) only [go_sem,↓reduceIte,seval,h]
theorem ok_ref15_Restrict:codeOK Tryz.prog P17i Tryz.f64.ntmps (Tryz.f64.body.getD .skip) = true:=by kernel_rfl
theorem c_ref15_Restrict (a:List Pc) (l:List Rng) (ha:okR a) (hal:a.length ≤ 500) (hl:l.length ≤ 500) (hol:okL l):CallA Tryz.prog 64 [.slc (a.map Pc.enc),.slc (l.map Rng.enc)] (· = .slc ((setP (whatP 3 a [] l)).map Pc.enc)):=by
 refine callA_of_body P17i_ok mixed Tryz.func64 rfl (Nat.le_of_ble_eq_true rfl) ok_ref15_Restrict ?_
 unfold Tryz.f64
 have h:=p_Make (op:=3) ha okR_nil ⟨hal,by simp,hl⟩ hol
 simp only [List.map_nil] at h
 simp -implicitDefEqProofs (maxSteps:=600000) (disch:=(first | omega | decide)) only [go_sem,↓reduceIte,seval,h]
noncomputable def oneP (x:List UInt8) (l:List Ver):List Pc:=if decide (1 ≤ x.length ∧ x.length ≤ 16) = true ∧ ofK (oneS l) ≠ [] then [⟨ofR x,ofK (oneS l)⟩] else []
theorem ok_ref15_One:codeOK Tryz.prog P17i Tryz.f95.ntmps (Tryz.f95.body.getD .skip) = true:=by kernel_rfl
theorem c_ref15_One (x:List UInt8) (l:List Ver) (hx:x.length ≤ 9223372036854775807) (hl:l.length ≤ 50000):CallA Tryz.prog 95 [.str x,.slc (l.map Ver.enc)] (· = .slc ((oneP x l).map Pc.enc)):=by
 refine callA_of_body P17i_ok mixed Tryz.func95 rfl (Nat.le_of_ble_eq_true rfl) ok_ref15_One ?_
 unfold Tryz.f95
 have h:=l_rAdd (s:=[]) (l:=l) mid_nil (by have:sumK [] = 0:=rfl; omega)
 simp only [List.nil_append,List.map_nil] at h
 unfold oneP
 cases h1:decide (1 ≤ x.length ∧ x.length ≤ 16) with
 | false=>simp -implicitDefEqProofs (maxSteps:=600000) (disch:=(first | omega | decide)) only [go_sem,↓reduceIte,seval,h,h1,Bool.false_eq_true,false_and,List.map_nil]
 | true=>
  cases h2:(((ofK (oneS l)).length:Int) == 0) with
  | true=>
   have h20:((ofK (oneS l)).length:Int) = 0:=by simpa using h2
   have h2':ofK (oneS l) = []:=List.length_eq_zero_iff.1 (by omega)
   simp -implicitDefEqProofs (maxSteps:=600000) (disch:=(first | omega | decide)) only [go_sem,↓reduceIte,seval,h,h1,h2,h2',List.length_map,ne_eq,not_true_eq_false,and_false,List.map_nil]
  | false=>
   have h2':ofK (oneS l) ≠ []:=fun e=>by rw [e] at h2; simp at h2
   have hre:(ofR x).enc = .agg [.str (ofR x).lo,.str (ofR x).hi,.bool (ofR x).op]:=rfl
   have hpe:([⟨ofR x,ofK (oneS l)⟩]:List Pc).map Pc.enc = [.agg [.str (ofR x).lo,.str (ofR x).hi,.bool (ofR x).op,.slc ((ofK (oneS l)).map Known.enc)]]:=rfl
   rw [if_pos ⟨rfl,h2'⟩,hpe]
   simp -implicitDefEqProofs (maxSteps:=600000) (disch:=(first | omega | decide)) only [go_sem,↓reduceIte,seval,h,h1,h2,hre,List.length_map]
theorem one_has {l:List Ver} {n c:Int}:hasL13 (runsK (oneS l) n) c = true ↔ ⟨n,c⟩ ∈ l ∧ rightV ⟨n,c⟩ = true:=by
 induction l with
 | nil=>simp [oneS,runsK,hasL13]
 | cons v l ih=>
  have e:oneS (v :: l) = oneS [v] ++ oneS l:=by rw [← oneS_append]; rfl
  rw [e,runsK_append,has_append,Bool.or_eq_true,ih]
  obtain ⟨r,d⟩:=v
  have h1:hasL13 (runsK (oneS [⟨r,d⟩]) n) c = true ↔ (⟨n,c⟩:Ver) = ⟨r,d⟩ ∧ rightV ⟨n,c⟩ = true:=by
   cases hv:rightV ⟨r,d⟩ with
   | false=>
    have:oneS [⟨r,d⟩] = []:=by unfold oneS; simp [hv]
    rw [this]
    simp only [runsK,has_nil,Bool.false_eq_true,false_iff,not_and]
    intro e; rw [e,hv]; simp
   | true=>
    have:oneS [⟨r,d⟩] = [⟨r,[⟨d,d⟩]⟩]:=by unfold oneS; simp [hv]
    rw [this]
    simp only [runsK,List.append_nil]
    have hd:1 ≤ d ∧ d ≤ 1099511627776:=by
     simp only [rightV,Bool.and_eq_true,decide_eq_true_iff] at hv; omega
    by_cases hr:r = n
    ·subst hr
     rw [if_pos rfl,has_iff]
     constructor
     ·rintro ⟨q,hq,_,h2,h3⟩
      simp only [List.mem_singleton] at hq
      subst hq
      simp only at h2 h3
      obtain rfl:c = d:=by omega
      exact ⟨rfl,hv⟩
     ·rintro ⟨e,_⟩
      injection e with _ e
      subst e
      exact ⟨⟨c,c⟩,by simp,oneR_iff.2 ⟨hd.1,Int.le_refl _,hd.2⟩,Int.le_refl _,Int.le_refl _⟩
    ·rw [if_neg hr,has_nil]
     simp only [Bool.false_eq_true,Ver.mk.injEq,false_iff,not_and]
     intro ⟨e,_⟩; exact absurd e.symm hr
  rw [h1,List.mem_cons]
  constructor
  ·rintro (⟨a,b⟩ | ⟨a,b⟩)
   ·exact ⟨.inl a,b⟩
   ·exact ⟨.inr a,b⟩
  ·rintro ⟨a | a,b⟩
   ·exact .inl ⟨a,b⟩
   ·exact .inr ⟨a,b⟩
theorem sorted_mem {l:List Ver} {v:Ver}:v ∈ sortedV l ↔ v ∈ l ∧ rightV v = true:=by
 unfold sortedV
 rw [compL_mem]
 rw [(sortL_spec swoV (l.filter rightV)).1.mem_iff,List.mem_filter]
theorem ofK_sorted (l:List Ver):ofK (oneS (sortedV l)) = ofK (oneS l):=ofK_eq_iff.2 fun n hn c=>by
 unfold hk
 rw [Bool.eq_iff_iff,one_has,one_has,sorted_mem]
 exact ⟨fun ⟨⟨a,b⟩,_⟩=>⟨a,b⟩,fun ⟨a,b⟩=>⟨⟨a,b⟩,b⟩⟩
theorem sorted_len (l:List Ver):(sortedV l).length ≤ l.length:=by
 unfold sortedV
 have h1:=compL_len (sortL cmpV (l.filter rightV))
 have h2:=(sortL_spec swoV (l.filter rightV)).1.length_eq
 have h3:=List.length_filter_le rightV l
 omega
noncomputable def D15:Tab:={ P17i with ords:=fun n=>if n = 5 then [[999999,0]] else [] }
theorem D15_ok:TabOK Tryz.prog D15:=⟨P17i_ok.f,P17i_ok.hp⟩
@[go_sem] theorem D15_f:D15.f = P17i.f:=rfl
@[go_sem] theorem D15_eff {g:FuncId}:D15.eff g = false:=rfl
@[go_sem] theorem D15_ords5:D15.ords 5 = [[999999,0]]:=rfl
@[go_sem] theorem D15_ords {n:Nat} (h:n ≠ 5):D15.ords n = []:=if_neg h
theorem ok_know_Add:codeOK Tryz.prog D15 Tryz.f169.ntmps (Tryz.f169.body.getD .skip) = true:=by kernel_rfl
theorem c_know_Add (k:List Pc) (x:List UInt8) (l:List Ver) (hk:okP k) (hx:x.length ≤ 9223372036854775807) (hl:l.length ≤ 50000) (hk':okP (k ++ oneP x l)):CallA Tryz.prog 169 [.slc (k.map Pc.enc),.str x,.slc (l.map Ver.enc)] (· = .slc ((setP (atP (k ++ oneP x l))).map Pc.enc)):=by
 refine callA_of_body D15_ok mixed Tryz.func169 rfl (Nat.le_of_ble_eq_true rfl) ok_know_Add ?_
 unfold Tryz.f169
 have hsl:=sorted_len l
 have h0:=p_Sorted (l:=l) (by omega)
 have h:=l_Add (s:=[]) (l:=sortedV l) mid_nil.1 (by have:sumK [] = 0:=rfl; omega)
 rw [List.nil_append,ofK_sorted] at h
 simp only [List.map_nil] at h
 have hJ:=p_Join2 hk'
 unfold oneP at hJ ⊢
 cases h1:decide (1 ≤ x.length ∧ x.length ≤ 16) with
 | false=>
  rw [h1] at hJ
  simp only [Bool.false_eq_true,false_and,if_false,List.map_nil] at hJ
  simp -implicitDefEqProofs (maxSteps:=600000) (disch:=(first | omega | decide)) only [go_sem,↓reduceIte,seval,h0,h,h1,hJ,Bool.false_eq_true,false_and,List.length_map]
 | true=>
  rw [h1] at hJ
  by_cases h2:(0:Int) < ((ofK (oneS l)).length:Int)
  ·have h2':ofK (oneS l) ≠ []:=fun e=>by rw [e] at h2; simp at h2
   rw [if_pos ⟨rfl,h2'⟩] at hJ ⊢
   have hre:(ofR x).enc = .agg [.str (ofR x).lo,.str (ofR x).hi,.bool (ofR x).op]:=rfl
   have hpe:([⟨ofR x,ofK (oneS l)⟩]:List Pc).map Pc.enc = [.agg [.str (ofR x).lo,.str (ofR x).hi,.bool (ofR x).op,.slc ((ofK (oneS l)).map Known.enc)]]:=rfl
   rw [hpe] at hJ
   simp -implicitDefEqProofs (maxSteps:=600000) (disch:=(first | omega | decide)) only [go_sem,↓reduceIte,seval,h0,h,h1,h2,hre,hJ,List.length_map]
  ·have h2':ofK (oneS l) = []:=List.length_eq_zero_iff.1 (by omega)
   rw [if_neg (fun e=>e.2 h2')] at hJ ⊢
   simp only [List.map_nil] at hJ
   simp -implicitDefEqProofs (maxSteps:=600000) (disch:=(first | omega | decide)) only [go_sem,↓reduceIte,seval,h0,h,h1,h2,hJ,List.length_map]
theorem right_ext {s t:List Known} (h:rightK s = true) (h':rightK t = true) (e:∀ n,repOK n = true → ∀ c,hk s n c = hk t n c):s = t:=by
 rw [← ofK_self h,← ofK_self h']; exact ofK_eq_iff.2 e
theorem hk_append (s t:List Known) (n c:Int):hk (s ++ t) n c = (hk s n c || hk t n c):=by unfold hk; rw [runsK_append,has_append]
theorem hk_atP {k:List Pc} {x:List UInt8} {n:Int} (h:repOK n = true) (c:Int):hk (atP k x) n c = hk (setAt k x) n c:=hk_of h c
theorem hk_restP {k:List Pc} {l:List Rng} {x:List UInt8} {n:Int} (h:repOK n = true) (c:Int):hk (restP k l x) n c = (hasRs l x && hk (setAt k x) n c):=by
 unfold restP
 cases hasRs l x with
 | true=>rw [if_pos rfl,hk_atP h]; rfl
 | false=>rw [if_neg (by simp)]; rfl
theorem setAt_setP {P:List UInt8 → List Known} (h:IsP P) (x:List UInt8):setAt (setP P) x = P x:=by
 have hr:=setP_right P
 have hone:=(rightP_can.1 hr).1
 have hs:=setP_says h x
 by_cases hP:P x = []
 ·rw [hP]
  unfold setAt
  rw [List.filter_eq_nil_iff.2 (fun p hp hx=>by
   have:=(hs p.s).1 ((says_iff hone).2 ⟨p,hp,hx,rfl⟩)
   exact this.2 (by rw [← this.1]; exact hP))]; rfl
 ·obtain ⟨p,hp,hx,hps⟩:=(says_iff hone).1 ((hs (P x)).2 ⟨rfl,hP⟩)
  rw [right_at hr hp hx]; exact hps
theorem atP_setP {P:List UInt8 → List Known} (h:IsP P) (hr:∀ x,rightK (P x) = true):atP (setP P) = P:=by
 funext x
 unfold atP
 rw [setAt_setP h]; exact ofK_self (hr x)
theorem setP_inj {P Q:List UInt8 → List Known} (h:IsP P) (h':IsP Q):setP P = setP Q ↔ P = Q:=by
 constructor
 ·intro e
  funext x
  rw [← setAt_setP h,← setAt_setP h',e]
 ·intro e; rw [e]
theorem isP_at (k:List Pc):IsP (atP k):=(mkP_all (edg1 k)).2
theorem isP_rest (k:List Pc) (l:List Rng):IsP (restP k l):=(mkP_all (edg3 k l)).2
theorem rest_right (k:List Pc) (l:List Rng) (x:List UInt8):rightK (restP k l x) = true:=by
 unfold restP; split
 ·exact atP_right _ _
 ·rfl
theorem what_join (a b:List Pc):whatP 1 a b [] = atP (a ++ b):=by
 funext x
 unfold whatP
 rw [if_pos rfl]
 refine right_ext (opK_right _ _ _) (atP_right _ _) fun n hn c=>?_
 rw [hk_op hn,hk_atP hn,hk_atP hn,hk_atP hn,setAt_append,hk_append]; rfl
theorem what_of (a:List Pc):whatP 1 a [] [] = atP a:=by rw [what_join,List.append_nil]
theorem what_rest (a:List Pc) (l:List Rng):whatP 3 a [] l = restP a l:=by
 funext x; unfold whatP; rw [if_neg (by decide),if_neg (by decide)]
theorem rest_set (a:List Pc) (l:List Rng):restP a (setS (hasRs l)) = restP a l:=by
 funext x; unfold restP; rw [has_setS]
theorem okP_setP {P:List UInt8 → List Known} {es:List (List UInt8)} (hE:Edg P es) {B:Nat} (hB:∀ x,(P x).length + sumK (P x) ≤ B) {N:Nat} (hN:es.length ≤ N) (hm:N * B ≤ 900000) (hN':N ≤ 10000) :
 okP (setP P) ∧ (setP P).length ≤ N ∧ wP (setP P) ≤ N * B:=by
 have hall:=(mkP_all hE).1
 have hlen:=mkP_len P es es.length
 have hone:=(mkP_spec hE es.length (Nat.le_refl _)).1
 have hfrom:=mkP_from P es es.length
 rw [← hall]
 generalize mkP P es es.length = m at *
 have hw:∀ m:List Pc,(∀ p ∈ m,∃ e,p.s = P e) → wP m ≤ m.length * B:=fun m=>by
  induction m with
  | nil=>intro _; simp [wP]
  | cons p m ih=>
   intro h
   have h1:=ih fun q hq=>h q (by simp [hq])
   obtain ⟨e,he⟩:=h p (by simp)
   have h2:=hB e
   rw [← he] at h2
   rw [wP_cons,List.length_cons,Nat.succ_mul]; omega
 have h1:=hw m.reverse fun p hp=>hfrom p (List.mem_reverse.1 hp)
 rw [List.length_reverse] at h1
 have h2:m.length * B ≤ N * B:=Nat.mul_le_mul_right B (by omega)
 refine ⟨⟨⟨by rw [List.length_reverse]; omega,by omega⟩,fun p hp=>?_⟩,by rw [List.length_reverse]; omega,by omega⟩
 have:=hone p (List.mem_reverse.1 hp)
 simp only [onePc,Bool.and_eq_true] at this
 obtain ⟨k1,k2,_,_⟩:=right_parts this.1.1
 omega
theorem at_w {k:List Pc} (x:List UInt8):(atP k x).length + sumK (atP k x) ≤ 16 + wP k:=by
 have h1:=ofK_w (setAt k x)
 have h2:=setAt_w k x
 unfold atP; omega
theorem rest_w {k:List Pc} {l:List Rng} (x:List UInt8):(restP k l x).length + sumK (restP k l x) ≤ 16 + wP k:=by
 unfold restP; split
 ·exact at_w x
 ·simp [sumK]
theorem okP_at {k:List Pc} {N W:Nat} (h1:k.length ≤ N) (h2:wP k ≤ W) (hm:(1 + 2 * N) * (16 + W) ≤ 900000) (hN:N ≤ 1000):okP (setP (atP k)) ∧ (setP (atP k)).length ≤ 1 + 2 * N ∧ wP (setP (atP k)) ≤ (1 + 2 * N) * (16 + W):=by
 have hl:=edgesK_len (LL:=[k])
 simp only [totP,List.map_cons,List.map_nil,List.sum_cons,List.sum_nil] at hl
 exact okP_setP (edg1 k) (B:=16 + W) (fun x=>by have:=at_w (k:=k) x; omega) (N:=1 + 2 * N) (by omega) hm (by omega)
theorem okP_rest {a:List Pc} {l:List Rng} {N M W:Nat} (h1:a.length ≤ N) (h2:l.length ≤ M) (h3:wP a ≤ W) (hm:(1 + 2 * (N + M)) * (16 + W) ≤ 900000) (hN:N + M ≤ 1000) :
 okP (setP (restP a l)) ∧ (setP (restP a l)).length ≤ 1 + 2 * (N + M) ∧ wP (setP (restP a l)) ≤ (1 + 2 * (N + M)) * (16 + W):=by
 have hl:=edgesK_len (LL:=[a,allP l []])
 simp only [totP,List.map_cons,List.map_nil,List.sum_cons,List.sum_nil] at hl
 have e:(allP l []).length = l.length:=by simp [allP]
 exact okP_setP (edg3 a l) (B:=16 + W) (fun x=>by have:=rest_w (k:=a) (l:=l) x; omega) (N:=1 + 2 * (N + M)) (by omega) hm (by omega)
theorem longP_small {k:List Pc} {m:Nat} (h:longP k m = false):k.length ≤ m ∧ wP k ≤ m * 272 ∧ ∀ p ∈ k,p.r.lo.length ≤ 40 ∧ p.r.hi.length ≤ 40:=by
 unfold longP at h
 rw [Bool.or_eq_false_iff,List.any_eq_false] at h
 obtain ⟨h1,h2⟩:=h
 have h1':k.length ≤ m:=by have:=of_decide_eq_false h1; omega
 have h3:∀ p ∈ k,(p.r.lo.length ≤ 40 ∧ p.r.hi.length ≤ 40) ∧ p.s.length + sumK p.s ≤ 272:=fun p hp=>by
  have:=h2 p hp
  simp only [longPc,Bool.not_eq_true,Bool.or_eq_false_iff,decide_eq_false_iff_not] at this
  obtain ⟨a,b,c⟩:=this
  have:=long_small (m:=16) c
  omega
 have hw:∀ k:List Pc,(∀ p ∈ k,p.s.length + sumK p.s ≤ 272) → wP k ≤ k.length * 272:=fun k=>by
  induction k with
  | nil=>intro _; simp [wP]
  | cons p k ih=>
   intro h
   have a:=ih fun q hq=>h q (by simp [hq])
   have b:=h p (by simp)
   rw [wP_cons,List.length_cons,Nat.succ_mul]; omega
 have:=hw k fun p hp=>(h3 p hp).2
 have h4:k.length * 272 ≤ m * 272:=Nat.mul_le_mul_right _ h1'
 exact ⟨h1',by omega,fun p hp=>(h3 p hp).1⟩
theorem okR_of {k:List Pc} {m:Nat} (h:k.length ≤ m ∧ wP k ≤ m * 272 ∧ ∀ p ∈ k,p.r.lo.length ≤ 40 ∧ p.r.hi.length ≤ 40) (hm:m ≤ 100):okR k:=by
 obtain ⟨h1,h2,h3⟩:=h
 exact ⟨⟨⟨by omega,by omega⟩,fun p hp=>by have:=h3 p hp; omega⟩,by omega⟩
noncomputable def L15a:Tab:=P17i.add 159 (entry (fun (a:List Pc)=>[.slc (a.map Pc.enc)]) (fun a=>okR a ∧ a.length ≤ 500) (fun a=>.slc ((setP (whatP 1 a [] [])).map Pc.enc)))
theorem L15a_ok:TabOK Tryz.prog L15a:=P17i_ok.add (callable_of Tryz.func159 (by kernel_rfl) (by kernel_rfl)) (entry_ok fun a h=>c_ref15_Of a h.1 h.2)
@[go_sem] theorem L15a_old {g:FuncId} {xs:List A} (h:g ≠ 159):L15a.f g xs = P17i.f g xs:=Tab.add_ne h
theorem L15a_ref15_Of (a:List Pc) (h:okR a ∧ a.length ≤ 500):L15a.f 159 [.slc (a.map Pc.enc)] = some (.slc ((setP (whatP 1 a [] [])).map Pc.enc)):=
 (Tab.add_eq:L15a.f 159 [.slc (a.map Pc.enc)] = (entry (fun (a:List Pc)=>[.slc (a.map Pc.enc)]) (fun a=>okR a ∧ a.length ≤ 500) (fun a=>.slc ((setP (whatP 1 a [] [])).map Pc.enc))) [.slc (a.map Pc.enc)]).trans (entry_eq (fun i j h=>by first | (cases i; cases j; rfl; done) | simpa [Prod.ext_iff,and_assoc] using h | (simp at h; omega) | (simp at h; exact Prod.ext h.1 (Prod.ext h.2.1 (by omega)))) a h)
noncomputable def L15b:Tab:=L15a.add 124 (entry (fun (v:List Pc × List Pc)=>[.slc (v.1.map Pc.enc),.slc (v.2.map Pc.enc)]) (fun v=>(okR v.1 ∧ okR v.2) ∧ v.1.length ≤ 500 ∧ v.2.length ≤ 500) (fun v=>.slc ((setP (whatP 1 v.1 v.2 [])).map Pc.enc)))
theorem L15b_ok:TabOK Tryz.prog L15b:=L15a_ok.add (callable_of Tryz.func124 (by kernel_rfl) (by kernel_rfl)) (entry_ok fun v h=>c_ref15_Join v.1 v.2 h.1.1 h.1.2 h.2.1 h.2.2)
@[go_sem] theorem L15b_old {g:FuncId} {xs:List A} (h:g ≠ 124):L15b.f g xs = L15a.f g xs:=Tab.add_ne h
noncomputable def L15c:Tab:=L15b.add 59 (entry (fun (v:List Pc × List Pc)=>[.slc (v.1.map Pc.enc),.slc (v.2.map Pc.enc)]) (fun v=>(okR v.1 ∧ okR v.2) ∧ v.1.length ≤ 500 ∧ v.2.length ≤ 500) (fun v=>.slc ((setP (whatP 2 v.1 v.2 [])).map Pc.enc)))
theorem L15c_ok:TabOK Tryz.prog L15c:=L15b_ok.add (callable_of Tryz.func59 (by kernel_rfl) (by kernel_rfl)) (entry_ok fun v h=>c_ref15_Less v.1 v.2 h.1.1 h.1.2 h.2.1 h.2.2)
@[go_sem] theorem L15c_old {g:FuncId} {xs:List A} (h:g ≠ 59):L15c.f g xs = L15b.f g xs:=Tab.add_ne h
noncomputable def L15d:Tab:=L15c.add 64 (entry (fun (v:List Pc × List Rng)=>[.slc (v.1.map Pc.enc),.slc (v.2.map Rng.enc)]) (fun v=>(okR v.1 ∧ okL v.2) ∧ v.1.length ≤ 500 ∧ v.2.length ≤ 500) (fun v=>.slc ((setP (whatP 3 v.1 [] v.2)).map Pc.enc)))
theorem L15d_ok:TabOK Tryz.prog L15d:=L15c_ok.add (callable_of Tryz.func64 (by kernel_rfl) (by kernel_rfl)) (entry_ok fun v h=>c_ref15_Restrict v.1 v.2 h.1.1 h.2.1 h.2.2 h.1.2)
@[go_sem] theorem L15d_old {g:FuncId} {xs:List A} (h:g ≠ 64):L15d.f g xs = L15c.f g xs:=Tab.add_ne h
theorem L15d_ref15_Restrict (v:List Pc × List Rng) (h:(okR v.1 ∧ okL v.2) ∧ v.1.length ≤ 500 ∧ v.2.length ≤ 500):L15d.f 64 [.slc (v.1.map Pc.enc),.slc (v.2.map Rng.enc)] = some (.slc ((setP (whatP 3 v.1 [] v.2)).map Pc.enc)):=
 (Tab.add_eq:L15d.f 64 [.slc (v.1.map Pc.enc),.slc (v.2.map Rng.enc)] = (entry (fun (v:List Pc × List Rng)=>[.slc (v.1.map Pc.enc),.slc (v.2.map Rng.enc)]) (fun v=>(okR v.1 ∧ okL v.2) ∧ v.1.length ≤ 500 ∧ v.2.length ≤ 500) (fun v=>.slc ((setP (whatP 3 v.1 [] v.2)).map Pc.enc))) [.slc (v.1.map Pc.enc),.slc (v.2.map Rng.enc)]).trans (entry_eq (fun i j h=>by first | (cases i; cases j; rfl; done) | simpa [Prod.ext_iff,and_assoc] using h | (simp at h; omega) | (simp at h; exact Prod.ext h.1 (Prod.ext h.2.1 (by omega)))) v h)
noncomputable def L15e:Tab:=L15d.add 95 (entry (fun (v:List UInt8 × List Ver)=>[.str v.1,.slc (v.2.map Ver.enc)]) (fun v=>v.1.length ≤ 9223372036854775807 ∧ v.2.length ≤ 50000) (fun v=>.slc ((oneP v.1 v.2).map Pc.enc)))
theorem L15e_ok:TabOK Tryz.prog L15e:=L15d_ok.add (callable_of Tryz.func95 (by kernel_rfl) (by kernel_rfl)) (entry_ok fun v h=>c_ref15_One v.1 v.2 h.1 h.2)
@[go_sem] theorem L15e_old {g:FuncId} {xs:List A} (h:g ≠ 95):L15e.f g xs = L15d.f g xs:=Tab.add_ne h
noncomputable def L15f:Tab:=L15e.add 169 (entry (fun (v:List Pc × List UInt8 × List Ver)=>[.slc (v.1.map Pc.enc),.str v.2.1,.slc (v.2.2.map Ver.enc)]) (fun v=>(okP v.1 ∧ okP (v.1 ++ oneP v.2.1 v.2.2)) ∧ v.2.1.length ≤ 9223372036854775807 ∧ v.2.2.length ≤ 50000) (fun v=>.slc ((setP (atP (v.1 ++ oneP v.2.1 v.2.2))).map Pc.enc)))
theorem L15f_ok:TabOK Tryz.prog L15f:=L15e_ok.add (callable_of Tryz.func169 (by kernel_rfl) (by kernel_rfl)) (entry_ok fun v h=>c_know_Add v.1 v.2.1 v.2.2 h.1.1 h.2.1 h.2.2 h.1.2)
@[go_sem] theorem L15f_old {g:FuncId} {xs:List A} (h:g ≠ 169):L15f.f g xs = L15e.f g xs:=Tab.add_ne h
theorem q_Of {a:List Pc} (h:okR a) (hl:a.length ≤ 500):L15a.f 159 [.slc (a.map Pc.enc)] = some (.slc ((setP (atP a)).map Pc.enc)):=by
 have:=L15a_ref15_Of a ⟨h,hl⟩
 rw [what_of] at this; exact this
theorem q_Restrict {a:List Pc} {l:List Rng} (ha:okR a) (ho:okL l) (hl:a.length ≤ 500 ∧ l.length ≤ 500):L15d.f 64 [.slc (a.map Pc.enc),.slc (l.map Rng.enc)] = some (.slc ((setP (restP a l)).map Pc.enc)):=by
 have:=L15d_ref15_Restrict (a,l) ⟨⟨ha,ho⟩,hl⟩
 simp only [what_rest] at this; exact this
noncomputable def L15g:Tab:=L15f
theorem L15g_ok:TabOK Tryz.prog L15g:=L15f_ok
@[go_sem] theorem L15g_old {g:FuncId} {xs:List A}:L15g.f g xs = L15f.f g xs:=rfl
set_option maxHeartbeats 8000000
theorem c_ref08_Long2 (l:List Rng) (m:Int) (hl:l.length ≤ 9223372036854775807):CallA Tryz.prog 60 [.slc (l.map Rng.enc),.int .i64 m] (· = .bool (longRs l m)):=by
 refine callA_of_body T07_ok mixed Tryz.func60 rfl (Nat.le_of_ble_eq_true rfl) ok_ref08_Long ?_
 unfold Tryz.f60
 by_cases h0:m < (l.length:Int)
 ·have hh:longRs l m = true:=by simp [longRs,h0]
  simp -implicitDefEqProofs (maxSteps:=600000) (disch:=(first | omega | decide)) only [go_sem,↓reduceIte,seval,h0,hh,List.length_map]
 ·have hh:longRs l m = l.any fun r=>decide (40 < r.lo.length) || decide (40 < r.hi.length):=by simp [longRs,h0]
  simp -implicitDefEqProofs (maxSteps:=600000) (disch:=(first | omega | decide)) only [go_sem,↓reduceIte,seval,h0,List.length_map]
  rw [hh]
  refine wpA_loop [0] (ι:={k:Nat // k ≤ l.length ∧ (l.any fun r=>decide (40 < r.lo.length) || decide (40 < r.hi.length)) = ((l.drop k).any fun r=>decide (40 < r.lo.length) || decide (40 < r.hi.length))}) (fun p=>[(5,.int .i64 p.1),(4,.bool false)]) (fun _=>[]) (fun p=>l.length - p.1) ⟨0,by omega,rfl⟩ (Nat.zero_le _) ?_ ?_
  ·simp -implicitDefEqProofs (maxSteps:=600000) (disch:=(first | omega | decide)) only [go_sem,↓reduceIte,seval]
  ·rintro ⟨k,hk,hd⟩
   simp only
   by_cases hlt:k < l.length
   ·have hlt':(k:Int) < (l.length:Int):=by omega
    have e1:=rng_get hlt
    rw [List.drop_eq_getElem_cons hlt,List.any_cons] at hd
    generalize hx:l[k] = x at *
    obtain ⟨lo,hi,op⟩:=x
    simp only at hd
    by_cases h1:40 < lo.length
    ·have h1':(40:Int) < (lo.length:Int):=by omega
     rw [decide_eq_true h1,Bool.true_or,Bool.true_or] at hd
     simp -implicitDefEqProofs (maxSteps:=600000) (disch:=(first | omega | decide)) only [go_sem,↓reduceIte,seval,hlt',e1,h1',hd,wrap_i64,List.length_map]
    ·have h1':¬ (40:Int) < (lo.length:Int):=by omega
     by_cases h2:40 < hi.length
     ·have h2':(40:Int) < (hi.length:Int):=by omega
      rw [decide_eq_true h2,Bool.or_true,Bool.true_or] at hd
      simp -implicitDefEqProofs (maxSteps:=600000) (disch:=(first | omega | decide)) only [go_sem,↓reduceIte,seval,hlt',e1,h1',h2',hd,wrap_i64,List.length_map]
     ·have h2':¬ (40:Int) < (hi.length:Int):=by omega
      rw [decide_eq_false h1,decide_eq_false h2,Bool.or_false,Bool.false_or] at hd
      simp -implicitDefEqProofs (maxSteps:=600000) (disch:=(first | omega | decide)) only [go_sem,↓reduceIte,seval,hlt',e1,h1',h2',wrap_i64,List.length_map]
      exact ⟨⟨k + 1,hlt,hd⟩,by simp,by show l.length - (k + 1) < l.length - k; omega⟩
   ·have hlt':¬ (k:Int) < (l.length:Int):=by omega
    rw [List.drop_of_length_le (by omega)] at hd
    simp -implicitDefEqProofs (maxSteps:=600000) (disch:=(first | omega | decide)) only [go_sem,↓reduceIte,seval,hlt',hd,List.length_map]
theorem long_len {l:List Rng} {m:Int} (h:longRs l m = false):¬ m < (l.length:Int):=by
 unfold longRs at h
 simp only [Bool.or_eq_false_iff,decide_eq_false_iff_not] at h
 exact h.1
theorem fits_rng8 {x:List A} (h:fitsL [.str,.str,.bool] x):∃ r:Rng,x = [.str r.lo,.str r.hi,.bool r.op] ∧ r.ok:=by
 have ml:=maxLen_le
 simp only [fitsL,fits] at h
 obtain ⟨y1,z1,rfl,⟨s1,rfl,h1⟩,y2,z2,rfl,⟨s2,rfl,h2⟩,y3,z3,rfl,⟨b,rfl⟩,rfl⟩:=h
 exact ⟨⟨s1,s2,b⟩,rfl,Nat.le_trans h1 ml,Nat.le_trans h2 ml⟩
theorem fits_rngs {x:A} (h:fits (.rows [.str,.str,.bool]) x):∃ l:List Rng,x = .slc (l.map Rng.enc) ∧ l.length ≤ maxLen ∧ okL l:=by
 simp only [fits] at h
 obtain ⟨es,rfl,hl,he⟩:=h
 obtain ⟨l,rfl,hk⟩:=list_of (f:=Rng.enc) (P:=fun r=>r.ok) (es:=es) (fun e hx=>by
  obtain ⟨ys,rfl,hy⟩:=he e hx
  obtain ⟨r,rfl,hr⟩:=fits_rng8 (by simpa only [fitsL,fits] using hy)
  exact ⟨r,rfl,hr⟩)
 exact ⟨l,rfl,by simpa using hl,hk⟩
set_option maxHeartbeats 16000000
noncomputable def L15h:Tab:=L15g.add 60 (entry (fun (v:List Rng × Int)=>[.slc (v.1.map Rng.enc),.int .i64 v.2]) (fun v=>v.1.length ≤ 9223372036854775807) (fun v=>.bool (longRs v.1 v.2)))
theorem L15h_ok:TabOK Tryz.prog L15h:=L15g_ok.add (callable_of Tryz.func60 (by kernel_rfl) (by kernel_rfl)) (entry_ok fun v h=>c_ref08_Long2 v.1 v.2 h)
@[go_sem] theorem L15h_old {g:FuncId} {xs:List A} (h:g ≠ 60):L15h.f g xs = L15g.f g xs:=Tab.add_ne h
theorem L15h_ref08_Long (v:List Rng × Int) (h:v.1.length ≤ 9223372036854775807):L15h.f 60 [.slc (v.1.map Rng.enc),.int .i64 v.2] = some (.bool (longRs v.1 v.2)):=
 (Tab.add_eq:L15h.f 60 [.slc (v.1.map Rng.enc),.int .i64 v.2] = (entry (fun (v:List Rng × Int)=>[.slc (v.1.map Rng.enc),.int .i64 v.2]) (fun v=>v.1.length ≤ 9223372036854775807) (fun v=>.bool (longRs v.1 v.2))) [.slc (v.1.map Rng.enc),.int .i64 v.2]).trans (entry_eq (fun i j h=>by first | (cases i; cases j; rfl; done) | simpa [Prod.ext_iff,and_assoc] using h | (simp at h; omega) | (simp at h; exact Prod.ext h.1 (Prod.ext h.2.1 (by omega)))) v h)
theorem q_rLong {l:List Rng} {m:Int} (h:l.length ≤ 9223372036854775807):L15h.f 60 [.slc (l.map Rng.enc),.int .i64 m] = some (.bool (longRs l m)):=L15h_ref08_Long (l,m) h
theorem fits_pcs {x:A} (h:fits (.rows [.str,.str,.bool,.rows [.int .i64,.rows [.int .i64,.int .i64]]]) x):∃ l:List Pc,x = .slc (l.map Pc.enc) ∧ l.length ≤ maxLen ∧ ∀ p ∈ l,p.s.length ≤ maxLen:=by
 simp only [fits] at h
 obtain ⟨es,rfl,hl,he⟩:=h
 obtain ⟨l,rfl,hk⟩:=list_of (f:=Pc.enc) (P:=fun p=>p.s.length ≤ maxLen) (es:=es) (fun e hx=>by
  obtain ⟨ys,rfl,hy⟩:=he e hx
  simp only [fitsL] at hy
  obtain ⟨y1,z1,rfl,h1,y2,z2,rfl,h2,y3,z3,rfl,h3,y4,z4,rfl,h4,rfl⟩:=hy
  simp only [fits] at h1 h2 h3
  obtain ⟨s1,rfl,_⟩:=h1
  obtain ⟨s2,rfl,_⟩:=h2
  obtain ⟨b,rfl⟩:=h3
  obtain ⟨ks,rfl,hks,_⟩:=fits_knowns h4
  exact ⟨⟨⟨s1,s2,b⟩,ks⟩,rfl,hks⟩)
 exact ⟨l,rfl,by simpa using hl,hk⟩
noncomputable def G15:Tab:={ L15h with ords:=fun n=>if n = 7 then
 [[0,1,2,3,4,5,6,7,8,9,10,11,12,13,14],[0,1,2,3,4,5,6,7,8,9,10,12,11,13,14],[0,1,2,3,4,5,6,7,8,9,11,10,12,13,14],[0,1,2,3,4,5,6,7,8,9,11,12,10,13,14],
  [0,1,2,3,4,5,6,7,8,9,11,12,13,10,14],[0,1,2,3,4,5,6,7,8,9,12,10,11,13,14],[0,1,2,3,4,5,6,7,8,9,12,11,10,13,14],[0,1,2,3,4,5,6,7,8,9,12,11,13,10,14]] else [] }
theorem G15_ok:TabOK Tryz.prog G15:=⟨L15h_ok.f,L15h_ok.hp⟩
@[go_sem] theorem G15_f:G15.f = L15h.f:=rfl
@[go_sem] theorem G15_eff {g:FuncId}:G15.eff g = false:=rfl
@[go_sem] theorem G15_ords7:G15.ords 7 =
 [[0,1,2,3,4,5,6,7,8,9,10,11,12,13,14],[0,1,2,3,4,5,6,7,8,9,10,12,11,13,14],[0,1,2,3,4,5,6,7,8,9,11,10,12,13,14],[0,1,2,3,4,5,6,7,8,9,11,12,10,13,14],
  [0,1,2,3,4,5,6,7,8,9,11,12,13,10,14],[0,1,2,3,4,5,6,7,8,9,12,10,11,13,14],[0,1,2,3,4,5,6,7,8,9,12,11,10,13,14],[0,1,2,3,4,5,6,7,8,9,12,11,13,10,14]]:=rfl
@[go_sem] theorem G15_ords {n:Nat} (h:n ≠ 7):G15.ords n = []:=if_neg h
theorem ok_ref15_Right:codeOK Tryz.prog G15 Tryz.f63.ntmps (Tryz.f63.body.getD .skip) = true:=by kernel_rfl
theorem c_ref15_Right (k:List Pc) (hk:okP k):CallA Tryz.prog 63 [.slc (k.map Pc.enc)] (· = .bool (rightP k)):=by
 refine callA_of_body G15_ok mixed Tryz.func63 rfl (Nat.le_of_ble_eq_true rfl) ok_ref15_Right ?_
 unfold Tryz.f63
 obtain ⟨⟨k1,k2⟩,k3⟩:=id hk
 simp -implicitDefEqProofs (maxSteps:=600000) (disch:=(first | omega | decide)) only [go_sem,↓reduceIte,seval,List.length_map]
 refine wpA_loop [0] (ι:={j:Nat // j ≤ k.length ∧ rightP k = goP (prevP k j) (k.drop j)}) (fun p=>[(3,.int .i64 p.1)]) (fun _=>[]) (fun p=>k.length - p.1) ⟨0,by omega,rfl⟩ (Nat.zero_le _) ?_ ?_
 ·simp -implicitDefEqProofs (maxSteps:=600000) (disch:=(first | omega | decide)) only [go_sem,↓reduceIte,seval]
 ·rintro ⟨j,hj,hd⟩
  simp only at hj hd ⊢
  by_cases hlt:j < k.length
  ·have hlt':(j:Int) < (k.length:Int):=by omega
   have e1:=pc_get hlt
   have hok:=k3 _ (List.getElem_mem hlt)
   have hsm:=okP_small hk (List.getElem_mem hlt)
   have hp':prevP k (j + 1) = some k[j]:=by
    unfold prevP; rw [if_neg (by omega),Nat.add_sub_cancel,getElem!_pos k j hlt]
   rw [List.drop_eq_getElem_cons hlt] at hd
   generalize hx:k[j] = x at *
   obtain ⟨⟨lo,hi,op⟩,s⟩:=x
   simp only [goP,onePc] at hd hok hsm
   have next:rightP k = goP (some ⟨⟨lo,hi,op⟩,s⟩) (k.drop (j + 1)) → ∃ i:{j:Nat // j ≤ k.length ∧ rightP k = goP (prevP k j) (k.drop j)},(j:Int) + 1 = (i.1:Int) ∧ k.length - i.1 < k.length - j:=fun h=>⟨⟨j + 1,hlt,by rw [hp']; exact h⟩,by simp,by show k.length - (j + 1) < k.length - j; omega⟩
   cases h1:rightR ⟨lo,hi,op⟩ with
   | false=>
    have hh:rightP k = false:=by rw [hd,h1]; simp
    simp -implicitDefEqProofs (maxSteps:=600000) (disch:=(first | omega | decide)) only [go_sem,↓reduceIte,seval,hlt',e1,h1,hh,List.length_map]
   | true=>
    cases h2:((s.length:Int) == 0) with
    | true=>
     have h20:(s.length:Int) = 0:=by simpa using h2
     have:s = []:=List.length_eq_zero_iff.1 (by omega)
     have hh:rightP k = false:=by rw [hd,this]; simp
     simp -implicitDefEqProofs (maxSteps:=600000) (disch:=(first | omega | decide)) only [go_sem,↓reduceIte,seval,hlt',e1,h1,h2,hh,List.length_map]
    | false=>
     have hne:s.isEmpty = false:=by
          cases s with
          | nil=>simp at h2
          | cons _ _=>rfl
     have hvr:=k_ref14_Right hsm
     cases h3:rightK s with
     | false=>
          have hh:rightP k = false:=by rw [hd,h3]; simp
          rw [h3] at hvr
          simp -implicitDefEqProofs (maxSteps:=600000) (disch:=(first | omega | decide)) only [go_sem,↓reduceIte,seval,hlt',e1,h1,h2,hvr,hh,List.length_map]
     | true=>
          rw [h3] at hvr
          rw [h1,hne,h3] at hd
          simp only [Bool.not_false,Bool.and_self,Bool.true_and] at hd
          by_cases hj0:j = 0
          ·have hz:((j:Int) == 0) = true:=by simp [hj0]
           have hh:rightP k = goP (some ⟨⟨lo,hi,op⟩,s⟩) (k.drop (j + 1)):=by
            rw [hd]; unfold prevP; rw [if_pos hj0,Bool.true_and]
           simp -implicitDefEqProofs (maxSteps:=600000) (disch:=(first | omega | decide)) only [go_sem,↓reduceIte,seval,hlt',e1,h1,h2,hvr,hz,wrap_i64,List.length_map]
           exact next hh
          ·have hz:((j:Int) == 0) = false:=by simp; omega
           have hlt2:j - 1 < k.length:=by omega
           have e2:=pc_get hlt2
           have hok2:=k3 _ (List.getElem_mem hlt2)
           have hsm2:=okP_small hk (List.getElem_mem hlt2)
           have hpk:prevP k j = some k[j - 1]:=by unfold prevP; rw [if_neg hj0,getElem!_pos k (j - 1) hlt2]
           rw [hpk] at hd
           generalize hy:k[j - 1] = y at *
           obtain ⟨⟨lo',hi',op'⟩,s'⟩:=y
           simp only at hok2 hsm2
           have c1:((j:Int) - 1).toNat = j - 1:=by omega
           have c2:(0:Int) ≤ (j:Int) - 1:=by omega
           have hsame:=k_ref14_Same hsm2 hsm
           simp only [nextPc] at hd
           cases h4:op' with
           | true=>
            have hh:rightP k = false:=by rw [hd,h4]; simp
            subst h4
            simp -implicitDefEqProofs (maxSteps:=6000000) (disch:=(first | omega | decide)) only [go_sem,↓reduceIte,seval,hlt',e1,h1,h2,hvr,hz,e2,c1,c2,hh,wrap_i64,List.length_map]
           | false=>
            subst h4
            cases h5:ltB lo hi' with
            | true=>
             have hh:rightP k = false:=by rw [hd,h5]; simp
             simp -implicitDefEqProofs (maxSteps:=6000000) (disch:=(first | omega | decide)) only [go_sem,↓reduceIte,seval,hlt',e1,h1,h2,hvr,hz,e2,c1,c2,h5,hh,wrap_i64,List.length_map]
            | false=>
             cases h6:hi' == lo with
             | false=>
              have hh:rightP k = goP (some ⟨⟨lo,hi,op⟩,s⟩) (k.drop (j + 1)):=by rw [hd,h5,h6]; simp
              simp -implicitDefEqProofs (maxSteps:=6000000) (disch:=(first | omega | decide)) only [go_sem,↓reduceIte,seval,hlt',e1,h1,h2,hvr,hz,e2,c1,c2,h5,h6,wrap_i64,List.length_map]
              exact next hh
             | true=>
              cases h7:sameK s' s with
              | true=>
               have h7':s' = s:=by simpa [sameK] using h7
               rw [h7] at hsame
               have hh:rightP k = false:=by rw [hd,h6,h7']; simp
               simp -implicitDefEqProofs (maxSteps:=6000000) (disch:=(first | omega | decide)) only [go_sem,↓reduceIte,seval,hlt',e1,h1,h2,hvr,hz,e2,c1,c2,h5,h6,hsame,hh,wrap_i64,List.length_map]
              | false=>
               have h7':s' ≠ s:=by simpa [sameK] using h7
               rw [h7] at hsame
               have hh:rightP k = goP (some ⟨⟨lo,hi,op⟩,s⟩) (k.drop (j + 1)):=by rw [hd,h5,h6,decide_eq_false h7']; simp
               simp -implicitDefEqProofs (maxSteps:=6000000) (disch:=(first | omega | decide)) only [go_sem,↓reduceIte,seval,hlt',e1,h1,h2,hvr,hz,e2,c1,c2,h5,h6,hsame,wrap_i64,List.length_map]
               exact next hh
  ·have hlt':¬ (j:Int) < (k.length:Int):=by omega
   have hh:rightP k = true:=by rw [hd,List.drop_of_length_le (by omega)]; rfl
   simp -implicitDefEqProofs (maxSteps:=600000) (disch:=(first | omega | decide)) only [go_sem,↓reduceIte,seval,hlt',hh,List.length_map]
noncomputable def L15i:Tab:=L15h.add 63 (entry (fun (k:List Pc)=>[.slc (k.map Pc.enc)]) (fun k=>okP k) (fun k=>.bool (rightP k)))
theorem L15i_ok:TabOK Tryz.prog L15i:=L15h_ok.add (callable_of Tryz.func63 (by kernel_rfl) (by kernel_rfl)) (entry_ok fun k h=>c_ref15_Right k h)
@[go_sem] theorem L15i_old {g:FuncId} {xs:List A} (h:g ≠ 63):L15i.f g xs = L15h.f g xs:=Tab.add_ne h
@[go_sem] theorem L15i_eff {g:FuncId}:L15i.eff g = false:=rfl
@[go_sem] theorem L15i_ords {n:Nat}:L15i.ords n = []:=rfl
theorem L15i_ref15_Right (k:List Pc) (h:okP k):L15i.f 63 [.slc (k.map Pc.enc)] = some (.bool (rightP k)):=
 (Tab.add_eq:L15i.f 63 [.slc (k.map Pc.enc)] = (entry (fun (k:List Pc)=>[.slc (k.map Pc.enc)]) (fun k=>okP k) (fun k=>.bool (rightP k))) [.slc (k.map Pc.enc)]).trans (entry_eq (fun i j h=>by first | (cases i; cases j; rfl; done) | simpa [Prod.ext_iff,and_assoc] using h | (simp at h; omega) | (simp at h; exact Prod.ext h.1 (Prod.ext h.2.1 (by omega)))) k h)
theorem q_rRight {k:List Pc} (h:okP k):L15i.f 63 [.slc (k.map Pc.enc)] = some (.bool (rightP k)):=L15i_ref15_Right k h
end Go.Proofs.YtjfdlpagcgpaoaaGreat
