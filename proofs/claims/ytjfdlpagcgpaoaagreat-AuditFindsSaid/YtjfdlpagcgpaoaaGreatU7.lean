/- What the laws of this claim rest on: the abstract executor, its soundness, and what the functions compute on pure data. No condition. -/
import Derived.Test.YtjfdlpagcgpaoaaGreatU6
import Derived.Shelf.SlSortCmp.NoneTotal
import Derived.Ground.SlsfProg
import Derived.Test.YtjfdlpagcgpaoaaGreatProg
set_option linter.unusedVariables false
set_option linter.unusedSimpArgs false
namespace Go.Proofs.YtjfdlpagcgpaoaaGreat
open Go.Abs
set_option linter.unusedSimpArgs false
set_option linter.unusedVariables false
set_option maxRecDepth 20000
set_option maxHeartbeats 8000000
theorem raw_one {m:List Rng} (h:(rawE [[]] m).length = 1):rawE [[]] m = [[]]:=by
 cases m with
 | nil=>rfl
 | cons r l=>
  have h1:=(rawE_len l (rawS [[]] r)).1
  have h2:2 ≤ (rawS [[]] r).length:=by unfold rawS; split <;> simp
  have e:rawE [[]] (r :: l) = rawE (rawS [[]] r) l:=rfl
  rw [e] at h; omega
theorem acc_raw (a b:List Rng) (o:Nat):∃ m,accE a b o = rawE [[]] m:=⟨_,rfl⟩
theorem ok_ranges_edges:codeOK Tryz.prog E8 Tryz.f282.ntmps (Tryz.f282.body.getD .skip) = true:=by kernel_rfl
theorem c_ranges_edges (a b:List Rng) (ha:a.length ≤ 1000000) (hb:b.length ≤ 1000000) (ra:∀ r ∈ a,rightR r = true) (rb:∀ r ∈ b,rightR r = true):CallA Tryz.prog 282 [.slc (a.map Rng.enc),.slc (b.map Rng.enc)] (· = .slc ((edgesT a b).map .str)):=by
 refine callA_of_body E8_ok mixed Tryz.func282 rfl (Nat.le_of_ble_eq_true rfl) ok_ranges_edges ?_
 unfold Tryz.f282
 simp -implicitDefEqProofs (maxSteps:=600000) (disch:=(first | omega | decide)) only [go_sem,↓reduceIte,seval,List.length_map]
 refine wpA_loopH [4,13] (ι:={o:Nat // o ≤ 2}) (fun p=>[(14,.int .i64 p.1),(5,sh5 (accE a b p.1))]) (fun p=>shH (accE a b p.1)) (fun p=>2 - p.1) ⟨0,by omega⟩ (fun _=>Nat.zero_le _) ?_ ?_
 ·simp only [accE0]
  simp -implicitDefEqProofs (maxSteps:=600000) (disch:=(first | omega | decide)) only [go_sem,↓reduceIte,seval,sh5,shH]
 ·rintro ⟨o,ho⟩
  simp only
  by_cases ho2:o < 2
  ·have ho':(o:Int) < 2:=by omega
   have ho0:(0:Int) ≤ (o:Int):=by omega
   obtain ⟨l,hd,hacc,hl⟩:=acc_get a b o ho2
   have hll:l.length ≤ 1000000:=by rcases hl with rfl | rfl <;> assumption
   have hlr:∀ r ∈ l,rightR r = true:=by rcases hl with rfl | rfl <;> assumption
   obtain ⟨m0,hm0⟩:=acc_raw a b o
   have hel:(accE a b o).length ≤ 3000001:=by
    unfold accE
    have h1:=(rawE_len (if o = 0 then [] else if o = 1 then a else a ++ b) [[]]).2
    have h2:(if o = 0 then [] else if o = 1 then a else a ++ b).length ≤ 1000000:=by
     rcases (by omega:o = 0 ∨ o = 1) with rfl | rfl
     ·simp
     ·simpa using ha
    simp only [List.length_singleton] at h1
    omega
   have hfin:∃ j:{o:Nat // o ≤ 2},(o:Int) + 1 = (j.1:Int) ∧ accE a b (o + 1) = accE a b j.1 ∧ 2 - j.1 < 2 - o:=⟨⟨o + 1,ho2⟩,by simp,rfl,by show 2 - (o + 1) < 2 - o; omega⟩
   rw [← hacc] at hfin
   generalize accE a b o = E0 at *
   have hE5:(sh5 E0).under (shH E0).length = true:=sh_under
   have hE5b:leH (shH E0).length (shH E0) (shH E0):=by
    by_cases hE0:E0.length = 1
    ·rw [(sh_one hE0).2]; simp [leH]
    ·rw [(sh_more hE0).2]; simp [leH,leO,leL]
   simp -implicitDefEqProofs (maxSteps:=600000) (disch:=(first | omega | decide)) only [go_sem,↓reduceIte,seval,ho',ho0,hd,Nat.mul_one,List.length_map]
   refine wpA_loopH [4,13,14,17,18] (ι:={j:Nat // j ≤ l.length}) (fun p=>[(19,.int .i64 p.1),(5,sh5 (rawE E0 (l.take p.1)))]) (fun p=>shH (rawE E0 (l.take p.1))) (fun p=>l.length - p.1) ⟨0,by omega⟩ (fun _=>Nat.zero_le _) ?_ ?_
   ·have e:rawE E0 (l.take 0) = E0:=rfl
    simp only [e]
    simp -implicitDefEqProofs (maxSteps:=600000) (disch:=(first | omega | decide)) only [go_sem,↓reduceIte,seval,hE5,hE5b]
   ·rintro ⟨j,hj⟩
    simp only
    obtain ⟨m1,hm1⟩:∃ m,rawE E0 (l.take j) = rawE [[]] m:=⟨m0 ++ l.take j,by rw [hm0,rawE_app]⟩
    have hlenE:=(rawE_len (l.take j) E0).2
    rw [List.length_take,Nat.min_eq_left hj] at hlenE
    have hgeE:=(rawE_len m1 [[]]).1
    rw [← hm1,List.length_singleton] at hgeE
    by_cases hlt:j < l.length
    ·have hlt':(j:Int) < (l.length:Int):=by omega
     have e1:=rng_get hlt
     have hrr:=hlr _ (List.getElem_mem hlt)
     have hst:=rawE_step l E0 j hlt
     have next:∀ E',rawE E0 (l.take (j + 1)) = E' → E'.length ≠ 1 → ∃ i:{j:Nat // j ≤ l.length},(j:Int) + 1 = (i.1:Int) ∧ (sh5 (rawE E0 (l.take i.1)) = .row 1 0 1 E'.length false ∧ shH (rawE E0 (l.take i.1)) = [.box [.any,.any,.any],.row 1 (E'.map .str)]) ∧ l.length - i.1 < l.length - j:=fun E' h1 h2=>⟨⟨j + 1,hlt⟩,by simp,by rw [h1]; exact sh_more h2,by show l.length - (j + 1) < l.length - j; omega⟩
     generalize rawE E0 (l.take j) = E at *
     generalize hx:l[j] = x at *
     obtain ⟨lo,hi,op⟩:=x
     unfold rawS at hst
     by_cases hE:E.length = 1
     ·have hE1:E = [[]]:=by rw [hm1] at hE ⊢; exact raw_one hE
      rw [(sh_one hE).1,(sh_one hE).2]
      subst hE1
      cases op with
      | true=>
       obtain ⟨i,n1,⟨n2,n3⟩,n4⟩:=next _ hst (by simp)
       simp -implicitDefEqProofs (maxSteps:=600000) (disch:=(first | omega | decide)) only [go_sem,↓reduceIte,seval,hlt',e1,wrap_i64,List.length_map]
       refine ⟨i,?_,n4⟩
       rw [n2,n3]
       simp -implicitDefEqProofs (maxSteps:=600000) (disch:=(first | omega | decide)) only [go_sem,↓reduceIte,seval,n1]
       try simp
      | false=>
       obtain ⟨i,n1,⟨n2,n3⟩,n4⟩:=next _ hst (by simp)
       simp -implicitDefEqProofs (maxSteps:=600000) (disch:=(first | omega | decide)) only [go_sem,↓reduceIte,seval,hlt',e1,wrap_i64,List.length_map]
       refine ⟨i,?_,n4⟩
       rw [n2,n3]
       simp -implicitDefEqProofs (maxSteps:=600000) (disch:=(first | omega | decide)) only [go_sem,↓reduceIte,seval,n1]
       try simp
     ·rw [(sh_more hE).1,(sh_more hE).2]
      have tl:(E.map A.str).take E.length = E.map A.str:=List.take_of_length_le (by simp)
      have tl2:(E.map A.str ++ [A.str lo]).take (E.length + 1) = E.map A.str ++ [A.str lo]:=List.take_of_length_le (by simp)
      have ll2:(E.map A.str ++ [A.str lo]).length = E.length + 1:=by simp
      cases op with
      | true=>
       obtain ⟨i,n1,⟨n2,n3⟩,n4⟩:=next _ hst (by rw [List.length_append]; show E.length + 1 ≠ 1; omega)
       simp -implicitDefEqProofs (maxSteps:=600000) (disch:=(first | omega | decide)) only [go_sem,↓reduceIte,seval,hlt',e1,tl,wrap_i64,List.length_map]
       refine ⟨⟨Nat.le_refl _,by omega⟩,i,?_,n4⟩
       rw [n2,n3]
       simp -implicitDefEqProofs (maxSteps:=600000) (disch:=(first | omega | decide)) only [go_sem,↓reduceIte,seval,n1]
       try simp
      | false=>
       obtain ⟨i,n1,⟨n2,n3⟩,n4⟩:=next _ hst (by simp)
       simp -implicitDefEqProofs (maxSteps:=600000) (disch:=(first | omega | decide)) only [go_sem,↓reduceIte,seval,hlt',e1,tl,tl2,ll2,wrap_i64,List.length_map]
       refine ⟨⟨Nat.le_refl _,by omega⟩,⟨Nat.le_refl _,by omega⟩,i,?_,n4⟩
       rw [n2,n3]
       simp -implicitDefEqProofs (maxSteps:=600000) (disch:=(first | omega | decide)) only [go_sem,↓reduceIte,seval,n1]
       try simp
    ·have hlt':¬ (j:Int) < (l.length:Int):=by omega
     rw [List.take_of_length_le (by omega)] at *
     obtain ⟨i,n1,n2,n3⟩:=hfin
     rw [n2]
     have hU:(sh5 (accE a b i.1)).under (shH (accE a b i.1)).length = true:=sh_under
     have hUb:leH (shH (accE a b i.1)).length (shH (accE a b i.1)) (shH (accE a b i.1)):=by
          by_cases hE0:(accE a b i.1).length = 1
          ·rw [(sh_one hE0).2]; simp [leH]
          ·rw [(sh_more hE0).2]; simp [leH,leO,leL]
     have w:IntKind.i64.wrap ((o:Int) + 1) = (o:Int) + 1:=wrap_i64 (by omega)
     simp -implicitDefEqProofs (maxSteps:=600000) (disch:=(first | omega | decide)) only [go_sem,↓reduceIte,seval,hlt',w,List.length_map]
     refine ⟨i,?_,n3⟩
     simp -implicitDefEqProofs (maxSteps:=600000) (disch:=(first | omega | decide)) only [go_sem,↓reduceIte,seval,n1,hU,hUb]
  ·have ho':¬ (o:Int) < 2:=by omega
   have ho2':o = 2:=by omega
   subst ho2'
   have hE2:accE a b 2 = rawE [[]] (a ++ b):=rfl
   have h17:∀ s ∈ rawE [[]] (a ++ b),s.length ≤ 17:=fun s hs=>by
    rcases (rawE_mem _ _ _).1 hs with h | ⟨r,hr,h⟩
    ·simp at h; subst h; simp
    ·have hrr:rightR r = true:=by
          rcases List.mem_append.1 hr with hr | hr
          ·exact ra r hr
          ·exact rb r hr
     obtain ⟨k1,k2,_,_⟩:=right_parts hrr
     rcases h with rfl | ⟨_,rfl⟩
     ·exact k1
     ·exact k2
   have hel:=(rawE_len (a ++ b) [[]]).2
   rw [List.length_append,List.length_singleton] at hel
   rw [hE2]
   unfold edgesT
   have hone:=@raw_one (a ++ b)
   generalize rawE [[]] (a ++ b) = E at *
   by_cases hE:E.length = 1
   ·have hE1:=hone hE
    rw [(sh_one hE).1,(sh_one hE).2]
    subst hE1
    have s1:=E8_st (.inr []) trivial
    have s2:=E8_cp (.inr []) trivial
    simp only [stE,stO,stR] at s1
    simp only [cpE,cpO,cpR] at s2
    have hs:sortT [[]] = [[]]:=by
     have:=(sortT_spec h17).1
     exact (List.perm_replicate (n:=1) (a:=([]:List UInt8))).1 this
    rw [hs]
    simp -implicitDefEqProofs (maxSteps:=600000) (disch:=(first | omega | decide)) only [go_sem,↓reduceIte,seval,ho',s1,s2,compL,List.contains_nil,List.contains_cons,List.length_map]
   ·rw [(sh_more hE).1,(sh_more hE).2]
    have s1:=E8_st (.inl (asB E h17)) (by show (asB E h17).length < _; rw [asB_len]; omega)
    simp only [stE,stO,stR,asB_enc,asB_len,sortT_enc] at s1
    have hp:=(sortT_spec h17).1.length_eq
    have s2:=E8_cp (.inl (sortT E)) (by show (sortT E).length ≤ _; rw [hp]; omega)
    simp only [cpE,cpO,cpR,hp] at s2
    have hcl:(compL (sortT E)).length = ((compL (sortT E)).map A.str).length:=by simp
    simp -implicitDefEqProofs (maxSteps:=600000) (disch:=(first | omega | decide)) only [go_sem,↓reduceIte,seval,ho',s1,s2,List.contains_nil,List.contains_cons,List.length_map]
    refine ⟨by rw [List.length_append]; omega,?_⟩
    rw [List.map_append,List.take_append_of_le_length (by simp),List.take_of_length_le (by simp)]
set_option maxHeartbeats 4000000
def findS:List Rng → List UInt8 → Nat
 | [],_=>0
 | r :: l,s=>if r.op || ltB s r.hi then 0 else findS l s + 1
theorem findS_le:∀ (l:List Rng) (s:List UInt8),findS l s ≤ l.length
 | [],_=>Nat.le_refl _
 | r :: l,s=>by
  have:=findS_le l s
  simp only [findS,List.length_cons]; split <;> omega
theorem findS_lt:∀ (l:List Rng) (s:List UInt8) (i:Nat) (h:i < l.length),i < findS l s → l[i].op = false ∧ ltB s l[i].hi = false
 | r :: l,s,i,h,hi=>by
  simp only [findS] at hi
  split at hi
  ·omega
  ·rename_i hc
   cases i with
   | zero=>simpa using hc
   | succ i=>exact findS_lt l s i (by simpa using h) (by omega)
theorem findS_at:∀ (l:List Rng) (s:List UInt8) (h:findS l s < l.length),(l[findS l s].op || ltB s l[findS l s].hi) = true
 | r :: l,s,h=>by
  by_cases hc:(r.op || ltB s r.hi) = true
  ·have e:findS (r :: l) s = 0:=by simp only [findS]; rw [if_pos hc]
   simp only [e]; exact hc
  ·have e:findS (r :: l) s = findS l s + 1:=by simp only [findS]; rw [if_neg hc]
   simp only [e] at h ⊢
   exact findS_at l s (by simpa using h)
theorem right_later {l:List Rng} (h:rightRs l = true) {s:List UInt8}:∀ (i j:Nat) (hi:i < l.length) (hj:j < l.length),i ≤ j → (l[i].op || ltB s l[i].hi) = true → (l[j].op || ltB s l[j].hi) = true:=by
 intro i j hi hj hij hc
 obtain ⟨h1,h2⟩:=rightRs_can.1 h
 induction j with
 | zero=>have:i = 0:=by omega
         subst this; exact hc
 | succ j ih=>
  rcases Nat.lt_or_eq_of_le hij with hlt | heq
  ·have hj':j < l.length:=by omega
   have ih:=ih hj' (by omega)
   -- neighbours
   have key:∀ (l:List Rng),(∀ r ∈ l,rightR r = true) → Iv.Can ltB (l.map ivR) → ∀ (j:Nat) (h:j + 1 < l.length),l[j].op = false ∧ ltB l[j].hi l[j + 1].lo = true:=by
    intro l
    induction l with
    | nil=>intro _ _ j h; simp at h
    | cons r l ih2=>
     intro g1 g2 j hj
     cases j with
     | zero=>
      cases l with
      | nil=>simp at hj
      | cons q l=>
       obtain ⟨_,⟨x,k1,k2⟩,_⟩:=g2
       simp only [ivR] at k1
       cases ho:r.op with
       | true=>rw [ho] at k1; simp at k1
       | false=>
        rw [ho] at k1
        simp at k1
        subst k1
        exact ⟨ho,k2⟩
     | succ j=>exact ih2 (fun q hq=>g1 q (by simp [hq])) (Iv.can_tail linB g2) j (by simpa using hj)
   obtain ⟨k1,k2⟩:=key l h1 h2 j hj
   rw [k1,Bool.false_or] at ih
   have hr:=h1 _ (List.getElem_mem hj)
   cases ho:l[j + 1].op with
   | true=>rfl
   | false=>
    rw [Bool.false_or]
    exact lt_trans' (lt_trans' ih k2) ((right_parts hr).2.2.2 ho)
  ·subst heq; exact hc
theorem findS_split {l:List Rng} (h:rightRs l = true) {s:List UInt8} {i:Nat} (hi:i < l.length):(l[i].op || ltB s l[i].hi) = decide (findS l s ≤ i):=by
 by_cases hc:findS l s ≤ i
 ·rw [decide_eq_true hc]
  exact right_later h _ _ (by omega) hi hc (findS_at l s (by omega))
 ·rw [decide_eq_false hc]
  obtain ⟨h1,h2⟩:=findS_lt l s i hi (by omega)
  rw [h1,h2]; rfl
theorem find_has {l:List Rng} (h:rightRs l = true) (s:List UInt8):hasRs l s = (if h:findS l s < l.length then !ltB s l[findS l s].lo else false):=by
 obtain ⟨h1,h2⟩:=rightRs_can.1 h
 split
 ·rename_i hlt
  have hat:=findS_at l s hlt
  have hr:=h1 _ (List.getElem_mem hlt)
  cases hc:ltB s l[findS l s].lo with
  | false=>
   rw [Bool.not_false,hasRs_iff]
   refine ⟨_,List.getElem_mem hlt,?_⟩
   rw [hasR_eq,hr,hc]
   unfold upTo
   rw [hat]; rfl
  | true=>
   rw [Bool.not_true,← Bool.not_eq_true,hasRs_iff]
   rintro ⟨r,hr',hh⟩
   obtain ⟨j,hj,rfl⟩:=List.mem_iff_getElem.1 hr'
   rw [hasR_eq] at hh
   simp only [Bool.and_eq_true,Bool.not_eq_true'] at hh
   obtain ⟨g1,g2,g3⟩:=hh
   have g3':(l[j].op || ltB s l[j].hi) = true:=g3
   rw [findS_split h hj,decide_eq_true_iff] at g3'
   rcases Nat.lt_or_eq_of_le g3' with g | g
   · -- a later one begins above
     have key:∀ (l:List Rng),(∀ r ∈ l,rightR r = true) → Iv.Can ltB (l.map ivR) → ∀ (i j:Nat) (hi:i < l.length) (hj:j < l.length),i < j → ltB l[i].lo l[j].lo = true:=by
      intro l
      induction l with
      | nil=>intro _ _ i j hi; simp at hi
      | cons r l ih=>
       intro a1 a2 i j hi hj hij
       cases j with
       | zero=>omega
       | succ j=>
        have hj':j < l.length:=by simpa using hj
        have hmem:Iv.mem ltB (l.map ivR) (l[j]'hj').lo = true:=by
         have:hasRs l (l[j]'hj').lo = true:=hasRs_iff.2 ⟨l[j]'hj',List.getElem_mem _,right_has_lo (a1 _ (by simp))⟩
         rwa [hasRs_iv,filter_right (fun q hq=>a1 q (by simp [hq]))] at this
        cases i with
        | zero=>
         cases l with
         | nil=>simp at hj
         | cons q l=>
          have low:=Iv.can_low linB (Iv.can_tail linB a2) hmem
          obtain ⟨b1,⟨x,k1,k2⟩,_⟩:=a2
          have b1':ltB r.lo x = true:=by rw [k1] at b1; exact b1
          exact lt_of_lt_not (lt_trans' b1' k2) low
        | succ i=>exact ih (fun q hq=>a1 q (by simp [hq])) (Iv.can_tail linB a2) i j (by simpa using hi) (by simpa using hj) (by omega)
     have:=key l h1 h2 _ j hlt hj g
     have:=lt_trans' hc this
     rw [this] at g2; cases g2
   ·have e:l[j] = l[findS l s]:=by congr 1; exact g.symm
    rw [e,hc] at g2; cases g2
 ·rename_i hge
  rw [← Bool.not_eq_true,hasRs_iff]
  rintro ⟨r,hr',hh⟩
  obtain ⟨j,hj,rfl⟩:=List.mem_iff_getElem.1 hr'
  rw [hasR_eq] at hh
  simp only [Bool.and_eq_true] at hh
  have g3':(l[j].op || ltB s l[j].hi) = true:=hh.2.2
  rw [findS_split h hj,decide_eq_true_iff] at g3'
  omega
theorem ok_ranges_find:codeOK Tryz.prog T07 Tryz.f143.ntmps (Tryz.f143.body.getD .skip) = true:=by kernel_rfl
theorem c_ranges_find (l:List Rng) (s:List UInt8) (hl:l.length ≤ 4611686018427387903) (hok:okL l) (hs:s.length ≤ 9223372036854775807) (hr:rightRs l = true):CallA Tryz.prog 143 [.slc (l.map Rng.enc),.str s] (· = .int .i64 (findS l s)):=by
 refine callA_of_body T07_ok mixed Tryz.func143 rfl (Nat.le_of_ble_eq_true rfl) ok_ranges_find ?_
 unfold Tryz.f143
 simp -implicitDefEqProofs (maxSteps:=600000) (disch:=(first | omega | decide)) only [go_sem,↓reduceIte,seval,List.length_map]
 have hfl:=findS_le l s
 refine wpA_loop [0,1,4] (ι:={p:Nat × Nat // p.1 ≤ findS l s ∧ findS l s ≤ p.2 ∧ p.2 ≤ l.length}) (fun p=>[(5,.int .i64 p.1.1),(6,.int .i64 p.1.2)]) (fun _=>[]) (fun p=>p.1.2 - p.1.1) ⟨(0,l.length),Nat.zero_le _,hfl,Nat.le_refl _⟩ (Nat.zero_le _) ?_ ?_
 ·simp -implicitDefEqProofs (maxSteps:=600000) (disch:=(first | omega | decide)) only [go_sem,↓reduceIte,seval]
 ·rintro ⟨⟨a,b⟩,h1,h2,h3⟩
  simp only at h1 h2 h3 ⊢
  by_cases hab:a < b
  ·have c1:(a:Int) < (b:Int):=by omega
   have hm:(a:Int) + ((b:Int) - (a:Int)).tdiv 2 = ((a + (b - a) / 2:Nat):Int):=by
    have:((b:Int) - (a:Int)) = ((b - a:Nat):Int):=by omega
    rw [this]
    have e:((b - a:Nat):Int).tdiv 2 = (((b - a) / 2:Nat):Int):=rfl
    rw [e]; omega
   have hw:IntKind.i64.wrap (((b:Int) - (a:Int)).tdiv 2) = ((b:Int) - (a:Int)).tdiv 2:=by
    have:((b:Int) - (a:Int)) = ((b - a:Nat):Int):=by omega
    rw [this]
    have e:((b - a:Nat):Int).tdiv 2 = (((b - a) / 2:Nat):Int):=rfl
    rw [e]
    exact wrap_i64 (by omega)
   have hmb:a + (b - a) / 2 < b:=by omega
   have hma:a ≤ a + (b - a) / 2:=by omega
   generalize a + (b - a) / 2 = m at *
   have hlt:m < l.length:=by omega
   have hlt':(m:Int) < (l.length:Int):=by omega
   have e1:=rng_get hlt
   have ok1:=okL_get hok hlt
   have hsp:=findS_split hr (s:=s) hlt
   have hw2:IntKind.i64.wrap ((m:Nat):Int) = (m:Int):=wrap_i64 (by omega)
   have z2:¬ (2:Int) = 0:=by omega
   generalize hx:l[m] = x at *
   obtain ⟨lo,hi,op⟩:=x
   simp only at ok1 hsp
   have left:findS l s ≤ m → ∃ j:{p:Nat × Nat // p.1 ≤ findS l s ∧ findS l s ≤ p.2 ∧ p.2 ≤ l.length},((a:Int) = (j.1.1:Int) ∧ (m:Int) = (j.1.2:Int)) ∧ j.1.2 - j.1.1 < b - a:=fun h=>⟨⟨(a,m),h1,h,by omega⟩,⟨rfl,rfl⟩,by show m - a < b - a; omega⟩
   have rightw:¬ findS l s ≤ m → ∃ j:{p:Nat × Nat // p.1 ≤ findS l s ∧ findS l s ≤ p.2 ∧ p.2 ≤ l.length},((m:Int) + 1 = (j.1.1:Int) ∧ (b:Int) = (j.1.2:Int)) ∧ j.1.2 - j.1.1 < b - a:=fun h=>⟨⟨(m + 1,b),by show m + 1 ≤ _; omega,h2,h3⟩,⟨by simp,rfl⟩,by show b - (m + 1) < b - a; omega⟩
   cases op with
   | true=>
    have hle:findS l s ≤ m:=by simpa using hsp
    simp -implicitDefEqProofs (maxSteps:=600000) (disch:=(first | omega | decide)) only [go_sem,↓reduceIte,seval,c1,hm,hw,hw2,hlt',e1,ok1,z2,wrap_i64,List.length_map]
    exact left hle
   | false=>
    cases h4:ltB s hi with
    | true=>
     rw [h4] at hsp
     have hle:findS l s ≤ m:=by simpa using hsp
     simp -implicitDefEqProofs (maxSteps:=600000) (disch:=(first | omega | decide)) only [go_sem,↓reduceIte,seval,c1,hm,hw,hw2,hlt',e1,ok1,h4,z2,wrap_i64,List.length_map]
     exact left hle
    | false=>
     rw [h4] at hsp
     have hle:¬ findS l s ≤ m:=by simpa using hsp
     simp -implicitDefEqProofs (maxSteps:=600000) (disch:=(first | omega | decide)) only [go_sem,↓reduceIte,seval,c1,hm,hw,hw2,hlt',e1,ok1,h4,z2,wrap_i64,List.length_map]
     exact rightw hle
  ·have e:a = findS l s:=by omega
   subst e
   have c1:¬ ((findS l s:Nat):Int) < (b:Int):=by omega
   simp -implicitDefEqProofs (maxSteps:=600000) (disch:=(first | omega | decide)) only [go_sem,↓reduceIte,seval,c1,List.length_map]
theorem strB (l:List (List UInt8)):((l.map A.str).isEmpty || strideOf (l.map A.str) == 1) = true:=by
 cases l <;> rfl
theorem putB_close {l:List (List UInt8)} {n:List UInt8} {k:Nat} (hk:k ≤ l.length) (hd:putB l n = l.take k ++ n :: l.drop k):k + 1 ≤ ((l.take k).map A.str ++ [A.str n]).length ∧ k + 1 + (l.length - k) ≤ (((l.take k).map A.str ++ [A.str n]).take (k + 1) ++ (l.drop k).map A.str).length ∧
 (((l.take k).map A.str ++ [A.str n]).take (k + 1) ++ (l.drop k).map A.str).take (k + 1 + (l.length - k)) = (putB l n).map A.str:=by
 have e:((l.take k).map A.str ++ [A.str n]).length = k + 1:=by simp; omega
 rw [List.take_of_length_le (Nat.le_of_eq e)]
 have e2:((l.take k).map A.str ++ [A.str n] ++ (l.drop k).map A.str).length = k + 1 + (l.length - k):=by
  rw [List.length_append,e,List.length_map,List.length_drop]
 rw [List.take_of_length_le (Nat.le_of_eq e2)]
 exact ⟨by omega,by omega,by rw [hd]; simp⟩
theorem ok_ref08_put:codeOK Tryz.prog T07 Tryz.f166.ntmps (Tryz.f166.body.getD .skip) = true:=by kernel_rfl
theorem c_ref08_put (l:List (List UInt8)) (n:List UInt8) (hl:l.length ≤ 1000000) (hok:∀ x ∈ l,x.length ≤ 9223372036854775807) (hn:n.length ≤ 9223372036854775807):CallA Tryz.prog 166 [.slc (l.map .str),.str n] (· = .slc ((putB l n).map .str)):=by
 refine callA_of_body T07_ok mixed Tryz.func166 rfl (Nat.le_of_ble_eq_true rfl) ok_ref08_put ?_
 unfold Tryz.f166
 simp -implicitDefEqProofs (maxSteps:=600000) (disch:=(first | omega | decide)) only [go_sem,↓reduceIte,seval,List.length_map]
 refine wpA_loop [0,1,4] (ι:={k:Nat // k ≤ l.length ∧ putB l n = l.take k ++ putB (l.drop k) n}) (fun p=>[(5,.int .i64 p.1)]) (fun _=>[]) (fun p=>l.length - p.1) ⟨0,by omega,rfl⟩ (Nat.zero_le _) ?_ ?_
 ·simp -implicitDefEqProofs (maxSteps:=600000) (disch:=(first | omega | decide)) only [go_sem,↓reduceIte,seval]
 ·rintro ⟨k,hk,hd⟩
  simp only
  by_cases hlt:k < l.length
  ·have hlt':(k:Int) < (l.length:Int):=by omega
   have e1:(l.map A.str)[k]? = some (.str l[k]):=by
    rw [List.getElem?_map,List.getElem?_eq_getElem hlt]; rfl
   have ok1:=hok _ (List.getElem_mem hlt)
   have tk:(l.take k).length = k:=by rw [List.length_take]; omega
   have t1:=(List.take_append_getElem hlt).symm
   rw [List.drop_eq_getElem_cons hlt] at hd
   generalize hx:l[k] = x at *
   simp only [putB] at hd
   cases h1:ltB x n with
   | true=>
    rw [if_pos h1] at hd
    simp -implicitDefEqProofs (maxSteps:=600000) (disch:=(first | omega | decide)) only [go_sem,↓reduceIte,seval,hlt',e1,ok1,h1,wrap_i64,List.length_map]
    exact ⟨⟨k + 1,hlt,by rw [hd,t1,List.append_assoc]; rfl⟩,by simp,by show l.length - (k + 1) < l.length - k; omega⟩
   | false=>
    rw [if_neg (by rw [h1]; simp)] at hd
    cases h2:x == n with
    | true=>
     simp -implicitDefEqProofs (maxSteps:=600000) (disch:=(first | omega | decide)) only [go_sem,↓reduceIte,seval,hlt',e1,ok1,h1,h2,wrap_i64,List.length_map]
     have hxn:x = n:=by simpa using h2
     rw [if_pos hxn,← hx,← List.drop_eq_getElem_cons hlt,List.take_append_drop] at hd
     rw [hd]
    | false=>
     have hxn:x ≠ n:=by simpa using h2
     have l1:(l.take k).length = k:=tk
     have l2:(l.drop k).length = l.length - k:=List.length_drop ..
     simp -implicitDefEqProofs (maxSteps:=600000) (disch:=(first | omega | decide)) only [go_sem,↓reduceIte,seval,hlt',e1,ok1,h1,h2,wrap_i64,← List.map_take,← List.map_drop,strB,List.length_map,List.take_length,l1,l2]
     obtain ⟨c1,c2,c3⟩:=putB_close hk (by rw [hd,if_neg hxn,← hx,← List.drop_eq_getElem_cons hlt])
     exact ⟨by omega,by omega,⟨by omega,by omega⟩,⟨by omega,by omega⟩,⟨c1,by omega⟩,c2,c3⟩
  ·have hlt':¬ (k:Int) < (l.length:Int):=by omega
   have l1:(l.take k).length = k:=by rw [List.length_take]; omega
   have l2:(l.drop k).length = l.length - k:=List.length_drop ..
   have l3:l.drop k = []:=List.drop_of_length_le (by omega)
   obtain ⟨c1,c2,c3⟩:=putB_close hk (by rw [hd,l3]; rfl)
   simp -implicitDefEqProofs (maxSteps:=600000) (disch:=(first | omega | decide)) only [go_sem,↓reduceIte,seval,hlt',wrap_i64,← List.map_take,← List.map_drop,strB,List.length_map,List.take_length,l1,l2]
   exact ⟨by omega,by omega,⟨by omega,by omega⟩,⟨by omega,by omega⟩,⟨c1,by omega⟩,c2,c3⟩
noncomputable def T08a:Tab:=T07.add 166 (entry (fun (v:List (List UInt8) × List UInt8)=>[.slc (v.1.map .str),.str v.2]) (fun v=>v.1.length ≤ 1000000 ∧ (∀ x ∈ v.1,x.length ≤ 9223372036854775807) ∧ v.2.length ≤ 9223372036854775807) (fun v=>.slc ((putB v.1 v.2).map .str)))
theorem T08a_ok:TabOK Tryz.prog T08a:=T07_ok.add (callable_of Tryz.func166 (by kernel_rfl) (by kernel_rfl)) (entry_ok fun v h=>c_ref08_put v.1 v.2 h.1 h.2.1 h.2.2)
@[go_sem] theorem T08a_old {g:FuncId} {xs:List A} (h:g ≠ 166):T08a.f g xs = T07.f g xs:=Tab.add_ne h
@[go_sem] theorem T08a_eff {g:FuncId}:T08a.eff g = false:=rfl
@[go_sem] theorem T08a_ords {n:Nat}:T08a.ords n = []:=rfl
theorem T08a_ref08_put (v:List (List UInt8) × List UInt8) (h:v.1.length ≤ 1000000 ∧ (∀ x ∈ v.1,x.length ≤ 9223372036854775807) ∧ v.2.length ≤ 9223372036854775807):T08a.f 166 [.slc (v.1.map .str),.str v.2] = some (.slc ((putB v.1 v.2).map .str)):=
 (Tab.add_eq:T08a.f 166 [.slc (v.1.map .str),.str v.2] = (entry (fun (v:List (List UInt8) × List UInt8)=>[.slc (v.1.map .str),.str v.2]) (fun v=>v.1.length ≤ 1000000 ∧ (∀ x ∈ v.1,x.length ≤ 9223372036854775807) ∧ v.2.length ≤ 9223372036854775807) (fun v=>.slc ((putB v.1 v.2).map .str))) [.slc (v.1.map .str),.str v.2]).trans (entry_eq (fun i j h=>by first | (cases i; cases j; rfl; done) | simpa [Prod.ext_iff,and_assoc] using h | (simp at h; omega) | (simp at h; exact Prod.ext h.1 (Prod.ext h.2.1 (by omega)))) v h)
theorem t_ref08_put {l:List (List UInt8)} {n:List UInt8} (h:l.length ≤ 1000000) (h1:∀ x ∈ l,x.length ≤ 9223372036854775807) (h2:n.length ≤ 9223372036854775807):T08a.f 166 [.slc (l.map .str),.str n] = some (.slc ((putB l n).map .str)):=T08a_ref08_put (l,n) ⟨h,h1,h2⟩
theorem foldE_ok:∀ (l:List Rng) (es:List (List UInt8)),(∀ x ∈ es,x.length ≤ 9223372036854775807) → ∀ x ∈ l.foldl putE es,x.length ≤ 9223372036854775807:=fun l es h x hx=>by
 rcases (foldE_mem l es x).1 hx with hx | ⟨r,_,h1,h2⟩
 ·exact h x hx
 ·obtain ⟨k1,k2,_,_⟩:=right_parts h1
  rcases h2 with rfl | ⟨_,rfl⟩ <;> omega
theorem foldE_step (l:List Rng) (es:List (List UInt8)) (k:Nat) (h:k < l.length):(l.take (k + 1)).foldl putE es = putE ((l.take k).foldl putE es) l[k]:=by
 rw [← List.take_append_getElem h,List.foldl_append]; rfl
theorem ok_ref08_Edges:codeOK Tryz.prog T08a Tryz.f108.ntmps (Tryz.f108.body.getD .skip) = true:=by kernel_rfl
theorem c_ref08_Edges (a b:List Rng) (ha:a.length ≤ 1000) (hb:b.length ≤ 1000) (oka:okL a) (okb:okL b):CallA Tryz.prog 108 [.slc (a.map Rng.enc),.slc (b.map Rng.enc)] (· = .slc ((edgesS a b).map .str)):=by
 refine callA_of_body T08a_ok mixed Tryz.func108 rfl (Nat.le_of_ble_eq_true rfl) ok_ref08_Edges ?_
 unfold Tryz.f108
 simp -implicitDefEqProofs (maxSteps:=600000) (disch:=(first | omega | decide)) only [go_sem,↓reduceIte,seval,List.length_map]
 refine wpA_loop_clip 5 [A.str []] rfl ?_
 refine wpA_loop [0,1,4] (ι:={k:Nat // k ≤ (a ++ b).length}) (fun p=>[(6,.int .i64 p.1),(5,.slc ((((a ++ b).take p.1).foldl putE [[]]).map .str))]) (fun _=>[]) (fun p=>(a ++ b).length - p.1) ⟨0,by omega⟩ (Nat.zero_le _) ?_ ?_
 ·simp -implicitDefEqProofs (maxSteps:=600000) (disch:=(first | omega | decide)) only [go_sem,↓reduceIte,seval]
  first | done | rfl | exact ⟨rfl,rfl⟩ | simp [A.under]
 ·rintro ⟨k,hk⟩
  simp only
  have hsum:(a ++ b).length = a.length + b.length:=List.length_append
  have hw:IntKind.i64.wrap ((a.length:Int) + (b.length:Int)) = (((a ++ b).length:Nat):Int):=by rw [wrap_i64 (by omega)]; omega
  have hlen:=foldE_len ((a ++ b).take k) [[]]
  have hok:=foldE_ok ((a ++ b).take k) [[]] (by simp)
  rw [List.length_take,Nat.min_eq_left hk,List.length_singleton] at hlen
  by_cases hlt:k < (a ++ b).length
  ·have hlt':(k:Int) < (((a ++ b).length:Nat):Int):=by omega
   have hst:=foldE_step (a ++ b) [[]] k hlt
   have hokx:(a ++ b)[k].ok:=by
    have:=List.getElem_mem hlt
    rcases List.mem_append.1 this with h | h
    ·exact oka _ h
    ·exact okb _ h
   have next:∀ es',((a ++ b).take (k + 1)).foldl putE [[]] = es' → ∃ j:{k:Nat // k ≤ (a ++ b).length},((k:Int) + 1 = (j.1:Int) ∧ es'.map A.str = (((a ++ b).take j.1).foldl putE [[]]).map A.str) ∧ (a ++ b).length - j.1 < (a ++ b).length - k:=fun es' h=>⟨⟨k + 1,hlt⟩,⟨by simp,by rw [h]⟩,by show (a ++ b).length - (k + 1) < _; omega⟩
   generalize hes:((a ++ b).take k).foldl putE [[]] = es at *
   by_cases hka:k < a.length
   ·have hka':(k:Int) < (a.length:Int):=by omega
    have e1:=rng_get hka
    have ex:(a ++ b)[k] = a[k]:=List.getElem_append_left hka
    rw [ex] at hst hokx
    generalize hx:a[k] = x at *
    obtain ⟨lo,hi,op⟩:=x
    have ok1:lo.length ≤ 9223372036854775807 ∧ hi.length ≤ 9223372036854775807:=hokx
    have p1:=t_ref08_put (l:=es) (n:=lo) (by omega) hok ok1.1
    have p2:=t_ref08_put (l:=putB es lo) (n:=hi) (by have:=putB_len es lo; omega) (fun x hx=>by
     rcases (putB_mem es lo x).1 hx with rfl | hx
     ·exact ok1.1
     ·exact hok x hx) ok1.2
    cases h1:rightR ⟨lo,hi,op⟩ with
    | false=>
     have hs:=next es (by rw [hst]; unfold putE; rw [h1]; rfl)
     simp -implicitDefEqProofs (maxSteps:=600000) (disch:=(first | omega | decide)) only [go_sem,↓reduceIte,seval,hw,hlt',hka',e1,ok1,h1,wrap_i64,List.length_map]
     exact hs
    | true=>
     cases op with
     | true=>
          have hs:=next (putB es lo) (by rw [hst]; unfold putE; rw [h1]; rfl)
          simp -implicitDefEqProofs (maxSteps:=600000) (disch:=(first | omega | decide)) only [go_sem,↓reduceIte,seval,hw,hlt',hka',e1,ok1,h1,p1,wrap_i64,List.length_map]
          exact hs
     | false=>
          have hs:=next (putB (putB es lo) hi) (by rw [hst]; unfold putE; rw [h1]; rfl)
          simp -implicitDefEqProofs (maxSteps:=600000) (disch:=(first | omega | decide)) only [go_sem,↓reduceIte,seval,hw,hlt',hka',e1,ok1,h1,p1,p2,wrap_i64,List.length_map]
          exact hs
   ·have hka':¬ (k:Int) < (a.length:Int):=by omega
    have hkb:k - a.length < b.length:=by omega
    have e1:=rng_get hkb
    have ex:(a ++ b)[k] = b[k - a.length]:=List.getElem_append_right (by omega)
    have t0:((k:Int) - (a.length:Int)).toNat = k - a.length:=by omega
    have t1:(0:Int) ≤ (k:Int) - (a.length:Int):=by omega
    rw [ex] at hst hokx
    generalize hx:b[k - a.length] = x at *
    obtain ⟨lo,hi,op⟩:=x
    have ok1:lo.length ≤ 9223372036854775807 ∧ hi.length ≤ 9223372036854775807:=hokx
    have p1:=t_ref08_put (l:=es) (n:=lo) (by omega) hok ok1.1
    have p2:=t_ref08_put (l:=putB es lo) (n:=hi) (by have:=putB_len es lo; omega) (fun x hx=>by
     rcases (putB_mem es lo x).1 hx with rfl | hx
     ·exact ok1.1
     ·exact hok x hx) ok1.2
    cases h1:rightR ⟨lo,hi,op⟩ with
    | false=>
     have hs:=next es (by rw [hst]; unfold putE; rw [h1]; rfl)
     simp -implicitDefEqProofs (maxSteps:=600000) (disch:=(first | omega | decide)) only [go_sem,↓reduceIte,seval,hw,hlt',hka',e1,t0,t1,ok1,h1,wrap_i64,List.length_map]
     exact hs
    | true=>
     cases op with
     | true=>
          have hs:=next (putB es lo) (by rw [hst]; unfold putE; rw [h1]; rfl)
          simp -implicitDefEqProofs (maxSteps:=600000) (disch:=(first | omega | decide)) only [go_sem,↓reduceIte,seval,hw,hlt',hka',e1,t0,t1,ok1,h1,p1,wrap_i64,List.length_map]
          exact hs
     | false=>
          have hs:=next (putB (putB es lo) hi) (by rw [hst]; unfold putE; rw [h1]; rfl)
          simp -implicitDefEqProofs (maxSteps:=600000) (disch:=(first | omega | decide)) only [go_sem,↓reduceIte,seval,hw,hlt',hka',e1,t0,t1,ok1,h1,p1,p2,wrap_i64,List.length_map]
          exact hs
  ·have hlt':¬ (k:Int) < (((a ++ b).length:Nat):Int):=by omega
   have hfin:((a ++ b).take k).foldl putE [[]] = edgesS a b:=by rw [List.take_of_length_le (by omega)]; rfl
   simp -implicitDefEqProofs (maxSteps:=600000) (disch:=(first | omega | decide)) only [go_sem,↓reduceIte,seval,hw,hlt',hfin,List.length_map]
end Go.Proofs.YtjfdlpagcgpaoaaGreat
namespace Go.Proofs.YtjfdlpagcgpaoaaGreat
open Go.Abs
set_option linter.unusedSimpArgs false
set_option linter.unusedVariables false
set_option maxRecDepth 20000
set_option maxHeartbeats 4000000
def rowS (acc:List Rng):List A:=acc.reverse.map Rng.enc
theorem rowS_cons (q:Rng) (qs:List Rng):rowS (q :: qs) = rowS qs ++ [.agg [.str q.lo,.str q.hi,.bool q.op]]:=by
 simp [rowS,Rng.enc]
theorem rowS_len (l:List Rng):(rowS l).length = l.length:=by simp [rowS]
theorem rowS_nil:rowS [] = []:=rfl
theorem str_get {l:List (List UInt8)} {k:Nat} (h:k < l.length):(l.map A.str)[k]? = some (.str l[k]):=by
 rw [List.getElem?_map,List.getElem?_eq_getElem h]; rfl
section
variable (q:Rng) (qs:List Rng)
theorem rowS_get' (x:A):(rowS qs ++ [x])[qs.length]? = some x:=by
 have:=get_last (x:=x) (l:=rowS qs)
 rwa [rowS_len] at this
theorem rowS_set (x v:A):setNth (rowS qs ++ [x]) qs.length v = rowS qs ++ [v]:=by
 have:=setNth_last (x:=x) (v:=v) (l:=rowS qs)
 rwa [rowS_len] at this
theorem rowS_full (x:A):(rowS qs ++ [x]).length = qs.length + 1:=by rw [List.length_append,rowS_len]; rfl
theorem rowS_take (x:A):(rowS qs ++ [x]).take (qs.length + 1) = rowS qs ++ [x]:=List.take_of_length_le (Nat.le_of_eq (rowS_full qs x))
end
end Go.Proofs.YtjfdlpagcgpaoaaGreat
namespace Go.Proofs
open Go.Shelf
def YtjfdlpagcgpaoaaGreat.sortRng_ren:Go.Shelf.Ren:=⟨fun | 6=>196 | 15=>140 | 14=>236 | 28=>192 | 29=>193 | 20=>256 | 21=>257 | 22=>258 | 23=>259 | 24=>260 | 25=>261 | 26=>262 | 27=>263 | 46=>285 | 47=>232 | 48=>233 | 49=>286 | 50=>287 | 57=>303 | n=>n,fun | 22=>22 | 24=>104 | 25=>213 | 3=>3 | 39=>162 | 0=>0 | 53=>48 | 55=>210 | 4=>4 | 46=>202 | 45=>201 | 50=>206 | 5=>5 | 9=>9 | 66=>234 | 70=>238 | 76=>254 | 77=>255 | n=>n,fun | n=>n⟩
theorem YtjfdlpagcgpaoaaGreat.sortRng:Go.Proofs.SlLaysF0.n6 Tryz.prog YtjfdlpagcgpaoaaGreat.sortRng_ren:={
 mixed:=by kernel_rfl
 f6:=⟨Tryz.f196.name,by decide,Tryz.func196.trans (congrArg some (by kernel_rfl))⟩
 f14:=⟨Tryz.f236.name,by decide,Tryz.func236.trans (congrArg some (by kernel_rfl))⟩
 f15:=Tryz.func140.trans (congrArg some (by kernel_rfl))
 f20:=⟨Tryz.f256.name,by decide,Tryz.func256.trans (congrArg some (by kernel_rfl))⟩
 f21:=⟨Tryz.f257.name,by decide,Tryz.func257.trans (congrArg some (by kernel_rfl))⟩
 f22:=⟨Tryz.f258.name,by decide,Tryz.func258.trans (congrArg some (by kernel_rfl))⟩
 f23:=⟨Tryz.f259.name,by decide,Tryz.func259.trans (congrArg some (by kernel_rfl))⟩
 f24:=⟨Tryz.f260.name,by decide,Tryz.func260.trans (congrArg some (by kernel_rfl))⟩
 f25:=⟨Tryz.f261.name,by decide,Tryz.func261.trans (congrArg some (by kernel_rfl))⟩
 f26:=⟨Tryz.f262.name,by decide,Tryz.func262.trans (congrArg some (by kernel_rfl))⟩
 f27:=⟨Tryz.f263.name,by decide,Tryz.func263.trans (congrArg some (by kernel_rfl))⟩
 f28:=Tryz.func192.trans (congrArg some (by kernel_rfl))
 f29:=Tryz.func193.trans (congrArg some (by kernel_rfl))
 f46:=⟨Tryz.f285.name,by decide,Tryz.func285.trans (congrArg some (by kernel_rfl))⟩
 f47:=Tryz.func232.trans (congrArg some (by kernel_rfl))
 f48:=Tryz.func233.trans (congrArg some (by kernel_rfl))
 f49:=⟨Tryz.f286.name,by decide,Tryz.func286.trans (congrArg some (by kernel_rfl))⟩
 f50:=⟨Tryz.f287.name,by decide,Tryz.func287.trans (congrArg some (by kernel_rfl))⟩
 f57:=⟨Tryz.f303.name,by decide,Tryz.func303.trans (congrArg some (by kernel_rfl))⟩
 t0:=Tryz.underlying0
 a0:=Tryz.isAgg0
 z0:=Tryz.sizeOf0
 v0:=Tryz.zeroValue0
 t3:=Tryz.underlying3
 a3:=Tryz.isAgg3
 z3:=Tryz.sizeOf3
 v3:=Tryz.zeroValue3
 t4:=Tryz.underlying4
 a4:=Tryz.isAgg4
 z4:=Tryz.sizeOf4
 v4:=Tryz.zeroValue4
 t5:=Tryz.underlying5
 a5:=Tryz.isAgg5
 z5:=Tryz.sizeOf5
 v5:=Tryz.zeroValue5
 t9:=Tryz.underlying9
 a9:=Tryz.isAgg9
 z9:=Tryz.sizeOf9
 v9:=Tryz.zeroValue9
 t22:=Tryz.underlying22
 a22:=Tryz.isAgg22
 z22:=Tryz.sizeOf22
 v22:=Tryz.zeroValue22
 t25:=Tryz.underlying213
 a25:=Tryz.isAgg213
 z25:=Tryz.sizeOf213
 v25:=Tryz.zeroValue213
 t39:=Tryz.underlying162
 a39:=Tryz.isAgg162
 z39:=Tryz.sizeOf162
 v39:=Tryz.zeroValue162
 t45:=Tryz.underlying201
 a45:=Tryz.isAgg201
 z45:=Tryz.sizeOf201
 v45:=Tryz.zeroValue201
 t46:=Tryz.underlying202
 a46:=Tryz.isAgg202
 z46:=Tryz.sizeOf202
 v46:=Tryz.zeroValue202
 t50:=Tryz.underlying206
 a50:=Tryz.isAgg206
 z50:=Tryz.sizeOf206
 v50:=Tryz.zeroValue206
 t53:=Tryz.underlying48
 a53:=Tryz.isAgg48
 z53:=Tryz.sizeOf48
 v53:=Tryz.zeroValue48
 t55:=Tryz.underlying210
 a55:=Tryz.isAgg210
 z55:=Tryz.sizeOf210
 v55:=Tryz.zeroValue210
 t66:=Tryz.underlying234
 a66:=Tryz.isAgg234
 z66:=Tryz.sizeOf234
 v66:=Tryz.zeroValue234
 t70:=Tryz.underlying238
 a70:=Tryz.isAgg238
 z70:=Tryz.sizeOf238
 v70:=Tryz.zeroValue238
 t76:=Tryz.underlying254
 a76:=Tryz.isAgg254
 z76:=Tryz.sizeOf254
 v76:=Tryz.zeroValue254
 t77:=Tryz.underlying255
 a77:=Tryz.isAgg255
 z77:=Tryz.sizeOf255
 v77:=Tryz.zeroValue255 }
end Go.Proofs
namespace Go.Proofs.YtjfdlpagcgpaoaaGreat
open Go.Abs
set_option linter.unusedSimpArgs false
set_option linter.unusedVariables false
set_option maxRecDepth 20000
set_option maxHeartbeats 8000000
theorem ok_ranges_Of_1:codeOK Tryz.prog T07 Tryz.f197.ntmps (Tryz.f197.body.getD .skip) = true:=by kernel_rfl
theorem c_rOf1 (a b:Rng) (ha:a.ok) (hb:b.ok):CallA Tryz.prog 197 [.agg [.str a.lo,.str a.hi,.bool a.op],.agg [.str b.lo,.str b.hi,.bool b.op]] (· = .int .i64 (cmpB a.lo b.lo)):=by
 refine callA_of_body T07_ok mixed Tryz.func197 rfl (Nat.le_of_ble_eq_true rfl) ok_ranges_Of_1 ?_
 unfold Tryz.f197
 obtain ⟨a1,a2⟩:=ha
 obtain ⟨b1,b2⟩:=hb
 simp -implicitDefEqProofs (maxSteps:=600000) (disch:=(first | omega | decide)) only [go_sem,↓reduceIte,seval,a1,b1]
abbrev RngB:={r:Rng // rightR r = true}
instance:Inhabited RngB:=⟨⟨⟨[],[],true⟩,by decide⟩⟩
def cfR (a b:RngB):Int:=cmpB a.1.lo b.1.lo
def RngB.cells (r:RngB):List A:=[.str r.1.lo,.str r.1.hi,.bool r.1.op]
theorem cmp_neg_iff {a b:List UInt8}:cmpB a b < 0 ↔ ltB a b = true:=by
 have:=@cmp_lt0 a b
 rw [← this,decide_eq_true_iff]
theorem swoR:Go.Sort.SWO (Go.Proofs.ltOf cfR):=by
 have hl:∀ a b,Go.Proofs.ltOf cfR a b = ltB a.1.lo b.1.lo:=fun a b=>by
  unfold Go.Proofs.ltOf cfR
  exact cmp_lt0
 refine ⟨fun x=>?_,fun x y z h1 h2=>?_,fun x y z h1 h2=>?_⟩
 ·rw [hl]; exact lt_irrefl _
 ·rw [hl] at *; exact lt_trans' h1 h2
 ·rw [hl] at *; exact not_lt_trans h2 h1
theorem rng_ok17 {r:Rng} (h:rightR r = true):r.ok:=by
 obtain ⟨k1,k2,_,_⟩:=right_parts h
 exact ⟨by omega,by omega⟩
theorem c_SortFunc_Rng (l:List RngB) (hl:l.length < 4611686018427387904):CallH Tryz.prog 196 [.row 0 0 3 l.length false,.fn 197 []] [.row 3 (l.map fun x=>.agg x.cells)]
 (.tup []) [.row 3 ((sortL cfR l).map fun x=>.agg x.cells)] []:=
 sort_struct Go.Proofs.YtjfdlpagcgpaoaaGreat.sortRng (by omega) Tryz.isAgg104 Tryz.sizeOf104 RngB.cells (fun _=>rfl) (fun x a ha=>by
  simp only [RngB.cells,List.mem_cons,List.not_mem_nil,or_false] at ha
  rcases ha with rfl | rfl | rfl <;> rfl) cfR swoR (callable_of Tryz.func197 (by kernel_rfl) (by kernel_rfl)) (fun x y=>c_rOf1 x.1 y.1 (rng_ok17 x.2) (rng_ok17 y.2)) l hl false
def pickR (l:List Rng):List RngB:=(l.filter rightR).attach.map fun x=>⟨x.1,(List.mem_filter.1 x.2).2⟩
theorem pickR_val (l:List Rng):(pickR l).map (·.1) = l.filter rightR:=by
 unfold pickR
 rw [List.map_map]
 exact List.attach_map_subtype_val _
theorem pickR_cells (l:List Rng):(pickR l).map (fun x=>A.agg x.cells) = (l.filter rightR).map Rng.enc:=by
 rw [← pickR_val,List.map_map]; rfl
noncomputable def srtR (l:List Rng):List Rng:=(sortL cfR (pickR l)).map (·.1)
theorem srtR_cells (l:List Rng):(sortL cfR (pickR l)).map (fun x=>A.agg x.cells) = (srtR l).map Rng.enc:=by
 unfold srtR; rw [List.map_map]; rfl
theorem srtR_perm (l:List Rng):(srtR l).Perm (l.filter rightR):=by
 rw [← pickR_val]; exact (sortL_spec swoR (pickR l)).1.map _
theorem srtR_one (l:List Rng):∀ r ∈ srtR l,rightR r = true:=fun r hr=>by
 unfold srtR at hr
 obtain ⟨x,_,rfl⟩:=List.mem_map.1 hr
 exact x.2
theorem srtR_up (l:List Rng):(srtR l).Pairwise (fun x y=>ltB y.lo x.lo = false):=by
 unfold srtR
 rw [List.pairwise_map]
 exact (sortL_spec swoR (pickR l)).2.imp fun {x y} h=>by
  unfold cfR at h
  rw [cmp_neg_iff] at h
  simpa using h
theorem srtR_has (l:List Rng) (s:List UInt8):hasRs (srtR l) s = hasRs l s:=by
 rw [hasRs_perm (srtR_perm l),hasRs_filter]
theorem srtR_all (l:List Rng):((srtR l).foldl pushS []).reverse = setS (hasRs l):=by
 rw [foldS_all (srtR_one l) (srtR_up l)]
 congr 1; funext s; exact srtR_has l s
def rgE (l:List RngB):List A:=[.row 0 0 3 l.length false,.fn 197 []]
def rgO (l:List RngB):List Go.Abs.Obj:=[.row 3 (l.map fun x=>.agg x.cells)]
def rgK (l:List RngB):Prop:=l.length < 4611686018427387904
noncomputable def rgR (l:List RngB):A × List Go.Abs.Obj × List Nat:=(.tup [],[.row 3 ((sortL cfR l).map fun x=>.agg x.cells)],[])
theorem rngB_inj (x y:RngB) (h:A.agg x.cells = A.agg y.cells):x = y:=Subtype.ext (Rng.enc_inj _ _ h)
theorem rgO_inj (i j:List RngB) (h:rgO i = rgO j):i = j:=by
 simp only [rgO,List.cons.injEq,Go.Abs.Obj.row.injEq,true_and,and_true] at h
 rwa [map_inj rngB_inj] at h
noncomputable def R8a:Tab:=T07.addH 196 (entryH rgE rgO rgK rgR)
noncomputable def R8:Tab:={ R8a with eff:=fun f=>f == 196,ords:=fun n=>if n = 17 then [[0,1,2,3,4,5,6,7,8,10,11,9,12,13,14,15],[0,1,2,3,4,5,6,7,8,10,11,12,9,13,14,15]] else [] }
theorem R8a_ok:TabOK Tryz.prog R8a:=T07_ok.addH (callable_of Tryz.func196 (by kernel_rfl) (by kernel_rfl)) (entryH_ok fun l h=>c_SortFunc_Rng l h)
theorem R8_ok:TabOK Tryz.prog R8:=⟨R8a_ok.f,R8a_ok.hp⟩
@[go_sem] theorem R8_f:R8.f = T07.f:=rfl
@[go_sem] theorem R8_eff {g:FuncId}:R8.eff g = (g == 196):=rfl
@[go_sem] theorem R8_frz {g:FuncId}:R8.frz g = T07.frz g:=rfl
@[go_sem] theorem R8_fix {n:Nat}:R8.fix n = false:=rfl
@[go_sem] theorem R8_ords17:R8.ords 17 = [[0,1,2,3,4,5,6,7,8,10,11,9,12,13,14,15],[0,1,2,3,4,5,6,7,8,10,11,12,9,13,14,15]]:=rfl
@[go_sem] theorem R8_ords {n:Nat} (h:n ≠ 17):R8.ords n = []:=if_neg h
theorem R8_sort {l:List Rng} {n:Nat} (hn:n = (l.filter rightR).length) (h:l.length < 4611686018427387904):R8.hp 196 [.row 0 0 3 n false,.fn 197 []] [.row 3 ((l.filter rightR).map Rng.enc)] = some (.tup [],[.row 3 ((srtR l).map Rng.enc)],[]):=by
 subst hn
 have hlen:(pickR l).length = (l.filter rightR).length:=by rw [← pickR_val]; simp
 have h0:R8a.hp 196 (rgE (pickR l)) (rgO (pickR l)) = entryH rgE rgO rgK rgR (rgE (pickR l)) (rgO (pickR l)):=Tab.addH_eq
 have h1:R8.hp 196 (rgE (pickR l)) (rgO (pickR l)) = entryH rgE rgO rgK rgR (rgE (pickR l)) (rgO (pickR l)):=h0
 have h2:=h1.trans (entryH_eq (fun i j _ h=>rgO_inj i j h) (pickR l) (show (pickR l).length < 4611686018427387904 by rw [hlen]; exact Nat.lt_of_le_of_lt (List.length_filter_le _ _) h))
 simp only [rgE,rgO,rgR,hlen,pickR_cells,srtR_cells] at h2
 exact h2
theorem foldS_step (l:List Rng) (k:Nat) (h:k < l.length):(l.take (k + 1)).foldl pushS [] = pushS ((l.take k).foldl pushS []) l[k]:=by
 rw [← List.take_append_getElem h,List.foldl_append]; rfl
theorem foldS_len:∀ (l:List Rng) (a:List Rng),(l.foldl pushS a).length ≤ a.length + l.length
 | [],a=>by simp
 | r :: l,a=>by
  have h1:=foldS_len l (pushS a r)
  have h2:=pushS_len a r
  simp only [List.foldl_cons,List.length_cons]; omega
theorem ok_ranges_Of:codeOK Tryz.prog R8 Tryz.f147.ntmps (Tryz.f147.body.getD .skip) = true:=by kernel_rfl
theorem c_ranges_Of (l:List Rng) (hl:l.length ≤ 1000000) (hok:okL l):CallA Tryz.prog 147 [.slc (l.map Rng.enc)] (· = .slc ((setS (hasRs l)).map Rng.enc)):=by
 refine callA_of_body R8_ok mixed Tryz.func147 rfl (Nat.le_of_ble_eq_true rfl) ok_ranges_Of ?_
 unfold Tryz.f147
 simp -implicitDefEqProofs (maxSteps:=600000) (disch:=(first | omega | decide)) only [go_sem,↓reduceIte,seval,List.length_map]
 refine wpA_loop_nil 3 3 rfl ?_
 refine wpA_loop [2,10,11] (ι:={k:Nat // k ≤ l.length}) (fun p=>[(12,.int .i64 p.1),(3,.row 0 0 3 ((l.take p.1).filter rightR).length false)]) (fun p=>[(0,.row 3 (((l.take p.1).filter rightR).map Rng.enc))]) (fun p=>l.length - p.1) ⟨0,by omega⟩ (Nat.zero_le _) ?_ ?_
 ·simp -implicitDefEqProofs (maxSteps:=600000) (disch:=(first | omega | decide)) only [go_sem,↓reduceIte,seval]
  simp
 ·rintro ⟨k,hk⟩
  simp only
  have hf:((l.take k).filter rightR).length ≤ k:=Nat.le_trans (List.length_filter_le _ _) (by rw [List.length_take]; omega)
  by_cases hlt:k < l.length
  ·have hlt':(k:Int) < (l.length:Int):=by omega
   have ht:l.take (k + 1) = l.take k ++ [l[k]]:=(List.take_append_getElem hlt).symm
   have e1:=rng_get hlt
   have ok1:=okL_get hok hlt
   generalize hx:l[k] = x at *
   obtain ⟨lo,hi,op⟩:=x
   simp only at ok1
   cases h1:rightR ⟨lo,hi,op⟩ with
   | true=>
    simp -implicitDefEqProofs (maxSteps:=600000) (disch:=(first | omega | decide)) only [go_sem,↓reduceIte,seval,hlt',e1,ok1,h1,wrap_i64,List.length_map]
    refine ⟨⟨Nat.le_refl _,by omega⟩,⟨k + 1,hlt⟩,⟨⟨by simp,?_⟩,?_⟩,by show l.length - (k + 1) < l.length - k; omega⟩
    ·rw [ht,List.filter_append]; simp [h1]
    ·rw [ht,List.filter_append,List.take_of_length_le (by simp)]; simp [h1,Rng.enc]
   | false=>
    simp -implicitDefEqProofs (maxSteps:=600000) (disch:=(first | omega | decide)) only [go_sem,↓reduceIte,seval,hlt',e1,ok1,h1,wrap_i64,List.length_map]
    refine ⟨⟨k + 1,hlt⟩,⟨⟨by simp,?_⟩,?_⟩,by show l.length - (k + 1) < l.length - k; omega⟩
    ·rw [ht,List.filter_append]; simp [h1]
    ·rw [ht,List.filter_append]; simp [h1]
  ·have hlt':¬ (k:Int) < (l.length:Int):=by omega
   rw [List.take_of_length_le (by omega)] at *
   have hs:=R8_sort (l:=l) rfl (by omega)
   have hp:=(srtR_perm l).length_eq
   have hall:=srtR_all l
   have hone:=srtR_one l
   have hup:=srtR_up l
   rw [← hp] at hf
   simp -implicitDefEqProofs (maxSteps:=600000) (disch:=(first | omega | decide)) only [go_sem,↓reduceIte,seval,hlt',hs,List.length_map,List.contains_nil,List.contains_cons]
   rw [← hp]
   generalize srtR l = s at *
   refine wpA_loop_nil 6 3 rfl ?_
   refine wpA_loop [2,25,26] (ι:={j:Nat // j ≤ s.length}) (fun p=>[(27,.int .i64 p.1),(6,.row 1 0 3 ((s.take p.1).foldl pushS []).length false)]) (fun p=>[(1,.row 3 (rowS ((s.take p.1).foldl pushS [])))]) (fun p=>s.length - p.1) ⟨0,by omega⟩ (Nat.zero_le _) ?_ ?_
   ·simp -implicitDefEqProofs (maxSteps:=600000) (disch:=(first | omega | decide)) only [go_sem,↓reduceIte,seval]
    simp [rowS]
   ·rintro ⟨j,hj⟩
    simp only
    have hml:=foldS_len (s.take j) []
    rw [List.length_take,List.length_nil,Nat.min_eq_left hj,Nat.zero_add] at hml
    by_cases hltj:j < s.length
    ·have hltj':(j:Int) < (s.length:Int):=by omega
     have e2:=rng_get hltj
     have hst:=foldS_step s j hltj
     have ho:=hone _ (List.getElem_mem hltj)
     have hR:RS ((s.take j).foldl pushS []):=(foldS_push (a:=[]) trivial (fun r hr=>hone r (List.mem_of_mem_take hr)) (hup.sublist (List.take_sublist _ _)) (fun _ _=>trivial)).1
     have fin:∀ m',(s.take (j + 1)).foldl pushS [] = m' → ∃ i:{j:Nat // j ≤ s.length},(((j:Int) + 1 = (i.1:Int) ∧ m'.length = ((s.take i.1).foldl pushS []).length) ∧ rowS m' = rowS ((s.take i.1).foldl pushS [])) ∧ s.length - i.1 < s.length - j:=fun m' hm'=>⟨⟨j + 1,hltj⟩,⟨⟨by simp,by rw [hm']⟩,by rw [hm']⟩,by show s.length - (j + 1) < s.length - j; omega⟩
     generalize hx:s[j] = x at *
     generalize (s.take j).foldl pushS [] = m at *
     have okx:=rng_ok17 ho
     obtain ⟨lo,hi,op⟩:=x
     have okx':lo.length ≤ 9223372036854775807 ∧ hi.length ≤ 9223372036854775807:=okx
     have fin':=fin _ hst
     cases m with
     | nil=>
          rw [rowS_nil]
          simp -implicitDefEqProofs (maxSteps:=600000) (disch:=(first | omega | decide)) only [go_sem,↓reduceIte,seval,hltj',e2,wrap_i64,List.length_map]
          exact fin'
     | cons q qs=>
          have hq:=rs_one hR
          have okq:=rng_ok17 hq
          obtain ⟨qlo,qhi,qop⟩:=q
          have okq':qlo.length ≤ 9223372036854775807 ∧ qhi.length ≤ 9223372036854775807:=okq
          rw [rowS_cons] at *
          have hlq:qs.length + 1 ≤ j:=hml
          have cz:(((qs.length + 1:Nat):Int) == 0) = false:=by
           have:((qs.length + 1:Nat):Int) ≠ 0:=by omega
           simpa using this
          have c1:(((qs.length + 1:Nat):Int) - 1).toNat = qs.length:=by omega
          have c2:(0:Int) ≤ ((qs.length + 1:Nat):Int) - 1:=by omega
          have c3:((qs.length + 1:Nat):Int) - 1 < ((qs.length + 1:Nat):Int):=by omega
          have merge:(qop || !ltB qhi lo) = true → pushS (⟨qlo,qhi,qop⟩ :: qs) ⟨lo,hi,op⟩ = mergeR ⟨qlo,qhi,qop⟩ ⟨lo,hi,op⟩ :: qs:=fun h=>by
           simp only [pushS]; rw [if_pos h]
          cases hqo:qop with
          | true=>
           subst hqo
           have hpj:=merge (by simp)
           by_cases he:endsR ⟨qlo,qhi,true⟩ ⟨lo,hi,op⟩ < 0
           ·have hm:mergeR ⟨qlo,qhi,true⟩ ⟨lo,hi,op⟩ = ⟨qlo,hi,op⟩:=by unfold mergeR; rw [if_pos he]
            rw [hpj,hm,rowS_cons] at fin'
            simp -implicitDefEqProofs (maxSteps:=600000) (disch:=(first | omega | decide)) only [go_sem,↓reduceIte,seval,hltj',e2,okx',okq',cz,c1,c2,c3,he,rowS_get',rowS_set,wrap_i64,List.length_map]
            exact fin'
           ·have hm:mergeR ⟨qlo,qhi,true⟩ ⟨lo,hi,op⟩ = ⟨qlo,qhi,true⟩:=by unfold mergeR; rw [if_neg he]
            rw [hpj,hm,rowS_cons] at fin'
            simp -implicitDefEqProofs (maxSteps:=600000) (disch:=(first | omega | decide)) only [go_sem,↓reduceIte,seval,hltj',e2,okx',okq',cz,c1,c2,c3,he,rowS_get',rowS_set,wrap_i64,List.length_map]
            exact fin'
          | false=>
           subst hqo
           cases hto:ltB qhi lo with
           | false=>
            have hpj:=merge (by rw [hto]; rfl)
            by_cases he:endsR ⟨qlo,qhi,false⟩ ⟨lo,hi,op⟩ < 0
            ·have hm:mergeR ⟨qlo,qhi,false⟩ ⟨lo,hi,op⟩ = ⟨qlo,hi,op⟩:=by unfold mergeR; rw [if_pos he]
             rw [hpj,hm,rowS_cons] at fin'
             simp -implicitDefEqProofs (maxSteps:=600000) (disch:=(first | omega | decide)) only [go_sem,↓reduceIte,seval,hltj',e2,okx',okq',cz,c1,c2,c3,he,hto,rowS_get',rowS_set,wrap_i64,List.length_map]
             exact fin'
            ·have hm:mergeR ⟨qlo,qhi,false⟩ ⟨lo,hi,op⟩ = ⟨qlo,qhi,false⟩:=by unfold mergeR; rw [if_neg he]
             rw [hpj,hm,rowS_cons] at fin'
             simp -implicitDefEqProofs (maxSteps:=600000) (disch:=(first | omega | decide)) only [go_sem,↓reduceIte,seval,hltj',e2,okx',okq',cz,c1,c2,c3,he,hto,rowS_get',rowS_set,wrap_i64,List.length_map]
             exact fin'
           | true=>
            have hpj:pushS (⟨qlo,qhi,false⟩ :: qs) ⟨lo,hi,op⟩ = ⟨lo,hi,op⟩ :: ⟨qlo,qhi,false⟩ :: qs:=by
             simp only [pushS]; rw [if_neg (by rw [hto]; simp)]
            rw [hpj,rowS_cons,rowS_cons] at fin'
            simp -implicitDefEqProofs (maxSteps:=600000) (disch:=(first | omega | decide)) only [go_sem,↓reduceIte,seval,hltj',e2,okx',okq',cz,c1,c2,c3,hto,rowS_get',rowS_set,rowS_full,rowS_take,wrap_i64,List.length_map]
            exact ⟨⟨Nat.le_refl _,by omega⟩,fin'⟩
    ·have hltj':¬ (j:Int) < (s.length:Int):=by omega
     rw [List.take_of_length_le (by omega)] at *
     have hfin:rowS (s.foldl pushS []) = (setS (hasRs l)).map Rng.enc:=by unfold rowS; rw [hall]
     have hll:(s.foldl pushS []).length = (rowS (s.foldl pushS [])).length:=by rw [rowS_len]
     simp -implicitDefEqProofs (maxSteps:=600000) (disch:=(first | omega | decide)) only [go_sem,↓reduceIte,seval,hltj',wrap_i64,hll,List.length_map,List.take_length]
     rw [hfin]
     exact ⟨Nat.le_refl _,rfl⟩
set_option maxHeartbeats 4000000
theorem ok_ranges_Union_1:codeOK Tryz.prog T07 Tryz.f248.ntmps (Tryz.f248.body.getD .skip) = true:=by kernel_rfl
theorem c_rUnion1 (x y:Bool):CallA Tryz.prog 248 [.bool x,.bool y] (· = .bool (x || y)):=by
 refine callA_of_body T07_ok mixed Tryz.func248 rfl (Nat.le_of_ble_eq_true rfl) ok_ranges_Union_1 ?_
 unfold Tryz.f248
 cases x <;> simp -implicitDefEqProofs (maxSteps:=600000) (disch:=(first | omega | decide)) only [go_sem,↓reduceIte,seval]
theorem ok_ranges_Meet_1:codeOK Tryz.prog T07 Tryz.f247.ntmps (Tryz.f247.body.getD .skip) = true:=by kernel_rfl
theorem c_rMeet1 (x y:Bool):CallA Tryz.prog 247 [.bool x,.bool y] (· = .bool (x && y)):=by
 refine callA_of_body T07_ok mixed Tryz.func247 rfl (Nat.le_of_ble_eq_true rfl) ok_ranges_Meet_1 ?_
 unfold Tryz.f247
 cases x <;> simp -implicitDefEqProofs (maxSteps:=600000) (disch:=(first | omega | decide)) only [go_sem,↓reduceIte,seval]
theorem ok_ranges_Not_1:codeOK Tryz.prog T07 Tryz.f249.ntmps (Tryz.f249.body.getD .skip) = true:=by kernel_rfl
theorem c_rNot1 (x y:Bool):CallA Tryz.prog 249 [.bool x,.bool y] (· = .bool (!x)):=by
 refine callA_of_body T07_ok mixed Tryz.func249 rfl (Nat.le_of_ble_eq_true rfl) ok_ranges_Not_1 ?_
 unfold Tryz.f249
 cases x <;> simp -implicitDefEqProofs (maxSteps:=600000) (disch:=(first | omega | decide)) only [go_sem,↓reduceIte,seval]
noncomputable def S8w:Tab:=T07.add 248 (entry (fun (v:Bool × Bool)=>[.bool v.1,.bool v.2]) (fun v=>True) (fun v=>.bool (v.1 || v.2)))
theorem S8w_ok:TabOK Tryz.prog S8w:=T07_ok.add (callable_of Tryz.func248 (by kernel_rfl) (by kernel_rfl)) (entry_ok fun v h=>c_rUnion1 v.1 v.2)
@[go_sem] theorem S8w_old {g:FuncId} {xs:List A} (h:g ≠ 248):S8w.f g xs = T07.f g xs:=Tab.add_ne h
theorem S8w_ranges_Union_1 (v:Bool × Bool) (h:True):S8w.f 248 [.bool v.1,.bool v.2] = some (.bool (v.1 || v.2)):=
 (Tab.add_eq:S8w.f 248 [.bool v.1,.bool v.2] = (entry (fun (v:Bool × Bool)=>[.bool v.1,.bool v.2]) (fun v=>True) (fun v=>.bool (v.1 || v.2))) [.bool v.1,.bool v.2]).trans (entry_eq (fun i j h=>by first | (cases i; cases j; rfl; done) | simpa [Prod.ext_iff,and_assoc] using h | (simp at h; omega) | (simp at h; exact Prod.ext h.1 (Prod.ext h.2.1 (by omega)))) v h)
noncomputable def S8x:Tab:=S8w.add 247 (entry (fun (v:Bool × Bool)=>[.bool v.1,.bool v.2]) (fun v=>True) (fun v=>.bool (v.1 && v.2)))
theorem S8x_ok:TabOK Tryz.prog S8x:=S8w_ok.add (callable_of Tryz.func247 (by kernel_rfl) (by kernel_rfl)) (entry_ok fun v h=>c_rMeet1 v.1 v.2)
@[go_sem] theorem S8x_old {g:FuncId} {xs:List A} (h:g ≠ 247):S8x.f g xs = S8w.f g xs:=Tab.add_ne h
theorem S8x_ranges_Meet_1 (v:Bool × Bool) (h:True):S8x.f 247 [.bool v.1,.bool v.2] = some (.bool (v.1 && v.2)):=
 (Tab.add_eq:S8x.f 247 [.bool v.1,.bool v.2] = (entry (fun (v:Bool × Bool)=>[.bool v.1,.bool v.2]) (fun v=>True) (fun v=>.bool (v.1 && v.2))) [.bool v.1,.bool v.2]).trans (entry_eq (fun i j h=>by first | (cases i; cases j; rfl; done) | simpa [Prod.ext_iff,and_assoc] using h | (simp at h; omega) | (simp at h; exact Prod.ext h.1 (Prod.ext h.2.1 (by omega)))) v h)
noncomputable def S8y:Tab:=S8x
theorem S8y_ok:TabOK Tryz.prog S8y:=S8x_ok
@[go_sem] theorem S8y_old {g:FuncId} {xs:List A}:S8y.f g xs = S8x.f g xs:=rfl
noncomputable def S8z:Tab:=S8y.add 249 (entry (fun (v:Bool × Bool)=>[.bool v.1,.bool v.2]) (fun v=>True) (fun v=>.bool (!v.1)))
theorem S8z_ok:TabOK Tryz.prog S8z:=S8y_ok.add (callable_of Tryz.func249 (by kernel_rfl) (by kernel_rfl)) (entry_ok fun v h=>c_rNot1 v.1 v.2)
@[go_sem] theorem S8z_old {g:FuncId} {xs:List A} (h:g ≠ 249):S8z.f g xs = S8y.f g xs:=Tab.add_ne h
theorem S8z_ranges_Not_1 (v:Bool × Bool) (h:True):S8z.f 249 [.bool v.1,.bool v.2] = some (.bool (!v.1)):=
 (Tab.add_eq:S8z.f 249 [.bool v.1,.bool v.2] = (entry (fun (v:Bool × Bool)=>[.bool v.1,.bool v.2]) (fun v=>True) (fun v=>.bool (!v.1))) [.bool v.1,.bool v.2]).trans (entry_eq (fun i j h=>by first | (cases i; cases j; rfl; done) | simpa [Prod.ext_iff,and_assoc] using h | (simp at h; omega) | (simp at h; exact Prod.ext h.1 (Prod.ext h.2.1 (by omega)))) v h)
def isOpR (g:FuncId):Bool:=false || g == 248 || g == 247 || g == 249
def kpR (g:FuncId):Bool → Bool → Bool:=if g = 248 then (· || ·) else if g = 247 then (· && ·) else fun x _=>!x
theorem kpR_z {g:FuncId} (h:isOpR g = true) (x y:Bool):S8z.f g [.bool x,.bool y] = some (.bool (kpR g x y)):=by
 by_cases e1:g = 248
 ·subst e1
  have h1:=S8w_ranges_Union_1 (x,y) trivial
  show S8z.f _ _ = some (.bool (x || y))
  simp -implicitDefEqProofs (maxSteps:=600000) (disch:=(first | omega | decide)) only [go_sem,↓reduceIte,seval,h1]
 by_cases e2:g = 247
 ·subst e2
  have h1:=S8x_ranges_Meet_1 (x,y) trivial
  show S8z.f _ _ = some (.bool (x && y))
  simp -implicitDefEqProofs (maxSteps:=600000) (disch:=(first | omega | decide)) only [go_sem,↓reduceIte,seval,h1]
 by_cases e4:g = 249
 ·subst e4
  have h1:=S8z_ranges_Not_1 (x,y) trivial
  show S8z.f _ _ = some (.bool (!x))
  simp -implicitDefEqProofs (maxSteps:=600000) (disch:=(first | omega | decide)) only [go_sem,↓reduceIte,seval,h1]
 exfalso
 simp_all [isOpR]
end Go.Proofs.YtjfdlpagcgpaoaaGreat
namespace Go.Proofs.YtjfdlpagcgpaoaaGreat
open Go.Abs
set_option linter.unusedSimpArgs false
set_option linter.unusedVariables false
set_option maxRecDepth 20000
set_option maxHeartbeats 8000000
theorem setS_len (l:List Rng):(setS (hasRs l)).length ≤ l.length:=by
 rw [← srtR_all,List.length_reverse]
 have h1:=foldS_len (srtR l) []
 have h2:=(srtR_perm l).length_eq
 have h3:=List.length_filter_le rightR l
 rw [List.length_nil] at h1
 omega
theorem setS_ok (p:List UInt8 → Bool):okL (setS p):=fun r hr=>rng_ok17 ((rightRs_can.1 (setS_right p)).1 r hr)
noncomputable def S8a:Tab:=S8z.add 147 (entry (fun (l:List Rng)=>[.slc (l.map Rng.enc)]) (fun l=>l.length ≤ 1000000 ∧ okL l) (fun l=>.slc ((setS (hasRs l)).map Rng.enc)))
theorem S8a_ok:TabOK Tryz.prog S8a:=S8z_ok.add (callable_of Tryz.func147 (by kernel_rfl) (by kernel_rfl)) (entry_ok fun l h=>c_ranges_Of l h.1 h.2)
@[go_sem] theorem S8a_old {g:FuncId} {xs:List A} (h:g ≠ 147):S8a.f g xs = S8z.f g xs:=Tab.add_ne h
theorem S8a_ranges_Of (l:List Rng) (h:l.length ≤ 1000000 ∧ okL l):S8a.f 147 [.slc (l.map Rng.enc)] = some (.slc ((setS (hasRs l)).map Rng.enc)):=
 (Tab.add_eq:S8a.f 147 [.slc (l.map Rng.enc)] = (entry (fun (l:List Rng)=>[.slc (l.map Rng.enc)]) (fun l=>l.length ≤ 1000000 ∧ okL l) (fun l=>.slc ((setS (hasRs l)).map Rng.enc))) [.slc (l.map Rng.enc)]).trans (entry_eq (fun i j h=>by first | (cases i; cases j; rfl; done) | simpa [Prod.ext_iff,and_assoc] using h | (simp at h; omega) | (simp at h; exact Prod.ext h.1 (Prod.ext h.2.1 (by omega)))) l h)
noncomputable def S8b:Tab:=S8a.add 69 (entry (fun (l:List Rng)=>[.slc (l.map Rng.enc)]) (fun l=>l.length ≤ 1000000 ∧ okL l) (fun l=>.bool (rightRs l)))
theorem S8b_ok:TabOK Tryz.prog S8b:=S8a_ok.add (callable_of Tryz.func69 (by kernel_rfl) (by kernel_rfl)) (entry_ok fun l h=>c_ranges_Right l (by omega) h.2)
@[go_sem] theorem S8b_old {g:FuncId} {xs:List A} (h:g ≠ 69):S8b.f g xs = S8a.f g xs:=Tab.add_ne h
@[go_sem] theorem S8b_eff {g:FuncId}:S8b.eff g = false:=rfl
@[go_sem] theorem S8b_ords {n:Nat}:S8b.ords n = []:=rfl
theorem S8b_ranges_Right (l:List Rng) (h:l.length ≤ 1000000 ∧ okL l):S8b.f 69 [.slc (l.map Rng.enc)] = some (.bool (rightRs l)):=
 (Tab.add_eq:S8b.f 69 [.slc (l.map Rng.enc)] = (entry (fun (l:List Rng)=>[.slc (l.map Rng.enc)]) (fun l=>l.length ≤ 1000000 ∧ okL l) (fun l=>.bool (rightRs l))) [.slc (l.map Rng.enc)]).trans (entry_eq (fun i j h=>by first | (cases i; cases j; rfl; done) | simpa [Prod.ext_iff,and_assoc] using h | (simp at h; omega) | (simp at h; exact Prod.ext h.1 (Prod.ext h.2.1 (by omega)))) l h)
theorem s_ranges_Of {l:List Rng} (h:l.length ≤ 1000000) (h1:okL l):S8a.f 147 [.slc (l.map Rng.enc)] = some (.slc ((setS (hasRs l)).map Rng.enc)):=S8a_ranges_Of l ⟨h,h1⟩
theorem s_ranges_Right {l:List Rng} (h:l.length ≤ 1000000) (h1:okL l):S8b.f 69 [.slc (l.map Rng.enc)] = some (.bool (rightRs l)):=S8b_ranges_Right l ⟨h,h1⟩
theorem ok_ranges_right:codeOK Tryz.prog S8b Tryz.f142.ntmps (Tryz.f142.body.getD .skip) = true:=by kernel_rfl
theorem c_ranges_right (l:List Rng) (h:l.length ≤ 1000000) (h1:okL l):CallA Tryz.prog 142 [.slc (l.map Rng.enc)] (· = .slc ((setS (hasRs l)).map Rng.enc)):=by
 refine callA_of_body S8b_ok mixed Tryz.func142 rfl (Nat.le_of_ble_eq_true rfl) ok_ranges_right ?_
 unfold Tryz.f142
 have e1:=s_ranges_Of h h1
 have e2:=s_ranges_Right h h1
 cases hr:rightRs l with
 | true=>
  rw [hr] at e2
  simp -implicitDefEqProofs (maxSteps:=600000) (disch:=(first | omega | decide)) only [go_sem,↓reduceIte,seval,e2,List.length_map]
  rw [setS_self hr]
 | false=>
  rw [hr] at e2
  simp -implicitDefEqProofs (maxSteps:=600000) (disch:=(first | omega | decide)) only [go_sem,↓reduceIte,seval,e1,e2,List.length_map]
noncomputable def S8c:Tab:=S8b.add 142 (entry (fun (l:List Rng)=>[.slc (l.map Rng.enc)]) (fun l=>l.length ≤ 1000000 ∧ okL l) (fun l=>.slc ((setS (hasRs l)).map Rng.enc)))
theorem S8c_ok:TabOK Tryz.prog S8c:=S8b_ok.add (callable_of Tryz.func142 (by kernel_rfl) (by kernel_rfl)) (entry_ok fun l h=>c_ranges_right l h.1 h.2)
@[go_sem] theorem S8c_old {g:FuncId} {xs:List A} (h:g ≠ 142):S8c.f g xs = S8b.f g xs:=Tab.add_ne h
theorem S8c_ranges_right (l:List Rng) (h:l.length ≤ 1000000 ∧ okL l):S8c.f 142 [.slc (l.map Rng.enc)] = some (.slc ((setS (hasRs l)).map Rng.enc)):=
 (Tab.add_eq:S8c.f 142 [.slc (l.map Rng.enc)] = (entry (fun (l:List Rng)=>[.slc (l.map Rng.enc)]) (fun l=>l.length ≤ 1000000 ∧ okL l) (fun l=>.slc ((setS (hasRs l)).map Rng.enc))) [.slc (l.map Rng.enc)]).trans (entry_eq (fun i j h=>by first | (cases i; cases j; rfl; done) | simpa [Prod.ext_iff,and_assoc] using h | (simp at h; omega) | (simp at h; exact Prod.ext h.1 (Prod.ext h.2.1 (by omega)))) l h)
theorem s_ranges_right {l:List Rng} (h:l.length ≤ 1000000) (h1:okL l):S8c.f 142 [.slc (l.map Rng.enc)] = some (.slc ((setS (hasRs l)).map Rng.enc)):=S8c_ranges_right l ⟨h,h1⟩
noncomputable def S8d:Tab:=S8c.add 282 (entry (fun (v:List Rng × List Rng)=>[.slc (v.1.map Rng.enc),.slc (v.2.map Rng.enc)]) (fun v=>v.1.length ≤ 1000000 ∧ v.2.length ≤ 1000000 ∧ (∀ r ∈ v.1,rightR r = true) ∧ (∀ r ∈ v.2,rightR r = true)) (fun v=>.slc ((edgesT v.1 v.2).map .str)))
theorem S8d_ok:TabOK Tryz.prog S8d:=S8c_ok.add (callable_of Tryz.func282 (by kernel_rfl) (by kernel_rfl)) (entry_ok fun v h=>c_ranges_edges v.1 v.2 h.1 h.2.1 h.2.2.1 h.2.2.2)
@[go_sem] theorem S8d_old {g:FuncId} {xs:List A} (h:g ≠ 282):S8d.f g xs = S8c.f g xs:=Tab.add_ne h
@[go_sem] theorem S8d_eff {g:FuncId}:S8d.eff g = false:=rfl
@[go_sem] theorem S8d_effT:S8d.effT = false:=rfl
@[go_sem] theorem S8d_fix {n:Nat}:S8d.fix n = false:=rfl
@[go_sem] theorem S8d_ords {n:Nat}:S8d.ords n = []:=rfl
theorem S8d_ranges_edges (v:List Rng × List Rng) (h:v.1.length ≤ 1000000 ∧ v.2.length ≤ 1000000 ∧ (∀ r ∈ v.1,rightR r = true) ∧ (∀ r ∈ v.2,rightR r = true)):S8d.f 282 [.slc (v.1.map Rng.enc),.slc (v.2.map Rng.enc)] = some (.slc ((edgesT v.1 v.2).map .str)):=
 (Tab.add_eq:S8d.f 282 [.slc (v.1.map Rng.enc),.slc (v.2.map Rng.enc)] = (entry (fun (v:List Rng × List Rng)=>[.slc (v.1.map Rng.enc),.slc (v.2.map Rng.enc)]) (fun v=>v.1.length ≤ 1000000 ∧ v.2.length ≤ 1000000 ∧ (∀ r ∈ v.1,rightR r = true) ∧ (∀ r ∈ v.2,rightR r = true)) (fun v=>.slc ((edgesT v.1 v.2).map .str))) [.slc (v.1.map Rng.enc),.slc (v.2.map Rng.enc)]).trans (entry_eq (fun i j h=>by first | (cases i; cases j; rfl; done) | simpa [Prod.ext_iff,and_assoc] using h | (simp at h; omega) | (simp at h; exact Prod.ext h.1 (Prod.ext h.2.1 (by omega)))) v h)
theorem s_ranges_edges {a b:List Rng} (ha:a.length ≤ 1000000) (hb:b.length ≤ 1000000) (ra:∀ r ∈ a,rightR r = true) (rb:∀ r ∈ b,rightR r = true):S8d.f 282 [.slc (a.map Rng.enc),.slc (b.map Rng.enc)] = some (.slc ((edgesT a b).map .str)):=S8d_ranges_edges (a,b) ⟨ha,hb,ra,rb⟩
section
variable {a b:List Rng} (ra:∀ r ∈ a,rightR r = true) (rb:∀ r ∈ b,rightR r = true)
include ra rb
theorem raw17:∀ s ∈ rawE [[]] (a ++ b),s.length ≤ 17:=fun s hs=>by
 rcases (rawE_mem _ _ _).1 hs with h | ⟨r,hr,h⟩
 ·simp at h; subst h; simp
 ·have hrr:rightR r = true:=by
   rcases List.mem_append.1 hr with hr | hr
   ·exact ra r hr
   ·exact rb r hr
  obtain ⟨k1,k2,_,_⟩:=right_parts hrr
  rcases h with rfl | ⟨_,rfl⟩
  ·exact k1
  ·exact k2
theorem edgesT_mem (x:List UInt8):x ∈ edgesT a b ↔ x ∈ rawE [[]] (a ++ b):=by
 unfold edgesT
 rw [compL_mem]
 exact (sortT_spec (raw17 ra rb)).1.mem_iff
theorem edgesT_up:(edgesT a b).Pairwise (fun x y=>ltB x y = true):=comp_up (sortT_spec (raw17 ra rb)).2
theorem edgesT_nil:[] ∈ edgesT a b:=(edgesT_mem ra rb []).2 ((rawE_mem _ _ _).2 (.inl (by simp)))
theorem edgesT_17:∀ e ∈ edgesT a b,e.length ≤ 17:=fun e he=>raw17 ra rb e ((edgesT_mem ra rb e).1 he)
theorem edgesT_all:∀ r ∈ a ++ b,r.lo ∈ edgesT a b ∧ (r.op = false → r.hi ∈ edgesT a b):=fun r hr=>⟨(edgesT_mem ra rb _).2 ((rawE_mem _ _ _).2 (.inr ⟨r,hr,.inl rfl⟩)),fun ho=>(edgesT_mem ra rb _).2 ((rawE_mem _ _ _).2 (.inr ⟨r,hr,.inr ⟨ho,rfl⟩⟩))⟩
theorem edgesT_len:(edgesT a b).length ≤ 1 + 2 * (a.length + b.length):=by
 have h1:=(sortT_spec (raw17 ra rb)).1.length_eq
 have h2:=(rawE_len (a ++ b) [[]]).2
 have h3:=compL_len (sortT (rawE [[]] (a ++ b)))
 rw [List.length_append,List.length_singleton] at h2
 unfold edgesT; omega
end
theorem findS_mono {l:List Rng} (h:rightRs l = true) {s t:List UInt8} (hst:ltB s t = true):findS l s ≤ findS l t:=by
 rcases Nat.lt_or_ge (findS l t) (findS l s) with hlt | hge
 ·exfalso
  have hle:=findS_le l s
  have h1:=findS_at l t (by omega)
  have h2:=findS_lt l s (findS l t) (by omega) hlt
  rw [h2.1,Bool.false_or] at h1
  have:=lt_trans' hst h1
  rw [h2.2] at this; cases this
 ·exact hge
theorem findS_here {l:List Rng} (h:rightRs l = true) (ok:okL l) (s:List UInt8):∃ lo hi op,(lo.length ≤ 9223372036854775807 ∧ hi.length ≤ 9223372036854775807) ∧
 ((((findS l s:Nat):Int) < (l.length:Int) ∧ (l.map Rng.enc)[findS l s]? = some (.agg [.str lo,.str hi,.bool op]) ∧ ((op = true ∧ ((0:Int) == 0) = true) ∨ (op = false ∧ ltB s hi = true)) ∧ hasRs l s = !ltB s lo) ∨
  (¬ ((findS l s:Nat):Int) < (l.length:Int) ∧ (l.map Rng.enc)[findS l s]? = none ∧ hasRs l s = false)):=by
 have hf:=find_has h s
 by_cases hlt:findS l s < l.length
 ·rw [dif_pos hlt] at hf
  have hat:=findS_at l s hlt
  have okx:=okL_get ok hlt
  have e:=rng_get hlt
  generalize l[findS l s] = x at *
  obtain ⟨lo,hi,op⟩:=x
  refine ⟨lo,hi,op,okx,.inl ⟨by omega,e,?_,hf⟩⟩
  cases op with
  | true=>exact .inl ⟨rfl,rfl⟩
  | false=>exact .inr ⟨rfl,by simpa using hat⟩
 ·rw [dif_neg hlt] at hf
  exact ⟨[],[],true,by simp,.inr ⟨by omega,by simp; omega,hf⟩⟩
theorem ok_ranges_sweep:codeOK Tryz.prog S8d Tryz.f246.ntmps (Tryz.f246.body.getD .skip) = true:=by kernel_rfl
theorem c_rsweep (a b:List Rng) (g:FuncId) (kp:Bool → Bool → Bool) (hg:∀ x y,S8d.f g [.bool x,.bool y] = some (.bool (kp x y))) (ha:a.length ≤ 100000) (hb:b.length ≤ 100000) (oka:okL a) (okb:okL b) :
 CallA Tryz.prog 246 [.slc (a.map Rng.enc),.slc (b.map Rng.enc),.fn g []] (· = .slc ((setS fun s=>kp (hasRs a s) (hasRs b s)).map Rng.enc)):=by
 refine callA_of_body S8d_ok mixed Tryz.func246 rfl (Nat.le_of_ble_eq_true rfl) ok_ranges_sweep ?_
 unfold Tryz.f246
 have hfin:(fun s=>kp (hasRs a s) (hasRs b s)) = fun s=>kp (hasRs (setS (hasRs a)) s) (hasRs (setS (hasRs b)) s):=by funext s; rw [has_setS,has_setS]
 rw [hfin]
 have e1:=s_ranges_right (l:=a) (by omega) oka
 have e2:=s_ranges_right (l:=b) (by omega) okb
 have lu:=setS_len a
 have lv:=setS_len b
 have ru:=setS_right (hasRs a)
 have rv:=setS_right (hasRs b)
 have ou:=setS_ok (hasRs a)
 have ov:=setS_ok (hasRs b)
 generalize setS (hasRs a) = u at *
 generalize setS (hasRs b) = v at *
 have ru':=(rightRs_can.1 ru).1
 have rv':=(rightRs_can.1 rv).1
 have e3:=s_ranges_edges (a:=u) (b:=v) (by omega) (by omega) ru' rv'
 have hset:=(mk_of (kp:=kp) (a:=u) (b:=v) (edgesT_up ru' rv') (edgesT_nil ru' rv') (edgesT_17 ru' rv') (fun r hr _=>edgesT_all ru' rv' r (by simp [hr])) (fun r hr _=>edgesT_all ru' rv' r (by simp [hr]))).1
 have hup:=edgesT_up ru' rv'
 have h17:=edgesT_17 ru' rv'
 have hel:=edgesT_len ru' rv'
 simp -implicitDefEqProofs (maxSteps:=600000) (disch:=(first | omega | decide)) only [go_sem,↓reduceIte,seval,e1,e2,e3,List.length_map]
 rw [← hset]
 generalize edgesT u v = e at *
 clear e1 e2 e3 hset hfin
 refine wpA_loop_nil 8 3 rfl ?_
 refine wpA_loop [0,1,2,6,22,23] (ι:={p:Nat × Nat × Nat // p.1 ≤ e.length ∧ ∀ s ∈ e.drop p.1,p.2.1 ≤ findS u s ∧ p.2.2 ≤ findS v s}) (fun p=>[(24,.int .i64 p.1.1),(10,.int .i64 p.1.2.1),(11,.int .i64 p.1.2.2),(9,.bool (mkS (fun s=>kp (hasRs u s) (hasRs v s)) (e.take p.1.1)).2),(8,.row 0 0 3 (mkS (fun s=>kp (hasRs u s) (hasRs v s)) (e.take p.1.1)).1.length false)]) (fun p=>[(0,.row 3 (rowS (mkS (fun s=>kp (hasRs u s) (hasRs v s)) (e.take p.1.1)).1))]) (fun p=>e.length - p.1.1) ⟨(0,0,0),Nat.zero_le _,fun s _=>⟨Nat.zero_le _,Nat.zero_le _⟩⟩ (Nat.zero_le _) ?_ ?_
 ·simp -implicitDefEqProofs (maxSteps:=600000) (disch:=(first | omega | decide)) only [go_sem,↓reduceIte,seval,List.take_zero]
  simp [mkS,rowS]
 ·rintro ⟨⟨k,i,j⟩,hk,hij⟩
  simp only at hk hij ⊢
  have hlen:=mkS_len (fun s=>kp (hasRs u s) (hasRs v s)) (e.take k) ([],false)
  have hwas:=mkS_was (fun s=>kp (hasRs u s) (hasRs v s)) (e.take k) ([],false) (by simp)
  have hml:(mkS (fun s=>kp (hasRs u s) (hasRs v s)) (e.take k)).1.length ≤ k:=by
   have:(mkS (fun s=>kp (hasRs u s) (hasRs v s)) (e.take k)).1.length ≤ 0 + (e.take k).length:=hlen
   rw [List.length_take] at this; omega
  have hwas':(mkS (fun s=>kp (hasRs u s) (hasRs v s)) (e.take k)).2 = true → (mkS (fun s=>kp (hasRs u s) (hasRs v s)) (e.take k)).1 ≠ []:=hwas
  clear hlen hwas
  by_cases hlt:k < e.length
  ·have hlt':(k:Int) < (e.length:Int):=by omega
   have es:=str_get hlt
   have hs17:=h17 _ (List.getElem_mem hlt)
   have hst:=mkS_step (fun s=>kp (hasRs u s) (hasRs v s)) e k hlt
   have hd:e.drop k = e[k] :: e.drop (k + 1):=List.drop_eq_getElem_cons hlt
   have hi0:=hij e[k] (by rw [hd]; exact List.mem_cons_self)
   have hlater:∀ s ∈ e.drop (k + 1),findS u e[k] ≤ findS u s ∧ findS v e[k] ≤ findS v s:=fun s hs=>by
    have hp:(e.drop k).Pairwise (fun x y=>ltB x y = true):=hup.sublist (List.drop_sublist _ _)
    rw [hd,List.pairwise_cons] at hp
    exact ⟨findS_mono ru (hp.1 s hs),findS_mono rv (hp.1 s hs)⟩
   have next:∀ st,mkS (fun s=>kp (hasRs u s) (hasRs v s)) (e.take (k + 1)) = st → ∃ q:{p:Nat × Nat × Nat // p.1 ≤ e.length ∧ ∀ s ∈ e.drop p.1,p.2.1 ≤ findS u s ∧ p.2.2 ≤ findS v s},(((k:Int) + 1 = (q.1.1:Int) ∧ ((findS u e[k]:Nat):Int) = (q.1.2.1:Int) ∧ ((findS v e[k]:Nat):Int) = (q.1.2.2:Int) ∧ st.2 = (mkS (fun s=>kp (hasRs u s) (hasRs v s)) (e.take q.1.1)).2 ∧ st.1.length = (mkS (fun s=>kp (hasRs u s) (hasRs v s)) (e.take q.1.1)).1.length) ∧ rowS st.1 = rowS (mkS (fun s=>kp (hasRs u s) (hasRs v s)) (e.take q.1.1)).1) ∧ e.length - q.1.1 < e.length - k:=fun st h=>⟨⟨(k + 1,findS u e[k],findS v e[k]),hlt,hlater⟩,⟨⟨by simp,rfl,rfl,by rw [h],by rw [h]⟩,by rw [h]⟩,by show e.length - (k + 1) < e.length - k; omega⟩
   have nx:=next _ hst
   have fu:=find_has ru e[k]
   have fv:=find_has rv e[k]
   clear next hst hlater hd hij
   generalize mkS (fun s=>kp (hasRs u s) (hasRs v s)) (e.take k) = st at *
   simp only [stS] at nx
   generalize e[k] = s at *
   obtain ⟨m,was⟩:=st
   simp only at hml hwas' nx ⊢
   have flu:=findS_le u s
   have flv:=findS_le v s
   simp -implicitDefEqProofs (maxSteps:=600000) (disch:=(first | omega | decide)) only [go_sem,↓reduceIte,seval,hlt',es,List.length_map]
   refine wpA_loop [0,1,2,6,13,22,23,24,9,8,11] (ι:={i:Nat // i ≤ findS u s}) (fun p=>[(10,.int .i64 p.1)]) (fun _=>[]) (fun p=>u.length - p.1) ⟨i,hi0.1⟩ (Nat.zero_le _) ?_ ?_
   ·simp -implicitDefEqProofs (maxSteps:=600000) (disch:=(first | omega | decide)) only [go_sem,↓reduceIte,seval]
   ·rintro ⟨i',hi'⟩
    simp only
    by_cases hiu:i' < findS u s
    ·have hiu2:i' < u.length:=by omega
     have hiu':(i':Int) < (u.length:Int):=by omega
     have eu:=rng_get hiu2
     have oku:=okL_get ou hiu2
     obtain ⟨p1,p2⟩:=findS_lt u s i' hiu2 hiu
     generalize hx:u[i'] = x at *
     obtain ⟨lo,hi,op⟩:=x
     simp only at oku p1 p2
     subst p1
     simp -implicitDefEqProofs (maxSteps:=600000) (disch:=(first | omega | decide)) only [go_sem,↓reduceIte,seval,hiu',eu,oku,p2,wrap_i64,List.length_map]
     exact ⟨⟨i' + 1,hiu⟩,by simp,by show u.length - (i' + 1) < u.length - i'; omega⟩
    ·have hie:i' = findS u s:=by omega
     subst hie
     obtain ⟨lo,hi,op,okU,U⟩:=findS_here ru ou s
     obtain ⟨lo',hi',op',okV,V⟩:=findS_here rv ov s
     rcases U with ⟨hu,gu,⟨rfl,au⟩ | ⟨rfl,au⟩,xu⟩ | ⟨hu,gu,xu⟩
     all_goals (first | simp -implicitDefEqProofs (maxSteps:=600000) (disch:=(first | omega | decide)) only [go_sem,↓reduceIte,seval,hu,gu,au,okU,List.length_map] | simp -implicitDefEqProofs (maxSteps:=600000) (disch:=(first | omega | decide)) only [go_sem,↓reduceIte,seval,hu,gu,okU,List.length_map])
     all_goals (refine wpA_loop [0,1,2,6,13,22,23,24,9,8,10] (ι:={i:Nat // i ≤ findS v s}) (fun p=>[(11,.int .i64 p.1)]) (fun _=>[]) (fun p=>v.length - p.1) ⟨j,hi0.2⟩ (Nat.zero_le _) ?_ ?_)
     all_goals first
          | (simp -implicitDefEqProofs (maxSteps:=600000) (disch:=(first | omega | decide)) only [go_sem,↓reduceIte,seval]; done)
          | skip
     all_goals (
          rintro ⟨j',hj'⟩
          simp only
          by_cases hjv:j' < findS v s
          ·have hjv2:j' < v.length:=by omega
           have hjv':(j':Int) < (v.length:Int):=by omega
           have ev:=rng_get hjv2
           have okv:=okL_get ov hjv2
           obtain ⟨p1,p2⟩:=findS_lt v s j' hjv2 hjv
           generalize hx:v[j'] = x at *
           obtain ⟨lo2,hi2,op2⟩:=x
           simp only at okv p1 p2
           subst p1
           simp -implicitDefEqProofs (maxSteps:=600000) (disch:=(first | omega | decide)) only [go_sem,↓reduceIte,seval,hjv',ev,okv,p2,wrap_i64,List.length_map]
           exact ⟨⟨j' + 1,hjv⟩,by simp,by show v.length - (j' + 1) < v.length - j'; omega⟩
          ·have hje:j' = findS v s:=by omega
           subst hje
           rcases V with ⟨hv,gv,⟨rfl,av⟩ | ⟨rfl,av⟩,xv⟩ | ⟨hv,gv,xv⟩
           all_goals (
            cases hP:kp (hasRs u s) (hasRs v s) <;> rw [hP] at nx <;> rw [xu,xv] at hP <;> cases was
            ·have nx':=nx
             simp only [Bool.not_false,Bool.not_true,Bool.and_true,Bool.and_false,Bool.false_eq_true,if_false,if_true] at nx'
             clear nx
             (first | simp -implicitDefEqProofs (maxSteps:=600000) (disch:=(first | omega | decide)) only [go_sem,↓reduceIte,seval,hu,gu,au,okU,hv,gv,av,okV,hg,hP,wrap_i64,List.length_map] | simp -implicitDefEqProofs (maxSteps:=600000) (disch:=(first | omega | decide)) only [go_sem,↓reduceIte,seval,hu,gu,au,okU,hv,gv,okV,hg,hP,wrap_i64,List.length_map] | simp -implicitDefEqProofs (maxSteps:=600000) (disch:=(first | omega | decide)) only [go_sem,↓reduceIte,seval,hu,gu,okU,hv,gv,av,okV,hg,hP,wrap_i64,List.length_map] | simp -implicitDefEqProofs (maxSteps:=600000) (disch:=(first | omega | decide)) only [go_sem,↓reduceIte,seval,hu,gu,okU,hv,gv,okV,hg,hP,wrap_i64,List.length_map])
             exact nx'
            ·cases m with
             | nil=>exact absurd rfl (hwas' rfl)
             | cons qq qs=>
              have hq:qs.length + 1 ≤ k:=hml
              have c1:(((qs.length + 1:Nat):Int) - 1).toNat = qs.length:=by omega
              have c2:(0:Int) ≤ ((qs.length + 1:Nat):Int) - 1:=by omega
              have c3:((qs.length + 1:Nat):Int) - 1 < ((qs.length + 1:Nat):Int):=by omega
              have nx':=nx
              simp only [Bool.not_false,Bool.not_true,Bool.and_true,Bool.and_false,Bool.and_self,Bool.false_and,Bool.false_eq_true,if_false,if_true,rowS_cons,List.length_cons] at nx'
              clear nx
              rw [rowS_cons]
              (first | simp -implicitDefEqProofs (maxSteps:=600000) (disch:=(first | omega | decide)) only [go_sem,↓reduceIte,seval,hu,gu,au,okU,hv,gv,av,okV,hg,hP,c1,c2,c3,rowS_get',rowS_set,wrap_i64,List.length_map] | simp -implicitDefEqProofs (maxSteps:=600000) (disch:=(first | omega | decide)) only [go_sem,↓reduceIte,seval,hu,gu,au,okU,hv,gv,okV,hg,hP,c1,c2,c3,rowS_get',rowS_set,wrap_i64,List.length_map] | simp -implicitDefEqProofs (maxSteps:=600000) (disch:=(first | omega | decide)) only [go_sem,↓reduceIte,seval,hu,gu,okU,hv,gv,av,okV,hg,hP,c1,c2,c3,rowS_get',rowS_set,wrap_i64,List.length_map] | simp -implicitDefEqProofs (maxSteps:=600000) (disch:=(first | omega | decide)) only [go_sem,↓reduceIte,seval,hu,gu,okU,hv,gv,okV,hg,hP,c1,c2,c3,rowS_get',rowS_set,wrap_i64,List.length_map])
              exact nx'
            ·have nx':=nx
             simp only [Bool.not_false,Bool.not_true,Bool.and_true,Bool.and_false,Bool.and_self,Bool.false_eq_true,if_false,if_true,rowS_cons,List.length_cons] at nx'
             clear nx
             have tk:(rowS m).take m.length = rowS m:=List.take_of_length_le (Nat.le_of_eq (rowS_len m))
             have rl:=rowS_len m
             (first | simp -implicitDefEqProofs (maxSteps:=600000) (disch:=(first | omega | decide)) only [go_sem,↓reduceIte,seval,hu,gu,au,okU,hv,gv,av,okV,hg,hP,tk,rl,wrap_i64,List.length_map] | simp -implicitDefEqProofs (maxSteps:=600000) (disch:=(first | omega | decide)) only [go_sem,↓reduceIte,seval,hu,gu,au,okU,hv,gv,okV,hg,hP,tk,rl,wrap_i64,List.length_map] | simp -implicitDefEqProofs (maxSteps:=600000) (disch:=(first | omega | decide)) only [go_sem,↓reduceIte,seval,hu,gu,okU,hv,gv,av,okV,hg,hP,tk,rl,wrap_i64,List.length_map] | simp -implicitDefEqProofs (maxSteps:=600000) (disch:=(first | omega | decide)) only [go_sem,↓reduceIte,seval,hu,gu,okU,hv,gv,okV,hg,hP,tk,rl,wrap_i64,List.length_map])
             exact ⟨⟨Nat.le_refl _,by omega⟩,nx'⟩
            ·have nx':=nx
             simp only [Bool.not_false,Bool.not_true,Bool.and_true,Bool.and_false,Bool.false_and,Bool.false_eq_true,if_false,if_true] at nx'
             clear nx
             (first | simp -implicitDefEqProofs (maxSteps:=600000) (disch:=(first | omega | decide)) only [go_sem,↓reduceIte,seval,hu,gu,au,okU,hv,gv,av,okV,hg,hP,wrap_i64,List.length_map] | simp -implicitDefEqProofs (maxSteps:=600000) (disch:=(first | omega | decide)) only [go_sem,↓reduceIte,seval,hu,gu,au,okU,hv,gv,okV,hg,hP,wrap_i64,List.length_map] | simp -implicitDefEqProofs (maxSteps:=600000) (disch:=(first | omega | decide)) only [go_sem,↓reduceIte,seval,hu,gu,okU,hv,gv,av,okV,hg,hP,wrap_i64,List.length_map] | simp -implicitDefEqProofs (maxSteps:=600000) (disch:=(first | omega | decide)) only [go_sem,↓reduceIte,seval,hu,gu,okU,hv,gv,okV,hg,hP,wrap_i64,List.length_map])
             exact nx'))
  ·have hlt':¬ (k:Int) < (e.length:Int):=by omega
   rw [List.take_of_length_le (by omega)] at *
   have hll:(mkS (fun s=>kp (hasRs u s) (hasRs v s)) e).1.length = (rowS (mkS (fun s=>kp (hasRs u s) (hasRs v s)) e).1).length:=by rw [rowS_len]
   simp -implicitDefEqProofs (maxSteps:=600000) (disch:=(first | omega | decide)) only [go_sem,↓reduceIte,seval,hlt',wrap_i64,hll,List.length_map,List.take_length]
   exact ⟨Nat.le_refl _,rfl⟩
end Go.Proofs.YtjfdlpagcgpaoaaGreat
namespace Go.Proofs.YtjfdlpagcgpaoaaGreat
open Go.Abs
set_option linter.unusedSimpArgs false
set_option linter.unusedVariables false
set_option linter.unusedSectionVars false
set_option maxRecDepth 20000
set_option maxHeartbeats 8000000
theorem kpR_d {g:FuncId} (h:isOpR g = true) (x y:Bool):S8d.f g [.bool x,.bool y] = some (.bool (kpR g x y)):=by
 have hz:=kpR_z h x y
 have ne:∀ f:FuncId,isOpR f = false → g ≠ f:=fun f hf e=>by rw [e,hf] at h; cases h
 rw [S8d_old,S8c_old,S8b_old,S8a_old]
 all_goals first
  | exact hz
  | exact ne _ rfl
noncomputable def S8e:Tab:=S8d.add 246 (entry (fun (v:List Rng × List Rng × FuncId)=>[.slc (v.1.map Rng.enc),.slc (v.2.1.map Rng.enc),.fn v.2.2 []]) (fun v=>v.1.length ≤ 100000 ∧ v.2.1.length ≤ 100000 ∧ okL v.1 ∧ okL v.2.1 ∧ isOpR v.2.2 = true) (fun v=>.slc ((setS fun s=>kpR v.2.2 (hasRs v.1 s) (hasRs v.2.1 s)).map Rng.enc)))
theorem S8e_ok:TabOK Tryz.prog S8e:=S8d_ok.add (callable_of Tryz.func246 (by kernel_rfl) (by kernel_rfl)) (entry_ok fun v h=>c_rsweep v.1 v.2.1 v.2.2 (kpR v.2.2) (kpR_d h.2.2.2.2) h.1 h.2.1 h.2.2.1 h.2.2.2.1)
@[go_sem] theorem S8e_old {g:FuncId} {xs:List A} (h:g ≠ 246):S8e.f g xs = S8d.f g xs:=Tab.add_ne h
@[go_sem] theorem S8e_eff {g:FuncId}:S8e.eff g = false:=rfl
@[go_sem] theorem S8e_ords {n:Nat}:S8e.ords n = []:=rfl
theorem S8e_ranges_sweep (v:List Rng × List Rng × FuncId) (h:v.1.length ≤ 100000 ∧ v.2.1.length ≤ 100000 ∧ okL v.1 ∧ okL v.2.1 ∧ isOpR v.2.2 = true):S8e.f 246 [.slc (v.1.map Rng.enc),.slc (v.2.1.map Rng.enc),.fn v.2.2 []] = some (.slc ((setS fun s=>kpR v.2.2 (hasRs v.1 s) (hasRs v.2.1 s)).map Rng.enc)):=
 (Tab.add_eq:S8e.f 246 [.slc (v.1.map Rng.enc),.slc (v.2.1.map Rng.enc),.fn v.2.2 []] = (entry (fun (v:List Rng × List Rng × FuncId)=>[.slc (v.1.map Rng.enc),.slc (v.2.1.map Rng.enc),.fn v.2.2 []]) (fun v=>v.1.length ≤ 100000 ∧ v.2.1.length ≤ 100000 ∧ okL v.1 ∧ okL v.2.1 ∧ isOpR v.2.2 = true) (fun v=>.slc ((setS fun s=>kpR v.2.2 (hasRs v.1 s) (hasRs v.2.1 s)).map Rng.enc))) [.slc (v.1.map Rng.enc),.slc (v.2.1.map Rng.enc),.fn v.2.2 []]).trans (entry_eq (fun i j h=>by first | (cases i; cases j; rfl; done) | simpa [Prod.ext_iff,and_assoc] using h | (simp at h; omega) | (simp at h; exact Prod.ext h.1 (Prod.ext h.2.1 (by omega)))) v h)
section
variable {a b:List Rng} (ha:a.length ≤ 100000) (hb:b.length ≤ 100000) (oa:okL a) (ob:okL b)
include ha hb oa ob
theorem s_sweepM:S8e.f 246 [.slc (a.map Rng.enc),.slc (b.map Rng.enc),.fn 247 []] = some (.slc ((setS fun s=>hasRs a s && hasRs b s).map Rng.enc)):=S8e_ranges_sweep (a,b,_) ⟨ha,hb,oa,ob,rfl⟩
end
theorem okL_nil:okL []:=fun _ h=>by cases h
theorem s_sweepN {a:List Rng} (ha:a.length ≤ 100000) (oa:okL a):S8e.f 246 [.slc (a.map Rng.enc),.slc [],.fn 249 []] = some (.slc ((setS fun s=>!hasRs a s).map Rng.enc)):=S8e_ranges_sweep (a,[],_) ⟨ha,by simp,oa,okL_nil,rfl⟩
theorem ok_ranges_Meet:codeOK Tryz.prog S8e Tryz.f218.ntmps (Tryz.f218.body.getD .skip) = true:=by kernel_rfl
theorem c_ranges_Meet (a b:List Rng) (ha:a.length ≤ 100000) (hb:b.length ≤ 100000) (oa:okL a) (ob:okL b):CallA Tryz.prog 218 [.slc (a.map Rng.enc),.slc (b.map Rng.enc)] (· = .slc ((setS fun s=>hasRs a s && hasRs b s).map Rng.enc)):=by
 refine callA_of_body S8e_ok mixed Tryz.func218 rfl (Nat.le_of_ble_eq_true rfl) ok_ranges_Meet ?_
 unfold Tryz.f218
 have h:=s_sweepM ha hb oa ob
 simp -implicitDefEqProofs (maxSteps:=600000) (disch:=(first | omega | decide)) only [go_sem,↓reduceIte,seval,h,List.length_map]
theorem ok_ranges_Not:codeOK Tryz.prog S8e Tryz.f220.ntmps (Tryz.f220.body.getD .skip) = true:=by kernel_rfl
theorem c_ranges_Not (a:List Rng) (ha:a.length ≤ 100000) (oa:okL a):CallA Tryz.prog 220 [.slc (a.map Rng.enc)] (· = .slc ((setS fun s=>!hasRs a s).map Rng.enc)):=by
 refine callA_of_body S8e_ok mixed Tryz.func220 rfl (Nat.le_of_ble_eq_true rfl) ok_ranges_Not ?_
 unfold Tryz.f220
 have h:=s_sweepN ha oa
 simp -implicitDefEqProofs (maxSteps:=600000) (disch:=(first | omega | decide)) only [go_sem,↓reduceIte,seval,h,List.length_map]
noncomputable def S8f:Tab:=S8e.add 143 (entry (fun (v:List Rng × List UInt8)=>[.slc (v.1.map Rng.enc),.str v.2]) (fun v=>v.1.length ≤ 100000 ∧ okL v.1 ∧ v.2.length ≤ 9223372036854775807 ∧ rightRs v.1 = true) (fun v=>.int .i64 (findS v.1 v.2)))
theorem S8f_ok:TabOK Tryz.prog S8f:=S8e_ok.add (callable_of Tryz.func143 (by kernel_rfl) (by kernel_rfl)) (entry_ok fun v h=>c_ranges_find v.1 v.2 (by omega) h.2.1 h.2.2.1 h.2.2.2)
@[go_sem] theorem S8f_old {g:FuncId} {xs:List A} (h:g ≠ 143):S8f.f g xs = S8e.f g xs:=Tab.add_ne h
@[go_sem] theorem S8f_eff {g:FuncId}:S8f.eff g = false:=rfl
@[go_sem] theorem S8f_ords {n:Nat}:S8f.ords n = []:=rfl
theorem S8f_ranges_find (v:List Rng × List UInt8) (h:v.1.length ≤ 100000 ∧ okL v.1 ∧ v.2.length ≤ 9223372036854775807 ∧ rightRs v.1 = true):S8f.f 143 [.slc (v.1.map Rng.enc),.str v.2] = some (.int .i64 (findS v.1 v.2)):=
 (Tab.add_eq:S8f.f 143 [.slc (v.1.map Rng.enc),.str v.2] = (entry (fun (v:List Rng × List UInt8)=>[.slc (v.1.map Rng.enc),.str v.2]) (fun v=>v.1.length ≤ 100000 ∧ okL v.1 ∧ v.2.length ≤ 9223372036854775807 ∧ rightRs v.1 = true) (fun v=>.int .i64 (findS v.1 v.2))) [.slc (v.1.map Rng.enc),.str v.2]).trans (entry_eq (fun i j h=>by first | (cases i; cases j; rfl; done) | simpa [Prod.ext_iff,and_assoc] using h | (simp at h; omega) | (simp at h; exact Prod.ext h.1 (Prod.ext h.2.1 (by omega)))) v h)
theorem s_ranges_find {l:List Rng} {s:List UInt8} (h:l.length ≤ 100000) (h1:okL l) (h2:s.length ≤ 9223372036854775807) (h3:rightRs l = true):S8f.f 143 [.slc (l.map Rng.enc),.str s] = some (.int .i64 (findS l s)):=S8f_ranges_find (l,s) ⟨h,h1,h2,h3⟩
theorem ok_ranges_Has:codeOK Tryz.prog S8f Tryz.f78.ntmps (Tryz.f78.body.getD .skip) = true:=by kernel_rfl
theorem c_ranges_Has (l:List Rng) (s:List UInt8) (hl:l.length ≤ 100000) (ol:okL l) (hs:s.length ≤ 9223372036854775807):CallA Tryz.prog 78 [.slc (l.map Rng.enc),.str s] (· = .bool (hasRs l s)):=by
 refine callA_of_body S8f_ok mixed Tryz.func78 rfl (Nat.le_of_ble_eq_true rfl) ok_ranges_Has ?_
 unfold Tryz.f78
 have e1:=s_ranges_right (l:=l) (by omega) ol
 have lu:=setS_len l
 have ou:=setS_ok (hasRs l)
 have ru:=setS_right (hasRs l)
 have hu:=has_setS l s
 have e2:=s_ranges_find (l:=setS (hasRs l)) (s:=s) (by omega) ou hs ru
 generalize setS (hasRs l) = u at *
 have fh:=find_has ru s
 rw [← hu]
 by_cases hlt:findS u s < u.length
 ·rw [dif_pos hlt] at fh
  have hlt':((findS u s:Nat):Int) < (u.length:Int):=by omega
  have hat:=findS_at u s hlt
  have hr:=(rightRs_can.1 ru).1 _ (List.getElem_mem hlt)
  have eg:=rng_get hlt
  have ok1:=okL_get ou hlt
  generalize u[findS u s] = x at *
  obtain ⟨lo,hi,op⟩:=x
  have hx:hasR ⟨lo,hi,op⟩ s = hasRs u s:=by
   rw [fh,hasR_eq,hr]
   unfold upTo
   rw [hat]; simp
  simp only at ok1
  simp -implicitDefEqProofs (maxSteps:=600000) (disch:=(first | omega | decide)) only [go_sem,↓reduceIte,seval,e1,e2,hlt',eg,ok1,hs,hx,List.length_map]
 ·rw [dif_neg hlt] at fh
  have hlt':¬ ((findS u s:Nat):Int) < (u.length:Int):=by omega
  simp -implicitDefEqProofs (maxSteps:=600000) (disch:=(first | omega | decide)) only [go_sem,↓reduceIte,seval,e1,e2,hlt',fh,List.length_map]
end Go.Proofs.YtjfdlpagcgpaoaaGreat
namespace Go.Proofs.YtjfdlpagcgpaoaaGreat
open Go.Abs
set_option linter.unusedSimpArgs false
set_option linter.unusedVariables false
set_option maxRecDepth 20000
set_option maxHeartbeats 4000000
noncomputable def T12f:Tab:=T12e
theorem T12f_ok:TabOK Tryz.prog T12f:=T12e_ok
@[go_sem] theorem T12f_old {g:FuncId} {xs:List A}:T12f.f g xs = T12e.f g xs:=rfl
theorem ok_ref01_Digits:codeOK Tryz.prog T12z Tryz.f103.ntmps (Tryz.f103.body.getD .skip) = true:=by kernel_rfl
theorem c_ref01_Digits (n:Nat) (hn:n ≤ 9223372036854775807):CallA Tryz.prog 103 [.int .i64 n] (· = .str (digN n)):=by
 refine callA_of_body T12z_ok mixed Tryz.func103 rfl (Nat.le_of_ble_eq_true rfl) ok_ref01_Digits ?_
 unfold Tryz.f103
 simp -implicitDefEqProofs (maxSteps:=600000) (disch:=(first | omega | decide)) only [go_sem,↓reduceIte,seval]
 refine wpA_loop [] (ι:={p:Nat × List UInt8 // p.1 ≤ n ∧ p.1 + p.2.length ≤ max n 1 ∧ ((p.2 = [] ∧ p.1 = n) ∨ (p.2 ≠ [] ∧ digN n = if p.1 = 0 then p.2 else digN p.1 ++ p.2))}) (fun p=>[(0,.int .i64 p.1.1),(3,.str p.1.2)]) (fun _=>[]) (fun p=>p.1.1 + (if p.1.2 = [] then 1 else 0)) ⟨(n,[]),by simp; omega⟩ (Nat.zero_le _) ?_ ?_
 ·simp -implicitDefEqProofs (maxSteps:=600000) (disch:=(first | omega | decide)) only [go_sem,↓reduceIte,seval]
 ·rintro ⟨⟨m,s⟩,hm,hl,hd⟩
  simp only at hm hl hd
  have hone:=bytesOfA_bytesA [digD m]
  simp only [bytesA,List.map_cons,List.map_nil,encU8,digD_val] at hone
  have hdv:((m:Int).tdiv 10) = ((m / 10:Nat):Int):=by rw [Int.tdiv_eq_ediv_of_nonneg (by omega)]; omega
  have hmd:((m:Int).tmod 10) = ((m % 10:Nat):Int):=by rw [Int.tmod_eq_emod_of_nonneg (by omega)]; omega
  have hw:IntKind.u8.wrap (48 + ((m % 10:Nat):Int)) = 48 + ((m % 10:Nat):Int):=wrap_u8 (by omega)
  have hge:¬ ((m % 10:Nat):Int) < 0:=by omega
  have z10:¬ ((10:Int) = 0):=by omega
  have hlen:[digD m].length = 1:=rfl
  cases hs:(s == ([]:List UInt8)) with
  | true=>
   have hs0:s = []:=by simpa using hs
   subst hs0
   rcases hd with ⟨_,rfl⟩ | ⟨h,_⟩
   ·simp -implicitDefEqProofs (maxSteps:=600000) (disch:=(first | omega | decide)) only [go_sem,↓reduceIte,seval,hs,hdv,hmd,hw,hge,z10,hone,convB,wrap_i64]
    refine ⟨⟨(m / 10,[digD m]),Nat.div_le_self _ _,by simp; omega,.inr ⟨by simp,?_⟩⟩,⟨by simp,by simp⟩,?_⟩
    ·simp only
     split
     ·rw [digN_small (by omega)]
     ·rw [digN_step (by omega)]
    ·simp; omega
   ·exact absurd rfl h
  | false=>
   have hs0:s ≠ []:=by simpa using hs
   rcases hd with ⟨h,_⟩ | ⟨_,hd⟩
   ·exact absurd h hs0
   ·by_cases h0:(0:Int) < (m:Int)
    ·have hsl:0 < s.length:=List.length_pos_iff.2 hs0
     have hlen2:([digD m] ++ s).length = s.length + 1:=by simp
     simp -implicitDefEqProofs (maxSteps:=600000) (disch:=(first | omega | decide)) only [go_sem,↓reduceIte,seval,hs,h0,hdv,hmd,hw,hge,z10,hone,convB,wrap_i64]
     refine ⟨by omega,⟨(m / 10,digD m :: s),by show m / 10 ≤ n; omega,by simp; omega,.inr ⟨by simp,?_⟩⟩,⟨by simp,by simp⟩,?_⟩
     ·simp only
      rw [hd,if_neg (by omega)]
      split
      ·rw [digN_small (by omega)]; rfl
      ·rw [digN_step (show ¬ m < 10 by omega)]; simp
     ·simp [hs0]; omega
    ·have hm0:m = 0:=by omega
     subst hm0
     rw [if_pos rfl] at hd
     simp -implicitDefEqProofs (maxSteps:=600000) (disch:=(first | omega | decide)) only [go_sem,↓reduceIte,seval,hs,h0]
     rw [hd]
noncomputable def T12g:Tab:=T12f
theorem T12g_ok:TabOK Tryz.prog T12g:=T12f_ok
@[go_sem] theorem T12g_old {g:FuncId} {xs:List A}:T12g.f g xs = T12f.f g xs:=rfl
noncomputable def T12h:Tab:=T12g.add 103 (entry (fun (m:Nat)=>[.int .i64 (m:Int)]) (fun m=>m ≤ 4611686018427387904) (fun m=>.str (digN m)))
theorem T12h_ok:TabOK Tryz.prog T12h:=T12g_ok.add (callable_of Tryz.func103 (by kernel_rfl) (by kernel_rfl)) (entry_ok fun m h=>c_ref01_Digits m (Nat.le_trans h (by decide)))
@[go_sem] theorem T12h_old {g:FuncId} {xs:List A} (h:g ≠ 103):T12h.f g xs = T12g.f g xs:=Tab.add_ne h
end Go.Proofs.YtjfdlpagcgpaoaaGreat
namespace Go.Proofs
open Go.Shelf
def YtjfdlpagcgpaoaaGreat.sortVer_ren:Go.Shelf.Ren:=⟨fun | 6=>202 | 15=>140 | 14=>240 | 28=>192 | 29=>193 | 20=>273 | 21=>274 | 22=>275 | 23=>276 | 24=>277 | 25=>278 | 26=>279 | 27=>280 | 46=>292 | 47=>232 | 48=>233 | 49=>293 | 50=>294 | 57=>305 | n=>n,fun | 22=>122 | 24=>50 | 25=>211 | 3=>3 | 39=>162 | 0=>0 | 53=>48 | 55=>210 | 4=>4 | 46=>202 | 45=>201 | 50=>206 | 5=>5 | 9=>9 | 66=>234 | 70=>238 | 76=>254 | 77=>255 | n=>n,fun | n=>n⟩
theorem YtjfdlpagcgpaoaaGreat.sortVer:Go.Proofs.SlLaysF0.n6 Tryz.prog YtjfdlpagcgpaoaaGreat.sortVer_ren:={
 mixed:=by kernel_rfl
 f6:=⟨Tryz.f202.name,by decide,Tryz.func202.trans (congrArg some (by kernel_rfl))⟩
 f14:=⟨Tryz.f240.name,by decide,Tryz.func240.trans (congrArg some (by kernel_rfl))⟩
 f15:=Tryz.func140.trans (congrArg some (by kernel_rfl))
 f20:=⟨Tryz.f273.name,by decide,Tryz.func273.trans (congrArg some (by kernel_rfl))⟩
 f21:=⟨Tryz.f274.name,by decide,Tryz.func274.trans (congrArg some (by kernel_rfl))⟩
 f22:=⟨Tryz.f275.name,by decide,Tryz.func275.trans (congrArg some (by kernel_rfl))⟩
 f23:=⟨Tryz.f276.name,by decide,Tryz.func276.trans (congrArg some (by kernel_rfl))⟩
 f24:=⟨Tryz.f277.name,by decide,Tryz.func277.trans (congrArg some (by kernel_rfl))⟩
 f25:=⟨Tryz.f278.name,by decide,Tryz.func278.trans (congrArg some (by kernel_rfl))⟩
 f26:=⟨Tryz.f279.name,by decide,Tryz.func279.trans (congrArg some (by kernel_rfl))⟩
 f27:=⟨Tryz.f280.name,by decide,Tryz.func280.trans (congrArg some (by kernel_rfl))⟩
 f28:=Tryz.func192.trans (congrArg some (by kernel_rfl))
 f29:=Tryz.func193.trans (congrArg some (by kernel_rfl))
 f46:=⟨Tryz.f292.name,by decide,Tryz.func292.trans (congrArg some (by kernel_rfl))⟩
 f47:=Tryz.func232.trans (congrArg some (by kernel_rfl))
 f48:=Tryz.func233.trans (congrArg some (by kernel_rfl))
 f49:=⟨Tryz.f293.name,by decide,Tryz.func293.trans (congrArg some (by kernel_rfl))⟩
 f50:=⟨Tryz.f294.name,by decide,Tryz.func294.trans (congrArg some (by kernel_rfl))⟩
 f57:=⟨Tryz.f305.name,by decide,Tryz.func305.trans (congrArg some (by kernel_rfl))⟩
 t0:=Tryz.underlying0
 a0:=Tryz.isAgg0
 z0:=Tryz.sizeOf0
 v0:=Tryz.zeroValue0
 t3:=Tryz.underlying3
 a3:=Tryz.isAgg3
 z3:=Tryz.sizeOf3
 v3:=Tryz.zeroValue3
 t4:=Tryz.underlying4
 a4:=Tryz.isAgg4
 z4:=Tryz.sizeOf4
 v4:=Tryz.zeroValue4
 t5:=Tryz.underlying5
 a5:=Tryz.isAgg5
 z5:=Tryz.sizeOf5
 v5:=Tryz.zeroValue5
 t9:=Tryz.underlying9
 a9:=Tryz.isAgg9
 z9:=Tryz.sizeOf9
 v9:=Tryz.zeroValue9
 t22:=Tryz.underlying122
 a22:=Tryz.isAgg122
 z22:=Tryz.sizeOf122
 v22:=Tryz.zeroValue122
 t25:=Tryz.underlying211
 a25:=Tryz.isAgg211
 z25:=Tryz.sizeOf211
 v25:=Tryz.zeroValue211
 t39:=Tryz.underlying162
 a39:=Tryz.isAgg162
 z39:=Tryz.sizeOf162
 v39:=Tryz.zeroValue162
 t45:=Tryz.underlying201
 a45:=Tryz.isAgg201
 z45:=Tryz.sizeOf201
 v45:=Tryz.zeroValue201
 t46:=Tryz.underlying202
 a46:=Tryz.isAgg202
 z46:=Tryz.sizeOf202
 v46:=Tryz.zeroValue202
 t50:=Tryz.underlying206
 a50:=Tryz.isAgg206
 z50:=Tryz.sizeOf206
 v50:=Tryz.zeroValue206
 t53:=Tryz.underlying48
 a53:=Tryz.isAgg48
 z53:=Tryz.sizeOf48
 v53:=Tryz.zeroValue48
 t55:=Tryz.underlying210
 a55:=Tryz.isAgg210
 z55:=Tryz.sizeOf210
 v55:=Tryz.zeroValue210
 t66:=Tryz.underlying234
 a66:=Tryz.isAgg234
 z66:=Tryz.sizeOf234
 v66:=Tryz.zeroValue234
 t70:=Tryz.underlying238
 a70:=Tryz.isAgg238
 z70:=Tryz.sizeOf238
 v70:=Tryz.zeroValue238
 t76:=Tryz.underlying254
 a76:=Tryz.isAgg254
 z76:=Tryz.sizeOf254
 v76:=Tryz.zeroValue254
 t77:=Tryz.underlying255
 a77:=Tryz.isAgg255
 z77:=Tryz.sizeOf255
 v77:=Tryz.zeroValue255 }
end Go.Proofs
namespace Go.Proofs.YtjfdlpagcgpaoaaGreat
open Go.Abs
set_option linter.unusedSimpArgs false
set_option linter.unusedVariables false
set_option maxRecDepth 20000
set_option maxHeartbeats 4000000
theorem ltV_iff {a b:Ver}:ltV a b = true ↔ a.r < b.r ∨ (a.r = b.r ∧ a.c < b.c):=by
 simp [ltV]
theorem cmpV_lt {a b:Ver}:cmpV a b < 0 ↔ ltV a b = true:=by
 unfold cmpV
 by_cases h:a = b
 ·subst h
  have:¬ ltV a a = true:=by rw [ltV_iff]; omega
  simp [this]
 ·cases hl:ltV a b <;> simp [h]
theorem swoV:Go.Sort.SWO (Go.Proofs.ltOf cmpV):=by
 have hl:∀ a b,Go.Proofs.ltOf cmpV a b = ltV a b:=fun a b=>by
  unfold Go.Proofs.ltOf
  cases h:ltV a b
  ·have:¬ cmpV a b < 0:=by rw [cmpV_lt,h]; simp
   simpa using this
  ·have:cmpV a b < 0:=by rw [cmpV_lt,h]
   simpa using this
 refine ⟨fun x=>?_,fun x y z h1 h2=>?_,fun x y z h1 h2=>?_⟩
 ·rw [hl]; cases h:ltV x x
  ·rfl
  ·rw [ltV_iff] at h; omega
 ·rw [hl] at *
  rw [ltV_iff] at *; omega
 ·rw [hl] at *
  rw [← Bool.not_eq_true] at *
  rw [ltV_iff] at *; omega
def TC:Tab:={ T12z with fix:=fun n=>n == 0,nf:=1 }
theorem TC_ok:TabOK Tryz.prog TC:=⟨T12z_ok.f,T12z_ok.hp⟩
@[go_sem] theorem TC_ords {n:Nat}:TC.ords n = []:=rfl
theorem ok_slices_Compact_winnower_api_Version_winnower_api_Version:codeOK Tryz.prog TC Tryz.f203.ntmps (Tryz.f203.body.getD .skip) = true:=by kernel_rfl
theorem c_Compact_Version (l:List Ver) (hl:l.length ≤ 4611686018427387903):CallH Tryz.prog 203 [.row 0 0 2 l.length false] [.row 2 (l.map Ver.enc)]
 (.row 0 0 2 (compL l).length false) [.row 2 ((compL l ++ List.replicate (l.length - (compL l).length) (⟨0,0⟩:Ver)).map Ver.enc)] []:=by
 refine callH_of_body TC_ok mixed Tryz.func203 rfl (Nat.le_of_ble_eq_true rfl) (fun n h _=>by simp at h; subst h; rfl) (by show _ ≤ 1; simp) (by show 1 ≤ _; simp) ok_slices_Compact_winnower_api_Version_winnower_api_Version ?_
 unfold Tryz.f203
 by_cases h2:(l.length:Int) < 2
 ·have hc:compL l = l:=by
   match l,h2 with
   | [],_=>rfl
   | [x],_=>rfl
   | _ :: _ :: _,h=>simp at h; omega
  rw [hc]
  simp -implicitDefEqProofs (maxSteps:=600000) (disch:=(first | omega | decide)) only [go_sem,↓reduceIte,seval,h2,List.length_map]
  simp
 ·simp -implicitDefEqProofs (maxSteps:=600000) (disch:=(first | omega | decide)) only [go_sem,↓reduceIte,seval,h2,List.length_map]
  refine wpA_loop [0] (ι:={k:Nat // 1 ≤ k ∧ k ≤ l.length ∧ compL (l.take k) = l.take k}) (fun p=>[(3,.int .i64 p.1)]) (fun _=>[]) (fun p=>l.length - p.1) ⟨1,by omega,by omega,by match l with | []=>rfl | [x]=>rfl | x :: y :: l=>rfl⟩ (by show 1 ≤ _; simp) ?_ ?_
  ·simp -implicitDefEqProofs (maxSteps:=600000) (disch:=(first | omega | decide)) only [go_sem,↓reduceIte,seval]
  ·rintro ⟨k,hk1,hk,hd⟩
   simp only
   by_cases hlt:k < l.length
   ·have hlt':(k:Int) < (l.length:Int):=by omega
    have hstep:=compL_step hk1 hlt
    have e1:(l.map Ver.enc)[k]? = some (.agg [.int .i64 l[k].r,.int .i64 l[k].c]):=by
     rw [List.getElem?_map,List.getElem?_eq_getElem hlt]; rfl
    have e0:(l.map Ver.enc)[k - 1]? = some (.agg [.int .i64 l[k - 1].r,.int .i64 l[k - 1].c]):=by
     rw [List.getElem?_map,List.getElem?_eq_getElem (by omega)]; rfl
    have t0:((k:Int) - 1).toNat = k - 1:=by omega
    have b0:(0:Int) ≤ (k:Int) - 1:=by omega
    have b1:(k:Int) - 1 < (l.length:Int):=by omega
    generalize hx:l[k] = x at e1 hstep
    generalize hy:l[k - 1] = y at e0 hstep
    obtain ⟨r,c1⟩:=x
    obtain ⟨r',c1'⟩:=y
    have next:(⟨r',c1'⟩:Ver) ≠ ⟨r,c1⟩ → compL (l.take (k + 1)) = l.take (k + 1):=fun hne=>by
     rw [hstep,if_neg hne,hd,← hx]; exact List.take_append_getElem hlt
    cases h3:r == r' with
    | true=>
     cases h4:c1 == c1' with
     | true=>
      obtain rfl:r = r':=by simpa using h3
      obtain rfl:c1 = c1':=by simpa using h4
      have b2:(k:Int) ≤ (l.length:Int):=by omega
      rw [if_pos rfl] at hstep
      have hlen:(compL (l.take (k + 1))).length = k:=by rw [hstep,hd,List.length_take]; omega
      have tk:((l.length:Int) - (k:Int)).toNat = l.length - k:=by omega
      simp -implicitDefEqProofs (maxSteps:=600000) (disch:=(first | omega | decide)) only [go_sem,↓reduceIte,seval,hlt',e1,e0,t0,b0,b1,b2,tk,h3,h4,wrap_i64,List.length_map,Int.le_refl]
      clear next e1 e0 hx hy h3 h4 t0 b0
      refine wpA_loop [0,4] (ι:={p:Nat × Nat × List Ver // 1 ≤ p.1 ∧ k + p.1 ≤ l.length ∧ p.2.1 = (compL (l.take (k + p.1))).length ∧ p.2.2.length = l.length ∧ p.2.2.take p.2.1 = compL (l.take (k + p.1)) ∧ p.2.2.drop (k + p.1 - 1) = l.drop (k + p.1 - 1) ∧ p.2.1 ≤ k + p.1 - 1}) (fun p=>[(3,.int .i64 p.1.2.1),(5,.int .i64 p.1.1)]) (fun p=>[(0,.row 2 (p.1.2.2.map Ver.enc))]) (fun p=>l.length - p.1.1) ⟨(1,k,l),by omega,hlt,hlen.symm,rfl,by rw [hstep,hd],rfl,by show k ≤ k + 1 - 1; omega⟩ (by show 1 ≤ _; simp) ?_ ?_
      ·simp -implicitDefEqProofs (maxSteps:=600000) (disch:=(first | omega | decide)) only [go_sem,↓reduceIte,seval]
      ·rintro ⟨⟨j,m,e⟩,hj1,hj,hm,he,htk,hdr,hmj⟩
       simp only at hj1 hj hm he htk hdr hmj
       have get:∀ i,k + j - 1 ≤ i → e[i]? = l[i]?:=fun i hi=>by
        have:=congrArg (fun x:List Ver=>x[i - (k + j - 1)]?) hdr
        simp only [List.getElem?_drop] at this
        rwa [show k + j - 1 + (i - (k + j - 1)) = i by omega] at this
       by_cases hq:k + j < l.length
       ·have hq':(j:Int) < ((l.length - k:Nat):Int):=by omega
        have hstep:=compL_step (l:=l) (k:=k + j) (by omega) hq
        have e1:(e.map Ver.enc)[k + j]? = some (.agg [.int .i64 l[k + j].r,.int .i64 l[k + j].c]):=by
         rw [List.getElem?_map,get _ (by omega),List.getElem?_eq_getElem hq]; rfl
        have e0:(e.map Ver.enc)[k + (j - 1)]? = some (.agg [.int .i64 l[k + j - 1].r,.int .i64 l[k + j - 1].c]):=by
         rw [List.getElem?_map,get _ (by omega),show k + (j - 1) = k + j - 1 by omega,List.getElem?_eq_getElem (by omega)]; rfl
        have t0:((j:Int) - 1).toNat = j - 1:=by omega
        have b0:(0:Int) ≤ (j:Int) - 1:=by omega
        have b3:(j:Int) - 1 < ((l.length - k:Nat):Int):=by omega
        generalize hx:l[k + j] = x at e1 hstep
        generalize hy:l[k + j - 1] = y at e0 hstep
        obtain ⟨r,c1⟩:=x
        obtain ⟨r',c1'⟩:=y
        have hdr2:e.drop (k + (j + 1) - 1) = l.drop (k + (j + 1) - 1):=by
         have:=congrArg (List.drop 1) hdr
         rwa [List.drop_drop,List.drop_drop,show k + j - 1 + 1 = k + (j + 1) - 1 by omega] at this
        have b4:(m:Int) < (l.length:Int):=by omega
        have b5:m < e.length:=by omega
        have next:(⟨r',c1'⟩:Ver) ≠ ⟨r,c1⟩ → (m + 1 = (compL (l.take (k + (j + 1)))).length ∧ (e.set m ⟨r,c1⟩).length = l.length ∧ (e.set m ⟨r,c1⟩).take (m + 1) = compL (l.take (k + (j + 1))) ∧ (e.set m ⟨r,c1⟩).drop (k + (j + 1) - 1) = l.drop (k + (j + 1) - 1) ∧ m + 1 ≤ k + (j + 1) - 1):=fun hne=>by
         rw [if_neg hne] at hstep
         have hstep':compL (l.take (k + (j + 1))) = compL (l.take (k + j)) ++ [⟨r,c1⟩]:=hstep
         refine ⟨by rw [hstep',List.length_append,← hm]; rfl,by rw [List.length_set,he],?_,?_,by omega⟩
         ·rw [hstep',← htk,← List.take_append_getElem (by rw [List.length_set]; exact b5),List.take_set_of_le (Nat.le_refl _)]
          simp
         ·rw [List.drop_set_of_lt (by omega)]; exact hdr2
        have hset:setNth (e.map Ver.enc) m (.agg [.int .i64 r,.int .i64 c1]) = (e.set m ⟨r,c1⟩).map Ver.enc:=by
         rw [setNth_eq,List.map_set]; rfl
        have em:(e.map Ver.enc)[m]? = some (.agg [.int .i64 e[m].r,.int .i64 e[m].c]):=by
         rw [List.getElem?_map,List.getElem?_eq_getElem b5]; rfl
        have spl2:∀ a b x y:A,spliceA [a,b] 0 [x,y] = [x,y]:=fun _ _ _ _=>rfl
        cases h3:r == r' with
        | true=>
         cases h4:c1 == c1' with
         | true=>
          obtain rfl:r = r':=by simpa using h3
          obtain rfl:c1 = c1':=by simpa using h4
          rw [if_pos rfl] at hstep
          simp -implicitDefEqProofs (maxSteps:=600000) (disch:=(first | omega | decide)) only [go_sem,↓reduceIte,seval,hq',e1,e0,t0,b0,b3,h3,h4,wrap_i64,List.length_map,Int.le_refl]
          exact ⟨⟨(j + 1,m,e),by show 1 ≤ j + 1; omega,by show k + (j + 1) ≤ _; omega,by show m = (compL (l.take (k + j + 1))).length; rw [hstep,hm],he,by show e.take m = compL (l.take (k + j + 1)); rw [hstep,htk],hdr2,by show m ≤ k + (j + 1) - 1; omega⟩,⟨⟨rfl,by simp⟩,rfl⟩,by show l.length - (j + 1) < l.length - j; omega⟩
         | false=>
          have hne:c1 ≠ c1':=by simpa using h4
          simp -implicitDefEqProofs (maxSteps:=600000) (disch:=(first | omega | decide)) only [go_sem,↓reduceIte,seval,hq',e1,e0,t0,b0,b3,b4,h3,h4,em,hset,spl2,wrap_i64,List.length_map,Int.le_refl]
          exact ⟨⟨(j + 1,m + 1,e.set m ⟨r,c1⟩),by show 1 ≤ j + 1; omega,by show k + (j + 1) ≤ _; omega,next (by simp [Ne.symm hne])⟩,⟨⟨by simp,by simp⟩,rfl⟩,by show l.length - (j + 1) < l.length - j; omega⟩
        | false=>
         have hne:r ≠ r':=by simpa using h3
         simp -implicitDefEqProofs (maxSteps:=600000) (disch:=(first | omega | decide)) only [go_sem,↓reduceIte,seval,hq',e1,e0,t0,b0,b3,b4,h3,em,hset,spl2,wrap_i64,List.length_map,Int.le_refl]
         exact ⟨⟨(j + 1,m + 1,e.set m ⟨r,c1⟩),by show 1 ≤ j + 1; omega,by show k + (j + 1) ≤ _; omega,next (by simp [Ne.symm hne])⟩,⟨⟨by simp,by simp⟩,rfl⟩,by show l.length - (j + 1) < l.length - j; omega⟩
       ·have hq':¬ (j:Int) < ((l.length - k:Nat):Int):=by omega
        have b4:(m:Int) ≤ (l.length:Int):=by omega
        have tm:((l.length:Int) - (m:Int)).toNat = l.length - m:=by omega
        have hjl:k + j = l.length:=by omega
        rw [hjl,List.take_of_length_le (Nat.le_refl _)] at hm htk
        have b6:m + (l.length - m) = l.length:=by omega
        have b7:l.length ≤ e.length:=by omega
        have b8:(e.map Ver.enc).drop l.length = []:=by rw [List.drop_of_length_le (by rw [List.length_map]; omega)]
        have tm0:((m:Int) - 0).toNat = m:=by omega
        simp -implicitDefEqProofs (maxSteps:=600000) (disch:=(first | omega | decide)) only [go_sem,↓reduceIte,seval,hq',b4,tm,tm0,b6,b7,b8,List.length_map,Int.le_refl]
        refine ⟨hm,?_⟩
        rw [List.map_append,← htk,List.map_take,List.map_replicate,htk,← hm]; rfl
     | false=>
      have hne:c1 ≠ c1':=by simpa using h4
      simp -implicitDefEqProofs (maxSteps:=600000) (disch:=(first | omega | decide)) only [go_sem,↓reduceIte,seval,hlt',e1,e0,t0,b0,b1,h3,h4,wrap_i64,List.length_map]
      exact ⟨⟨k + 1,by omega,hlt,next (by simp [Ne.symm hne])⟩,by simp,by show l.length - (k + 1) < l.length - k; omega⟩
    | false=>
     have hne:r ≠ r':=by simpa using h3
     simp -implicitDefEqProofs (maxSteps:=600000) (disch:=(first | omega | decide)) only [go_sem,↓reduceIte,seval,hlt',e1,e0,t0,b0,b1,h3,wrap_i64,List.length_map]
     exact ⟨⟨k + 1,by omega,hlt,next (by simp [Ne.symm hne])⟩,by simp,by show l.length - (k + 1) < l.length - k; omega⟩
   ·have hlt':¬ (k:Int) < (l.length:Int):=by omega
    have hc:compL l = l:=by rw [List.take_of_length_le (by omega)] at hd; exact hd
    rw [hc]
    simp -implicitDefEqProofs (maxSteps:=600000) (disch:=(first | omega | decide)) only [go_sem,↓reduceIte,seval,hlt',List.length_map]
    simp
theorem addH_eq {Γ:Tab} {g:Go.FuncId} {e:List A → List Go.Abs.Obj → Option (A × List Go.Abs.Obj × List Nat)} {xs:List A} {H:List Go.Abs.Obj}:(Γ.addH g e).hp g xs H = e xs H:=if_pos rfl
theorem addH_ne {Γ:Tab} {g h:Go.FuncId} {e:List A → List Go.Abs.Obj → Option (A × List Go.Abs.Obj × List Nat)} {xs:List A} {H:List Go.Abs.Obj} (hn:h ≠ g):(Γ.addH g e).hp h xs H = Γ.hp h xs H:=if_neg hn
theorem c_SortFunc_Version (l:List Ver) (hl:l.length < 4611686018427387904):CallH Tryz.prog 202 [.row 0 0 2 l.length false,.fn 195 []] [.row 2 (l.map Ver.enc)]
 (.tup []) [.row 2 ((sortL cmpV l).map Ver.enc)] []:=
 sort_struct Go.Proofs.YtjfdlpagcgpaoaaGreat.sortVer (by omega) Tryz.isAgg50 Tryz.sizeOf50 Ver.cells (fun _=>rfl) (fun x a ha=>by
  simp only [Ver.cells,List.mem_cons,List.not_mem_nil,or_false] at ha
  rcases ha with rfl | rfl <;> rfl) cmpV swoV (callable_of Tryz.func195 (by kernel_rfl) (by kernel_rfl)) (fun x y=>c_version_Cmp x y) l hl false
def sE (l:List Ver):List A:=[.row 0 0 2 l.length false,.fn 195 []]
def sO (l:List Ver):List Go.Abs.Obj:=[.row 2 (l.map Ver.enc)]
def sK (l:List Ver):Prop:=l.length < 4611686018427387904
noncomputable def sR (l:List Ver):A × List Go.Abs.Obj × List Nat:=(.tup [],[.row 2 ((sortL cmpV l).map Ver.enc)],[])
def cE (l:List Ver):List A:=[.row 0 0 2 l.length false]
def cK (l:List Ver):Prop:=l.length ≤ 4611686018427387903
def cR (l:List Ver):A × List Go.Abs.Obj × List Nat:=(.row 0 0 2 (compL l).length false,[.row 2 ((compL l ++ List.replicate (l.length - (compL l).length) (⟨0,0⟩:Ver)).map Ver.enc)],[])
theorem sO_inj (i j:List Ver) (h:sO i = sO j):i = j:=by simpa [sO] using h
noncomputable def TSa:Tab:=T12h.addH 202 (entryH sE sO sK sR)
noncomputable def TSb:Tab:=TSa.addH 203 (entryH cE sO cK cR)
noncomputable def TS:Tab:={ TSb with eff:=fun f=>f == 202 || f == 203 }
theorem TSa_ok:TabOK Tryz.prog TSa:=T12h_ok.addH (callable_of Tryz.func202 (by kernel_rfl) (by kernel_rfl)) (entryH_ok fun l h=>c_SortFunc_Version l h)
theorem TSb_ok:TabOK Tryz.prog TSb:=TSa_ok.addH (callable_of Tryz.func203 (by kernel_rfl) (by kernel_rfl)) (entryH_ok fun l h=>c_Compact_Version l h)
theorem TS_ok:TabOK Tryz.prog TS:=⟨TSb_ok.f,TSb_ok.hp⟩
@[go_sem] theorem TS_f:TS.f = T12h.f:=rfl
@[go_sem] theorem TS_eff {g:FuncId}:TS.eff g = (g == 202 || g == 203):=rfl
@[go_sem] theorem TS_frz {g:FuncId}:TS.frz g = false:=rfl
@[go_sem] theorem TS_fix {n:Nat}:TS.fix n = false:=rfl
@[go_sem] theorem TS_ords {n:Nat}:TS.ords n = []:=rfl
theorem TS_sort {l:List Ver} {n:Nat} (hn:n = l.length) (h:l.length < 4611686018427387904):TS.hp 202 [.row 0 0 2 n false,.fn 195 []] [.row 2 (l.map Ver.enc)] = some (.tup [],[.row 2 ((sortL cmpV l).map Ver.enc)],[]):=by
 subst hn
 have h1:TS.hp 202 (sE l) (sO l) = entryH sE sO sK sR (sE l) (sO l):=by
  have h2:TSb.hp 202 (sE l) (sO l) = TSa.hp 202 (sE l) (sO l):=addH_ne (by decide)
  have h3:TSa.hp 202 (sE l) (sO l) = entryH sE sO sK sR (sE l) (sO l):=addH_eq
  exact h2.trans h3
 exact h1.trans (entryH_eq (fun i j _ h=>sO_inj i j h) l h)
theorem TS_comp {l:List Ver} {n:Nat} (hn:n = l.length) (h:l.length ≤ 4611686018427387903):TS.hp 203 [.row 0 0 2 n false] [.row 2 (l.map Ver.enc)] = some (.row 0 0 2 (compL l).length false,[.row 2 ((compL l ++ List.replicate (l.length - (compL l).length) (⟨0,0⟩:Ver)).map Ver.enc)],[]):=by
 subst hn
 have h1:TS.hp 203 (cE l) (sO l) = entryH cE sO cK cR (cE l) (sO l):=by
  have h2:TSb.hp 203 (cE l) (sO l) = entryH cE sO cK cR (cE l) (sO l):=addH_eq
  exact h2
 exact h1.trans (entryH_eq (fun i j _ h=>sO_inj i j h) l h)
noncomputable def sortedV (l:List Ver):List Ver:=compL (sortL cmpV (l.filter rightV))
theorem ok_version_Sorted:codeOK Tryz.prog TS Tryz.f155.ntmps (Tryz.f155.body.getD .skip) = true:=by kernel_rfl
theorem c_version_Sorted (l:List Ver) (hl:l.length ≤ 1000000):CallA Tryz.prog 155 [.slc (l.map Ver.enc)] (· = .slc ((sortedV l).map Ver.enc)):=by
 refine callA_of_body TS_ok mixed Tryz.func155 rfl (Nat.le_of_ble_eq_true rfl) ok_version_Sorted ?_
 unfold Tryz.f155
 simp -implicitDefEqProofs (maxSteps:=600000) (disch:=(first | omega | decide)) only [go_sem,↓reduceIte,seval,List.length_map]
 refine wpA_loop_nil 3 2 rfl ?_
 refine wpA_loop [0,2,6,7] (ι:={k:Nat // k ≤ l.length}) (fun p=>[(8,.int .i64 p.1),(3,.row 0 0 2 ((l.take p.1).filter rightV).length false)]) (fun p=>[(0,.row 2 (((l.take p.1).filter rightV).map Ver.enc))]) (fun p=>l.length - p.1) ⟨0,by omega⟩ (Nat.zero_le _) ?_ ?_
 ·simp -implicitDefEqProofs (maxSteps:=600000) (disch:=(first | omega | decide)) only [go_sem,↓reduceIte,seval]
  simp
 ·rintro ⟨k,hk⟩
  simp only
  have hf:((l.take k).filter rightV).length ≤ k:=Nat.le_trans (List.length_filter_le _ _) (by rw [List.length_take]; omega)
  by_cases hlt:k < l.length
  ·have hlt':(k:Int) < (l.length:Int):=by omega
   have ht:l.take (k + 1) = l.take k ++ [l[k]]:=(List.take_append_getElem hlt).symm
   generalize hx:l[k] = x at ht
   obtain ⟨r,c⟩:=x
   have e1:(l.map Ver.enc)[k]? = some (.agg [.int .i64 r,.int .i64 c]):=by
    rw [List.getElem?_map,List.getElem?_eq_getElem hlt,hx]; rfl
   cases hr:rightV ⟨r,c⟩ with
   | true=>
    simp -implicitDefEqProofs (maxSteps:=600000) (disch:=(first | omega | decide)) only [go_sem,↓reduceIte,seval,hlt',e1,hr,wrap_i64,List.length_map]
    refine ⟨⟨Nat.le_refl _,by omega⟩,⟨k + 1,hlt⟩,⟨⟨by simp,?_⟩,?_⟩,by show l.length - (k + 1) < l.length - k; omega⟩
    ·rw [ht,List.filter_append]; simp [hr]
    ·rw [ht,List.filter_append,List.take_of_length_le (by simp)]; simp [hr,Ver.enc,Ver.cells]
   | false=>
    simp -implicitDefEqProofs (maxSteps:=600000) (disch:=(first | omega | decide)) only [go_sem,↓reduceIte,seval,hlt',e1,hr,wrap_i64,List.length_map]
    refine ⟨⟨k + 1,hlt⟩,⟨⟨by simp,?_⟩,?_⟩,by show l.length - (k + 1) < l.length - k; omega⟩
    ·rw [ht,List.filter_append]; simp [hr]
    ·rw [ht,List.filter_append]; simp [hr]
  ·have hlt':¬ (k:Int) < (l.length:Int):=by omega
   rw [List.take_of_length_le (by omega)] at *
   have hs:=TS_sort (l:=l.filter rightV) rfl (by omega)
   have hp:=(sortL_spec swoV (l.filter rightV)).1.length_eq
   have hc:=TS_comp (l:=sortL cmpV (l.filter rightV)) (n:=(l.filter rightV).length) hp.symm (by omega)
   simp -implicitDefEqProofs (maxSteps:=600000) (disch:=(first | omega | decide)) only [go_sem,↓reduceIte,seval,hlt',hs,hc,List.length_map,List.contains_nil,List.contains_cons]
   refine ⟨by rw [List.length_append]; omega,?_⟩
   rw [List.map_append,List.take_append_of_le_length (by simp),List.take_of_length_le (by simp)]; rfl
set_option maxHeartbeats 8000000
noncomputable def P15a:Tab:=L14g.add 133 (entry (fun (v:List UInt8 × List UInt8)=>[.str v.1,.str v.2]) (fun v=>v.1.length ≤ 9223372036854775807 ∧ v.2.length ≤ 9223372036854775807) (fun v=>.int .i64 (cmpB v.1 v.2)))
theorem P15a_ok:TabOK Tryz.prog P15a:=L14g_ok.add (callable_of Tryz.func133 (by kernel_rfl) (by kernel_rfl)) (entry_ok fun v h=>c_key_Cmp v.1 v.2 h.1 h.2)
@[go_sem] theorem P15a_old {g:FuncId} {xs:List A} (h:g ≠ 133):P15a.f g xs = L14g.f g xs:=Tab.add_ne h
theorem P15a_key_Cmp (v:List UInt8 × List UInt8) (h:v.1.length ≤ 9223372036854775807 ∧ v.2.length ≤ 9223372036854775807):P15a.f 133 [.str v.1,.str v.2] = some (.int .i64 (cmpB v.1 v.2)):=
 (Tab.add_eq:P15a.f 133 [.str v.1,.str v.2] = (entry (fun (v:List UInt8 × List UInt8)=>[.str v.1,.str v.2]) (fun v=>v.1.length ≤ 9223372036854775807 ∧ v.2.length ≤ 9223372036854775807) (fun v=>.int .i64 (cmpB v.1 v.2))) [.str v.1,.str v.2]).trans (entry_eq (fun i j h=>by first | (cases i; cases j; rfl; done) | simpa [Prod.ext_iff,and_assoc] using h | (simp at h; omega) | (simp at h; exact Prod.ext h.1 (Prod.ext h.2.1 (by omega)))) v h)
noncomputable def P15b:Tab:=P15a.add 121 (entry (fun (s:List UInt8)=>[.str s]) (fun s=>s.length ≤ 9223372036854775807) (fun s=>.bool (decide (1 ≤ s.length ∧ s.length ≤ 16))))
theorem P15b_ok:TabOK Tryz.prog P15b:=P15a_ok.add (callable_of Tryz.func121 (by kernel_rfl) (by kernel_rfl)) (entry_ok fun s h=>c_key_Right s h)
@[go_sem] theorem P15b_old {g:FuncId} {xs:List A} (h:g ≠ 121):P15b.f g xs = P15a.f g xs:=Tab.add_ne h
theorem P15b_key_Right (s:List UInt8) (h:s.length ≤ 9223372036854775807):P15b.f 121 [.str s] = some (.bool (decide (1 ≤ s.length ∧ s.length ≤ 16))):=
 (Tab.add_eq:P15b.f 121 [.str s] = (entry (fun (s:List UInt8)=>[.str s]) (fun s=>s.length ≤ 9223372036854775807) (fun s=>.bool (decide (1 ≤ s.length ∧ s.length ≤ 16)))) [.str s]).trans (entry_eq (fun i j h=>by first | (cases i; cases j; rfl; done) | simpa [Prod.ext_iff,and_assoc] using h | (simp at h; omega) | (simp at h; exact Prod.ext h.1 (Prod.ext h.2.1 (by omega)))) s h)
noncomputable def P15c:Tab:=P15b.add 86 (entry (fun (v:List UInt8 × List UInt8)=>[.str v.1,.str v.2]) (fun v=>v.1.length ≤ 9223372036854775807 ∧ v.2.length ≤ 9223372036854775807) (fun v=>.bool (cmpB v.1 v.2 == -1)))
theorem P15c_ok:TabOK Tryz.prog P15c:=P15b_ok.add (callable_of Tryz.func86 (by kernel_rfl) (by kernel_rfl)) (entry_ok fun v h=>c_ref06_Less v.1 v.2 h.1 h.2)
@[go_sem] theorem P15c_old {g:FuncId} {xs:List A} (h:g ≠ 86):P15c.f g xs = P15b.f g xs:=Tab.add_ne h
theorem P15c_ref06_Less (v:List UInt8 × List UInt8) (h:v.1.length ≤ 9223372036854775807 ∧ v.2.length ≤ 9223372036854775807):P15c.f 86 [.str v.1,.str v.2] = some (.bool (cmpB v.1 v.2 == -1)):=
 (Tab.add_eq:P15c.f 86 [.str v.1,.str v.2] = (entry (fun (v:List UInt8 × List UInt8)=>[.str v.1,.str v.2]) (fun v=>v.1.length ≤ 9223372036854775807 ∧ v.2.length ≤ 9223372036854775807) (fun v=>.bool (cmpB v.1 v.2 == -1))) [.str v.1,.str v.2]).trans (entry_eq (fun i j h=>by first | (cases i; cases j; rfl; done) | simpa [Prod.ext_iff,and_assoc] using h | (simp at h; omega) | (simp at h; exact Prod.ext h.1 (Prod.ext h.2.1 (by omega)))) v h)
noncomputable def P15d:Tab:=P15c.add 122 (entry (fun (s:List UInt8)=>[.str s]) (fun s=>s.length ≤ 9223372036854775807) (fun s=>.bool (decide (1 ≤ s.length ∧ s.length ≤ 16))))
theorem P15d_ok:TabOK Tryz.prog P15d:=P15c_ok.add (callable_of Tryz.func122 (by kernel_rfl) (by kernel_rfl)) (entry_ok fun s h=>c_ref06_Right s h)
@[go_sem] theorem P15d_old {g:FuncId} {xs:List A} (h:g ≠ 122):P15d.f g xs = P15c.f g xs:=Tab.add_ne h
theorem P15d_ref06_Right (s:List UInt8) (h:s.length ≤ 9223372036854775807):P15d.f 122 [.str s] = some (.bool (decide (1 ≤ s.length ∧ s.length ≤ 16))):=
 (Tab.add_eq:P15d.f 122 [.str s] = (entry (fun (s:List UInt8)=>[.str s]) (fun s=>s.length ≤ 9223372036854775807) (fun s=>.bool (decide (1 ≤ s.length ∧ s.length ≤ 16)))) [.str s]).trans (entry_eq (fun i j h=>by first | (cases i; cases j; rfl; done) | simpa [Prod.ext_iff,and_assoc] using h | (simp at h; omega) | (simp at h; exact Prod.ext h.1 (Prod.ext h.2.1 (by omega)))) s h)
noncomputable def P15e:Tab:=P15d.add 132 (entry (fun (r:List UInt8 × List UInt8 × Bool)=>[.agg [.str r.1,.str r.2.1,.bool r.2.2]]) (fun r=>r.1.length ≤ 9223372036854775807 ∧ r.2.1.length ≤ 9223372036854775807) (fun r=>.bool (rightR ⟨r.1,r.2.1,r.2.2⟩)))
theorem P15e_ok:TabOK Tryz.prog P15e:=P15d_ok.add (callable_of Tryz.func132 (by kernel_rfl) (by kernel_rfl)) (entry_ok fun r h=>c_span_Right r.1 r.2.1 r.2.2 h.1 h.2)
@[go_sem] theorem P15e_old {g:FuncId} {xs:List A} (h:g ≠ 132):P15e.f g xs = P15d.f g xs:=Tab.add_ne h
theorem P15e_span_Right (r:List UInt8 × List UInt8 × Bool) (h:r.1.length ≤ 9223372036854775807 ∧ r.2.1.length ≤ 9223372036854775807):P15e.f 132 [.agg [.str r.1,.str r.2.1,.bool r.2.2]] = some (.bool (rightR ⟨r.1,r.2.1,r.2.2⟩)):=
 (Tab.add_eq:P15e.f 132 [.agg [.str r.1,.str r.2.1,.bool r.2.2]] = (entry (fun (r:List UInt8 × List UInt8 × Bool)=>[.agg [.str r.1,.str r.2.1,.bool r.2.2]]) (fun r=>r.1.length ≤ 9223372036854775807 ∧ r.2.1.length ≤ 9223372036854775807) (fun r=>.bool (rightR ⟨r.1,r.2.1,r.2.2⟩))) [.agg [.str r.1,.str r.2.1,.bool r.2.2]]).trans (entry_eq (fun i j h=>by first | (cases i; cases j; rfl; done) | simpa [Prod.ext_iff,and_assoc] using h | (simp at h; omega) | (simp at h; exact Prod.ext h.1 (Prod.ext h.2.1 (by omega)))) r h)
noncomputable def P15f:Tab:=P15e.add 127 (entry (fun (r:List UInt8 × List UInt8 × Bool)=>[.agg [.str r.1,.str r.2.1,.bool r.2.2]]) (fun r=>r.1.length ≤ 9223372036854775807 ∧ r.2.1.length ≤ 9223372036854775807) (fun r=>.bool (rightR ⟨r.1,r.2.1,r.2.2⟩)))
theorem P15f_ok:TabOK Tryz.prog P15f:=P15e_ok.add (callable_of Tryz.func127 (by kernel_rfl) (by kernel_rfl)) (entry_ok fun r h=>c_ref07_Right r.1 r.2.1 r.2.2 h.1 h.2)
@[go_sem] theorem P15f_old {g:FuncId} {xs:List A} (h:g ≠ 127):P15f.f g xs = P15e.f g xs:=Tab.add_ne h
theorem P15f_ref07_Right (r:List UInt8 × List UInt8 × Bool) (h:r.1.length ≤ 9223372036854775807 ∧ r.2.1.length ≤ 9223372036854775807):P15f.f 127 [.agg [.str r.1,.str r.2.1,.bool r.2.2]] = some (.bool (rightR ⟨r.1,r.2.1,r.2.2⟩)):=
 (Tab.add_eq:P15f.f 127 [.agg [.str r.1,.str r.2.1,.bool r.2.2]] = (entry (fun (r:List UInt8 × List UInt8 × Bool)=>[.agg [.str r.1,.str r.2.1,.bool r.2.2]]) (fun r=>r.1.length ≤ 9223372036854775807 ∧ r.2.1.length ≤ 9223372036854775807) (fun r=>.bool (rightR ⟨r.1,r.2.1,r.2.2⟩))) [.agg [.str r.1,.str r.2.1,.bool r.2.2]]).trans (entry_eq (fun i j h=>by first | (cases i; cases j; rfl; done) | simpa [Prod.ext_iff,and_assoc] using h | (simp at h; omega) | (simp at h; exact Prod.ext h.1 (Prod.ext h.2.1 (by omega)))) r h)
noncomputable def P15g:Tab:=P15f.add 144 (entry (fun (r:(List UInt8 × List UInt8 × Bool) × List UInt8)=>[.agg [.str r.1.1,.str r.1.2.1,.bool r.1.2.2],.str r.2]) (fun r=>(r.1.1.length ≤ 9223372036854775807 ∧ r.1.2.1.length ≤ 9223372036854775807) ∧ r.2.length ≤ 9223372036854775807) (fun r=>.bool (hasR ⟨r.1.1,r.1.2.1,r.1.2.2⟩ r.2)))
theorem P15g_ok:TabOK Tryz.prog P15g:=P15f_ok.add (callable_of Tryz.func144 (by kernel_rfl) (by kernel_rfl)) (entry_ok fun r h=>c_span_Has r.1.1 r.1.2.1 r.2 r.1.2.2 h.1.1 h.1.2 h.2)
@[go_sem] theorem P15g_old {g:FuncId} {xs:List A} (h:g ≠ 144):P15g.f g xs = P15f.f g xs:=Tab.add_ne h
theorem P15g_span_Has (r:(List UInt8 × List UInt8 × Bool) × List UInt8) (h:(r.1.1.length ≤ 9223372036854775807 ∧ r.1.2.1.length ≤ 9223372036854775807) ∧ r.2.length ≤ 9223372036854775807):P15g.f 144 [.agg [.str r.1.1,.str r.1.2.1,.bool r.1.2.2],.str r.2] = some (.bool (hasR ⟨r.1.1,r.1.2.1,r.1.2.2⟩ r.2)):=
 (Tab.add_eq:P15g.f 144 [.agg [.str r.1.1,.str r.1.2.1,.bool r.1.2.2],.str r.2] = (entry (fun (r:(List UInt8 × List UInt8 × Bool) × List UInt8)=>[.agg [.str r.1.1,.str r.1.2.1,.bool r.1.2.2],.str r.2]) (fun r=>(r.1.1.length ≤ 9223372036854775807 ∧ r.1.2.1.length ≤ 9223372036854775807) ∧ r.2.length ≤ 9223372036854775807) (fun r=>.bool (hasR ⟨r.1.1,r.1.2.1,r.1.2.2⟩ r.2))) [.agg [.str r.1.1,.str r.1.2.1,.bool r.1.2.2],.str r.2]).trans (entry_eq (fun i j h=>by first | (cases i; cases j; rfl; done) | simpa [Prod.ext_iff,and_assoc] using h | (simp at h; omega) | (simp at h; exact Prod.ext h.1 (Prod.ext h.2.1 (by omega)))) r h)
noncomputable def P15h:Tab:=P15g.add 96 (entry (fun (r:(List UInt8 × List UInt8 × Bool) × List UInt8)=>[.agg [.str r.1.1,.str r.1.2.1,.bool r.1.2.2],.str r.2]) (fun r=>(r.1.1.length ≤ 9223372036854775807 ∧ r.1.2.1.length ≤ 9223372036854775807) ∧ r.2.length ≤ 9223372036854775807) (fun r=>.bool (hasR ⟨r.1.1,r.1.2.1,r.1.2.2⟩ r.2)))
theorem P15h_ok:TabOK Tryz.prog P15h:=P15g_ok.add (callable_of Tryz.func96 (by kernel_rfl) (by kernel_rfl)) (entry_ok fun r h=>c_ref07_Has r.1.1 r.1.2.1 r.2 r.1.2.2 h.1.1 h.1.2 h.2)
@[go_sem] theorem P15h_old {g:FuncId} {xs:List A} (h:g ≠ 96):P15h.f g xs = P15g.f g xs:=Tab.add_ne h
theorem P15h_ref07_Has (r:(List UInt8 × List UInt8 × Bool) × List UInt8) (h:(r.1.1.length ≤ 9223372036854775807 ∧ r.1.2.1.length ≤ 9223372036854775807) ∧ r.2.length ≤ 9223372036854775807):P15h.f 96 [.agg [.str r.1.1,.str r.1.2.1,.bool r.1.2.2],.str r.2] = some (.bool (hasR ⟨r.1.1,r.1.2.1,r.1.2.2⟩ r.2)):=
 (Tab.add_eq:P15h.f 96 [.agg [.str r.1.1,.str r.1.2.1,.bool r.1.2.2],.str r.2] = (entry (fun (r:(List UInt8 × List UInt8 × Bool) × List UInt8)=>[.agg [.str r.1.1,.str r.1.2.1,.bool r.1.2.2],.str r.2]) (fun r=>(r.1.1.length ≤ 9223372036854775807 ∧ r.1.2.1.length ≤ 9223372036854775807) ∧ r.2.length ≤ 9223372036854775807) (fun r=>.bool (hasR ⟨r.1.1,r.1.2.1,r.1.2.2⟩ r.2))) [.agg [.str r.1.1,.str r.1.2.1,.bool r.1.2.2],.str r.2]).trans (entry_eq (fun i j h=>by first | (cases i; cases j; rfl; done) | simpa [Prod.ext_iff,and_assoc] using h | (simp at h; omega) | (simp at h; exact Prod.ext h.1 (Prod.ext h.2.1 (by omega)))) r h)
noncomputable def P15i:Tab:=P15h.add 223 (entry (fun (s:List UInt8)=>[.str s]) (fun s=>s.length ≤ 9223372036854775807) (fun s=>(ofR s).enc))
theorem P15i_ok:TabOK Tryz.prog P15i:=P15h_ok.add (callable_of Tryz.func223 (by kernel_rfl) (by kernel_rfl)) (entry_ok fun s h=>c_span_Of s h)
@[go_sem] theorem P15i_old {g:FuncId} {xs:List A} (h:g ≠ 223):P15i.f g xs = P15h.f g xs:=Tab.add_ne h
theorem P15i_span_Of (s:List UInt8) (h:s.length ≤ 9223372036854775807):P15i.f 223 [.str s] = some ((ofR s).enc):=
 (Tab.add_eq:P15i.f 223 [.str s] = (entry (fun (s:List UInt8)=>[.str s]) (fun s=>s.length ≤ 9223372036854775807) (fun s=>(ofR s).enc)) [.str s]).trans (entry_eq (fun i j h=>by first | (cases i; cases j; rfl; done) | simpa [Prod.ext_iff,and_assoc] using h | (simp at h; omega) | (simp at h; exact Prod.ext h.1 (Prod.ext h.2.1 (by omega)))) s h)
noncomputable def P15j:Tab:=P15i.add 158 (entry (fun (s:List UInt8)=>[.str s]) (fun s=>s.length ≤ 9223372036854775807) (fun s=>(ofR s).enc))
theorem P15j_ok:TabOK Tryz.prog P15j:=P15i_ok.add (callable_of Tryz.func158 (by kernel_rfl) (by kernel_rfl)) (entry_ok fun s h=>c_ref07_Of s h)
@[go_sem] theorem P15j_old {g:FuncId} {xs:List A} (h:g ≠ 158):P15j.f g xs = P15i.f g xs:=Tab.add_ne h
theorem P15j_ref07_Of (s:List UInt8) (h:s.length ≤ 9223372036854775807):P15j.f 158 [.str s] = some ((ofR s).enc):=
 (Tab.add_eq:P15j.f 158 [.str s] = (entry (fun (s:List UInt8)=>[.str s]) (fun s=>s.length ≤ 9223372036854775807) (fun s=>(ofR s).enc)) [.str s]).trans (entry_eq (fun i j h=>by first | (cases i; cases j; rfl; done) | simpa [Prod.ext_iff,and_assoc] using h | (simp at h; omega) | (simp at h; exact Prod.ext h.1 (Prod.ext h.2.1 (by omega)))) s h)
noncomputable def P15k:Tab:=P15j.add 147 (entry (fun (l:List Rng)=>[.slc (l.map Rng.enc)]) (fun l=>l.length ≤ 1000000 ∧ okL l) (fun l=>.slc ((setS (hasRs l)).map Rng.enc)))
theorem P15k_ok:TabOK Tryz.prog P15k:=P15j_ok.add (callable_of Tryz.func147 (by kernel_rfl) (by kernel_rfl)) (entry_ok fun l h=>c_ranges_Of l h.1 h.2)
@[go_sem] theorem P15k_old {g:FuncId} {xs:List A} (h:g ≠ 147):P15k.f g xs = P15j.f g xs:=Tab.add_ne h
theorem P15k_ranges_Of (l:List Rng) (h:l.length ≤ 1000000 ∧ okL l):P15k.f 147 [.slc (l.map Rng.enc)] = some (.slc ((setS (hasRs l)).map Rng.enc)):=
 (Tab.add_eq:P15k.f 147 [.slc (l.map Rng.enc)] = (entry (fun (l:List Rng)=>[.slc (l.map Rng.enc)]) (fun l=>l.length ≤ 1000000 ∧ okL l) (fun l=>.slc ((setS (hasRs l)).map Rng.enc))) [.slc (l.map Rng.enc)]).trans (entry_eq (fun i j h=>by first | (cases i; cases j; rfl; done) | simpa [Prod.ext_iff,and_assoc] using h | (simp at h; omega) | (simp at h; exact Prod.ext h.1 (Prod.ext h.2.1 (by omega)))) l h)
noncomputable def P15l:Tab:=P15k.add 78 (entry (fun (v:List Rng × List UInt8)=>[.slc (v.1.map Rng.enc),.str v.2]) (fun v=>v.1.length ≤ 100000 ∧ okL v.1 ∧ v.2.length ≤ 9223372036854775807) (fun v=>.bool (hasRs v.1 v.2)))
theorem P15l_ok:TabOK Tryz.prog P15l:=P15k_ok.add (callable_of Tryz.func78 (by kernel_rfl) (by kernel_rfl)) (entry_ok fun v h=>c_ranges_Has v.1 v.2 h.1 h.2.1 h.2.2)
@[go_sem] theorem P15l_old {g:FuncId} {xs:List A} (h:g ≠ 78):P15l.f g xs = P15k.f g xs:=Tab.add_ne h
theorem P15l_ranges_Has (v:List Rng × List UInt8) (h:v.1.length ≤ 100000 ∧ okL v.1 ∧ v.2.length ≤ 9223372036854775807):P15l.f 78 [.slc (v.1.map Rng.enc),.str v.2] = some (.bool (hasRs v.1 v.2)):=
 (Tab.add_eq:P15l.f 78 [.slc (v.1.map Rng.enc),.str v.2] = (entry (fun (v:List Rng × List UInt8)=>[.slc (v.1.map Rng.enc),.str v.2]) (fun v=>v.1.length ≤ 100000 ∧ okL v.1 ∧ v.2.length ≤ 9223372036854775807) (fun v=>.bool (hasRs v.1 v.2))) [.slc (v.1.map Rng.enc),.str v.2]).trans (entry_eq (fun i j h=>by first | (cases i; cases j; rfl; done) | simpa [Prod.ext_iff,and_assoc] using h | (simp at h; omega) | (simp at h; exact Prod.ext h.1 (Prod.ext h.2.1 (by omega)))) v h)
noncomputable def P15m:Tab:=P15l.add 218 (entry (fun (v:List Rng × List Rng)=>[.slc (v.1.map Rng.enc),.slc (v.2.map Rng.enc)]) (fun v=>(v.1.length ≤ 100000 ∧ v.2.length ≤ 100000) ∧ okL v.1 ∧ okL v.2) (fun v=>.slc ((setS fun s=>hasRs v.1 s && hasRs v.2 s).map Rng.enc)))
theorem P15m_ok:TabOK Tryz.prog P15m:=P15l_ok.add (callable_of Tryz.func218 (by kernel_rfl) (by kernel_rfl)) (entry_ok fun v h=>c_ranges_Meet v.1 v.2 h.1.1 h.1.2 h.2.1 h.2.2)
@[go_sem] theorem P15m_old {g:FuncId} {xs:List A} (h:g ≠ 218):P15m.f g xs = P15l.f g xs:=Tab.add_ne h
noncomputable def P15n:Tab:=P15m.add 220 (entry (fun (l:List Rng)=>[.slc (l.map Rng.enc)]) (fun l=>l.length ≤ 100000 ∧ okL l) (fun l=>.slc ((setS fun s=>!hasRs l s).map Rng.enc)))
theorem P15n_ok:TabOK Tryz.prog P15n:=P15m_ok.add (callable_of Tryz.func220 (by kernel_rfl) (by kernel_rfl)) (entry_ok fun l h=>c_ranges_Not l h.1 h.2)
@[go_sem] theorem P15n_old {g:FuncId} {xs:List A} (h:g ≠ 220):P15n.f g xs = P15m.f g xs:=Tab.add_ne h
noncomputable def P15o:Tab:=P15n.add 38 (entry (fun (v:List Rng × List UInt8)=>[.slc (v.1.map Rng.enc),.str v.2]) (fun v=>v.1.length ≤ 100000 ∧ okL v.1 ∧ v.2.length ≤ 9223372036854775807) (fun v=>.bool (hasRs v.1 v.2)))
theorem P15o_ok:TabOK Tryz.prog P15o:=P15n_ok.add (callable_of Tryz.func38 (by kernel_rfl) (by kernel_rfl)) (entry_ok fun v h=>c_ref08_Has v.1 v.2 (by omega) h.2.1 h.2.2)
@[go_sem] theorem P15o_old {g:FuncId} {xs:List A} (h:g ≠ 38):P15o.f g xs = P15n.f g xs:=Tab.add_ne h
theorem P15o_ref08_Has (v:List Rng × List UInt8) (h:v.1.length ≤ 100000 ∧ okL v.1 ∧ v.2.length ≤ 9223372036854775807):P15o.f 38 [.slc (v.1.map Rng.enc),.str v.2] = some (.bool (hasRs v.1 v.2)):=
 (Tab.add_eq:P15o.f 38 [.slc (v.1.map Rng.enc),.str v.2] = (entry (fun (v:List Rng × List UInt8)=>[.slc (v.1.map Rng.enc),.str v.2]) (fun v=>v.1.length ≤ 100000 ∧ okL v.1 ∧ v.2.length ≤ 9223372036854775807) (fun v=>.bool (hasRs v.1 v.2))) [.slc (v.1.map Rng.enc),.str v.2]).trans (entry_eq (fun i j h=>by first | (cases i; cases j; rfl; done) | simpa [Prod.ext_iff,and_assoc] using h | (simp at h; omega) | (simp at h; exact Prod.ext h.1 (Prod.ext h.2.1 (by omega)))) v h)
noncomputable def P15p:Tab:=P15o.add 108 (entry (fun (v:List Rng × List Rng)=>[.slc (v.1.map Rng.enc),.slc (v.2.map Rng.enc)]) (fun v=>(v.1.length ≤ 1000 ∧ v.2.length ≤ 1000) ∧ okL v.1 ∧ okL v.2) (fun v=>.slc ((edgesS v.1 v.2).map .str)))
theorem P15p_ok:TabOK Tryz.prog P15p:=P15o_ok.add (callable_of Tryz.func108 (by kernel_rfl) (by kernel_rfl)) (entry_ok fun v h=>c_ref08_Edges v.1 v.2 h.1.1 h.1.2 h.2.1 h.2.2)
@[go_sem] theorem P15p_old {g:FuncId} {xs:List A} (h:g ≠ 108):P15p.f g xs = P15o.f g xs:=Tab.add_ne h
theorem P15p_ref08_Edges (v:List Rng × List Rng) (h:(v.1.length ≤ 1000 ∧ v.2.length ≤ 1000) ∧ okL v.1 ∧ okL v.2):P15p.f 108 [.slc (v.1.map Rng.enc),.slc (v.2.map Rng.enc)] = some (.slc ((edgesS v.1 v.2).map .str)):=
 (Tab.add_eq:P15p.f 108 [.slc (v.1.map Rng.enc),.slc (v.2.map Rng.enc)] = (entry (fun (v:List Rng × List Rng)=>[.slc (v.1.map Rng.enc),.slc (v.2.map Rng.enc)]) (fun v=>(v.1.length ≤ 1000 ∧ v.2.length ≤ 1000) ∧ okL v.1 ∧ okL v.2) (fun v=>.slc ((edgesS v.1 v.2).map .str))) [.slc (v.1.map Rng.enc),.slc (v.2.map Rng.enc)]).trans (entry_eq (fun i j h=>by first | (cases i; cases j; rfl; done) | simpa [Prod.ext_iff,and_assoc] using h | (simp at h; omega) | (simp at h; exact Prod.ext h.1 (Prod.ext h.2.1 (by omega)))) v h)
noncomputable def P15q:Tab:=P15p.add 60 (entry (fun (v:List Rng × Int)=>[.slc (v.1.map Rng.enc),.int .i64 v.2]) (fun v=>v.1.length ≤ 4611686018427387904) (fun v=>.bool (longRs v.1 v.2)))
theorem P15q_ok:TabOK Tryz.prog P15q:=P15p_ok.add (callable_of Tryz.func60 (by kernel_rfl) (by kernel_rfl)) (entry_ok fun v h=>c_ref08_Long v.1 v.2 h)
@[go_sem] theorem P15q_old {g:FuncId} {xs:List A} (h:g ≠ 60):P15q.f g xs = P15p.f g xs:=Tab.add_ne h
noncomputable def P15r:Tab:=P15q.add 155 (entry (fun (l:List Ver)=>[.slc (l.map Ver.enc)]) (fun l=>l.length ≤ 1000000) (fun l=>.slc ((sortedV l).map Ver.enc)))
theorem P15r_ok:TabOK Tryz.prog P15r:=P15q_ok.add (callable_of Tryz.func155 (by kernel_rfl) (by kernel_rfl)) (entry_ok fun l h=>c_version_Sorted l h)
@[go_sem] theorem P15r_old {g:FuncId} {xs:List A} (h:g ≠ 155):P15r.f g xs = P15q.f g xs:=Tab.add_ne h
@[go_sem] theorem P15r_ords {n:Nat}:P15r.ords n = []:=rfl
theorem P15r_version_Sorted (l:List Ver) (h:l.length ≤ 1000000):P15r.f 155 [.slc (l.map Ver.enc)] = some (.slc ((sortedV l).map Ver.enc)):=
 (Tab.add_eq:P15r.f 155 [.slc (l.map Ver.enc)] = (entry (fun (l:List Ver)=>[.slc (l.map Ver.enc)]) (fun l=>l.length ≤ 1000000) (fun l=>.slc ((sortedV l).map Ver.enc))) [.slc (l.map Ver.enc)]).trans (entry_eq (fun i j h=>by first | (cases i; cases j; rfl; done) | simpa [Prod.ext_iff,and_assoc] using h | (simp at h; omega) | (simp at h; exact Prod.ext h.1 (Prod.ext h.2.1 (by omega)))) l h)
@[go_sem] theorem p_key_Cmp {a b:List UInt8} (h:a.length ≤ 9223372036854775807 ∧ b.length ≤ 9223372036854775807):P15a.f 133 [.str a,.str b] = some (.int .i64 (cmpB a b)):=P15a_key_Cmp (a,b) h
@[go_sem] theorem p_key_Right {s:List UInt8} (h:s.length ≤ 9223372036854775807):P15b.f 121 [.str s] = some (.bool (decide (1 ≤ s.length ∧ s.length ≤ 16))):=P15b_key_Right s h
@[go_sem] theorem p_ref06_Less {a b:List UInt8} (h:a.length ≤ 9223372036854775807 ∧ b.length ≤ 9223372036854775807):P15c.f 86 [.str a,.str b] = some (.bool (cmpB a b == -1)):=P15c_ref06_Less (a,b) h
@[go_sem] theorem p_ref06_Right {s:List UInt8} (h:s.length ≤ 9223372036854775807):P15d.f 122 [.str s] = some (.bool (decide (1 ≤ s.length ∧ s.length ≤ 16))):=P15d_ref06_Right s h
@[go_sem] theorem p_span_Right {lo hi:List UInt8} {op:Bool} (h:lo.length ≤ 9223372036854775807 ∧ hi.length ≤ 9223372036854775807):P15e.f 132 [.agg [.str lo,.str hi,.bool op]] = some (.bool (rightR ⟨lo,hi,op⟩)):=P15e_span_Right (lo,hi,op) h
@[go_sem] theorem p_ref07_Right {lo hi:List UInt8} {op:Bool} (h:lo.length ≤ 9223372036854775807 ∧ hi.length ≤ 9223372036854775807):P15f.f 127 [.agg [.str lo,.str hi,.bool op]] = some (.bool (rightR ⟨lo,hi,op⟩)):=P15f_ref07_Right (lo,hi,op) h
@[go_sem] theorem p_span_Has {lo hi s:List UInt8} {op:Bool} (h:(lo.length ≤ 9223372036854775807 ∧ hi.length ≤ 9223372036854775807) ∧ s.length ≤ 9223372036854775807):P15g.f 144 [.agg [.str lo,.str hi,.bool op],.str s] = some (.bool (hasR ⟨lo,hi,op⟩ s)):=P15g_span_Has ((lo,hi,op),s) h
@[go_sem] theorem p_ref07_Has {lo hi s:List UInt8} {op:Bool} (h:(lo.length ≤ 9223372036854775807 ∧ hi.length ≤ 9223372036854775807) ∧ s.length ≤ 9223372036854775807):P15h.f 96 [.agg [.str lo,.str hi,.bool op],.str s] = some (.bool (hasR ⟨lo,hi,op⟩ s)):=P15h_ref07_Has ((lo,hi,op),s) h
@[go_sem] theorem p_span_Of {s:List UInt8} (h:s.length ≤ 9223372036854775807):P15i.f 223 [.str s] = some ((ofR s).enc):=P15i_span_Of s h
@[go_sem] theorem p_ref07_Of {s:List UInt8} (h:s.length ≤ 9223372036854775807):P15j.f 158 [.str s] = some ((ofR s).enc):=P15j_ref07_Of s h
theorem p_ranges_Of {l:List Rng} (h:l.length ≤ 1000000) (h':okL l):P15k.f 147 [.slc (l.map Rng.enc)] = some (.slc ((setS (hasRs l)).map Rng.enc)):=P15k_ranges_Of l ⟨h,h'⟩
theorem p_ranges_Has {l:List Rng} {s:List UInt8} (h:l.length ≤ 100000) (h':okL l) (hs:s.length ≤ 9223372036854775807):P15l.f 78 [.slc (l.map Rng.enc),.str s] = some (.bool (hasRs l s)):=P15l_ranges_Has (l,s) ⟨h,h',hs⟩
theorem p_ref08_Has {l:List Rng} {s:List UInt8} (h:l.length ≤ 100000) (h':okL l) (hs:s.length ≤ 9223372036854775807):P15o.f 38 [.slc (l.map Rng.enc),.str s] = some (.bool (hasRs l s)):=P15o_ref08_Has (l,s) ⟨h,h',hs⟩
theorem p_ref08_Edges {a b:List Rng} (h:a.length ≤ 1000 ∧ b.length ≤ 1000) (ha:okL a) (hb:okL b):P15p.f 108 [.slc (a.map Rng.enc),.slc (b.map Rng.enc)] = some (.slc ((edgesS a b).map .str)):=P15p_ref08_Edges (a,b) ⟨h,ha,hb⟩
theorem p_Sorted {l:List Ver} (h:l.length ≤ 1000000):P15r.f 155 [.slc (l.map Ver.enc)] = some (.slc ((sortedV l).map Ver.enc)):=P15r_version_Sorted l h
def Pc.cells (p:Pc):List A:=[.str p.r.lo,.str p.r.hi,.bool p.r.op,.slc (p.s.map Known.enc)]
def Pc.enc (p:Pc):A:=.agg p.cells
@[go_sem] theorem Pc.enc_eq {lo hi:List UInt8} {op:Bool} {s:List Known}:Pc.enc ⟨⟨lo,hi,op⟩,s⟩ = .agg [.str lo,.str hi,.bool op,.slc (s.map Known.enc)]:=rfl
theorem Pc.enc_inj (v w:Pc) (h:v.enc = w.enc):v = w:=by
 obtain ⟨⟨a,b,c⟩,d⟩:=v
 obtain ⟨⟨a',b',c'⟩,d'⟩:=w
 simp only [Pc.enc_eq,A.agg.injEq,List.cons.injEq,A.str.injEq,A.bool.injEq,A.slc.injEq,and_true,map_known_inj] at h
 obtain ⟨rfl,rfl,rfl,rfl⟩:=h
 rfl
@[simp] theorem map_pc_inj {l m:List Pc}:(l.map Pc.enc = m.map Pc.enc) = (l = m):=map_inj Pc.enc_inj
theorem pc_get {l:List Pc} {k:Nat} (h:k < l.length):(l.map Pc.enc)[k]? = some (.agg [.str l[k].r.lo,.str l[k].r.hi,.bool l[k].r.op,.slc (l[k].s.map Known.enc)]):=by
 rw [List.getElem?_map,List.getElem?_eq_getElem h]; rfl
def wP (k:List Pc):Nat:=(k.map fun p=>p.s.length + sumK p.s).sum
def okP (k:List Pc):Prop:=(k.length ≤ 10000 ∧ wP k ≤ 900000) ∧ ∀ p ∈ k,p.r.lo.length ≤ 9223372036854775807 ∧ p.r.hi.length ≤ 9223372036854775807
def okR (k:List Pc):Prop:=okP k ∧ wP k ≤ 40000
theorem sum_one {a:Int} {c:Nat}:∀ k:Nat,((List.range k).map fun i:Nat=>if a = (i:Int) + 1 then c else 0).sum ≤ if 1 ≤ a ∧ a ≤ k then c else 0
 | 0=>by simp
 | k + 1=>by
  have ih:=sum_one (a:=a) (c:=c) k
  rw [List.range_succ,List.map_append,List.sum_append]
  simp only [List.map_cons,List.map_nil,List.sum_cons,List.sum_nil,Nat.add_zero]
  by_cases h:a = (k:Int) + 1
  ·rw [if_neg (by omega)] at ih
   rw [if_pos h,if_pos (by omega)]; omega
  ·rw [if_neg h,Nat.add_zero]
   refine Nat.le_trans ih ?_
   by_cases h1:1 ≤ a ∧ a ≤ (k:Int)
   ·rw [if_pos h1,if_pos (by omega)]; exact Nat.le_refl _
   ·rw [if_neg h1]; exact Nat.zero_le _
theorem sum_add {f g:Nat → Nat} (l:List Nat):(l.map fun i=>f i + g i).sum = (l.map f).sum + (l.map g).sum:=by
 induction l with
 | nil=>rfl
 | cons x l ih=>simp only [List.map_cons,List.sum_cons,ih]; omega
theorem sum_runs (s:List Known) (k:Nat):((List.range k).map fun i:Nat=>(runsK s ((i:Int) + 1)).length).sum ≤ sumK s:=by
 induction s with
 | nil=>
  have:∀ l:List Nat,(l.map fun i:Nat=>(runsK [] ((i:Int) + 1)).length).sum = 0:=fun l=>by
   induction l with
   | nil=>rfl
   | cons x l ih=>rw [List.map_cons,List.sum_cons,ih]; rfl
  rw [this]; exact Nat.zero_le _
 | cons q s ih=>
  have e:(fun i:Nat=>(runsK (q :: s) ((i:Int) + 1)).length) = fun i:Nat=>(if q.n = (i:Int) + 1 then q.rs.length else 0) + (runsK s ((i:Int) + 1)).length:=by
   funext i
   simp only [runsK]
   split
   ·rw [List.length_append]
   ·rw [Nat.zero_add]
  have e2:sumK (q :: s) = q.rs.length + sumK s:=by unfold sumK; rw [List.map_cons,List.sum_cons]
  rw [e,sum_add,e2]
  have h1:=sum_one (a:=q.n) (c:=q.rs.length) k
  have h2:(if 1 ≤ q.n ∧ q.n ≤ (k:Int) then q.rs.length else 0) ≤ q.rs.length:=by split <;> omega
  omega
theorem sum_mkT (t:Int → List Run):∀ k,sumK (mkT t k) ≤ ((List.range k).map fun i:Nat=>(t ((i:Int) + 1)).length).sum
 | 0=>by simp [mkT,sumK]
 | k + 1=>by
  have ih:=sum_mkT t k
  rw [List.range_succ,List.map_append,List.sum_append]
  simp only [List.map_cons,List.map_nil,List.sum_cons,List.sum_nil,Nat.add_zero,mkT]
  split
  ·omega
  ·rw [sumK_append]
   have e:sumK [⟨(k:Int) + 1,t (k + 1)⟩] = (t (k + 1)).length:=by simp [sumK]
   omega
theorem sum_le {f g:Nat → Nat} (h:∀ i,f i ≤ g i) (l:List Nat):(l.map f).sum ≤ (l.map g).sum:=by
 induction l with
 | nil=>exact Nat.le_refl _
 | cons x l ih=>simp only [List.map_cons,List.sum_cons]; have:=h x; omega
theorem ofK_w (s:List Known):(ofK s).length ≤ 16 ∧ sumK (ofK s) ≤ sumK s:=by
 unfold ofK setT
 refine ⟨mkT_len _ 16,Nat.le_trans (sum_mkT _ 16) (Nat.le_trans (sum_le (fun i=>setR_has_len _) _) (sum_runs s 16))⟩
theorem opK_w (op:Int) (a b:List Known):(opK op a b).length ≤ 16 ∧ sumK (opK op a b) ≤ 2 * sumK a + 2 * sumK b:=by
 refine ⟨by unfold opK setT; exact mkT_len _ 16,?_⟩
 have h1:=sum_mkT (fun n=>setR (opP op (runsK a n) (runsK b n))) 16
 have h2:=sum_le (f:=fun i:Nat=>(setR (opP op (runsK a ((i:Int) + 1)) (runsK b ((i:Int) + 1)))).length) (g:=fun i:Nat=>((runsK a ((i:Int) + 1)).length + (runsK a ((i:Int) + 1)).length) + ((runsK b ((i:Int) + 1)).length + (runsK b ((i:Int) + 1)).length)) (fun i=>by
  have:=setR_op_len op (runsK a ((i:Int) + 1)) (runsK b ((i:Int) + 1))
  omega) (List.range 16)
 rw [sum_add,sum_add,sum_add] at h2
 have h3:=sum_runs a 16
 have h4:=sum_runs b 16
 have h5:sumK (opK op a b) ≤ ((List.range 16).map fun i:Nat=>(setR (opP op (runsK a ((i:Int) + 1)) (runsK b ((i:Int) + 1)))).length).sum:=h1
 omega
theorem wP_cons (p:Pc) (k:List Pc):wP (p :: k) = (p.s.length + sumK p.s) + wP k:=by unfold wP; rw [List.map_cons,List.sum_cons]
theorem wP_append (k m:List Pc):wP (k ++ m) = wP k + wP m:=by simp [wP]
theorem wP_mem {k:List Pc} {p:Pc} (h:p ∈ k):p.s.length + sumK p.s ≤ wP k:=by
 induction k with
 | nil=>cases h
 | cons q k ih=>
  rw [wP_cons]
  rcases List.mem_cons.1 h with rfl | h
  ·omega
  ·have:=ih h; omega
theorem okP_small {k:List Pc} (h:okP k) {p:Pc} (hp:p ∈ k):smallK p.s:=by
 have:=wP_mem hp
 have:=h.1.2
 exact ⟨by omega,by omega⟩
theorem setAt_w (k:List Pc) (x:List UInt8):(setAt k x).length + sumK (setAt k x) ≤ wP k:=by
 induction k with
 | nil=>simp [setAt,sumK]
 | cons p k ih=>
  have e:setAt (p :: k) x = (if hasR p.r x = true then p.s else []) ++ setAt k x:=by
   unfold setAt
   by_cases h:hasR p.r x = true
   ·simp [h]
   ·simp [h]
  rw [e,List.length_append,sumK_append,wP_cons]
  split
  ·omega
  ·simp only [List.length_nil]
   have:sumK [] = 0:=rfl
   omega
theorem setAt_small {k:List Pc} (h:okP k) (x:List UInt8):smallK (setAt k x) ∧ smallK (ofK (setAt k x)):=by
 have h1:=setAt_w k x
 have h2:=h.1.2
 have h3:=ofK_w (setAt k x)
 exact ⟨⟨by omega,by omega⟩,⟨by omega,by omega⟩⟩
theorem setAt_mid {k:List Pc} (h:okR k) (x:List UInt8):midK (setAt k x) ∧ midK (ofK (setAt k x)):=by
 have h1:=setAt_w k x
 have h2:=h.2
 exact ⟨mid_of (by omega) (by omega),mid_ofK (by omega)⟩
noncomputable def atP (k:List Pc) (x:List UInt8):List Known:=ofK (setAt k x)
theorem setAt_snoc {k:List Pc} {j:Nat} (h:j < k.length) (x:List UInt8):setAt (k.take (j + 1)) x = setAt (k.take j) x ++ (if hasR k[j].r x = true then k[j].s else []):=by
 rw [← List.take_append_getElem h,setAt_append]
 congr 1
 unfold setAt
 by_cases h:hasR k[j].r x = true
 ·simp [h]
 ·simp [h]
theorem wP_take {k:List Pc} {j:Nat} (h:j < k.length):wP (k.take j) + (k[j].s.length + sumK k[j].s) ≤ wP k:=by
 have e:k = k.take j ++ k[j] :: k.drop (j + 1):=by
  rw [← List.drop_eq_getElem_cons h,List.take_append_drop]
 have h2:wP k = wP (k.take j) + wP (k[j] :: k.drop (j + 1)):=by rw [← wP_append,← e]
 have h3:=wP_cons k[j] (k.drop (j + 1))
 omega
theorem stKns (l:List Known):((l.map Known.enc).isEmpty || strideOf (l.map Known.enc) == 2) = true:=by cases l <;> rfl
noncomputable def A15:Tab:={ P15r with eff:=fun f=>f == 180 || f == 129,frz:=fun f=>f == 180 || f == 129 }
theorem A15_ok:TabOK Tryz.prog A15:=⟨P15r_ok.f,P15r_ok.hp⟩
@[go_sem] theorem A15_f:A15.f = P15r.f:=rfl
@[go_sem] theorem A15_eff {g:FuncId}:A15.eff g = (g == 180 || g == 129):=rfl
@[go_sem] theorem A15_frz {g:FuncId}:A15.frz g = (g == 180 || g == 129):=rfl
@[go_sem] theorem A15_fix {n:Nat}:A15.fix n = false:=rfl
@[go_sem] theorem A15_ords {n:Nat}:A15.ords n = []:=rfl
theorem ok_know_At:codeOK Tryz.prog A15 Tryz.f151.ntmps (Tryz.f151.body.getD .skip) = true:=by kernel_rfl
theorem c_know_At (k:List Pc) (x:List UInt8) (hk:okP k) (hx:x.length ≤ 9223372036854775807):CallA Tryz.prog 151 [.slc (k.map Pc.enc),.str x] (· = .slc ((atP k x).map Known.enc)):=by
 refine callA_of_body A15_ok mixed Tryz.func151 rfl (Nat.le_of_ble_eq_true rfl) ok_know_At ?_
 unfold Tryz.f151
 obtain ⟨⟨k1,k2⟩,k3⟩:=id hk
 simp -implicitDefEqProofs (maxSteps:=600000) (disch:=(first | omega | decide)) only [go_sem,↓reduceIte,seval,List.length_map]
 refine wpA_loop_nil 5 2 rfl ?_
 refine wpA_loop [0,1,8,9] (ι:={j:Nat // j ≤ k.length}) (fun p=>[(10,.int .i64 p.1),(5,.row 0 0 2 (setAt (k.take p.1) x).length false)]) (fun p=>[(0,.row 2 ((setAt (k.take p.1) x).map Known.enc))]) (fun p=>k.length - p.1) ⟨0,by omega⟩ (Nat.zero_le _) ?_ ?_
 ·simp -implicitDefEqProofs (maxSteps:=600000) (disch:=(first | omega | decide)) only [go_sem,↓reduceIte,seval]
  simp [setAt]
 ·rintro ⟨j,hj⟩
  simp only
  have hw:=setAt_w (k.take j) x
  by_cases hlt:j < k.length
  ·have hlt':(j:Int) < (k.length:Int):=by omega
   have e1:=pc_get hlt
   have hm:=wP_take hlt
   have hsn:=setAt_snoc hlt x
   have hok:=k3 _ (List.getElem_mem hlt)
   generalize hp:k[j] = p at *
   obtain ⟨⟨lo,hi,op⟩,s⟩:=p
   simp only at hm hsn hok
   have st:=stKns s
   cases h2:hasR ⟨lo,hi,op⟩ x with
   | false=>
    rw [h2,if_neg (by simp),List.append_nil] at hsn
    simp -implicitDefEqProofs (maxSteps:=600000) (disch:=(first | omega | decide)) only [go_sem,↓reduceIte,seval,hlt',e1,h2,wrap_i64,List.length_map]
    exact ⟨⟨j + 1,hlt⟩,⟨⟨by simp,by rw [hsn]⟩,by rw [hsn]⟩,by show k.length - (j + 1) < k.length - j; omega⟩
   | true=>
    rw [h2,if_pos rfl] at hsn
    simp -implicitDefEqProofs (maxSteps:=600000) (disch:=(first | omega | decide)) only [go_sem,↓reduceIte,seval,hlt',e1,h2,st,wrap_i64,List.length_map]
    exact ⟨⟨Nat.le_refl _,by omega⟩,⟨j + 1,hlt⟩,⟨⟨by simp,by rw [hsn,List.length_append]⟩,by rw [hsn,List.map_append,List.take_of_length_le (by simp)]⟩,by show k.length - (j + 1) < k.length - j; omega⟩
  ·have hlt':¬ (j:Int) < (k.length:Int):=by omega
   rw [List.take_of_length_le (by omega)] at *
   have ho:=k_vset_Of (setAt_small hk x).1
   have tl:((setAt k x).map Known.enc).take (setAt k x).length = (setAt k x).map Known.enc:=List.take_of_length_le (by simp)
   simp -implicitDefEqProofs (maxSteps:=600000) (disch:=(first | omega | decide)) only [go_sem,↓reduceIte,seval,hlt',ho,tl,List.length_map,List.contains_nil,List.contains_cons]
   exact ⟨Nat.le_refl _,rfl⟩
theorem ok_ref15_At:codeOK Tryz.prog A15 Tryz.f224.ntmps (Tryz.f224.body.getD .skip) = true:=by kernel_rfl
theorem c_ref15_At (k:List Pc) (x:List UInt8) (hk:okR k) (hx:x.length ≤ 9223372036854775807):CallA Tryz.prog 224 [.slc (k.map Pc.enc),.str x] (· = .slc ((atP k x).map Known.enc)):=by
 refine callA_of_body A15_ok mixed Tryz.func224 rfl (Nat.le_of_ble_eq_true rfl) ok_ref15_At ?_
 unfold Tryz.f224
 obtain ⟨⟨⟨k1,k2⟩,k3⟩,k4⟩:=id hk
 simp -implicitDefEqProofs (maxSteps:=600000) (disch:=(first | omega | decide)) only [go_sem,↓reduceIte,seval,List.length_map]
 refine wpA_loop_nil 5 2 rfl ?_
 refine wpA_loop [0,1] (ι:={j:Nat // j ≤ k.length}) (fun p=>[(6,.int .i64 p.1),(5,.row 0 0 2 (setAt (k.take p.1) x).length false)]) (fun p=>[(0,.row 2 ((setAt (k.take p.1) x).map Known.enc))]) (fun p=>k.length - p.1) ⟨0,by omega⟩ (Nat.zero_le _) ?_ ?_
 ·simp -implicitDefEqProofs (maxSteps:=600000) (disch:=(first | omega | decide)) only [go_sem,↓reduceIte,seval]
  simp [setAt]
 ·rintro ⟨j,hj⟩
  simp only
  have hw:=setAt_w (k.take j) x
  by_cases hlt:j < k.length
  ·have hlt':(j:Int) < (k.length:Int):=by omega
   have e1:=pc_get hlt
   have hm:=wP_take hlt
   have hsn:=setAt_snoc hlt x
   have hok:=k3 _ (List.getElem_mem hlt)
   generalize hp:k[j] = p at *
   obtain ⟨⟨lo,hi,op⟩,s⟩:=p
   simp only at hm hsn hok
   have st:=stKns s
   cases h2:hasR ⟨lo,hi,op⟩ x with
   | false=>
    rw [h2,if_neg (by simp),List.append_nil] at hsn
    simp -implicitDefEqProofs (maxSteps:=600000) (disch:=(first | omega | decide)) only [go_sem,↓reduceIte,seval,hlt',e1,h2,wrap_i64,List.length_map]
    exact ⟨⟨j + 1,hlt⟩,⟨⟨by simp,by rw [hsn]⟩,by rw [hsn]⟩,by show k.length - (j + 1) < k.length - j; omega⟩
   | true=>
    rw [h2,if_pos rfl] at hsn
    simp -implicitDefEqProofs (maxSteps:=600000) (disch:=(first | omega | decide)) only [go_sem,↓reduceIte,seval,hlt',e1,h2,st,wrap_i64,List.length_map]
    exact ⟨⟨Nat.le_refl _,by omega⟩,⟨j + 1,hlt⟩,⟨⟨by simp,by rw [hsn,List.length_append]⟩,by rw [hsn,List.map_append,List.take_of_length_le (by simp)]⟩,by show k.length - (j + 1) < k.length - j; omega⟩
  ·have hlt':¬ (j:Int) < (k.length:Int):=by omega
   rw [List.take_of_length_le (by omega)] at *
   have ho:=k_ref14_Of (setAt_mid hk x).1
   have tl:((setAt k x).map Known.enc).take (setAt k x).length = (setAt k x).map Known.enc:=List.take_of_length_le (by simp)
   simp -implicitDefEqProofs (maxSteps:=600000) (disch:=(first | omega | decide)) only [go_sem,↓reduceIte,seval,hlt',ho,tl,List.length_map,List.contains_nil,List.contains_cons]
   exact ⟨Nat.le_refl _,rfl⟩
theorem ok_know_touch:codeOK Tryz.prog P15r Tryz.f136.ntmps (Tryz.f136.body.getD .skip) = true:=by kernel_rfl
theorem c_know_touch (lo hi lo' hi':List UInt8) (op op':Bool):CallA Tryz.prog 136 [.agg [.str lo,.str hi,.bool op],.agg [.str lo',.str hi',.bool op']] (· = .bool (!op && hi == lo')):=by
 refine callA_of_body P15r_ok mixed Tryz.func136 rfl (Nat.le_of_ble_eq_true rfl) ok_know_touch ?_
 unfold Tryz.f136
 cases op with
 | true=>simp -implicitDefEqProofs (maxSteps:=600000) (disch:=(first | omega | decide)) only [go_sem,↓reduceIte,seval,Bool.not_true,Bool.false_and]
 | false=>cases h:hi == lo' <;> simp -implicitDefEqProofs (maxSteps:=600000) (disch:=(first | omega | decide)) only [go_sem,↓reduceIte,seval,h,Bool.not_false,Bool.true_and]
noncomputable def P15s:Tab:=P15r.add 136 (entry (fun (v:(List UInt8 × List UInt8 × Bool) × (List UInt8 × List UInt8 × Bool))=>[.agg [.str v.1.1,.str v.1.2.1,.bool v.1.2.2],.agg [.str v.2.1,.str v.2.2.1,.bool v.2.2.2]]) (fun v=>True) (fun v=>.bool (!v.1.2.2 && v.1.2.1 == v.2.1)))
theorem P15s_ok:TabOK Tryz.prog P15s:=P15r_ok.add (callable_of Tryz.func136 (by kernel_rfl) (by kernel_rfl)) (entry_ok fun v h=>c_know_touch v.1.1 v.1.2.1 v.2.1 v.2.2.1 v.1.2.2 v.2.2.2)
@[go_sem] theorem P15s_old {g:FuncId} {xs:List A} (h:g ≠ 136):P15s.f g xs = P15r.f g xs:=Tab.add_ne h
@[go_sem] theorem P15s_eff {g:FuncId}:P15s.eff g = false:=rfl
@[go_sem] theorem P15s_ords {n:Nat}:P15s.ords n = []:=rfl
theorem P15s_know_touch (v:(List UInt8 × List UInt8 × Bool) × (List UInt8 × List UInt8 × Bool)) (h:True):P15s.f 136 [.agg [.str v.1.1,.str v.1.2.1,.bool v.1.2.2],.agg [.str v.2.1,.str v.2.2.1,.bool v.2.2.2]] = some (.bool (!v.1.2.2 && v.1.2.1 == v.2.1)):=
 (Tab.add_eq:P15s.f 136 [.agg [.str v.1.1,.str v.1.2.1,.bool v.1.2.2],.agg [.str v.2.1,.str v.2.2.1,.bool v.2.2.2]] = (entry (fun (v:(List UInt8 × List UInt8 × Bool) × (List UInt8 × List UInt8 × Bool))=>[.agg [.str v.1.1,.str v.1.2.1,.bool v.1.2.2],.agg [.str v.2.1,.str v.2.2.1,.bool v.2.2.2]]) (fun v=>True) (fun v=>.bool (!v.1.2.2 && v.1.2.1 == v.2.1))) [.agg [.str v.1.1,.str v.1.2.1,.bool v.1.2.2],.agg [.str v.2.1,.str v.2.2.1,.bool v.2.2.2]]).trans (entry_eq (fun i j h=>by first | (cases i; cases j; rfl; done) | simpa [Prod.ext_iff,and_assoc] using h | (simp at h; omega) | (simp at h; exact Prod.ext h.1 (Prod.ext h.2.1 (by omega)))) v h)
@[go_sem] theorem p_touch {lo hi lo' hi':List UInt8} {op op':Bool}:P15s.f 136 [.agg [.str lo,.str hi,.bool op],.agg [.str lo',.str hi',.bool op']] = some (.bool (!op && hi == lo')):=P15s_know_touch ((lo,hi,op),(lo',hi',op')) trivial
def prevP (k:List Pc) (j:Nat):Option Pc:=if j = 0 then none else some k[j - 1]!
theorem ofK_self {s:List Known} (h:rightK s = true):ofK s = s:=right_setK h
theorem ok_know_Right:codeOK Tryz.prog P15s Tryz.f71.ntmps (Tryz.f71.body.getD .skip) = true:=by kernel_rfl
theorem c_know_Right (k:List Pc) (hk:okP k):CallA Tryz.prog 71 [.slc (k.map Pc.enc)] (· = .bool (rightP k)):=by
 refine callA_of_body P15s_ok mixed Tryz.func71 rfl (Nat.le_of_ble_eq_true rfl) ok_know_Right ?_
 unfold Tryz.f71
 obtain ⟨⟨k1,k2⟩,k3⟩:=id hk
 simp -implicitDefEqProofs (maxSteps:=600000) (disch:=(first | omega | decide)) only [go_sem,↓reduceIte,seval,List.length_map]
 refine wpA_loop [0,6,7] (ι:={j:Nat // j ≤ k.length ∧ rightP k = goP (prevP k j) (k.drop j) ∧ ∀ q,prevP k j = some q → rightK q.s = true}) (fun p=>[(8,.int .i64 p.1)]) (fun _=>[]) (fun p=>k.length - p.1) ⟨0,by omega,rfl,fun q hq=>by cases hq⟩ (Nat.zero_le _) ?_ ?_
 ·simp -implicitDefEqProofs (maxSteps:=600000) (disch:=(first | omega | decide)) only [go_sem,↓reduceIte,seval]
 ·rintro ⟨j,hj,hd,hpr⟩
  simp only at hj hd hpr ⊢
  by_cases hlt:j < k.length
  ·have hlt':(j:Int) < (k.length:Int):=by omega
   have e1:=pc_get hlt
   have hok:=k3 _ (List.getElem_mem hlt)
   have hsm:=okP_small hk (List.getElem_mem hlt)
   have hp':prevP k (j + 1) = some k[j]:=by
    unfold prevP; rw [if_neg (by omega),Nat.add_sub_cancel,getElem!_pos k j hlt]
   rw [List.drop_eq_getElem_cons hlt] at hd
   generalize hx:k[j] = x at *
   obtain ⟨⟨lo,hi,op⟩,s⟩:=x
   simp only [goP,onePc] at hd hok hsm
   have next:rightP k = goP (some ⟨⟨lo,hi,op⟩,s⟩) (k.drop (j + 1)) → rightK s = true → ∃ i:{j:Nat // j ≤ k.length ∧ rightP k = goP (prevP k j) (k.drop j) ∧ ∀ q,prevP k j = some q → rightK q.s = true},(j:Int) + 1 = (i.1:Int) ∧ k.length - i.1 < k.length - j:=fun h h'=>⟨⟨j + 1,hlt,by rw [hp']; exact h,fun q hq=>by rw [hp'] at hq; obtain rfl:=Option.some.inj hq; exact h'⟩,by simp,by show k.length - (j + 1) < k.length - j; omega⟩
   cases h1:rightR ⟨lo,hi,op⟩ with
   | false=>
    have hh:rightP k = false:=by rw [hd,h1]; simp
    simp -implicitDefEqProofs (maxSteps:=600000) (disch:=(first | omega | decide)) only [go_sem,↓reduceIte,seval,hlt',e1,h1,hh,List.length_map]
   | true=>
    cases h2:((s.length:Int) == 0) with
    | true=>
     have:s = []:=List.length_eq_zero_iff.1 (by have:(s.length:Int) = 0:=by simpa using h2
                                                omega)
     have hh:rightP k = false:=by rw [hd,this]; simp
     simp -implicitDefEqProofs (maxSteps:=600000) (disch:=(first | omega | decide)) only [go_sem,↓reduceIte,seval,hlt',e1,h1,h2,hh,List.length_map]
    | false=>
     have hne:s.isEmpty = false:=by
          cases s with
          | nil=>simp at h2
          | cons _ _=>rfl
     have hvr:=k_vset_Right hsm
     cases h3:rightK s with
     | false=>
          have hh:rightP k = false:=by rw [hd,h3]; simp
          rw [h3] at hvr
          simp -implicitDefEqProofs (maxSteps:=600000) (disch:=(first | omega | decide)) only [go_sem,↓reduceIte,seval,hlt',e1,h1,h2,hvr,hh,List.length_map]
     | true=>
          rw [h3] at hvr
          rw [h1,hne,h3] at hd
          simp only [Bool.not_false,Bool.and_self,Bool.true_and] at hd
          by_cases hj0:j = 0
          ·have hz:((j:Int) == 0) = true:=by simp [hj0]
           have hh:rightP k = goP (some ⟨⟨lo,hi,op⟩,s⟩) (k.drop (j + 1)):=by
            rw [hd]; unfold prevP; rw [if_pos hj0,Bool.true_and]
           simp -implicitDefEqProofs (maxSteps:=600000) (disch:=(first | omega | decide)) only [go_sem,↓reduceIte,seval,hlt',e1,h1,h2,hvr,hz,wrap_i64,List.length_map]
           exact next hh h3
          ·have hz:((j:Int) == 0) = false:=by simp; omega
           have hlt2:j - 1 < k.length:=by omega
           have e2:=pc_get hlt2
           have hok2:=k3 _ (List.getElem_mem hlt2)
           have hsm2:=okP_small hk (List.getElem_mem hlt2)
           have hpk:prevP k j = some k[j - 1]:=by unfold prevP; rw [if_neg hj0,getElem!_pos k (j - 1) hlt2]
           have hr2:=hpr _ hpk
           rw [hpk] at hd
           generalize hy:k[j - 1] = y at *
           obtain ⟨⟨lo',hi',op'⟩,s'⟩:=y
           simp only at hok2 hsm2 hr2
           have c1:((j:Int) - 1).toNat = j - 1:=by omega
           have c2:(0:Int) ≤ (j:Int) - 1:=by omega
           have hsame:=l_Same hsm2 hsm (by rw [ofK_self hr2]; exact hsm2) (by rw [ofK_self h3]; exact hsm)
           rw [ofK_self hr2,ofK_self h3] at hsame
           simp only [nextPc] at hd
           cases h4:op' with
           | true=>
            have hh:rightP k = false:=by rw [hd,h4]; simp
            subst h4
            simp -implicitDefEqProofs (maxSteps:=600000) (disch:=(first | omega | decide)) only [go_sem,↓reduceIte,seval,hlt',e1,h1,h2,hvr,hz,e2,c1,c2,hh,wrap_i64,List.length_map]
           | false=>
            subst h4
            cases h5:ltB lo hi' with
            | true=>
             have hh:rightP k = false:=by rw [hd,h5]; simp
             simp -implicitDefEqProofs (maxSteps:=600000) (disch:=(first | omega | decide)) only [go_sem,↓reduceIte,seval,hlt',e1,h1,h2,hvr,hz,e2,c1,c2,h5,hh,wrap_i64,List.length_map]
            | false=>
             cases h6:hi' == lo with
             | false=>
              have hh:rightP k = goP (some ⟨⟨lo,hi,op⟩,s⟩) (k.drop (j + 1)):=by rw [hd,h5,h6]; simp
              simp -implicitDefEqProofs (maxSteps:=600000) (disch:=(first | omega | decide)) only [go_sem,↓reduceIte,seval,hlt',e1,h1,h2,hvr,hz,e2,c1,c2,h5,h6,wrap_i64,List.length_map]
              exact next hh h3
             | true=>
              cases h7:sameK s' s with
              | true=>
                      have h7':s' = s:=by simpa [sameK] using h7
                      rw [h7] at hsame
                      have hh:rightP k = false:=by rw [hd,h6,h7']; simp
                      simp -implicitDefEqProofs (maxSteps:=600000) (disch:=(first | omega | decide)) only [go_sem,↓reduceIte,seval,hlt',e1,h1,h2,hvr,hz,e2,c1,c2,h5,h6,hsame,hh,wrap_i64,List.length_map]
              | false=>
                      have h7':s' ≠ s:=by simpa [sameK] using h7
                      rw [h7] at hsame
                      have hh:rightP k = goP (some ⟨⟨lo,hi,op⟩,s⟩) (k.drop (j + 1)):=by rw [hd,h5,h6,decide_eq_false h7']; simp
                      simp -implicitDefEqProofs (maxSteps:=600000) (disch:=(first | omega | decide)) only [go_sem,↓reduceIte,seval,hlt',e1,h1,h2,hvr,hz,e2,c1,c2,h5,h6,hsame,wrap_i64,List.length_map]
                      exact next hh h3
  ·have hlt':¬ (j:Int) < (k.length:Int):=by omega
   have hh:rightP k = true:=by rw [hd,List.drop_of_length_le (by omega)]; rfl
   simp -implicitDefEqProofs (maxSteps:=600000) (disch:=(first | omega | decide)) only [go_sem,↓reduceIte,seval,hlt',hh,List.length_map]
end Go.Proofs.YtjfdlpagcgpaoaaGreat
