/- What the laws of this claim rest on: the abstract executor, its soundness, and what the functions compute on pure data. No condition. -/
import Derived.Test.YtjfdlpagcgpaoaaGreatU4
import Derived.Shelf.SlSortCmp.NoneTotal
import Derived.Ground.SlsfProg
import Derived.Test.YtjfdlpagcgpaoaaGreatProg
set_option linter.unusedVariables false
set_option linter.unusedSimpArgs false
namespace Go.Proofs.YtjfdlpagcgpaoaaGreat
open Go.Abs
set_option linter.unusedSimpArgs false
set_option linter.unusedVariables false
set_option maxRecDepth 20000
set_option maxHeartbeats 4000000
def prevT (l:List Run) (k:Nat):Option Int:=if k = 0 then none else (l[k - 1]?).map Run.t
theorem ok_counts_Right:codeOK Tryz.prog T13b Tryz.f179.ntmps (Tryz.f179.body.getD .skip) = true:=by kernel_rfl
theorem c_counts_Right (l:List Run) (hl:l.length ≤ 4611686018427387904):CallA Tryz.prog 179 [.slc (l.map Run.enc)] (· = .bool (rightL l)):=by
 refine callA_of_body T13b_ok mixed Tryz.func179 rfl (Nat.le_of_ble_eq_true rfl) ok_counts_Right ?_
 unfold Tryz.f179
 simp -implicitDefEqProofs (maxSteps:=600000) (disch:=(first | omega | decide)) only [go_sem,↓reduceIte,seval,List.length_map]
 refine wpA_loop [0,5,6] (ι:={k:Nat // k ≤ l.length ∧ rightL l = goR (prevT l k) (l.drop k) ∧ ∀ h:k - 1 < l.length,0 < k → oneR l[k - 1] = true}) (fun p=>[(7,.int .i64 p.1),(2,.bool false)]) (fun _=>[]) (fun p=>l.length - p.1) ⟨0,by omega,rfl,fun _ h=>absurd h (by omega)⟩ (Nat.zero_le _) ?_ ?_
 ·simp -implicitDefEqProofs (maxSteps:=600000) (disch:=(first | omega | decide)) only [go_sem,↓reduceIte,seval]
 ·rintro ⟨k,hk,hd,hp⟩
  simp only
  by_cases hlt:k < l.length
  ·have hlt':(k:Int) < (l.length:Int):=by omega
   have e1:=run_get hlt
   have hprev:prevT l (k + 1) = some l[k].t:=by
    unfold prevT; rw [if_neg (by omega),show k + 1 - 1 = k by omega,List.getElem?_eq_getElem hlt]; rfl
   rw [List.drop_eq_getElem_cons hlt] at hd
   simp only [goR] at hd
   have next:rightL l = goR (some l[k].t) (l.drop (k + 1)) → oneR l[k] = true → ∃ j:{k:Nat // k ≤ l.length ∧ rightL l = goR (prevT l k) (l.drop k) ∧ ∀ h:k - 1 < l.length,0 < k → oneR l[k - 1] = true},(k:Int) + 1 = (j.1:Int) ∧ l.length - j.1 < l.length - k:=fun h h'=>⟨⟨k + 1,hlt,by rw [hprev]; exact h,fun _ _=>h'⟩,by simp,by show l.length - (k + 1) < l.length - k; omega⟩
   generalize hx:l[k] = x at *
   obtain ⟨f,t⟩:=x
   cases h1:oneR ⟨f,t⟩ with
   | false=>
    have hh:rightL l = false:=by rw [hd,h1]; rfl
    simp -implicitDefEqProofs (maxSteps:=600000) (disch:=(first | omega | decide)) only [go_sem,↓reduceIte,seval,hlt',e1,h1,hh,wrap_i64,List.length_map]
   | true=>
    obtain ⟨o1,o2,o3⟩:=one_parts h1
    simp only at o1 o2 o3
    by_cases h0:0 < k
    ·have h0':(0:Int) < (k:Int):=by omega
     have hk1:k - 1 < l.length:=by omega
     have e0:=run_get hk1
     have hpo:=hp hk1 h0
     have hpt:prevT l k = some l[k - 1].t:=by
          unfold prevT; rw [if_neg (by omega),List.getElem?_eq_getElem hk1]; rfl
     have t0:((k:Int) - 1).toNat = k - 1:=by omega
     have b0:(0:Int) ≤ (k:Int) - 1:=by omega
     have b1:(k:Int) - 1 < (l.length:Int):=by omega
     rw [hpt] at hd
     generalize hy:l[k - 1] = y at *
     obtain ⟨f',t'⟩:=y
     obtain ⟨p1,p2,p3⟩:=one_parts hpo
     simp only at p1 p2 p3 hd
     by_cases h2:f - t' < 2
     ·have hh:rightL l = false:=by
       rw [hd]; have:¬ t' + 2 ≤ f:=by omega
       simp [this]
      simp -implicitDefEqProofs (maxSteps:=600000) (disch:=(first | omega | decide)) only [go_sem,↓reduceIte,seval,hlt',e1,e0,h1,h0',t0,b0,b1,h2,hh,wrap_i64,List.length_map]
     ·simp -implicitDefEqProofs (maxSteps:=600000) (disch:=(first | omega | decide)) only [go_sem,↓reduceIte,seval,hlt',e1,e0,h1,h0',t0,b0,b1,h2,wrap_i64,List.length_map]
      have h3:t' + 2 ≤ f:=by omega
      exact next (by rw [hd,h1]; simp [h3]) h1
    ·have h0':¬ (0:Int) < (k:Int):=by omega
     simp -implicitDefEqProofs (maxSteps:=600000) (disch:=(first | omega | decide)) only [go_sem,↓reduceIte,seval,hlt',e1,h1,h0',wrap_i64,List.length_map]
     have hk0:k = 0:=by omega
     exact next (by rw [hd,h1]; simp [prevT,hk0]) h1
  ·have hlt':¬ (k:Int) < (l.length:Int):=by omega
   have hh:rightL l = true:=by
    rw [hd,List.drop_of_length_le (by omega)]; cases prevT l k <;> rfl
   simp -implicitDefEqProofs (maxSteps:=600000) (disch:=(first | omega | decide)) only [go_sem,↓reduceIte,seval,hlt',hh,List.length_map]
theorem ok_ref13_Right:codeOK Tryz.prog T13b Tryz.f172.ntmps (Tryz.f172.body.getD .skip) = true:=by kernel_rfl
theorem c_ref13_Right (l:List Run) (hl:l.length ≤ 4611686018427387904):CallA Tryz.prog 172 [.slc (l.map Run.enc)] (· = .bool (rightL l)):=by
 refine callA_of_body T13b_ok mixed Tryz.func172 rfl (Nat.le_of_ble_eq_true rfl) ok_ref13_Right ?_
 unfold Tryz.f172
 simp -implicitDefEqProofs (maxSteps:=600000) (disch:=(first | omega | decide)) only [go_sem,↓reduceIte,seval,List.length_map]
 refine wpA_loop [0] (ι:={k:Nat // k ≤ l.length ∧ rightL l = goR (prevT l k) (l.drop k) ∧ ∀ h:k - 1 < l.length,0 < k → oneR l[k - 1] = true}) (fun p=>[(3,.int .i64 p.1),(2,.bool false)]) (fun _=>[]) (fun p=>l.length - p.1) ⟨0,by omega,rfl,fun _ h=>absurd h (by omega)⟩ (Nat.zero_le _) ?_ ?_
 ·simp -implicitDefEqProofs (maxSteps:=600000) (disch:=(first | omega | decide)) only [go_sem,↓reduceIte,seval]
 ·rintro ⟨k,hk,hd,hp⟩
  simp only
  by_cases hlt:k < l.length
  ·have hlt':(k:Int) < (l.length:Int):=by omega
   have e1:=run_get hlt
   have hprev:prevT l (k + 1) = some l[k].t:=by
    unfold prevT; rw [if_neg (by omega),show k + 1 - 1 = k by omega,List.getElem?_eq_getElem hlt]; rfl
   rw [List.drop_eq_getElem_cons hlt] at hd
   simp only [goR] at hd
   have next:rightL l = goR (some l[k].t) (l.drop (k + 1)) → oneR l[k] = true → ∃ j:{k:Nat // k ≤ l.length ∧ rightL l = goR (prevT l k) (l.drop k) ∧ ∀ h:k - 1 < l.length,0 < k → oneR l[k - 1] = true},(k:Int) + 1 = (j.1:Int) ∧ l.length - j.1 < l.length - k:=fun h h'=>⟨⟨k + 1,hlt,by rw [hprev]; exact h,fun _ _=>h'⟩,by simp,by show l.length - (k + 1) < l.length - k; omega⟩
   generalize hx:l[k] = x at *
   obtain ⟨f,t⟩:=x
   cases h1:oneR ⟨f,t⟩ with
   | false=>
    have hh:rightL l = false:=by rw [hd,h1]; rfl
    simp -implicitDefEqProofs (maxSteps:=600000) (disch:=(first | omega | decide)) only [go_sem,↓reduceIte,seval,hlt',e1,h1,hh,wrap_i64,List.length_map]
   | true=>
    obtain ⟨o1,o2,o3⟩:=one_parts h1
    simp only at o1 o2 o3
    by_cases h0:0 < k
    ·have h0':(0:Int) < (k:Int):=by omega
     have hk1:k - 1 < l.length:=by omega
     have e0:=run_get hk1
     have hpo:=hp hk1 h0
     have hpt:prevT l k = some l[k - 1].t:=by
          unfold prevT; rw [if_neg (by omega),List.getElem?_eq_getElem hk1]; rfl
     have t0:((k:Int) - 1).toNat = k - 1:=by omega
     have b0:(0:Int) ≤ (k:Int) - 1:=by omega
     have b1:(k:Int) - 1 < (l.length:Int):=by omega
     rw [hpt] at hd
     generalize hy:l[k - 1] = y at *
     obtain ⟨f',t'⟩:=y
     obtain ⟨p1,p2,p3⟩:=one_parts hpo
     simp only at p1 p2 p3 hd
     by_cases h2:f < t' + 2
     ·have hh:rightL l = false:=by
       rw [hd]; have:¬ t' + 2 ≤ f:=by omega
       simp [this]
      simp -implicitDefEqProofs (maxSteps:=600000) (disch:=(first | omega | decide)) only [go_sem,↓reduceIte,seval,hlt',e1,e0,h1,h0',t0,b0,b1,h2,hh,wrap_i64,List.length_map]
     ·simp -implicitDefEqProofs (maxSteps:=600000) (disch:=(first | omega | decide)) only [go_sem,↓reduceIte,seval,hlt',e1,e0,h1,h0',t0,b0,b1,h2,wrap_i64,List.length_map]
      have h3:t' + 2 ≤ f:=by omega
      exact next (by rw [hd,h1]; simp [h3]) h1
    ·have h0':¬ (0:Int) < (k:Int):=by omega
     simp -implicitDefEqProofs (maxSteps:=600000) (disch:=(first | omega | decide)) only [go_sem,↓reduceIte,seval,hlt',e1,h1,h0',wrap_i64,List.length_map]
     have hk0:k = 0:=by omega
     exact next (by rw [hd,h1]; simp [prevT,hk0]) h1
  ·have hlt':¬ (k:Int) < (l.length:Int):=by omega
   have hh:rightL l = true:=by
    rw [hd,List.drop_of_length_le (by omega)]; cases prevT l k <;> rfl
   simp -implicitDefEqProofs (maxSteps:=600000) (disch:=(first | omega | decide)) only [go_sem,↓reduceIte,seval,hlt',hh,List.length_map]
theorem ok_ref13_Has:codeOK Tryz.prog T13b Tryz.f174.ntmps (Tryz.f174.body.getD .skip) = true:=by kernel_rfl
theorem c_ref13_Has (l:List Run) (n:Int) (hl:l.length ≤ 4611686018427387904):CallA Tryz.prog 174 [.slc (l.map Run.enc),.int .i64 n] (· = .bool (hasL13 l n)):=by
 refine callA_of_body T13b_ok mixed Tryz.func174 rfl (Nat.le_of_ble_eq_true rfl) ok_ref13_Has ?_
 unfold Tryz.f174
 simp -implicitDefEqProofs (maxSteps:=600000) (disch:=(first | omega | decide)) only [go_sem,↓reduceIte,seval,List.length_map]
 refine wpA_loop [0,1] (ι:={k:Nat // k ≤ l.length ∧ hasL13 l n = hasL13 (l.drop k) n}) (fun p=>[(5,.int .i64 p.1),(4,.bool false)]) (fun _=>[]) (fun p=>l.length - p.1) ⟨0,by omega,rfl⟩ (Nat.zero_le _) ?_ ?_
 ·simp -implicitDefEqProofs (maxSteps:=600000) (disch:=(first | omega | decide)) only [go_sem,↓reduceIte,seval]
 ·rintro ⟨k,hk,hd⟩
  simp only
  by_cases hlt:k < l.length
  ·have hlt':(k:Int) < (l.length:Int):=by omega
   have e1:=run_get hlt
   rw [List.drop_eq_getElem_cons hlt] at hd
   generalize hx:l[k] = x at *
   obtain ⟨f,t⟩:=x
   simp only [hasL13,List.any_cons] at hd
   have next:hasL13 l n = hasL13 (l.drop (k + 1)) n → ∃ j:{k:Nat // k ≤ l.length ∧ hasL13 l n = hasL13 (l.drop k) n},(k:Int) + 1 = (j.1:Int) ∧ l.length - j.1 < l.length - k:=fun h=>⟨⟨k + 1,hlt,h⟩,by simp,by show l.length - (k + 1) < l.length - k; omega⟩
   cases h1:oneR ⟨f,t⟩ with
   | false=>
    simp -implicitDefEqProofs (maxSteps:=600000) (disch:=(first | omega | decide)) only [go_sem,↓reduceIte,seval,hlt',e1,h1,wrap_i64,List.length_map]
    exact next (by rw [h1] at hd; simpa [hasL13] using hd)
   | true=>
    by_cases h2:f ≤ n
    ·by_cases h3:n ≤ t
     ·have hh:hasL13 l n = true:=by unfold hasL13; rw [hd]; simp [h1,h2,h3]
      simp -implicitDefEqProofs (maxSteps:=600000) (disch:=(first | omega | decide)) only [go_sem,↓reduceIte,seval,hlt',e1,h1,h2,h3,hh,wrap_i64,List.length_map]
     ·simp -implicitDefEqProofs (maxSteps:=600000) (disch:=(first | omega | decide)) only [go_sem,↓reduceIte,seval,hlt',e1,h1,h2,h3,wrap_i64,List.length_map]
      exact next (by rw [h1] at hd; simpa [hasL13,h2,h3] using hd)
    ·simp -implicitDefEqProofs (maxSteps:=600000) (disch:=(first | omega | decide)) only [go_sem,↓reduceIte,seval,hlt',e1,h1,h2,wrap_i64,List.length_map]
     exact next (by rw [h1] at hd; simpa [hasL13,h2] using hd)
  ·have hlt':¬ (k:Int) < (l.length:Int):=by omega
   have hh:hasL13 l n = false:=by rw [hd,List.drop_of_length_le (by omega)]; rfl
   simp -implicitDefEqProofs (maxSteps:=600000) (disch:=(first | omega | decide)) only [go_sem,↓reduceIte,seval,hlt',hh,List.length_map]
def inR (r:Run) (n:Int):Bool:=decide (r.f ≤ n) && decide (n ≤ r.t)
def RR:List Run → Prop
 | []=>True
 | [r]=>oneR r = true
 | r :: q :: l=>oneR r = true ∧ q.t + 2 ≤ r.f ∧ RR (q :: l)
theorem oneR_iff {r:Run}:oneR r = true ↔ 1 ≤ r.f ∧ r.f ≤ r.t ∧ r.t ≤ 1099511627776:=by simp [oneR,and_assoc]
theorem goR_snoc:∀ (l:List Run) (p:Option Int) (q r:Run),goR p (l ++ [q,r]) = (goR p (l ++ [q]) && (oneR r && decide (q.t + 2 ≤ r.f)))
 | [],p,q,r=>by cases p <;> simp [goR,Bool.and_assoc]
 | x :: l,p,q,r=>by
  simp only [List.cons_append,goR,goR_snoc l (some x.t) q r,Bool.and_assoc]
theorem right_rev:∀ {l:List Run},rightL l.reverse = true ↔ RR l
 | []=>by simp [rightL,goR,RR]
 | [r]=>by simp [rightL,goR,RR]
 | r :: q :: l=>by
  have ih:=@right_rev (q :: l)
  simp only [List.reverse_cons,List.append_assoc,List.cons_append,List.nil_append,rightL] at ih ⊢
  rw [goR_snoc,Bool.and_eq_true,ih,RR,Bool.and_eq_true,decide_eq_true_iff]
  exact ⟨fun ⟨a,b,c⟩=>⟨b,c,a⟩,fun ⟨b,c,a⟩=>⟨a,b,c⟩⟩
theorem right_iff {l:List Run}:rightL l = true ↔ RR l.reverse:=by
 have:=@right_rev l.reverse
 rwa [List.reverse_reverse] at this
theorem rr_tail {r:Run}:∀ {l:List Run},RR (r :: l) → RR l
 | [],_=>trivial
 | _ :: _,h=>h.2.2
theorem rr_one {r:Run}:∀ {l:List Run},RR (r :: l) → oneR r = true
 | [],h=>h
 | _ :: _,h=>h.1
theorem rr_all:∀ {l:List Run},RR l → ∀ r ∈ l,oneR r = true
 | [],_,r,hr=>by cases hr
 | q :: l,h,r,hr=>by
  rcases List.mem_cons.1 hr with rfl | hr
  ·exact rr_one h
  ·exact rr_all (rr_tail h) r hr
theorem rr_below:∀ {l:List Run} {r:Run},RR (r :: l) → ∀ q ∈ l,q.t + 2 ≤ r.f
 | [],_,_,q,hq=>by cases hq
 | p :: l,r,h,q,hq=>by
  rcases List.mem_cons.1 hq with rfl | hq
  ·exact h.2.1
  ·have h1:=rr_below h.2.2 q hq
   have h2:=oneR_iff.1 (rr_one h.2.2)
   have h3:=h.2.1
   omega
theorem has_cons (r:Run) (l:List Run) (n:Int):hasL13 (r :: l) n = (oneR r && inR r n || hasL13 l n):=by
 simp [hasL13,inR,Bool.and_assoc]
theorem has_nil (n:Int):hasL13 [] n = false:=rfl
theorem has_append (l m:List Run) (n:Int):hasL13 (l ++ m) n = (hasL13 l n || hasL13 m n):=by simp [hasL13]
theorem has_rev (l:List Run) (n:Int):hasL13 l.reverse n = hasL13 l n:=by simp [hasL13]
theorem has_iff {l:List Run} {n:Int}:hasL13 l n = true ↔ ∃ r ∈ l,oneR r = true ∧ r.f ≤ n ∧ n ≤ r.t:=by
 simp [hasL13,and_assoc]
theorem has_range {l:List Run} {n:Int} (h:hasL13 l n = true):1 ≤ n ∧ n ≤ 1099511627776:=by
 obtain ⟨r,_,h1,h2,h3⟩:=has_iff.1 h
 have:=oneR_iff.1 h1
 omega
theorem has_perm {l m:List Run} (h:l.Perm m) (n:Int):hasL13 l n = hasL13 m n:=by
 rw [Bool.eq_iff_iff,has_iff,has_iff]
 exact ⟨fun ⟨r,hr,h1⟩=>⟨r,h.mem_iff.1 hr,h1⟩,fun ⟨r,hr,h1⟩=>⟨r,h.mem_iff.2 hr,h1⟩⟩
theorem has_filter (l:List Run) (n:Int):hasL13 (l.filter oneR) n = hasL13 l n:=by
 rw [Bool.eq_iff_iff,has_iff,has_iff]
 exact ⟨fun ⟨r,hr,h1⟩=>⟨r,(List.mem_filter.1 hr).1,h1⟩,fun ⟨r,hr,h1⟩=>⟨r,List.mem_filter.2 ⟨hr,h1.1⟩,h1⟩⟩
theorem rr_top {r:Run} {l:List Run} (h:RR (r :: l)):∀ n,hasL13 (r :: l) n = true → n ≤ r.t:=fun n hn=>by
 obtain ⟨q,hq,h1,h2,h3⟩:=has_iff.1 hn
 rcases List.mem_cons.1 hq with rfl | hq
 ·exact h3
 ·have:=rr_below h q hq
  have:=oneR_iff.1 (rr_one h)
  omega
theorem rr_has {r:Run} {l:List Run} (h:RR (r :: l)) (n:Int):hasL13 l n = (hasL13 (r :: l) n && decide (n + 2 ≤ r.f)):=by
 rw [Bool.eq_iff_iff,Bool.and_eq_true,decide_eq_true_iff,has_iff,has_iff]
 constructor
 ·rintro ⟨q,hq,h1,h2,h3⟩
  have:=rr_below h q hq
  exact ⟨⟨q,List.mem_cons_of_mem _ hq,h1,h2,h3⟩,by omega⟩
 ·rintro ⟨⟨q,hq,h1,h2,h3⟩,h4⟩
  rcases List.mem_cons.1 hq with rfl | hq
  ·omega
  ·exact ⟨q,hq,h1,h2,h3⟩
theorem rr_unique:∀ {l m:List Run},RR l → RR m → (∀ n,hasL13 l n = hasL13 m n) → l = m
 | [],[],_,_,_=>rfl
 | [],r :: m,_,h,hm=>by
  have h1:=oneR_iff.1 (rr_one h)
  have h2:hasL13 (r :: m) r.t = true:=has_iff.2 ⟨r,by simp,rr_one h,h1.2.1,Int.le_refl _⟩
  rw [← hm] at h2; cases h2
 | r :: l,[],h,_,hm=>by
  have h1:=oneR_iff.1 (rr_one h)
  have h2:hasL13 (r :: l) r.t = true:=has_iff.2 ⟨r,by simp,rr_one h,h1.2.1,Int.le_refl _⟩
  rw [hm] at h2; cases h2
 | r :: l,q :: m,h,h',hm=>by
  have o1:=oneR_iff.1 (rr_one h)
  have o2:=oneR_iff.1 (rr_one h')
  have a1:hasL13 (r :: l) r.t = true:=has_iff.2 ⟨r,by simp,rr_one h,o1.2.1,Int.le_refl _⟩
  have a2:hasL13 (q :: m) q.t = true:=has_iff.2 ⟨q,by simp,rr_one h',o2.2.1,Int.le_refl _⟩
  rw [hm] at a1; rw [← hm] at a2
  have b1:=rr_top h' _ a1
  have b2:=rr_top h _ a2
  have et:r.t = q.t:=by omega
  -- what begins lower has the count ahead of the other's beginning
  have key:∀ {r q:Run} {l m:List Run},RR (r :: l) → RR (q :: m) → (∀ n,hasL13 (r :: l) n = hasL13 (q :: m) n) → r.t = q.t → r.f ≤ q.f:=by
   intro r q l m h h' hm et
   rcases Int.lt_or_le q.f r.f with hlt | hle
   ·exfalso
    have o1:=oneR_iff.1 (rr_one h)
    have o2:=oneR_iff.1 (rr_one h')
    have c1:hasL13 (q :: m) (r.f - 1) = true:=has_iff.2 ⟨q,by simp,rr_one h',by omega,by omega⟩
    rw [← hm] at c1
    obtain ⟨p,hp,h1,h2,h3⟩:=has_iff.1 c1
    rcases List.mem_cons.1 hp with rfl | hp
    ·omega
    ·have:=rr_below h p hp; omega
   ·exact hle
  have ef:r.f = q.f:=by
   have:=key h h' hm et
   have:=key h' h (fun n=>(hm n).symm) et.symm
   omega
  have e:r = q:=by cases r; cases q; simp_all
  subst e
  rw [rr_unique (rr_tail h) (rr_tail h') fun n=>by rw [rr_has h,rr_has h',hm]]
theorem right_unique {l m:List Run} (h:rightL l = true) (h':rightL m = true) (hm:∀ n,hasL13 l n = hasL13 m n):l = m:=by
 have:=rr_unique (right_iff.1 h) (right_iff.1 h') (fun n=>by rw [has_rev,has_rev,hm])
 simpa using this
open Classical in
/-- The right list of what is meant, if there is one. -/
noncomputable def setR (p:Int → Bool):List Run:=if h:∃ l,rightL l = true ∧ ∀ n,hasL13 l n = p n then Classical.choose h else []
def IsR (p:Int → Bool):Prop:=∃ l,rightL l = true ∧ ∀ n,hasL13 l n = p n
theorem setR_right (p:Int → Bool):rightL (setR p) = true:=by
 unfold setR
 split
 ·rename_i h; exact (Classical.choose_spec h).1
 ·rfl
theorem setR_has {p:Int → Bool} (h:IsR p) (n:Int):hasL13 (setR p) n = p n:=by
 unfold setR
 rw [dif_pos (show ∃ l,rightL l = true ∧ ∀ n,hasL13 l n = p n from h)]; exact (Classical.choose_spec h).2 n
theorem setR_eq {p:Int → Bool} {l:List Run} (h:rightL l = true) (hp:∀ n,hasL13 l n = p n):l = setR p:=
 right_unique h (setR_right p) fun n=>by rw [hp,setR_has ⟨l,h,hp⟩]
def pushJ:List Run → Run → List Run
 | [],r=>[r]
 | q :: qs,r=>if r.f < q.t + 2 then ⟨q.f,if r.t > q.t then r.t else q.t⟩ :: qs else r :: q :: qs
def lowF (l:List Run) (x:Int):Prop:=match l with | []=>True | q :: _=>q.f ≤ x
theorem pushJ_right {l:List Run} {r:Run} (h:RR l) (hr:oneR r = true) (hf:lowF l r.f):RR (pushJ l r) ∧ lowF (pushJ l r) r.f ∧ ∀ n,hasL13 (pushJ l r) n = (hasL13 l n || inR r n):=by
 cases l with
 | nil=>exact ⟨hr,Int.le_refl _,fun n=>by simp [pushJ,hasL13,hr,inR]⟩
 | cons q qs=>
  have o1:=oneR_iff.1 hr
  have o2:=oneR_iff.1 (rr_one h)
  have hf':q.f ≤ r.f:=hf
  simp only [pushJ]
  by_cases hc:r.f < q.t + 2
  ·rw [if_pos hc]
   generalize ht:(if r.t > q.t then r.t else q.t) = t
   have ht':(t = r.t ∧ q.t < r.t) ∨ (t = q.t ∧ r.t ≤ q.t):=by split at ht <;> omega
   have ho:oneR ⟨q.f,t⟩ = true:=oneR_iff.2 ⟨o2.1,by show q.f ≤ t; omega,by show t ≤ _; omega⟩
   refine ⟨?_,hf',fun n=>?_⟩
   ·cases qs with
    | nil=>exact ho
    | cons p ps=>exact ⟨ho,h.2.1,h.2.2⟩
   ·rw [has_cons,has_cons,ho,rr_one h]
    have:inR ⟨q.f,t⟩ n = (inR q n || inR r n):=by
     rw [Bool.eq_iff_iff]; simp only [inR,Bool.and_eq_true,Bool.or_eq_true,decide_eq_true_iff]; omega
    rw [this]; simp only [Bool.true_and]
    cases inR q n <;> cases inR r n <;> cases hasL13 qs n <;> rfl
  ·rw [if_neg hc]
   refine ⟨⟨hr,by omega,h⟩,Int.le_refl _,fun n=>?_⟩
   rw [has_cons,hr]; simp only [Bool.true_and]; cases inR r n <;> cases hasL13 (q :: qs) n <;> rfl
theorem pushJ_len (l:List Run) (r:Run):(pushJ l r).length ≤ l.length + 1:=by
 cases l with
 | nil=>simp [pushJ]
 | cons q qs=>simp only [pushJ]; split <;> simp
theorem fold_push:∀ {l:List Run} {a:List Run},RR a → (∀ r ∈ l,oneR r = true) → l.Pairwise (fun x y=>x.f ≤ y.f) → (∀ r ∈ l,lowF a r.f) → RR (l.foldl pushJ a) ∧ ∀ n,hasL13 (l.foldl pushJ a) n = (hasL13 a n || hasL13 l n)
 | [],a,h,_,_,_=>⟨h,fun n=>by simp [hasL13]⟩
 | r :: l,a,h,ho,hs,hf=>by
  obtain ⟨h1,h2,h3⟩:=pushJ_right h (ho r (by simp)) (hf r (by simp))
  rw [List.pairwise_cons] at hs
  obtain ⟨h4,h5⟩:=fold_push (l:=l) h1 (fun q hq=>ho q (by simp [hq])) hs.2 (fun q hq=>by
   have:=hs.1 q hq
   revert h2
   cases pushJ a r with
   | nil=>intro _; trivial
   | cons p ps=>intro h2; exact Int.le_trans h2 this)
  refine ⟨h4,fun n=>?_⟩
  rw [List.foldl_cons,h5,h3,has_cons,ho r (by simp)]
  simp only [Bool.true_and,Bool.or_assoc]
theorem fold_push_all {l:List Run} (ho:∀ r ∈ l,oneR r = true) (hs:l.Pairwise (fun x y=>x.f ≤ y.f)):(l.foldl pushJ []).reverse = setR (hasL13 l):=by
 obtain ⟨h1,h2⟩:=fold_push (a:=[]) trivial ho hs (fun _ _=>trivial)
 exact setR_eq (right_rev.2 h1) fun n=>by rw [has_rev,h2]; simp [hasL13]
end Go.Proofs.YtjfdlpagcgpaoaaGreat
namespace Go.Proofs.YtjfdlpagcgpaoaaGreat
open Go.Abs
set_option linter.unusedSimpArgs false
set_option linter.unusedVariables false
def putI:List Int → Int → List Int
 | [],n=>[n]
 | x :: xs,n=>if x < n then x :: putI xs n else if x = n then x :: xs else n :: x :: xs
theorem putI_len (l:List Int) (n:Int):(putI l n).length ≤ l.length + 1:=by
 induction l with
 | nil=>simp [putI]
 | cons x xs ih=>
  simp only [putI]
  split
  ·simp; omega
  ·split <;> simp
theorem putI_ne (l:List Int) (n:Int):putI l n ≠ []:=by
 cases l with
 | nil=>simp [putI]
 | cons x xs=>
  simp only [putI]
  split
  ·simp
  ·split <;> simp
theorem putI_mem (l:List Int) (n x:Int):x ∈ putI l n ↔ x = n ∨ x ∈ l:=by
 induction l with
 | nil=>simp [putI]
 | cons y ys ih=>
  simp only [putI]
  split
  ·rw [List.mem_cons,ih,List.mem_cons]
   exact ⟨fun h=>by rcases h with h | h | h <;> simp [h],fun h=>by rcases h with h | h | h <;> simp [h]⟩
  ·split
   ·rename_i h1 h2; subst h2; simp
   ·simp
theorem putI_up {l:List Int} {n:Int} (h:l.Pairwise (· < ·)):(putI l n).Pairwise (· < ·):=by
 induction l with
 | nil=>simp [putI]
 | cons y ys ih=>
  rw [List.pairwise_cons] at h
  simp only [putI]
  split
  ·rename_i h1
   rw [List.pairwise_cons]
   refine ⟨fun x hx=>?_,ih h.2⟩
   rcases (putI_mem ys n x).1 hx with rfl | hx
   ·exact h1
   ·exact h.1 x hx
  ·split
   ·exact List.pairwise_cons.2 h
   ·rename_i h1 h2
    rw [List.pairwise_cons]
    refine ⟨fun x hx=>?_,List.pairwise_cons.2 h⟩
    rcases List.mem_cons.1 hx with rfl | hx
    ·omega
    ·have:=h.1 x hx; omega
def edgesR:List Int → List Run → List Int
 | e,[]=>e
 | e,r :: rs=>edgesR (if oneR r then putI (putI e r.f) (r.t + 1) else e) rs
theorem edgesR_len (e:List Int) (l:List Run):(edgesR e l).length ≤ e.length + 2 * l.length:=by
 induction l generalizing e with
 | nil=>simp [edgesR]
 | cons r rs ih=>
  simp only [edgesR,List.length_cons]
  refine Nat.le_trans (ih _) ?_
  split
  ·have h1:=putI_len e r.f
   have h2:=putI_len (putI e r.f) (r.t + 1)
   omega
  ·omega
theorem edgesR_snoc (e:List Int) (l:List Run) (r:Run):edgesR e (l ++ [r]) = if oneR r then putI (putI (edgesR e l) r.f) (r.t + 1) else edgesR e l:=by
 induction l generalizing e with
 | nil=>simp [edgesR]
 | cons q rs ih=>simp only [List.cons_append,edgesR]; exact ih _
theorem edgesR_up {e:List Int} {l:List Run} (h:e.Pairwise (· < ·)):(edgesR e l).Pairwise (· < ·):=by
 induction l generalizing e with
 | nil=>exact h
 | cons r rs ih=>
  simp only [edgesR]
  apply ih
  split
  ·exact putI_up (putI_up h)
  ·exact h
theorem edgesR_mem {l:List Run} {x:Int}:∀ {e:List Int},x ∈ edgesR e l ↔ x ∈ e ∨ ∃ r ∈ l,oneR r = true ∧ (x = r.f ∨ x = r.t + 1):=by
 induction l with
 | nil=>intro e; simp [edgesR]
 | cons r rs ih=>
  intro e
  simp only [edgesR]
  rw [ih]
  cases h:oneR r with
  | false=>
   rw [if_neg (by simp)]
   constructor
   ·rintro (h1 | ⟨q,hq,h2⟩)
    ·exact .inl h1
    ·exact .inr ⟨q,by simp [hq],h2⟩
   ·rintro (h1 | ⟨q,hq,h2⟩)
    ·exact .inl h1
    ·rcases List.mem_cons.1 hq with rfl | hq
     ·rw [h] at h2; simp at h2
     ·exact .inr ⟨q,hq,h2⟩
  | true=>
   rw [if_pos rfl,putI_mem,putI_mem]
   constructor
   ·rintro ((h1 | h1 | h1) | ⟨q,hq,h2⟩)
    ·exact .inr ⟨r,by simp,h,.inr h1⟩
    ·exact .inr ⟨r,by simp,h,.inl h1⟩
    ·exact .inl h1
    ·exact .inr ⟨q,by simp [hq],h2⟩
   ·rintro (h1 | ⟨q,hq,h2⟩)
    ·exact .inl (.inr (.inr h1))
    ·rcases List.mem_cons.1 hq with rfl | hq
     ·rcases h2.2 with h3 | h3
      ·exact .inl (.inr (.inl h3))
      ·exact .inl (.inl h3)
     ·exact .inr ⟨q,hq,h2⟩
def edges2 (a b:List Run):List Int:=edgesR (edgesR [] a) b
theorem edges2_up (a b:List Run):(edges2 a b).Pairwise (· < ·):=edgesR_up (edgesR_up List.Pairwise.nil)
theorem edges2_mem {a b:List Run} {x:Int}:x ∈ edges2 a b ↔ ∃ r ∈ a ++ b,oneR r = true ∧ (x = r.f ∨ x = r.t + 1):=by
 unfold edges2
 rw [edgesR_mem,edgesR_mem]
 constructor
 ·rintro ((h | ⟨r,hr,h⟩) | ⟨r,hr,h⟩)
  ·cases h
  ·exact ⟨r,by simp [hr],h⟩
  ·exact ⟨r,by simp [hr],h⟩
 ·rintro ⟨r,hr,h⟩
  rcases List.mem_append.1 hr with hr | hr
  ·exact .inl (.inr ⟨r,hr,h⟩)
  ·exact .inr ⟨r,hr,h⟩
theorem edges2_range {a b:List Run} {x:Int} (h:x ∈ edges2 a b):1 ≤ x ∧ x ≤ 1099511627777:=by
 obtain ⟨r,_,h1,h2⟩:=edges2_mem.1 h
 have:=oneR_iff.1 h1
 omega
theorem edges2_len (a b:List Run):(edges2 a b).length ≤ 2 * a.length + 2 * b.length:=by
 have h1:=edgesR_len [] a
 have h2:=edgesR_len (edgesR [] a) b
 simp only [List.length_nil] at h1
 unfold edges2; omega
theorem has_flat {l:List Run} {x n:Int} (hx:x ≤ n) (h:∀ r ∈ l,oneR r = true → ¬(x < r.f ∧ r.f ≤ n) ∧ ¬(x < r.t + 1 ∧ r.t + 1 ≤ n)):hasL13 l n = hasL13 l x:=by
 rw [Bool.eq_iff_iff,has_iff,has_iff]
 constructor
 ·rintro ⟨r,hr,h1,h2,h3⟩
  have:=h r hr h1
  exact ⟨r,hr,h1,by omega,by omega⟩
 ·rintro ⟨r,hr,h1,h2,h3⟩
  have:=h r hr h1
  exact ⟨r,hr,h1,by omega,by omega⟩
def opF (op:Int) (x y:Bool):Bool:=if op = 1 then x || y else if op = 2 then x && y else x && !y
theorem opF_ff (op:Int):opF op false false = false:=by unfold opF; split <;> (try split) <;> rfl
def opP (op:Int) (a b:List Run) (n:Int):Bool:=opF op (hasL13 a n) (hasL13 b n)
section
variable {op:Int} {a b:List Run}
theorem opP_flat {x n:Int} (hx:x ≤ n) (h:∀ y ∈ edges2 a b,¬(x < y ∧ y ≤ n)):opP op a b n = opP op a b x:=by
 have e1:hasL13 a n = hasL13 a x:=has_flat hx fun r hr h1=>⟨h _ (edges2_mem.2 ⟨r,by simp [hr],h1,.inl rfl⟩),h _ (edges2_mem.2 ⟨r,by simp [hr],h1,.inr rfl⟩)⟩
 have e2:hasL13 b n = hasL13 b x:=has_flat hx fun r hr h1=>⟨h _ (edges2_mem.2 ⟨r,by simp [hr],h1,.inl rfl⟩),h _ (edges2_mem.2 ⟨r,by simp [hr],h1,.inr rfl⟩)⟩
 unfold opP; rw [e1,e2]
theorem opP_low {n:Int} (h:∀ y ∈ edges2 a b,n < y):opP op a b n = false:=by
 have e:∀ l:List Run,(∀ r ∈ l,r ∈ a ++ b) → hasL13 l n = false:=fun l hl=>by
  rw [← Bool.not_eq_true,has_iff]
  rintro ⟨r,hr,h1,h2,h3⟩
  have:=h _ (edges2_mem.2 ⟨r,hl r hr,h1,.inl rfl⟩)
  omega
 unfold opP; rw [e a (fun r hr=>by simp [hr]),e b (fun r hr=>by simp [hr]),opF_ff]
theorem opP_high {n:Int} (h:∀ y ∈ edges2 a b,y ≤ n):opP op a b n = false:=by
 have e:∀ l:List Run,(∀ r ∈ l,r ∈ a ++ b) → hasL13 l n = false:=fun l hl=>by
  rw [← Bool.not_eq_true,has_iff]
  rintro ⟨r,hr,h1,h2,h3⟩
  have:=h _ (edges2_mem.2 ⟨r,hl r hr,h1,.inr rfl⟩)
  omega
 unfold opP; rw [e a (fun r hr=>by simp [hr]),e b (fun r hr=>by simp [hr]),opF_ff]
end
def mkA (P:Int → Bool) (e:List Int):Nat → List Run
 | 0=>[]
 | k + 1=>if P (e[k]!) then pushJ (mkA P e k) ⟨e[k]!,e[k + 1]! - 1⟩ else mkA P e k
def topT (l:List Run) (x:Int):Prop:=match l with | []=>True | q :: _=>q.t < x
theorem mkA_len (P:Int → Bool) (e:List Int):∀ k,(mkA P e k).length ≤ k
 | 0=>Nat.le_refl _
 | k + 1=>by
  have h1:=mkA_len P e k
  have h2:=pushJ_len (mkA P e k) ⟨e[k]!,e[k + 1]! - 1⟩
  simp only [mkA]
  split <;> omega
theorem up_get {e:List Int} (h:e.Pairwise (· < ·)) {i j:Nat} (hij:i < j) (hj:j < e.length):e[i]! < e[j]!:=by
 rw [getElem!_pos e i (by omega),getElem!_pos e j hj]
 exact List.pairwise_iff_getElem.1 h i j (by omega) hj hij
theorem top_push {l:List Run} {r:Run} (h:topT l r.f) (hr:r.f ≤ r.t):topT (pushJ l r) (r.t + 1):=by
 cases l with
 | nil=>show r.t < r.t + 1; omega
 | cons q qs=>
  have h':q.t < r.f:=h
  simp only [pushJ]
  split
  ·show (if r.t > q.t then r.t else q.t) < r.t + 1
   split <;> omega
  ·show r.t < r.t + 1; omega
theorem mkA_spec (op:Int) (a b:List Run):∀ k,k < (edges2 a b).length → RR (mkA (opP op a b) (edges2 a b) k) ∧ topT (mkA (opP op a b) (edges2 a b) k) ((edges2 a b)[k]!) ∧ lowF (mkA (opP op a b) (edges2 a b) k) ((edges2 a b)[k]!) ∧
 ∀ n,hasL13 (mkA (opP op a b) (edges2 a b) k) n = (decide (n < (edges2 a b)[k]!) && opP op a b n)
 | 0,hk=>by
  refine ⟨trivial,trivial,trivial,fun n=>?_⟩
  by_cases h:n < (edges2 a b)[0]!
  ·rw [opP_low]
   ·show hasL13 [] n = _
    rw [has_nil,Bool.and_false]
   intro y hy
   obtain ⟨i,hi,rfl⟩:=List.mem_iff_getElem.1 hy
   have:(edges2 a b)[i]! = (edges2 a b)[i]:=getElem!_pos _ i hi
   rcases Nat.eq_zero_or_pos i with rfl | hp
   ·omega
   ·have:=up_get (edges2_up a b) hp hi; omega
  ·show hasL13 [] n = _
   rw [has_nil,decide_eq_false h,Bool.false_and]
 | k + 1,hk=>by
  obtain ⟨h1,h2,h3,h4⟩:=mkA_spec op a b k (by omega)
  have hlt:=up_get (edges2_up a b) (Nat.lt_succ_self k) hk
  have r1:=edges2_range (a:=a) (b:=b) (x:=(edges2 a b)[k]!) (by rw [getElem!_pos _ k (by omega)]; exact List.getElem_mem _)
  have r2:=edges2_range (a:=a) (b:=b) (x:=(edges2 a b)[k + 1]!) (by rw [getElem!_pos _ (k + 1) hk]; exact List.getElem_mem _)
  have flat:∀ n,(edges2 a b)[k]! ≤ n → n < (edges2 a b)[k + 1]! → opP op a b n = opP op a b ((edges2 a b)[k]!):=fun n hn hn'=>opP_flat hn fun y hy=>by
   obtain ⟨i,hi,rfl⟩:=List.mem_iff_getElem.1 hy
   have e:(edges2 a b)[i]! = (edges2 a b)[i]:=getElem!_pos _ i hi
   rintro ⟨g1,g2⟩
   rcases Nat.lt_trichotomy i (k + 1) with hh | hh | hh
   ·rcases Nat.lt_or_eq_of_le (Nat.lt_succ_iff.1 hh) with hh' | hh'
    ·have:=up_get (edges2_up a b) hh' (by omega); omega
    ·subst hh'; omega
   ·subst hh; omega
   ·have:=up_get (edges2_up a b) hh hi; omega
  simp only [mkA]
  generalize hx:(edges2 a b)[k]! = x at *
  generalize hy:(edges2 a b)[k + 1]! = y at *
  generalize hm:mkA (opP op a b) (edges2 a b) k = m at *
  cases hp:opP op a b x with
  | false=>
   rw [if_neg (by simp)]
   refine ⟨h1,?_,?_,fun n=>?_⟩
   ·cases m with
    | nil=>trivial
    | cons q qs=>show q.t < y; have:q.t < x:=h2; omega
   ·cases m with
    | nil=>trivial
    | cons q qs=>show q.f ≤ y; have:q.f ≤ x:=h3; omega
   ·rw [h4]
    by_cases c1:n < x
    ·have:n < y:=by omega
     simp [c1,this]
    ·by_cases c2:n < y
     ·rw [flat n (by omega) c2,hp]; simp
     ·simp [c1,c2]
  | true=>
   rw [if_pos rfl]
   have ho:oneR ⟨x,y - 1⟩ = true:=oneR_iff.2 ⟨r1.1,by show x ≤ y - 1; omega,by show y - 1 ≤ _; omega⟩
   obtain ⟨g1,g2,g3⟩:=pushJ_right h1 ho h3
   refine ⟨g1,?_,?_,fun n=>?_⟩
   ·have:=top_push (r:=⟨x,y - 1⟩) h2 (by show x ≤ y - 1; omega)
    simpa using this
   ·revert g2
    cases pushJ m ⟨x,y - 1⟩ with
    | nil=>intro _; trivial
    | cons q qs=>intro g2; have:q.f ≤ x:=g2; show q.f ≤ y; omega
   ·rw [g3,h4]
    by_cases c1:n < x
    ·have:n < y:=by omega
     have c3:¬ x ≤ n:=by omega
     simp [c1,this,inR,c3]
    ·by_cases c2:n < y
     ·rw [flat n (by omega) c2,hp]
      have c3:x ≤ n:=by omega
      have c4:n ≤ y - 1:=by omega
      simp [inR,c1,c2,c3,c4]
     ·have c4:¬ n ≤ y - 1:=by omega
      simp [inR,c1,c2,c4]
theorem mkA_all (op:Int) (a b:List Run):(mkA (opP op a b) (edges2 a b) ((edges2 a b).length - 1)).reverse = setR (opP op a b):=by
 by_cases h:(edges2 a b).length = 0
 ·have e:edges2 a b = []:=List.length_eq_zero_iff.1 h
  rw [h]
  refine setR_eq rfl fun n=>?_
  rw [opP_low (fun y hy=>by rw [e] at hy; cases hy)]; rfl
 ·obtain ⟨h1,_,_,h4⟩:=mkA_spec op a b ((edges2 a b).length - 1) (by omega)
  refine setR_eq (right_rev.2 h1) fun n=>?_
  rw [has_rev,h4]
  by_cases c:n < (edges2 a b)[(edges2 a b).length - 1]!
  ·rw [decide_eq_true c,Bool.true_and]
  ·rw [opP_high]
   ·simp
   ·intro y hy
    obtain ⟨i,hi,rfl⟩:=List.mem_iff_getElem.1 hy
    have e:(edges2 a b)[i]! = (edges2 a b)[i]:=getElem!_pos _ i hi
    rcases Nat.lt_or_eq_of_le (show i ≤ (edges2 a b).length - 1 by omega) with hh | hh
    ·have:=up_get (edges2_up a b) hh (by omega); omega
    ·subst hh; omega
theorem isR_op (op:Int) (a b:List Run):IsR (opP op a b):=by
 by_cases h:(edges2 a b).length = 0
 ·have e:edges2 a b = []:=List.length_eq_zero_iff.1 h
  exact ⟨[],rfl,fun n=>by rw [opP_low (fun y hy=>by rw [e] at hy; cases hy)]; rfl⟩
 ·refine ⟨setR (opP op a b),setR_right _,fun n=>?_⟩
  have h0:=mkA_all op a b
  obtain ⟨h1,_,_,h4⟩:=mkA_spec op a b ((edges2 a b).length - 1) (by omega)
  rw [← h0,has_rev,h4]
  by_cases c:n < (edges2 a b)[(edges2 a b).length - 1]!
  ·rw [decide_eq_true c,Bool.true_and]
  ·rw [opP_high]
   ·simp
   ·intro y hy
    obtain ⟨i,hi,rfl⟩:=List.mem_iff_getElem.1 hy
    have e:(edges2 a b)[i]! = (edges2 a b)[i]:=getElem!_pos _ i hi
    rcases Nat.lt_or_eq_of_le (show i ≤ (edges2 a b).length - 1 by omega) with hh | hh
    ·have:=up_get (edges2_up a b) hh (by omega); omega
    ·subst hh; omega
theorem isR_has (l:List Run):IsR (hasL13 l):=by
 obtain ⟨m,h1,h2⟩:=isR_op 1 l []
 exact ⟨m,h1,fun n=>by rw [h2]; simp [opP,opF,hasL13]⟩
end Go.Proofs.YtjfdlpagcgpaoaaGreat
namespace Go.Proofs.YtjfdlpagcgpaoaaGreat
open Go.Abs
set_option linter.unusedSimpArgs false
set_option linter.unusedVariables false
theorem rr_pw':∀ {l:List Run},RR l ↔ l.Pairwise (fun r q=>q.t + 2 ≤ r.f) ∧ ∀ r ∈ l,oneR r = true
 | []=>by simp [RR]
 | r :: l=>by
  constructor
  ·intro h
   obtain ⟨h1,h2⟩:=rr_pw'.1 (rr_tail h)
   exact ⟨List.pairwise_cons.2 ⟨rr_below h,h1⟩,rr_all h⟩
  ·rintro ⟨h1,h2⟩
   rw [List.pairwise_cons] at h1
   have ih:=rr_pw'.2 ⟨h1.2,fun q hq=>h2 q (by simp [hq])⟩
   cases l with
   | nil=>exact h2 r (by simp)
   | cons q l=>exact ⟨h2 r (by simp),h1.1 q (by simp),ih⟩
theorem right_pw' {l:List Run}:rightL l = true ↔ l.Pairwise (fun r q=>r.t + 2 ≤ q.f) ∧ ∀ r ∈ l,oneR r = true:=by
 rw [right_iff,rr_pw',List.pairwise_reverse]
 simp
def manyR (l:List Run):Int:=(l.map fun r=>r.t - r.f + 1).sum
theorem many_le:∀ {l:List Run} {p:Int},l.Pairwise (fun r q=>r.t + 2 ≤ q.f) → (∀ r ∈ l,oneR r = true) → (∀ r ∈ l,p ≤ r.f) → 1 ≤ p → 0 ≤ manyR l ∧ (l.length:Int) ≤ manyR l ∧ manyR l ≤ 1099511627777 - p ∨ l = []
 | [],_,_,_,_,_=>.inr rfl
 | r :: l,p,h,ho,hp,h1=>by
  rw [List.pairwise_cons] at h
  have o:=oneR_iff.1 (ho r (by simp))
  have hf:=hp r (by simp)
  have e:manyR (r :: l) = (r.t - r.f + 1) + manyR l:=by simp [manyR]
  rcases many_le (l:=l) (p:=r.t + 2) h.2 (fun q hq=>ho q (by simp [hq])) h.1 (by omega) with ⟨g1,g2,g3⟩ | rfl
  ·refine .inl ⟨by omega,?_,by omega⟩
   rw [e]; simp only [List.length_cons]; omega
  ·have e0:manyR [] = 0:=rfl
   rw [e0] at e
   refine .inl ⟨by omega,?_,by omega⟩
   rw [e]; simp only [List.length_cons,List.length_nil]; omega
theorem many_right {l:List Run} (h:rightL l = true):0 ≤ manyR l ∧ (l.length:Int) ≤ manyR l ∧ manyR l ≤ 1099511627776:=by
 obtain ⟨h1,h2⟩:=right_pw'.1 h
 rcases many_le (p:=1) h1 h2 (fun r hr=>(oneR_iff.1 (h2 r hr)).1) (Int.le_refl _) with g | rfl
 ·omega
 ·simp [manyR]
theorem of_len' {l:List Run} (h:rightL l = true):l.length ≤ 1099511627776:=by
 have:=many_right h
 omega
structure Known where
 n:Int
 rs:List Run
 deriving DecidableEq
instance:Inhabited Known:=⟨⟨0,[]⟩⟩
def Known.cells (k:Known):List A:=[.int .i64 k.n,.slc (k.rs.map Run.enc)]
def Known.enc (k:Known):A:=.agg k.cells
def runsK:List Known → Int → List Run
 | [],_=>[]
 | k :: s,n=>if k.n = n then k.rs ++ runsK s n else runsK s n
theorem runsK_append:∀ (s t:List Known) (n:Int),runsK (s ++ t) n = runsK s n ++ runsK t n
 | [],_,_=>rfl
 | k :: s,t,n=>by
  simp only [List.cons_append,runsK,runsK_append s t n]
  split
  ·rw [List.append_assoc]
  ·rfl
def repOK (n:Int):Bool:=decide (1 ≤ n) && decide (n ≤ 16)
theorem repOK_iff {n:Int}:repOK n = true ↔ 1 ≤ n ∧ n ≤ 16:=by simp [repOK]
def hasK (s:List Known) (n c:Int):Bool:=repOK n && hasL13 (runsK s n) c
def oneK (p:Int) (k:Known):Bool:=repOK k.n && decide (p < k.n) && !k.rs.isEmpty && rightL k.rs
def goK:Int → List Known → Bool
 | _,[]=>true
 | p,k :: s=>oneK p k && goK k.n s
def rightK (s:List Known):Bool:=goK 0 s
def mkT (t:Int → List Run):Nat → List Known
 | 0=>[]
 | k + 1=>if (t (k + 1)).isEmpty then mkT t k else mkT t k ++ [⟨k + 1,t (k + 1)⟩]
def setT (t:Int → List Run):List Known:=mkT t 16
theorem mkT_len (t:Int → List Run):∀ k,(mkT t k).length ≤ k
 | 0=>Nat.le_refl _
 | k + 1=>by
  have:=mkT_len t k
  simp only [mkT]; split
  ·omega
  ·simp; omega
theorem mkT_runs (t:Int → List Run) (n:Int):∀ k:Nat,runsK (mkT t k) n = if 1 ≤ n ∧ n ≤ k then t n else []
 | 0=>by
  rw [if_neg (by omega)]; rfl
 | k + 1=>by
  have ih:=mkT_runs t n k
  simp only [mkT]
  by_cases e:n = k + 1
  ·subst e
   rw [if_neg (by omega)] at ih
   rw [if_pos (show 1 ≤ (k:Int) + 1 ∧ (k:Int) + 1 ≤ ((k + 1:Nat):Int) by omega)]
   by_cases h:(t (k + 1)).isEmpty = true
   ·rw [if_pos h,ih]; exact (List.isEmpty_iff.1 h).symm
   ·rw [if_neg h,runsK_append,ih]; simp [runsK]
  ·have h2:(1 ≤ n ∧ n ≤ ((k + 1:Nat):Int)) ↔ (1 ≤ n ∧ n ≤ (k:Int)):=by omega
   split
   ·rw [ih]; simp only [h2]
   ·rw [runsK_append,ih]
    have:runsK [⟨(k:Int) + 1,t (k + 1)⟩] n = []:=by simp only [runsK]; rw [if_neg (by omega)]
    rw [this,List.append_nil]; simp only [h2]
theorem setT_runs (t:Int → List Run) (n:Int):runsK (setT t) n = if repOK n = true then t n else []:=by
 unfold setT
 rw [mkT_runs]
 simp only [repOK_iff]; rfl
theorem goK_snoc:∀ (s:List Known) (p:Int) (k:Known),goK p (s ++ [k]) = (goK p s && oneK (match s.getLast? with | some q=>q.n | none=>p) k)
 | [],p,k=>by simp [goK]
 | q :: s,p,k=>by
  simp only [List.cons_append,goK,goK_snoc s q.n k,Bool.and_assoc]
  congr 2
  cases h:s.getLast? with
  | none=>rw [List.getLast?_cons]; simp [h]
  | some x=>rw [List.getLast?_cons]; simp [h]
theorem mkT_mem {t:Int → List Run} {x:Known}:∀ {k:Nat},x ∈ mkT t k → 1 ≤ x.n ∧ x.n ≤ k ∧ x.rs = t x.n ∧ x.rs ≠ []
 | 0,h=>by cases h
 | k + 1,h=>by
  simp only [mkT] at h
  split at h
  ·have:=mkT_mem h
   exact ⟨this.1,by omega,this.2.2⟩
  ·rename_i hne
   rcases List.mem_append.1 h with h | h
   ·have:=mkT_mem h
    exact ⟨this.1,by omega,this.2.2⟩
   ·simp only [List.mem_singleton] at h
    subst h
    exact ⟨by show (1:Int) ≤ (k:Int) + 1; omega,by show (k:Int) + 1 ≤ ((k + 1:Nat):Int); omega,rfl,fun e=>hne (List.isEmpty_iff.2 e)⟩
theorem mkT_right {t:Int → List Run} (h:∀ n,rightL (t n) = true):∀ {k:Nat},k ≤ 16 → goK 0 (mkT t k) = true
 | 0,_=>rfl
 | k + 1,hk=>by
  have ih:=mkT_right (t:=t) h (k:=k) (by omega)
  simp only [mkT]
  split
  ·exact ih
  ·rename_i hne
   rw [goK_snoc,ih,Bool.true_and]
   simp only [oneK,h,Bool.and_true,Bool.and_eq_true,decide_eq_true_iff,repOK_iff]
   refine ⟨⟨by omega,?_⟩,by simpa using hne⟩
   split
   ·rename_i q hq
    have:=mkT_mem (List.mem_of_getLast? hq)
    omega
   ·omega
theorem setT_right {t:Int → List Run} (h:∀ n,rightL (t n) = true):rightK (setT t) = true:=mkT_right h (Nat.le_refl _)
theorem mkT_congr {t u:Int → List Run}:∀ {k:Nat},(∀ n:Int,1 ≤ n → n ≤ k → t n = u n) → mkT t k = mkT u k
 | 0,_=>rfl
 | k + 1,h=>by
  have ih:=mkT_congr (t:=t) (u:=u) (k:=k) (fun n h1 h2=>h n h1 (by omega))
  have e:=h (k + 1) (by omega) (by omega)
  simp only [mkT,ih,e]
theorem setT_congr {t u:Int → List Run} (h:∀ n,repOK n = true → t n = u n):setT t = setT u:=mkT_congr fun n h1 h2=>h n (repOK_iff.2 ⟨h1,by omega⟩)
theorem goK_runs:∀ {s:List Known} {p n:Int},goK p s = true → n ≤ p → runsK s n = []
 | [],_,_,_,_=>rfl
 | k :: s,p,n,h,hn=>by
  simp only [goK,oneK,Bool.and_eq_true,decide_eq_true_iff] at h
  simp only [runsK]
  rw [if_neg (by omega)]
  exact goK_runs h.2 (by omega)
theorem goK_rr:∀ {s:List Known} {p:Int},goK p s = true → ∀ n,rightL (runsK s n) = true
 | [],_,_,_=>rfl
 | k :: s,p,h,n=>by
  simp only [goK,oneK,Bool.and_eq_true,decide_eq_true_iff] at h
  simp only [runsK]
  split
  ·rename_i e
   rw [goK_runs h.2 (Int.le_of_eq e.symm),List.append_nil]; exact h.1.2
  ·exact goK_rr h.2 n
theorem goK_mk:∀ {s:List Known} {p:Nat},goK p s = true → p ≤ 16 → setT (runsK s) = (mkT (runsK s) p) ++ s
 | [],p,_,hp=>by
  have e:∀ k,mkT (runsK []) k = []:=fun k=>by
   induction k with
   | zero=>rfl
   | succ k ih=>
    have e:(runsK [] ((k:Int) + 1)).isEmpty = true:=rfl
    simp only [mkT,e,if_true]; exact ih
  unfold setT; rw [e,e]; rfl
 | k :: s,p,h,hp=>by
  have h0:=h
  simp only [goK,oneK,Bool.and_eq_true,decide_eq_true_iff] at h
  obtain ⟨⟨⟨⟨h1,h2⟩,h3⟩,h4⟩,h5⟩:=h
  rw [repOK_iff] at h1
  obtain ⟨m,hm⟩:∃ m:Nat,k.n = ((m + 1:Nat):Int):=⟨(k.n - 1).toNat,by omega⟩
  have hrun:runsK (k :: s) k.n = k.rs:=by
   simp only [runsK,if_true]; rw [goK_runs h5 (Int.le_refl _),List.append_nil]
  have hrest:∀ n,k.n < n → runsK (k :: s) n = runsK s n:=fun n hn=>by
   simp only [runsK]; rw [if_neg (by omega)]
  have hlow:∀ n,n < k.n → runsK (k :: s) n = []:=fun n hn=>by
   simp only [runsK]; rw [if_neg (by omega)]; exact goK_runs h5 (by omega)
  -- up to the first replica nothing
  have hz:∀ j:Nat,(j:Int) < k.n → mkT (runsK (k :: s)) j = []:=fun j=>by
   induction j with
   | zero=>intro _; rfl
   | succ j ih=>
    intro hj
    simp only [mkT]
    rw [ih (by omega),hlow _ (by omega)]; rfl
  have hzs:∀ j:Nat,(j:Int) ≤ k.n → mkT (runsK s) j = []:=fun j=>by
   induction j with
   | zero=>intro _; rfl
   | succ j ih=>
    intro hj
    simp only [mkT]
    rw [ih (by omega),goK_runs h5 (by omega)]; rfl
  have hup:∀ j:Nat,m + 1 ≤ j → mkT (runsK (k :: s)) j = k :: mkT (runsK s) j:=fun j=>by
   induction j with
   | zero=>intro hj; omega
   | succ j ih=>
    intro hj
    rcases Nat.lt_or_eq_of_le hj with hj | hj
    ·have hh:=ih (by omega)
     have e:=hrest (((j:Nat):Int) + 1) (by omega)
     simp only [mkT]
     rw [hh,e]
     split <;> simp
    ·have e1:j = m:=by omega
     subst e1
     have e2:((j:Nat):Int) + 1 = k.n:=by omega
     rw [hzs (j + 1) (by omega)]
     simp only [mkT]
     rw [e2,hrun,hz j (by omega)]
     cases hrs:k.rs with
     | nil=>rw [hrs] at h3; simp at h3
     | cons r rs=>
      rw [if_neg (by simp)]
      cases k; simp_all
  have ih:=goK_mk (s:=s) (p:=m + 1) (by rw [← hm]; exact h5) (by omega)
  rw [hzs (m + 1) (by omega)] at ih
  rw [hz p (by omega)]
  unfold setT at ih ⊢
  rw [hup 16 (by omega),ih]; rfl
theorem right_setT {s:List Known} (h:rightK s = true):setT (runsK s) = s:=by
 have:=goK_mk (s:=s) (p:=0) h (by omega)
 simpa [mkT] using this
theorem right_setK {s:List Known} (h:rightK s = true):setT (fun n=>setR (hasL13 (runsK s n))) = s:=by
 have e:=right_setT h
 rw [← setT_congr (t:=runsK s) fun n _=>setR_eq (goK_rr h n) fun _=>rfl]
 exact e
end Go.Proofs.YtjfdlpagcgpaoaaGreat
namespace Go.Iv
set_option linter.unusedSimpArgs false
set_option linter.unusedVariables false
set_option linter.unusedSectionVars false
section
variable {α β:Type} (lt:α → α → Bool)
def inL (l:List ((α × Option α) × β)) (x:α) (b:β):Prop:=∃ i ∈ l,memI lt i.1 x = true ∧ i.2 = b
def nextL (i j:(α × Option α) × β):Prop:=∃ e,i.1.2 = some e ∧ lt j.1.1 e = false ∧ (e = j.1.1 → i.2 ≠ j.2)
def CanL:List ((α × Option α) × β) → Prop
 | []=>True
 | [i]=>below lt i.1.1 i.1.2 = true
 | i :: j :: l=>below lt i.1.1 i.1.2 = true ∧ nextL lt i j ∧ CanL (j :: l)
def CanRL:List ((α × Option α) × β) → Prop
 | []=>True
 | [i]=>below lt i.1.1 i.1.2 = true
 | i :: j :: l=>below lt i.1.1 i.1.2 = true ∧ nextL lt j i ∧ CanRL (j :: l)
def topL (l:List ((α × Option α) × β)) (x:α):Prop:=match l with | []=>True | q :: _=>∃ e,q.1.2 = some e ∧ lt x e = false
def pushL [DecidableEq α] [DecidableEq β] (l:List ((α × Option α) × β)) (r:(α × Option α) × β):List ((α × Option α) × β):=
 match l with
 | []=>[r]
 | q :: qs=>if q.1.2 = some r.1.1 ∧ q.2 = r.2 then ((q.1.1,r.1.2),q.2) :: qs else r :: q :: qs
end
section
variable {α β:Type} {lt:α → α → Bool} (hl:Lin lt)
theorem inL_nil {x:α} {b:β}:¬ inL lt [] x b:=by rintro ⟨_,h,_⟩; cases h
theorem inL_cons {i:(α × Option α) × β} {l:List ((α × Option α) × β)} {x:α} {b:β}:inL lt (i :: l) x b ↔ (memI lt i.1 x = true ∧ i.2 = b) ∨ inL lt l x b:=by
 simp [inL]
theorem inL_rev {l:List ((α × Option α) × β)} {x:α} {b:β}:inL lt l.reverse x b ↔ inL lt l x b:=by simp [inL]
theorem canL_snoc:∀ (l:List ((α × Option α) × β)) (i j:(α × Option α) × β),CanL lt (l ++ [i,j]) ↔ CanL lt (l ++ [i]) ∧ nextL lt i j ∧ below lt j.1.1 j.1.2 = true
 | [],i,j=>by simp [CanL]
 | [x],i,j=>by
  have e:=canL_snoc [] i j
  simp only [List.nil_append,List.cons_append,CanL] at e ⊢
  exact ⟨fun ⟨a,b,c,d,e⟩=>⟨⟨a,b,c⟩,d,e⟩,fun ⟨⟨a,b,c⟩,d,e⟩=>⟨a,b,c,d,e⟩⟩
 | x :: y :: l,i,j=>by
  have e:=canL_snoc (y :: l) i j
  simp only [List.cons_append,CanL] at e ⊢
  rw [e]
  exact ⟨fun ⟨a,b,c,d,e⟩=>⟨⟨a,b,c⟩,d,e⟩,fun ⟨⟨a,b,c⟩,d,e⟩=>⟨a,b,c,d,e⟩⟩
theorem canRL_rev:∀ {l:List ((α × Option α) × β)},CanL lt l.reverse ↔ CanRL lt l
 | []=>by simp [CanL,CanRL]
 | [i]=>by simp [CanL,CanRL]
 | i :: j :: l=>by
  have ih:=@canRL_rev (j :: l)
  simp only [List.reverse_cons,List.append_assoc,List.cons_append,List.nil_append] at ih ⊢
  rw [canL_snoc,ih,CanRL]
  exact ⟨fun ⟨a,b,c⟩=>⟨c,b,a⟩,fun ⟨a,b,c⟩=>⟨c,b,a⟩⟩
theorem canL_tail {i:(α × Option α) × β}:∀ {l:List ((α × Option α) × β)},CanL lt (i :: l) → CanL lt l
 | [],_=>trivial
 | _ :: _,h=>h.2.2
theorem canL_head {i:(α × Option α) × β}:∀ {l:List ((α × Option α) × β)},CanL lt (i :: l) → below lt i.1.1 i.1.2 = true
 | [],h=>h
 | _ :: _,h=>h.1
include hl
theorem canL_low:∀ {l:List ((α × Option α) × β)} {i:(α × Option α) × β} {x:α} {b:β},CanL lt (i :: l) → inL lt (i :: l) x b → lt x i.1.1 = false
 | l,i,x,b,h,hm=>by
  rcases inL_cons.1 hm with ⟨hm,_⟩ | hm
  ·simp only [memI,Bool.and_eq_true,Bool.not_eq_true'] at hm; exact hm.1
  ·cases l with
   | nil=>exact absurd hm inL_nil
   | cons j l=>
    obtain ⟨h1,⟨e,he,hlt,_⟩,h2⟩:=h
    have hlow:=canL_low h2 hm
    have hi:lt i.1.1 e = true:=by rw [he] at h1; exact h1
    have hij:lt i.1.1 j.1.1 = true:=lt_of_lt_of_not hl hi hlt
    cases hx:lt x i.1.1
    ·rfl
    ·have h4:=hl.tr _ _ _ hx hij
     rw [h4] at hlow; cases hlow
theorem canL_gap {i:(α × Option α) × β} {l:List ((α × Option α) × β)} {x:α} {b:β} (h:CanL lt (i :: l)) (hm:inL lt l x b):∃ e,i.1.2 = some e ∧ lt x e = false ∧ (x = e → i.2 ≠ b):=by
 cases l with
 | nil=>exact absurd hm inL_nil
 | cons j l=>
  obtain ⟨h1,⟨e,he,hlt,hne⟩,h2⟩:=h
  have hlow:=canL_low hl h2 hm
  refine ⟨e,he,not_lt_tr hl hlow hlt,fun hx=>?_⟩
  subst hx
  have hej:x = j.1.1:=eq_of_not hl hlow hlt
  have hb:j.2 = b:=by
   rcases inL_cons.1 hm with ⟨_,hm⟩ | hm
   ·exact hm
   ·exfalso
    cases l with
    | nil=>exact absurd hm inL_nil
    | cons k l=>
     obtain ⟨g1,⟨e',he',hlt',_⟩,g2⟩:=h2
     have hlow':=canL_low hl g2 hm
     rw [he'] at g1
     have g1':lt j.1.1 e' = true:=g1
     rw [← hej] at g1'
     have:=lt_of_lt_of_not hl g1' hlt'
     rw [this] at hlow'; cases hlow'
  rw [← hb]; exact hne hej
theorem canL_rest {i:(α × Option α) × β} {l:List ((α × Option α) × β)} {x:α} {b:β} (h:CanL lt (i :: l)):inL lt l x b ↔ inL lt (i :: l) x b ∧ memI lt i.1 x = false:=by
 constructor
 ·intro hm
  refine ⟨inL_cons.2 (.inr hm),?_⟩
  obtain ⟨e,he,hx,_⟩:=canL_gap hl h hm
  simp [memI,he,below,hx]
 ·rintro ⟨hm,h1⟩
  rcases inL_cons.1 hm with ⟨h2,_⟩ | h2
  ·rw [h1] at h2; cases h2
  ·exact h2
theorem canL_fun:∀ {l:List ((α × Option α) × β)} {x:α} {b c:β},CanL lt l → inL lt l x b → inL lt l x c → b = c
 | [],_,_,_,_,h,_=>absurd h inL_nil
 | i :: l,x,b,c,h,h1,h2=>by
  cases hi:memI lt i.1 x with
  | true=>
   have e:∀ d,inL lt (i :: l) x d → i.2 = d:=fun d hd=>by
    rcases inL_cons.1 hd with ⟨_,h3⟩ | h3
    ·exact h3
    ·have:=(canL_rest hl h).1 h3
     rw [hi] at this; cases this.2
   rw [← e b h1,← e c h2]
  | false=>exact canL_fun (canL_tail h) ((canL_rest hl h).2 ⟨h1,hi⟩) ((canL_rest hl h).2 ⟨h2,hi⟩)
theorem inL_head {i:(α × Option α) × β} {l:List ((α × Option α) × β)} (h:CanL lt (i :: l)):inL lt (i :: l) i.1.1 i.2:=
 inL_cons.2 (.inl ⟨by simp [memI,hl.irr,canL_head h],rfl⟩)
theorem endL_le {i j:(α × Option α) × β} {l m:List ((α × Option α) × β)} (h:CanL lt (i :: l)) (h':CanL lt (j :: m)) (hm:∀ x b,inL lt (i :: l) x b ↔ inL lt (j :: m) x b) (h0:i.1.1 = j.1.1) (hb:i.2 = j.2) {e:α} (he:i.1.2 = some e):∃ e',j.1.2 = some e' ∧ lt e e' = false:=by
 have hie:lt i.1.1 e = true:=by have:=canL_head h; rw [he] at this; exact this
 have hn:¬ inL lt (i :: l) e i.2:=fun hi=>by
  rcases inL_cons.1 hi with ⟨h1,_⟩ | h1
  ·simp [memI,he,below,hl.irr] at h1
  ·obtain ⟨e',he',_,hne⟩:=canL_gap hl h h1
   rw [he] at he'
   exact hne (Option.some.inj he') rfl
 rw [hm] at hn
 cases hj:j.1.2 with
 | none=>
  exact absurd (inL_cons.2 (.inl ⟨by simp [memI,hj,below,← h0,asymm hl hie],hb.symm⟩)) hn
 | some e'=>
  refine ⟨e',rfl,?_⟩
  cases hee:lt e e' with
  | false=>rfl
  | true=>exact absurd (inL_cons.2 (.inl ⟨by simp [memI,hj,below,← h0,asymm hl hie,hee],hb.symm⟩)) hn
theorem canL_unique:∀ {l m:List ((α × Option α) × β)},CanL lt l → CanL lt m → (∀ x b,inL lt l x b ↔ inL lt m x b) → l = m
 | [],[],_,_,_=>rfl
 | [],j :: m,_,h,hm=>absurd ((hm _ _).2 (inL_head hl h)) inL_nil
 | i :: l,[],h,_,hm=>absurd ((hm _ _).1 (inL_head hl h)) inL_nil
 | i :: l,j :: m,h,h',hm=>by
  have a1:=(hm _ _).1 (inL_head hl h)
  have a2:=(hm _ _).2 (inL_head hl h')
  have e0:i.1.1 = j.1.1:=eq_of_not hl (canL_low hl h' a1) (canL_low hl h a2)
  have eb:i.2 = j.2:=by
   have:=inL_head hl h'
   rw [← e0] at this
   exact canL_fun hl h' a1 this
  have e1:i.1.2 = j.1.2:=by
   cases hi:i.1.2 with
   | none=>
    cases hj:j.1.2 with
    | none=>rfl
    | some e=>
     obtain ⟨e',h1,_⟩:=endL_le hl h' h (fun x b=>(hm x b).symm) e0.symm eb.symm hj
     rw [hi] at h1; cases h1
   | some e=>
    obtain ⟨e',h1,h2⟩:=endL_le hl h h' hm e0 eb hi
    obtain ⟨e'',h3,h4⟩:=endL_le hl h' h (fun x b=>(hm x b).symm) e0.symm eb.symm h1
    rw [hi] at h3
    obtain rfl:=Option.some.inj h3
    rw [h1,eq_of_not hl h2 h4]
  have e:i = j:=by
   obtain ⟨⟨a,b⟩,c⟩:=i
   obtain ⟨⟨a',b'⟩,c'⟩:=j
   simp_all
  subst e
  rw [canL_unique (canL_tail h) (canL_tail h') fun x b=>by rw [canL_rest hl h,canL_rest hl h',hm]]
theorem pushL_right [DecidableEq α] [DecidableEq β] {l:List ((α × Option α) × β)} {r:(α × Option α) × β} (h:CanRL lt l) (hr:below lt r.1.1 r.1.2 = true) (ht:topL lt l r.1.1) :
 CanRL lt (pushL l r) ∧ (∀ x b,inL lt (pushL l r) x b ↔ inL lt l x b ∨ (memI lt r.1 x = true ∧ r.2 = b)) ∧ ∃ q qs,pushL l r = q :: qs ∧ q.1.2 = r.1.2:=by
 cases l with
 | nil=>exact ⟨hr,fun x b=>by simp [pushL,inL],r,[],rfl,rfl⟩
 | cons q qs=>
  obtain ⟨e,he,hx⟩:=ht
  simp only [pushL]
  by_cases hc:q.1.2 = some r.1.1 ∧ q.2 = r.2
  ·rw [if_pos hc]
   have hq:lt q.1.1 r.1.1 = true:=by
    have h0:below lt q.1.1 q.1.2 = true:=by
     cases qs with
     | nil=>exact h
     | cons _ _=>exact h.1
    rw [hc.1] at h0; exact h0
   have hqr:below lt q.1.1 r.1.2 = true:=by
    cases hr2:r.1.2 with
    | none=>rfl
    | some e'=>rw [hr2] at hr; exact hl.tr _ _ _ hq hr
   refine ⟨?_,fun x b=>?_,_,_,rfl,rfl⟩
   ·cases qs with
    | nil=>exact hqr
    | cons p ps=>exact ⟨hqr,h.2.1,h.2.2⟩
   ·rw [inL_cons,inL_cons]
    have:memI lt (q.1.1,r.1.2) x = (memI lt q.1 x || memI lt r.1 x):=by
     have hb:below lt x (some r.1.1) = lt x r.1.1:=rfl
     simp only [memI,hc.1,hb]
     cases h1:lt x q.1.1 with
     | true=>
      have h2:lt x r.1.1 = true:=hl.tr _ _ _ h1 hq
      simp [h2]
     | false=>
      cases h2:lt x r.1.1 with
      | true=>
       have:below lt x r.1.2 = true:=by
        cases hr2:r.1.2 with
        | none=>rfl
        | some e'=>rw [hr2] at hr; exact hl.tr _ _ _ h2 hr
       simp [this]
      | false=>simp
    simp only [this,Bool.or_eq_true,hc.2]
    constructor
    ·rintro (⟨h1 | h1,h2⟩ | h1)
     ·exact .inl (.inl ⟨h1,h2⟩)
     ·exact .inr ⟨h1,h2⟩
     ·exact .inl (.inr h1)
    ·rintro ((⟨h1,h2⟩ | h1) | ⟨h1,h2⟩)
     ·exact .inl ⟨.inl h1,h2⟩
     ·exact .inr h1
     ·exact .inl ⟨.inr h1,h2⟩
  ·rw [if_neg hc]
   refine ⟨⟨hr,⟨e,he,hx,fun hee hb=>hc ⟨by rw [he,hee],hb⟩⟩,h⟩,fun x b=>?_,_,_,rfl,rfl⟩
   rw [inL_cons]
   exact ⟨fun h=>h.symm,fun h=>h.symm⟩
end
end Go.Iv
namespace Go.Proofs.YtjfdlpagcgpaoaaGreat
open Go.Abs
set_option linter.unusedSimpArgs false
set_option linter.unusedVariables false
structure Pc where
 r:Rng
 s:List Known
 deriving DecidableEq
instance:Inhabited Pc:=⟨⟨⟨[],[],true⟩,[]⟩⟩
def setAt (k:List Pc) (x:List UInt8):List Known:=(k.filter fun p=>hasR p.r x).flatMap (·.s)
theorem setAt_append (k m:List Pc) (x:List UInt8):setAt (k ++ m) x = setAt k x ++ setAt m x:=by simp [setAt]
def hasP (k:List Pc) (x:List UInt8) (n c:Int):Bool:=k.any fun p=>hasR p.r x && hasK p.s n c
def onePc (p:Pc):Bool:=rightR p.r && !p.s.isEmpty && rightK p.s
def nextPc (q p:Pc):Bool:=!q.r.op && !ltB p.r.lo q.r.hi && !(q.r.hi == p.r.lo && decide (q.s = p.s))
def goP:Option Pc → List Pc → Bool
 | _,[]=>true
 | q,p :: k=>onePc p && (match q with | none=>true | some q=>nextPc q p) && goP (some p) k
def rightP (k:List Pc):Bool:=goP none k
def ivP (p:Pc):(List UInt8 × Option (List UInt8)) × List Known:=(ivR p.r,p.s)
theorem ivP_inj {p q:Pc} (hp:onePc p = true) (hq:onePc q = true) (h:ivP p = ivP q):p = q:=by
 simp only [onePc,Bool.and_eq_true] at hp hq
 have h1:ivR p.r = ivR q.r:=congrArg Prod.fst h
 have h2:p.s = q.s:=congrArg Prod.snd h
 have:=iv_inj hp.1.1 hq.1.1 h1
 cases p; cases q; simp_all
theorem next_iv {q p:Pc}:nextPc q p = true ↔ Iv.nextL ltB (ivP q) (ivP p):=by
 simp only [nextPc,Iv.nextL,ivP,ivR,Bool.and_eq_true,Bool.not_eq_true',Bool.and_eq_false_iff,beq_eq_false_iff_ne,decide_eq_false_iff_not]
 constructor
 ·rintro ⟨⟨h1,h2⟩,h3⟩
  exact ⟨q.r.hi,by simp [h1],h2,fun e=>by
   rcases h3 with h3 | h3
   ·exact absurd e h3
   ·exact h3⟩
 ·rintro ⟨e,h1,h2,h3⟩
  cases ho:q.r.op with
  | true=>rw [ho] at h1; simp at h1
  | false=>
   rw [ho] at h1
   simp at h1
   subst h1
   refine ⟨⟨rfl,h2⟩,?_⟩
   by_cases h:q.r.hi = p.r.lo
   ·exact .inr (h3 h)
   ·exact .inl h
theorem goP_can:∀ {k:List Pc} {q:Option Pc},goP q k = true ↔ (∀ p ∈ k,onePc p = true) ∧ Iv.CanL ltB (k.map ivP) ∧ ∀ u,q = some u → ∀ p,k.head? = some p → nextPc u p = true
 | [],q=>by simp [goP,Iv.CanL]
 | p :: k,q=>by
  have ih:=@goP_can k (some p)
  simp only [goP,Bool.and_eq_true,ih]
  constructor
  ·rintro ⟨⟨h1,h2⟩,h3,h4,h5⟩
   refine ⟨fun r hr=>?_,?_,fun u hu r hr=>?_⟩
   ·rcases List.mem_cons.1 hr with rfl | hr
    ·exact h1
    ·exact h3 r hr
   ·have hb:Iv.below ltB (ivP p).1.1 (ivP p).1.2 = true:=by
     simp only [onePc,Bool.and_eq_true] at h1
     exact iv_ok h1.1.1
    cases k with
    | nil=>exact hb
    | cons r k=>exact ⟨hb,next_iv.1 (h5 p rfl r rfl),h4⟩
   ·subst hu
    simp at hr; subst hr
    exact h2
  ·rintro ⟨h1,h2,h3⟩
   refine ⟨⟨h1 p (by simp),?_⟩,fun r hr=>h1 r (by simp [hr]),Iv.canL_tail h2,fun u hu r hr=>?_⟩
   ·cases q with
    | none=>rfl
    | some u=>exact h3 u rfl p rfl
   ·obtain rfl:=Option.some.inj hu
    cases k with
    | nil=>cases hr
    | cons w k=>
     simp at hr; subst hr
     exact next_iv.2 h2.2.1
theorem rightP_can {k:List Pc}:rightP k = true ↔ (∀ p ∈ k,onePc p = true) ∧ Iv.CanL ltB (k.map ivP):=by
 unfold rightP
 rw [goP_can]
 simp
def saysP (k:List Pc) (x:List UInt8) (l:List Known):Prop:=Iv.inL ltB (k.map ivP) x l
theorem map_ivP_inj:∀ {k m:List Pc},(∀ p ∈ k,onePc p = true) → (∀ p ∈ m,onePc p = true) → k.map ivP = m.map ivP → k = m
 | [],[],_,_,_=>rfl
 | [],_ :: _,_,_,h=>by simp at h
 | _ :: _,[],_,_,h=>by simp at h
 | p :: k,q :: m,h1,h2,h=>by
  simp only [List.map_cons,List.cons.injEq] at h
  rw [ivP_inj (h1 p (by simp)) (h2 q (by simp)) h.1,map_ivP_inj (fun r hr=>h1 r (by simp [hr])) (fun r hr=>h2 r (by simp [hr])) h.2]
theorem rightP_unique {k m:List Pc} (h:rightP k = true) (h':rightP m = true) (hm:∀ x l,saysP k x l ↔ saysP m x l):k = m:=by
 rw [rightP_can] at h h'
 exact map_ivP_inj h.1 h'.1 (Iv.canL_unique linB h.2 h'.2 hm)
open Classical in
/-- THE right list of what is meant. -/
noncomputable def setP (P:List UInt8 → List Known):List Pc:=if h:∃ k,rightP k = true ∧ ∀ x l,saysP k x l ↔ P x = l ∧ l ≠ [] then Classical.choose h else []
def IsP (P:List UInt8 → List Known):Prop:=∃ k,rightP k = true ∧ ∀ x l,saysP k x l ↔ P x = l ∧ l ≠ []
theorem setP_right (P:List UInt8 → List Known):rightP (setP P) = true:=by
 unfold setP
 split
 ·rename_i h; exact (Classical.choose_spec h).1
 ·rfl
theorem setP_says {P:List UInt8 → List Known} (h:IsP P) (x:List UInt8) (l:List Known):saysP (setP P) x l ↔ P x = l ∧ l ≠ []:=by
 unfold setP
 rw [dif_pos (show ∃ k,rightP k = true ∧ ∀ x l,saysP k x l ↔ P x = l ∧ l ≠ [] from h)]; exact (Classical.choose_spec h).2 x l
theorem setP_eq {P:List UInt8 → List Known} {k:List Pc} (h:rightP k = true) (hp:∀ x l,saysP k x l ↔ P x = l ∧ l ≠ []):k = setP P:=
 rightP_unique h (setP_right P) fun x l=>by rw [hp,setP_says ⟨k,h,hp⟩]
theorem says_iff {k:List Pc} (hk:∀ p ∈ k,onePc p = true) {x:List UInt8} {l:List Known}:saysP k x l ↔ ∃ p ∈ k,hasR p.r x = true ∧ p.s = l:=by
 unfold saysP Iv.inL
 constructor
 ·rintro ⟨i,hi,h1,h2⟩
  obtain ⟨p,hp,rfl⟩:=List.mem_map.1 hi
  have:=hk p hp
  simp only [onePc,Bool.and_eq_true] at this
  exact ⟨p,hp,by rw [hasR_iv,this.1.1]; exact h1,h2⟩
 ·rintro ⟨p,hp,h1,h2⟩
  refine ⟨ivP p,List.mem_map.2 ⟨p,hp,rfl⟩,?_,h2⟩
  rw [hasR_iv,Bool.and_eq_true] at h1
  exact h1.2
theorem right_at:∀ {k:List Pc},rightP k = true → ∀ {x:List UInt8} {p:Pc},p ∈ k → hasR p.r x = true → setAt k x = p.s
 | [],_,_,_,h,_=>by cases h
 | q :: k,hr,x,p,hp,hx=>by
  have hc:=rightP_can.1 hr
  have ht:rightP k = true:=rightP_can.2 ⟨fun r h=>hc.1 r (by simp [h]),Iv.canL_tail hc.2⟩
  have e:setAt (q :: k) x = (if hasR q.r x = true then q.s else []) ++ setAt k x:=by
   unfold setAt
   by_cases h:hasR q.r x = true
   ·simp [h]
   ·simp [h]
  rw [e]
  cases hq:hasR q.r x with
  | true=>
   -- no later piece has it
   have hno:∀ r ∈ k,hasR r.r x = false:=fun r hr2=>by
    rw [← Bool.not_eq_true]
    intro hrx
    have h1:Iv.inL ltB (k.map ivP) x r.s:=(says_iff (fun r h=>hc.1 r (by simp [h]))).2 ⟨r,hr2,hrx,rfl⟩
    have h2:=(Iv.canL_rest linB hc.2).1 h1
    rw [hasR_iv,Bool.and_eq_true] at hq
    have h3:Iv.memI ltB (ivP q).1 x = true:=hq.2
    rw [h2.2] at h3; cases h3
   have h0:setAt k x = []:=by
    unfold setAt
    rw [List.filter_eq_nil_iff.2 (fun r h=>by rw [hno r h]; simp)]; rfl
   have hpq:p = q:=by
    rcases List.mem_cons.1 hp with h | h
    ·exact h
    ·rw [hno p h] at hx; cases hx
   rw [h0,hpq]; simp
  | false=>
   have hpk:p ∈ k:=by
    rcases List.mem_cons.1 hp with h | h
    ·subst h; rw [hq] at hx; cases hx
    ·exact h
   simp only [Bool.false_eq_true,if_false,List.nil_append]
   exact right_at ht hpk hx
def pushP:List Pc → Pc → List Pc
 | [],r=>[r]
 | q :: qs,r=>if (!q.r.op && q.r.hi == r.r.lo && decide (q.s = r.s)) = true then ⟨⟨q.r.lo,r.r.hi,r.r.op⟩,q.s⟩ :: qs else r :: q :: qs
theorem pushP_iv (l:List Pc) (r:Pc):(pushP l r).map ivP = Iv.pushL (l.map ivP) (ivP r):=by
 cases l with
 | nil=>rfl
 | cons q qs=>
  simp only [pushP,List.map_cons,Iv.pushL]
  have:((!q.r.op && q.r.hi == r.r.lo && decide (q.s = r.s)) = true) ↔ ((ivP q).1.2 = some (ivP r).1.1 ∧ (ivP q).2 = (ivP r).2):=by
   simp only [ivP,ivR,Bool.and_eq_true,Bool.not_eq_true',beq_iff_eq,decide_eq_true_iff]
   cases q.r.op <;> simp
  by_cases h:(!q.r.op && q.r.hi == r.r.lo && decide (q.s = r.s)) = true
  ·rw [if_pos h,if_pos (this.1 h)]; rfl
  ·rw [if_neg h,if_neg (fun e=>h (this.2 e))]; rfl
theorem pushP_len (l:List Pc) (r:Pc):(pushP l r).length ≤ l.length + 1:=by
 cases l with
 | nil=>simp [pushP]
 | cons q qs=>simp only [pushP]; split <;> simp
def rngE (es:List (List UInt8)) (k:Nat):Rng:=if k + 1 < es.length then ⟨es[k]!,es[k + 1]!,false⟩ else ⟨es[k]!,[],true⟩
def mkP (P:List UInt8 → List Known) (es:List (List UInt8)):Nat → List Pc
 | 0=>[]
 | k + 1=>if P (es[k]!) = [] then mkP P es k else pushP (mkP P es k) ⟨rngE es k,P (es[k]!)⟩
theorem mkP_len (P:List UInt8 → List Known) (es:List (List UInt8)):∀ k,(mkP P es k).length ≤ k
 | 0=>Nat.le_refl _
 | k + 1=>by
  have h1:=mkP_len P es k
  have h2:=pushP_len (mkP P es k) ⟨rngE es k,P (es[k]!)⟩
  simp only [mkP]
  split <;> omega
theorem up_getB {e:List (List UInt8)} (h:e.Pairwise (fun x y=>ltB x y = true)) {i j:Nat} (hij:i < j) (hj:j < e.length):ltB (e[i]!) (e[j]!) = true:=by
 rw [getElem!_pos e i (by omega),getElem!_pos e j hj]
 exact List.pairwise_iff_getElem.1 h i j (by omega) hj hij
structure Edg (P:List UInt8 → List Known) (es:List (List UInt8)):Prop where
 up:es.Pairwise (fun x y=>ltB x y = true)
 nil:[] ∈ es
 len:∀ e ∈ es,e.length ≤ 17
 flat:∀ x e,e ∈ es → ltB x e = false → (∀ y ∈ es,ltB e y = true → ltB x y = true) → P x = P e
 right:∀ x,rightK (P x) = true
theorem nil_low (x:List UInt8):ltB x [] = false:=by
 cases x <;> rfl
theorem edg_zero {P:List UInt8 → List Known} {es:List (List UInt8)} (h:Edg P es):es[0]! = [] ∧ 0 < es.length:=by
 obtain ⟨i,hi,he⟩:=List.mem_iff_getElem.1 h.nil
 refine ⟨?_,by omega⟩
 rcases Nat.eq_zero_or_pos i with rfl | hp
 ·rw [getElem!_pos es 0 hi,he]
 ·have:=up_getB h.up hp hi
  rw [getElem!_pos es i hi,he,nil_low] at this; cases this
theorem rngE_right {P:List UInt8 → List Known} {es:List (List UInt8)} (h:Edg P es) {k:Nat} (hk:k < es.length):rightR (rngE es k) = true:=by
 have h1:=h.len (es[k]!) (by rw [getElem!_pos es k hk]; exact List.getElem_mem _)
 unfold rngE
 by_cases hn:k + 1 < es.length
 ·have h2:=h.len (es[k + 1]!) (by rw [getElem!_pos es (k + 1) hn]; exact List.getElem_mem _)
  rw [if_pos hn]
  exact right_mk h1 h2 (fun e=>by cases e) (fun _=>up_getB h.up (Nat.lt_succ_self k) hn)
 ·rw [if_neg hn]
  exact right_mk h1 (by simp) (fun _=>rfl) (fun e=>by cases e)
theorem rngE_lo {es:List (List UInt8)} {k:Nat}:(rngE es k).lo = es[k]!:=by unfold rngE; split <;> rfl
theorem pushP_one {l:List Pc} {r:Pc} (hl:∀ p ∈ l,onePc p = true) (hr:onePc r = true):∀ p ∈ pushP l r,onePc p = true:=by
 cases l with
 | nil=>intro p hp; simp only [pushP,List.mem_singleton] at hp; subst hp; exact hr
 | cons q qs=>
  intro p hp
  simp only [pushP] at hp
  split at hp
  ·rename_i hc
   rcases List.mem_cons.1 hp with rfl | hp
   ·have hq:=hl q (by simp)
    simp only [Bool.and_eq_true,Bool.not_eq_true',beq_iff_eq,decide_eq_true_iff] at hc
    simp only [onePc,Bool.and_eq_true] at hq hr ⊢
    refine ⟨⟨?_,hq.1.2⟩,hq.2⟩
    have a:=hq.1.1
    have b:=hr.1.1
    simp only [rightR,Bool.and_eq_true,decide_eq_true_iff,hc.1.1,Bool.false_eq_true,if_false] at a b ⊢
    refine ⟨⟨a.1.1,b.1.2⟩,?_⟩
    cases ho:r.r.op with
    | true=>have:=b.2; rw [ho] at this; simpa using this
    | false=>
     have:=b.2
     rw [ho] at this
     simp only [Bool.false_eq_true,if_false] at this ⊢
     rw [← hc.1.2] at this
     exact lt_trans' a.2 this
   ·exact hl p (by simp [hp])
  ·rcases List.mem_cons.1 hp with rfl | hp
   ·exact hr
   ·exact hl p hp
theorem mkP_spec {P:List UInt8 → List Known} {es:List (List UInt8)} (h:Edg P es):∀ k,k ≤ es.length →
 (∀ p ∈ mkP P es k,onePc p = true) ∧ Iv.CanRL ltB ((mkP P es k).map ivP) ∧ (k < es.length → Iv.topL ltB ((mkP P es k).map ivP) (es[k]!)) ∧
 ∀ x l,Iv.inL ltB ((mkP P es k).map ivP) x l ↔ (0 < k ∧ (k < es.length → ltB x (es[k]!) = true)) ∧ P x = l ∧ l ≠ []
 | 0,_=>⟨fun p hp=>(by cases hp),trivial,fun _=>trivial,fun x l=>⟨fun hi=>absurd hi Iv.inL_nil,fun hi=>by omega⟩⟩
 | k + 1,hk=>by
  obtain ⟨h0,h1,h2,h3⟩:=mkP_spec h k (by omega)
  have h2':=h2 (by omega)
  have hek:es[k]! ∈ es:=by rw [getElem!_pos es k (by omega)]; exact List.getElem_mem _
  -- what lies from this edge to the next
  have hin:∀ x,Iv.memI ltB (ivR (rngE es k)) x = true ↔ (ltB x (es[k]!) = false ∧ (k + 1 < es.length → ltB x (es[k + 1]!) = true)):=fun x=>by
   unfold rngE
   by_cases hn:k + 1 < es.length
   ·rw [if_pos hn]; simp [Iv.memI,ivR,Iv.below,hn]
   ·rw [if_neg hn]; simp [Iv.memI,ivR,Iv.below,hn]
  have hflat:∀ x,Iv.memI ltB (ivR (rngE es k)) x = true → P x = P (es[k]!):=fun x hx=>by
   obtain ⟨a,b⟩:=(hin x).1 hx
   refine h.flat x _ hek a fun y hy hly=>?_
   obtain ⟨i,hi,rfl⟩:=List.mem_iff_getElem.1 hy
   have e:es[i]! = es[i]:=getElem!_pos _ i hi
   rw [← e] at hly ⊢
   rcases Nat.lt_trichotomy i k with hh | hh | hh
   ·have:=up_getB h.up hh (by omega)
    rw [lt_asymm' this] at hly; cases hly
   ·subst hh; rw [lt_irrefl] at hly; cases hly
   ·have hb:=b (by omega)
    rcases Nat.lt_or_eq_of_le (show k + 1 ≤ i by omega) with hh' | hh'
    ·exact lt_trans' hb (up_getB h.up hh' hi)
    ·subst hh'; exact hb
  have hcase:∀ x,(0 < k + 1 ∧ (k + 1 < es.length → ltB x (es[k + 1]!) = true)) ↔ (0 < k ∧ (k < es.length → ltB x (es[k]!) = true)) ∨ Iv.memI ltB (ivR (rngE es k)) x = true:=fun x=>by
   rw [hin]
   constructor
   ·rintro ⟨_,hb⟩
    cases hx:ltB x (es[k]!) with
    | false=>exact .inr ⟨rfl,hb⟩
    | true=>
     refine .inl ⟨?_,fun _=>rfl⟩
     rcases Nat.eq_zero_or_pos k with h0 | h0
     ·subst h0; rw [(edg_zero h).1,nil_low] at hx; cases hx
     ·exact h0
   ·rintro (⟨h4,h5⟩ | ⟨_,h5⟩)
    ·exact ⟨by omega,fun hn=>lt_trans' (h5 (by omega)) (up_getB h.up (Nat.lt_succ_self k) hn)⟩
    ·exact ⟨by omega,h5⟩
  simp only [mkP]
  by_cases hP:P (es[k]!) = []
  ·rw [if_pos hP]
   refine ⟨h0,h1,fun hn=>?_,fun x l=>?_⟩
   ·revert h2'
    cases hm:(mkP P es k).map ivP with
    | nil=>intro _; trivial
    | cons q qs=>
     rintro ⟨e,he,hlt⟩
     exact ⟨e,he,Iv.not_lt_tr linB (lt_asymm' (up_getB h.up (Nat.lt_succ_self k) hn)) hlt⟩
   ·rw [h3,hcase]
    constructor
    ·rintro ⟨a,b⟩; exact ⟨.inl a,b⟩
    ·rintro ⟨a | a,b⟩
     ·exact ⟨a,b⟩
     ·rw [hflat x a,hP] at b
      exact absurd b.1.symm b.2
  ·rw [if_neg hP]
   have hrr:=rngE_right h (k:=k) (by omega)
   have hone:onePc ⟨rngE es k,P (es[k]!)⟩ = true:=by
    simp only [onePc,hrr,h.right,Bool.true_and,Bool.and_true,Bool.not_eq_true']
    cases hPk:P (es[k]!) with
    | nil=>exact absurd hPk hP
    | cons _ _=>rfl
   obtain ⟨g1,g2,q,qs,g3,g4⟩:=Iv.pushL_right linB (r:=ivP ⟨rngE es k,P (es[k]!)⟩) h1 (iv_ok hrr) (by
    show Iv.topL ltB _ (rngE es k).lo
    rw [rngE_lo]; exact h2')
   rw [← pushP_iv] at g1 g2 g3
   refine ⟨fun p hp=>pushP_one h0 hone p hp,g1,fun hn=>?_,fun x l=>?_⟩
   ·rw [g3]
    refine ⟨es[k + 1]!,?_,lt_irrefl _⟩
    rw [g4]
    show (ivR (rngE es k)).2 = _
    unfold rngE; rw [if_pos hn]; rfl
   ·rw [g2,h3,hcase]
    constructor
    ·rintro (⟨a,b⟩ | ⟨a,b⟩)
     ·exact ⟨.inl a,b⟩
     ·have a':Iv.memI ltB (ivR (rngE es k)) x = true:=a
      have b':P (es[k]!) = l:=b
      exact ⟨.inr a',by rw [hflat x a']; exact b',by rw [← b']; exact hP⟩
    ·rintro ⟨a | a,b⟩
     ·exact .inl ⟨a,b⟩
     ·exact .inr ⟨a,by rw [← hflat x a]; exact b.1⟩
theorem mkP_all {P:List UInt8 → List Known} {es:List (List UInt8)} (h:Edg P es):(mkP P es es.length).reverse = setP P ∧ IsP P:=by
 obtain ⟨h0,h1,_,h3⟩:=mkP_spec h es.length (Nat.le_refl _)
 have hr:rightP (mkP P es es.length).reverse = true:=by
  rw [rightP_can]
  refine ⟨fun p hp=>h0 p (List.mem_reverse.1 hp),?_⟩
  rw [List.map_reverse]
  exact Iv.canRL_rev.2 h1
 have hs:∀ x l,saysP (mkP P es es.length).reverse x l ↔ P x = l ∧ l ≠ []:=fun x l=>by
  unfold saysP
  rw [List.map_reverse,Iv.inL_rev,h3]
  have:=(edg_zero h).2
  exact ⟨fun h=>h.2,fun h=>⟨⟨this,fun hn=>by omega⟩,h⟩⟩
 exact ⟨setP_eq hr hs,_,hr,hs⟩
set_option maxRecDepth 20000
set_option maxHeartbeats 4000000
theorem strI {q:IntKind} (l:List Int):((l.map (A.int q)).isEmpty || strideOf (l.map (A.int q)) == 1) = true:=by
 cases l <;> rfl
theorem put_close {l:List Int} {n:Int} {k:Nat} (hk:k ≤ l.length) (hd:putI l n = l.take k ++ n :: l.drop k):k + 1 ≤ ((l.take k).map (A.int .i64) ++ [A.int .i64 n]).length ∧ k + 1 + (l.length - k) ≤ (((l.take k).map (A.int .i64) ++ [A.int .i64 n]).take (k + 1) ++ (l.drop k).map (A.int .i64)).length ∧
 (((l.take k).map (A.int .i64) ++ [A.int .i64 n]).take (k + 1) ++ (l.drop k).map (A.int .i64)).take (k + 1 + (l.length - k)) = (putI l n).map (A.int .i64):=by
 have e:((l.take k).map (A.int .i64) ++ [A.int .i64 n]).length = k + 1:=by simp; omega
 rw [List.take_of_length_le (Nat.le_of_eq e)]
 have e2:((l.take k).map (A.int .i64) ++ [A.int .i64 n] ++ (l.drop k).map (A.int .i64)).length = k + 1 + (l.length - k):=by
  rw [List.length_append,e,List.length_map,List.length_drop]
 rw [List.take_of_length_le (Nat.le_of_eq e2)]
 exact ⟨by omega,by omega,by rw [hd]; simp⟩
theorem ok_ref13_put:codeOK Tryz.prog T13b Tryz.f283.ntmps (Tryz.f283.body.getD .skip) = true:=by kernel_rfl
theorem c_ref13_put (l:List Int) (n:Int) (hl:l.length ≤ 1000000):CallA Tryz.prog 283 [.slc (l.map (A.int .i64)),.int .i64 n] (· = .slc ((putI l n).map (A.int .i64))):=by
 refine callA_of_body T13b_ok mixed Tryz.func283 rfl (Nat.le_of_ble_eq_true rfl) ok_ref13_put ?_
 unfold Tryz.f283
 simp -implicitDefEqProofs (maxSteps:=600000) (disch:=(first | omega | decide)) only [go_sem,↓reduceIte,seval,List.length_map]
 refine wpA_loop [0,1,4] (ι:={k:Nat // k ≤ l.length ∧ putI l n = l.take k ++ putI (l.drop k) n}) (fun p=>[(5,.int .i64 p.1)]) (fun _=>[]) (fun p=>l.length - p.1) ⟨0,by omega,rfl⟩ (Nat.zero_le _) ?_ ?_
 ·simp -implicitDefEqProofs (maxSteps:=600000) (disch:=(first | omega | decide)) only [go_sem,↓reduceIte,seval]
 ·rintro ⟨k,hk,hd⟩
  simp only
  by_cases hlt:k < l.length
  ·have hlt':(k:Int) < (l.length:Int):=by omega
   have e1:(l.map (A.int .i64))[k]? = some (.int .i64 l[k]):=by
    rw [List.getElem?_map,List.getElem?_eq_getElem hlt]; rfl
   have tk:(l.take k).length = k:=by rw [List.length_take]; omega
   have t1:=(List.take_append_getElem hlt).symm
   rw [List.drop_eq_getElem_cons hlt] at hd
   generalize hx:l[k] = x at *
   simp only [putI] at hd
   by_cases h1:x < n
   ·rw [if_pos h1] at hd
    simp -implicitDefEqProofs (maxSteps:=600000) (disch:=(first | omega | decide)) only [go_sem,↓reduceIte,seval,hlt',e1,h1,wrap_i64,List.length_map]
    exact ⟨⟨k + 1,hlt,by rw [hd,t1,List.append_assoc]; rfl⟩,by simp,by show l.length - (k + 1) < l.length - k; omega⟩
   ·rw [if_neg h1] at hd
    cases h2:x == n with
    | true=>
     simp -implicitDefEqProofs (maxSteps:=600000) (disch:=(first | omega | decide)) only [go_sem,↓reduceIte,seval,hlt',e1,h1,h2,wrap_i64,List.length_map]
     have hxn:x = n:=by simpa using h2
     rw [if_pos hxn,← hx,← List.drop_eq_getElem_cons hlt,List.take_append_drop] at hd
     rw [hd]
    | false=>
     have hxn:x ≠ n:=by simpa using h2
     have l1:(l.take k).length = k:=tk
     have l2:(l.drop k).length = l.length - k:=List.length_drop ..
     simp -implicitDefEqProofs (maxSteps:=600000) (disch:=(first | omega | decide)) only [go_sem,↓reduceIte,seval,hlt',e1,h1,h2,wrap_i64,← List.map_take,← List.map_drop,strI,List.length_map,List.take_length,l1,l2]
     obtain ⟨c1,c2,c3⟩:=put_close hk (by rw [hd,if_neg hxn,← hx,← List.drop_eq_getElem_cons hlt])
     exact ⟨by omega,by omega,⟨by omega,by omega⟩,⟨by omega,by omega⟩,⟨c1,by omega⟩,c2,c3⟩
  ·have hlt':¬ (k:Int) < (l.length:Int):=by omega
   have l1:(l.take k).length = k:=by rw [List.length_take]; omega
   have l2:(l.drop k).length = l.length - k:=List.length_drop ..
   have l3:l.drop k = []:=List.drop_of_length_le (by omega)
   obtain ⟨c1,c2,c3⟩:=put_close hk (by rw [hd,l3]; rfl)
   simp -implicitDefEqProofs (maxSteps:=600000) (disch:=(first | omega | decide)) only [go_sem,↓reduceIte,seval,hlt',wrap_i64,← List.map_take,← List.map_drop,strI,List.length_map,List.take_length,l1,l2]
   exact ⟨by omega,by omega,⟨by omega,by omega⟩,⟨by omega,by omega⟩,⟨c1,by omega⟩,c2,c3⟩
noncomputable def T13c:Tab:=T13b.add 283 (entry (fun (v:List Int × Int)=>[.slc (v.1.map (A.int .i64)),.int .i64 v.2]) (fun v=>v.1.length ≤ 1000000) (fun v=>.slc ((putI v.1 v.2).map (A.int .i64))))
theorem T13c_ok:TabOK Tryz.prog T13c:=T13b_ok.add (callable_of Tryz.func283 (by kernel_rfl) (by kernel_rfl)) (entry_ok fun v h=>c_ref13_put v.1 v.2 h)
@[go_sem] theorem T13c_old {g:FuncId} {xs:List A} (h:g ≠ 283):T13c.f g xs = T13b.f g xs:=Tab.add_ne h
@[go_sem] theorem T13c_eff {g:FuncId}:T13c.eff g = false:=rfl
@[go_sem] theorem T13c_ords {n:Nat}:T13c.ords n = []:=rfl
theorem T13c_ref13_put (v:List Int × Int) (h:v.1.length ≤ 1000000):T13c.f 283 [.slc (v.1.map (A.int .i64)),.int .i64 v.2] = some (.slc ((putI v.1 v.2).map (A.int .i64))):=
 (Tab.add_eq:T13c.f 283 [.slc (v.1.map (A.int .i64)),.int .i64 v.2] = (entry (fun (v:List Int × Int)=>[.slc (v.1.map (A.int .i64)),.int .i64 v.2]) (fun v=>v.1.length ≤ 1000000) (fun v=>.slc ((putI v.1 v.2).map (A.int .i64)))) [.slc (v.1.map (A.int .i64)),.int .i64 v.2]).trans (entry_eq (fun i j h=>by first | (cases i; cases j; rfl; done) | simpa [Prod.ext_iff,and_assoc] using h | (simp at h; omega) | (simp at h; exact Prod.ext h.1 (Prod.ext h.2.1 (by omega)))) v h)
@[go_sem] theorem t_ref13_put {l:List Int} {n:Int} (h:l.length ≤ 1000000):T13c.f 283 [.slc (l.map (A.int .i64)),.int .i64 n] = some (.slc ((putI l n).map (A.int .i64))):=T13c_ref13_put (l,n) h
def slI:List Int → A
 | []=>.nils
 | x :: xs=>.slc ((x :: xs).map (A.int .i64))
theorem slI_ne {l:List Int} (h:l ≠ []):slI l = .slc (l.map (A.int .i64)):=by
 cases l with
 | nil=>exact absurd rfl h
 | cons x xs=>rfl
theorem slI_under {m:Nat} (l:List Int):(slI l).under m = true:=by
 cases l <;> rfl
@[go_sem] theorem view_slI {H:List Go.Abs.Obj} {l:List Int}:view H (slI l) = some (.slc (l.map (A.int .i64))):=by
 cases l <;> rfl
@[go_sem] theorem pure_slI {l:List Int}:(slI l).pure = true:=by
 cases l <;> rfl
theorem ok_ref13_Edges:codeOK Tryz.prog T13c Tryz.f252.ntmps (Tryz.f252.body.getD .skip) = true:=by kernel_rfl
theorem c_ref13_Edges (a b:List Run) (ha:a.length ≤ 50000) (hb:b.length ≤ 50000):CallA Tryz.prog 252 [.slc (a.map Run.enc),.slc (b.map Run.enc)] (· = .slc ((edges2 a b).map (A.int .i64))):=by
 refine callA_of_body T13c_ok mixed Tryz.func252 rfl (Nat.le_of_ble_eq_true rfl) ok_ref13_Edges ?_
 unfold Tryz.f252
 simp -implicitDefEqProofs (maxSteps:=600000) (disch:=(first | omega | decide)) only [go_sem,↓reduceIte,seval,List.length_map]
 refine wpA_loop [0,1,4] (ι:={k:Nat // k ≤ a.length}) (fun p=>[(6,.int .i64 p.1),(5,slI (edgesR [] (a.take p.1)))]) (fun _=>[]) (fun p=>a.length - p.1) ⟨0,by omega⟩ (Nat.zero_le _) ?_ ?_
 ·simp -implicitDefEqProofs (maxSteps:=600000) (disch:=(first | omega | decide)) only [go_sem,↓reduceIte,seval]
  simp [edgesR,slI,A.under]
 ·rintro ⟨k,hk⟩
  simp only
  have hlen:=edgesR_len [] (a.take k)
  have htk:(a.take k).length = k:=by rw [List.length_take]; omega
  by_cases hlt:k < a.length
  ·have hlt':(k:Int) < (a.length:Int):=by omega
   have e1:=run_get hlt
   have ht:a.take (k + 1) = a.take k ++ [a[k]]:=(List.take_append_getElem hlt).symm
   generalize hx:a[k] = x at *
   obtain ⟨f,t⟩:=x
   have hs:=edgesR_snoc [] (a.take k) ⟨f,t⟩
   rw [← ht] at hs
   generalize hes:edgesR [] (a.take k) = es at *
   simp only [List.length_nil] at hlen
   cases h1:oneR ⟨f,t⟩ with
   | false=>
    rw [h1] at hs
    simp -implicitDefEqProofs (maxSteps:=600000) (disch:=(first | omega | decide)) only [go_sem,↓reduceIte,seval,hlt',e1,h1,wrap_i64,List.length_map]
    exact ⟨⟨k + 1,hlt⟩,by simp [hs,slI_under],by show a.length - (k + 1) < a.length - k; omega⟩
   | true=>
    rw [h1,if_pos rfl] at hs
    obtain ⟨o1,o2,o3⟩:=one_parts h1
    simp only at o1 o2 o3 hs
    have p1:=putI_len es f
    have hfin:=slI_ne (putI_ne (putI es f) (t + 1))
    simp -implicitDefEqProofs (maxSteps:=600000) (disch:=(first | omega | decide)) only [go_sem,↓reduceIte,seval,hlt',e1,h1,wrap_i64,List.length_map]
    exact ⟨⟨k + 1,hlt⟩,by simp [hs,hfin,A.under],by show a.length - (k + 1) < a.length - k; omega⟩
  ·have hlt':¬ (k:Int) < (a.length:Int):=by omega
   rw [List.take_of_length_le (by omega)] at *
   simp -implicitDefEqProofs (maxSteps:=600000) (disch:=(first | omega | decide)) only [go_sem,↓reduceIte,seval,hlt',List.length_map]
   generalize hea:edgesR [] a = ea at *
   simp only [List.length_nil] at hlen
   refine wpA_loop [1,4] (ι:={k:Nat // k ≤ b.length}) (fun p=>[(7,.int .i64 p.1),(5,slI (edgesR ea (b.take p.1)))]) (fun _=>[]) (fun p=>b.length - p.1) ⟨0,by omega⟩ (Nat.zero_le _) ?_ ?_
   ·simp -implicitDefEqProofs (maxSteps:=600000) (disch:=(first | omega | decide)) only [go_sem,↓reduceIte,seval]
    simp [edgesR,slI_under]
   ·rintro ⟨j,hj⟩
    simp only
    have hlen2:=edgesR_len ea (b.take j)
    have htj:(b.take j).length = j:=by rw [List.length_take]; omega
    by_cases hltb:j < b.length
    ·have hltb':(j:Int) < (b.length:Int):=by omega
     have e1:=run_get hltb
     have ht:b.take (j + 1) = b.take j ++ [b[j]]:=(List.take_append_getElem hltb).symm
     generalize hx:b[j] = x at *
     obtain ⟨f,t⟩:=x
     have hs:=edgesR_snoc ea (b.take j) ⟨f,t⟩
     rw [← ht] at hs
     generalize hes:edgesR ea (b.take j) = es at *
     cases h1:oneR ⟨f,t⟩ with
     | false=>
          rw [h1] at hs
          simp -implicitDefEqProofs (maxSteps:=600000) (disch:=(first | omega | decide)) only [go_sem,↓reduceIte,seval,hltb',e1,h1,wrap_i64,List.length_map]
          exact ⟨⟨j + 1,hltb⟩,by simp [hs,slI_under],by show b.length - (j + 1) < b.length - j; omega⟩
     | true=>
          rw [h1,if_pos rfl] at hs
          obtain ⟨o1,o2,o3⟩:=one_parts h1
          simp only at o1 o2 o3 hs
          have p1:=putI_len es f
          have hfin:=slI_ne (putI_ne (putI es f) (t + 1))
          simp -implicitDefEqProofs (maxSteps:=600000) (disch:=(first | omega | decide)) only [go_sem,↓reduceIte,seval,hltb',e1,h1,wrap_i64,List.length_map]
          exact ⟨⟨j + 1,hltb⟩,by simp [hs,hfin,A.under],by show b.length - (j + 1) < b.length - j; omega⟩
    ·have hltb':¬ (j:Int) < (b.length:Int):=by omega
     rw [List.take_of_length_le (by omega)] at *
     have hfin:edgesR ea b = edges2 a b:=by rw [← hea]; rfl
     simp -implicitDefEqProofs (maxSteps:=600000) (disch:=(first | omega | decide)) only [go_sem,↓reduceIte,seval,hltb',hfin,List.length_map]
noncomputable def T13d:Tab:=T13c.add 174 (entry (fun (v:List Run × Int)=>[.slc (v.1.map Run.enc),.int .i64 v.2]) (fun v=>v.1.length ≤ 4611686018427387904) (fun v=>.bool (hasL13 v.1 v.2)))
theorem T13d_ok:TabOK Tryz.prog T13d:=T13c_ok.add (callable_of Tryz.func174 (by kernel_rfl) (by kernel_rfl)) (entry_ok fun v h=>c_ref13_Has v.1 v.2 h)
theorem T13d_ref13_Has (v:List Run × Int) (h:v.1.length ≤ 4611686018427387904):T13d.f 174 [.slc (v.1.map Run.enc),.int .i64 v.2] = some (.bool (hasL13 v.1 v.2)):=
 (Tab.add_eq:T13d.f 174 [.slc (v.1.map Run.enc),.int .i64 v.2] = (entry (fun (v:List Run × Int)=>[.slc (v.1.map Run.enc),.int .i64 v.2]) (fun v=>v.1.length ≤ 4611686018427387904) (fun v=>.bool (hasL13 v.1 v.2))) [.slc (v.1.map Run.enc),.int .i64 v.2]).trans (entry_eq (fun i j h=>by first | (cases i; cases j; rfl; done) | simpa [Prod.ext_iff,and_assoc] using h | (simp at h; omega) | (simp at h; exact Prod.ext h.1 (Prod.ext h.2.1 (by omega)))) v h)
@[go_sem] theorem t_ref13_Has {l:List Run} {n:Int} (h:l.length ≤ 4611686018427387904):T13d.f 174 [.slc (l.map Run.enc),.int .i64 n] = some (.bool (hasL13 l n)):=T13d_ref13_Has (l,n) h
noncomputable def T13e:Tab:=T13d.add 252 (entry (fun (v:List Run × List Run)=>[.slc (v.1.map Run.enc),.slc (v.2.map Run.enc)]) (fun v=>v.1.length ≤ 50000 ∧ v.2.length ≤ 50000) (fun v=>.slc ((edges2 v.1 v.2).map (A.int .i64))))
theorem T13e_ok:TabOK Tryz.prog T13e:=T13d_ok.add (callable_of Tryz.func252 (by kernel_rfl) (by kernel_rfl)) (entry_ok fun v h=>c_ref13_Edges v.1 v.2 h.1 h.2)
@[go_sem] theorem T13e_old {g:FuncId} {xs:List A} (h:g ≠ 252):T13e.f g xs = T13d.f g xs:=Tab.add_ne h
@[go_sem] theorem T13e_eff {g:FuncId}:T13e.eff g = false:=rfl
@[go_sem] theorem T13e_fix {n:Nat}:T13e.fix n = false:=rfl
@[go_sem] theorem T13e_ords {n:Nat}:T13e.ords n = []:=rfl
theorem T13e_ref13_Edges (v:List Run × List Run) (h:v.1.length ≤ 50000 ∧ v.2.length ≤ 50000):T13e.f 252 [.slc (v.1.map Run.enc),.slc (v.2.map Run.enc)] = some (.slc ((edges2 v.1 v.2).map (A.int .i64))):=
 (Tab.add_eq:T13e.f 252 [.slc (v.1.map Run.enc),.slc (v.2.map Run.enc)] = (entry (fun (v:List Run × List Run)=>[.slc (v.1.map Run.enc),.slc (v.2.map Run.enc)]) (fun v=>v.1.length ≤ 50000 ∧ v.2.length ≤ 50000) (fun v=>.slc ((edges2 v.1 v.2).map (A.int .i64)))) [.slc (v.1.map Run.enc),.slc (v.2.map Run.enc)]).trans (entry_eq (fun i j h=>by first | (cases i; cases j; rfl; done) | simpa [Prod.ext_iff,and_assoc] using h | (simp at h; omega) | (simp at h; exact Prod.ext h.1 (Prod.ext h.2.1 (by omega)))) v h)
@[go_sem] theorem t_ref13_Edges {a b:List Run} (h:a.length ≤ 50000 ∧ b.length ≤ 50000):T13e.f 252 [.slc (a.map Run.enc),.slc (b.map Run.enc)] = some (.slc ((edges2 a b).map (A.int .i64))):=T13e_ref13_Edges (a,b) h
theorem setNth_lst {α:List A} {x v:A}:∀ {l:List A},setNth (l ++ [x]) l.length v = l ++ [v]
 | []=>rfl
 | y :: l=>by simp only [List.cons_append,List.length_cons,setNth,setNth_lst (α:=α)]
theorem get_last {x:A}:∀ {l:List A},(l ++ [x])[l.length]? = some x
 | []=>rfl
 | y :: l=>by simp [get_last]
theorem int_get {l:List Int} {k:Nat} (h:k < l.length):(l.map (A.int .i64))[k]? = some (.int .i64 (l[k]!)):=by
 rw [List.getElem?_map,List.getElem?_eq_getElem h,getElem!_pos l k h]; rfl
def rowR (acc:List Run):List A:=acc.reverse.map Run.enc
theorem rowR_cons (q:Run) (qs:List Run):rowR (q :: qs) = rowR qs ++ [.agg [.int .i64 q.f,.int .i64 q.t]]:=by
 simp [rowR,Run.enc,Run.cells]
theorem rowR_len (l:List Run):(rowR l).length = l.length:=by simp [rowR]
theorem rowR_nil:rowR [] = []:=rfl
def opOK (op:Int):Prop:=op = 1 ∨ op = 2 ∨ op = 3
theorem ok_ref13_Make:codeOK Tryz.prog T13e Tryz.f226.ntmps (Tryz.f226.body.getD .skip) = true:=by kernel_rfl
theorem c_ref13_Make (op:Int) (a b:List Run) (ho:opOK op) (ha:a.length ≤ 50000) (hb:b.length ≤ 50000):CallA Tryz.prog 226 [.int .i64 op,.slc (a.map Run.enc),.slc (b.map Run.enc)] (· = .slc ((setR (opP op a b)).map Run.enc)):=by
 refine callA_of_body T13e_ok mixed Tryz.func226 rfl (Nat.le_of_ble_eq_true rfl) ok_ref13_Make ?_
 unfold Tryz.f226
 have hel:=edges2_len a b
 have hall:=mkA_all op a b
 have hspec:=mkA_spec op a b
 have hup:=edges2_up a b
 have hrng:∀ k,k < (edges2 a b).length → 1 ≤ (edges2 a b)[k]! ∧ (edges2 a b)[k]! ≤ 1099511627777:=fun k hk=>edges2_range (a:=a) (b:=b) (by rw [getElem!_pos _ k hk]; exact List.getElem_mem _)
 simp -implicitDefEqProofs (maxSteps:=600000) (disch:=(first | omega | decide)) only [go_sem,↓reduceIte,seval,List.length_map,ha,hb]
 generalize he:edges2 a b = e at *
 refine wpA_loop_nil 8 2 rfl ?_
 refine wpA_loop [0,1,2,6,7] (ι:={k:Nat // k ≤ e.length - 1}) (fun p=>[(9,.int .i64 p.1),(8,.row 0 0 2 (mkA (opP op a b) e p.1).length false)]) (fun p=>[(0,.row 2 (rowR (mkA (opP op a b) e p.1)))]) (fun p=>e.length - p.1) ⟨0,by omega⟩ (Nat.zero_le _) ?_ ?_
 ·simp -implicitDefEqProofs (maxSteps:=600000) (disch:=(first | omega | decide)) only [go_sem,↓reduceIte,seval,mkA,rowR_nil]
  done
 ·rintro ⟨k,hk⟩
  simp only
  have hlen:=mkA_len (opP op a b) e k
  by_cases hlt:k + 1 < e.length
  ·have hlt':(k:Int) + 1 < (e.length:Int):=by omega
   have e1:=int_get (l:=e) (k:=k) (by omega)
   have e2:=int_get (l:=e) (k:=k + 1) hlt
   obtain ⟨s1,s2,s3,s4⟩:=hspec k (by omega)
   have hxy:=up_get hup (Nat.lt_succ_self k) hlt
   have r1:=hrng k (by omega)
   have r2:=hrng (k + 1) hlt
   have hmk:mkA (opP op a b) e (k + 1) = if opP op a b (e[k]!) then pushJ (mkA (opP op a b) e k) ⟨e[k]!,e[k + 1]! - 1⟩ else mkA (opP op a b) e k:=rfl
   generalize hx:e[k]! = x at *
   generalize hy:e[k + 1]! = y at *
   generalize hm:mkA (opP op a b) e k = m at *
   have hP:opP op a b x = opF op (hasL13 a x) (hasL13 b x):=rfl
   have t1:((k:Int) + 1).toNat = k + 1:=by omega
   have t2:(0:Int) ≤ (k:Int) + 1:=by omega
   have t3:(0:Int) ≤ (k:Int):=by omega
   have skip:opP op a b x = false → mkA (opP op a b) e (k + 1) = m:=fun h=>by rw [hmk,h]; rfl
   have fin:∀ m',mkA (opP op a b) e (k + 1) = m' → ∃ j:{k:Nat // k ≤ e.length - 1},(((k:Int) + 1 = (j.1:Int) ∧ m'.length = (mkA (opP op a b) e j.1).length) ∧ rowR m' = rowR (mkA (opP op a b) e j.1)) ∧ e.length - j.1 < e.length - k:=fun m' hm'=>⟨⟨k + 1,by omega⟩,⟨⟨by simp,by rw [hm']⟩,by rw [hm']⟩,by show e.length - (k + 1) < e.length - k; omega⟩
   cases hp:opP op a b x with
   | false=>
    have hs:=skip hp
    rcases ho with rfl | rfl | rfl <;> cases hax:hasL13 a x <;> cases hbx:hasL13 b x <;> rw [hax,hbx] at hP <;> simp [opF,hp] at hP <;> simp -implicitDefEqProofs (maxSteps:=600000) (disch:=(first | omega | decide)) only [go_sem,↓reduceIte,seval,hlt',e1,e2,hax,hbx,t1,t2,t3,wrap_i64,List.length_map]
    all_goals exact fin m hs
   | true=>
    have hs:mkA (opP op a b) e (k + 1) = pushJ m ⟨x,y - 1⟩:=by rw [hmk,hp]; rfl
    have fin':=fin _ hs
    cases m with
    | nil=>
     rw [rowR_nil]
     rcases ho with rfl | rfl | rfl <;> cases hax:hasL13 a x <;> cases hbx:hasL13 b x <;> rw [hax,hbx] at hP <;> simp [opF,hp] at hP <;> simp -implicitDefEqProofs (maxSteps:=600000) (disch:=(first | omega | decide)) only [go_sem,↓reduceIte,seval,hlt',e1,e2,hax,hbx,t1,t2,t3,wrap_i64,List.length_map]
     all_goals exact fin'
    | cons q qs=>
     have hqt:q.t < x:=s2
     rw [rowR_cons] at *
     have hlq:qs.length + 1 ≤ k:=hlen
     have c0:(0:Int) < ((qs.length + 1:Nat):Int):=by omega
     have c1:(((qs.length + 1:Nat):Int) - 1).toNat = qs.length:=by omega
     have c2:(0:Int) ≤ ((qs.length + 1:Nat):Int) - 1:=by omega
     have c3:((qs.length + 1:Nat):Int) - 1 < ((qs.length + 1:Nat):Int):=by omega
     have g1:(rowR qs ++ [A.agg [.int .i64 q.f,.int .i64 q.t]])[qs.length]? = some (.agg [.int .i64 q.f,.int .i64 q.t]):=by
          have:=get_last (x:=A.agg [.int .i64 q.f,.int .i64 q.t]) (l:=rowR qs)
          rwa [rowR_len] at this
     have g2:∀ v,setNth (rowR qs ++ [A.agg [.int .i64 q.f,.int .i64 q.t]]) qs.length v = rowR qs ++ [v]:=fun v=>by
          have:=setNth_lst (x:=A.agg [.int .i64 q.f,.int .i64 q.t]) (v:=v) (l:=rowR qs) (α:=[])
          rwa [rowR_len] at this
     have gl:(rowR qs ++ [A.agg [.int .i64 q.f,.int .i64 q.t]]).length = qs.length + 1:=by rw [List.length_append,rowR_len]; rfl
     have gt:(rowR qs ++ [A.agg [.int .i64 q.f,.int .i64 q.t]]).take (qs.length + 1) = rowR qs ++ [A.agg [.int .i64 q.f,.int .i64 q.t]]:=List.take_of_length_le (Nat.le_of_eq gl)
     cases hq:(q.t == x - 1) with
     | true=>
          have hq':q.t = x - 1:=by simpa using hq
          have hpj:pushJ (q :: qs) ⟨x,y - 1⟩ = ⟨q.f,y - 1⟩ :: qs:=by
           simp only [pushJ]
           rw [if_pos (by omega),if_pos (by omega)]
          rw [hpj,rowR_cons] at fin'
          rcases ho with rfl | rfl | rfl <;> cases hax:hasL13 a x <;> cases hbx:hasL13 b x <;> rw [hax,hbx] at hP <;> simp [opF,hp] at hP <;> simp -implicitDefEqProofs (maxSteps:=600000) (disch:=(first | omega | decide)) only [go_sem,↓reduceIte,seval,hlt',e1,e2,hax,hbx,t1,t2,t3,c0,c1,c2,c3,g1,g2,hq,wrap_i64,List.length_map]
          all_goals exact fin'
     | false=>
          have hq':q.t ≠ x - 1:=by simpa using hq
          have hpj:pushJ (q :: qs) ⟨x,y - 1⟩ = ⟨x,y - 1⟩ :: q :: qs:=by
           simp only [pushJ]
           rw [if_neg (by omega)]
          rw [hpj,rowR_cons,rowR_cons] at fin'
          rcases ho with rfl | rfl | rfl <;> cases hax:hasL13 a x <;> cases hbx:hasL13 b x <;> rw [hax,hbx] at hP <;> simp [opF,hp] at hP <;> simp -implicitDefEqProofs (maxSteps:=600000) (disch:=(first | omega | decide)) only [go_sem,↓reduceIte,seval,hlt',e1,e2,hax,hbx,t1,t2,t3,c0,c1,c2,c3,g1,g2,gl,gt,hq,wrap_i64,List.length_map]
          all_goals exact ⟨⟨Nat.le_refl _,by omega⟩,fin'⟩
  ·have hlt':¬ (k:Int) + 1 < (e.length:Int):=by omega
   have hk':k = e.length - 1:=by omega
   subst hk'
   have hfin:(rowR (mkA (opP op a b) e (e.length - 1))) = (setR (opP op a b)).map Run.enc:=by unfold rowR; rw [hall]
   have hll:(mkA (opP op a b) e (e.length - 1)).length = (rowR (mkA (opP op a b) e (e.length - 1))).length:=by rw [rowR_len]
   simp -implicitDefEqProofs (maxSteps:=600000) (disch:=(first | omega | decide)) only [go_sem,↓reduceIte,seval,hlt',wrap_i64,hll,List.length_map,List.take_length]
   rw [hfin]
   exact ⟨Nat.le_refl _,rfl⟩
end Go.Proofs.YtjfdlpagcgpaoaaGreat
namespace Go.Abs
theorem callH_nil {P:Program} {f:FuncId} {xs:List A} {S:List Nat} (k:Nat) (h:CallH P f xs [] .nils [] S):CallH P f xs [] (.row 0 0 k 0 false) [.row k []] S:=by
 intro N φ w vs hN hrel hfree hrep
 refine Calls.mono (h N φ w vs hN hrel hfree hrep) ?_
 rintro e w' ⟨v,φ',rfl,hv,hrel',ht,hl⟩
 have e1:φ = []:=List.length_eq_zero_iff.1 hrel.len
 have e2:φ' = []:=List.length_eq_zero_iff.1 hrel'.len
 subst e1; subst e2
 refine ⟨v,[.nil],rfl,?_,?_,?_,Nat.zero_le _⟩
 ·simp only [Rep] at hv ⊢
  exact .inl ⟨.nil,rfl,by simp,trivial,fun _=>trivial,none,hv⟩
 ·exact {
   len:=rfl
   objs:=fun n o p ho hp=>by
    cases n with
    | succ n=>simp [nthO] at ho
    | zero=>
     simp only [nthO,Option.some.injEq] at ho
     simp at hp
     subst ho; subst hp
     simp [ObjRel]
   own:=fun n b k' hn=>by cases n <;> simp at hn
   inj:=fun n m b k' k'' hn=>by cases n <;> simp at hn }
 ·exact {
   os:=ht.os
   tape:=ht.tape
   output:=ht.output
   drawn:=ht.drawn
   size:=ht.size
   block:=ht.block
   shape:=ht.shape
   own:=fun n b k' hn=>by cases n <;> simp at hn
   stay:=fun n p _ hn=>by simp at hn }
theorem callH_emp {P:Program} {f:FuncId} {H H':List Obj} {r:A} {S:List Nat} (h1:CallH P f [.emp true] H r H' S) (h2:CallH P f [.emp false] H r H' S):CallH P f [.slc []] H r H' S:=fun N φ w vs hN hrel hfree hr=>by
 simp only [RepL,Rep] at hr
 obtain ⟨v,_,rfl,⟨_,a,cap,rfl,_,_⟩,rfl⟩:=hr
 cases a with
 | none=>exact h1 N φ w _ hN hrel hfree (by simp only [RepL,Rep]; exact ⟨_,_,rfl,⟨none,cap,rfl,rfl⟩,rfl⟩)
 | some q=>exact h2 N φ w _ hN hrel hfree (by simp only [RepL,Rep]; exact ⟨_,_,rfl,⟨some q,cap,rfl,rfl⟩,rfl⟩)
theorem callH_pure {P:Program} {f:FuncId} {xs ys:List A} {r:A} (h:CallA P f ys (· = r)) (hx:∀ (E:Env) (vs:List Value),RepL E xs vs → RepL E ys vs) (hp:r.pure = true):CallH P f xs [] r [] []:=by
 intro N φ w vs hN hrel hfree hrep
 have e1:φ = []:=List.length_eq_zero_iff.1 hrel.len
 subst e1
 have hN':∀ b,(envOf N [] w).N b → b < w.heap.size:=fun b hb=>by
  rcases hb with hb | ⟨n,k,hn⟩
  ·exact hN b hb
  ·simp at hn
 refine Calls.mono (h (envOf N [] w).N w vs hN' (hx _ _ hrep)) ?_
 rintro e w' ⟨v,r',rfl,rfl,hr,hg⟩
 refine ⟨v,[],rfl,?_,?_,?_,Nat.le_refl _⟩
 ·exact hr
 ·exact { len:=rfl,objs:=fun n o p ho=>by cases n <;> simp [nthO] at ho,own:=fun n b k hn=>by simp at hn,inj:=fun n m b k k' hn=>by simp at hn }
 ·exact {
   os:=hg.os
   tape:=hg.tape
   output:=hg.output
   drawn:=hg.drawn
   size:=hg.size
   block:=fun b hb _=>hg.block b hb
   shape:=fun b c e fr hb=>⟨c,fr,by rw [hg.block b (Array.getElem?_eq_some_iff.1 hb).1]; exact hb,rfl⟩
   own:=fun n b k hn=>by simp at hn
   stay:=fun n p _ hn=>hn }
theorem rep_clip_slc {E:Env} {es:List A} {v:Value} (h:Rep E (.clip es) v):Rep E (.slc es) v:=by
 simp only [Rep] at h ⊢
 obtain ⟨hp,a,hv,hl⟩:=h
 exact ⟨hp,a,_,hv,Nat.le_refl _,hl⟩
theorem setNth_last {x v:A}:∀ {l:List A},setNth (l ++ [x]) l.length v = l ++ [v]
 | []=>rfl
 | y :: l=>by simp only [List.cons_append,List.length_cons,setNth,setNth_last]
theorem get_last {x:A}:∀ {l:List A},(l ++ [x])[l.length]? = some x
 | []=>rfl
 | y :: l=>by simp [get_last]
open Go.RowKit
structure SortTurn (b:Nat) (D:List Value) (w w':World):Prop where
 os:w'.os = w.os
 tape:w'.tape = w.tape
 output:w'.output = w.output
 drawn:w.drawn ≤ w'.drawn
 size:w.heap.size ≤ w'.heap.size
 block:∀ c,c < w.heap.size → c ≠ b → w'.heap[c]? = w.heap[c]?
 self:∀ (cc:Array Value) (e:TypeId) (fr:Nat × Nat),w.heap[b]? = some (.cells cc e fr) → ∃ cc',w'.heap[b]? = some (.cells cc' e fr) ∧ cc'.size = cc.size
 cells:w'.rangeAt b 0 D
theorem callH_sorted {P:Program} {f g:FuncId} {k:Nat} {c:Bool} {es es':List A} {D:List Value} (hk:0 < k) (hD:∀ E,RowRel E k es' D) (hp:A.pure.pureL es' = true) (h1:∀ u ∈ D,u.oneCell' = true) (hlen:es'.length = es.length)
 (hnil:es = [] → ∀ (w:World) (q:Option Addr) (cap:Nat),Calls P f #[.slice q 0 cap,.func (.func g) #[] #[]] w fun e w'=>e = .returned (.tuple #[]) ∧ w' = w)
 (hcall:∀ (E:Env) (b cap:Nat) (cc:Array Value) (e:TypeId) (fr:Nat × Nat),es ≠ [] → E.w.heap[b]? = some (.cells cc e fr) → Unfrozen cc fr → RepE E k b 0 es → k * cap ≤ cc.size → es.length ≤ cap →
  Calls P f #[.slice (some ⟨b,0,none⟩) es.length cap,.func (.func g) #[] #[]] E.w fun e w'=>e = .returned (.tuple #[]) ∧ SortTurn b D E.w w') :
 CallH P f [.row 0 0 k es.length c,.fn g []] [.row k es] (.tup []) [.row k es'] []:=by
 intro N φ w vs hN hrel hfree hrep
 simp only [RepL] at hrep
 obtain ⟨v0,_,rfl,hv0,v1,_,rfl,hv1,rfl⟩:=hrep
 simp only [Rep,RepL] at hv1
 obtain ⟨us,rfl,rfl⟩:=hv1
 have hφl:φ.length = 1:=hrel.len
 have stay:∀ (w':World),w' = w → ∃ v φ',(Ending.returned (.tuple #[]):Ending) = .returned v ∧ Rep (envOf N φ' w') (.tup []) v ∧ HeapRel N φ' [.row k es] w' ∧ TurnH φ w [] φ' w' ∧ 1 ≤ 1:=by
  rintro w' rfl
  exact ⟨_,φ,rfl,by simp [Rep,RepL],hrel,⟨rfl,rfl,rfl,Nat.le_refl _,Nat.le_refl _,fun _ _ _=>rfl,fun _ c _ fr h=>⟨c,fr,h,rfl⟩,fun n b k hn=>.inr ⟨n,k,hn⟩,fun _ _ _ h=>h⟩,Nat.le_refl _⟩
 have nilcase:es = [] → ∀ (q:Option Addr) (cap:Nat),Calls P f #[.slice q 0 cap,.func (.func g) #[] #[]] w fun e w'=>∃ v φ',e = .returned v ∧ Rep (envOf N φ' w') (.tup []) v ∧ HeapRel N φ' [.row k es'] w' ∧ TurnH φ w [] φ' w' ∧ [Obj.row k es].length ≤ [Obj.row k es'].length:=by
  intro hes q cap
  have hes':es' = es:=by subst hes; exact List.length_eq_zero_iff.1 (by simpa using hlen)
  rw [hes']
  refine Calls.mono (hnil hes w q cap) ?_
  rintro e w' ⟨rfl,hw⟩
  exact stay w' hw
 by_cases hes:es = []
 ·have hl0:es.length = 0:=by rw [hes]; rfl
  simp only [Rep] at hv0
  rcases hv0 with ⟨o,_,_,_,_,q,rfl⟩ | ⟨b,cap,c',e',fr,hφ,rfl,hlc,_,hb,hfit⟩
  ·exact nilcase hes q 0
  ·rw [hl0]; exact nilcase hes _ cap
 ·simp only [Rep] at hv0
  rcases hv0 with ⟨o,_,_,h0,_⟩ | ⟨b,cap,c',e',fr,hφ,rfl,hlc,_,hb,hfit⟩
  ·exact absurd (List.length_eq_zero_iff.1 h0) hes
  ·have hob:=hrel.objs 0 (.row k es) (.loc b k) rfl hφ
   simp only [ObjRel] at hob
   obtain ⟨_,hpe,⟨cc,ee,ffr,hcc,hunf⟩,hE⟩:=hob
   have hb':w.heap[b]? = some (.cells c' e' fr):=hb
   have hcc':w.heap[b]? = some (.cells cc ee ffr):=hcc
   rw [hb'] at hcc'
   simp only [Option.some.injEq,Go.Obj.cells.injEq] at hcc'
   obtain ⟨rfl,rfl,rfl⟩:=hcc'
   rw [Nat.zero_mul] at hfit ⊢
   refine Calls.mono (hcall (envOf N φ w) b cap c' e' fr hes hb' hunf hE (by omega) hlc) ?_
   rintro e w' ⟨rfl,hT⟩
   obtain ⟨cc',hcc',hsz⟩:=hT.self c' e' fr hb'
   have hwid:w'.heap.size ≥ w.heap.size:=hT.size
   refine ⟨_,φ,rfl,by simp [Rep,RepL],?_,?_,Nat.le_refl _⟩
   ·exact {
     len:=by simpa using hφl
     objs:=fun n o p ho hp'=>by
      cases n with
      | succ n=>simp [nthO] at ho
      | zero=>
       simp only [nthO,Option.some.injEq] at ho
       subst ho
       have hφ':φ[0]? = some (Own.loc b k):=hφ
       rw [hφ'] at hp'
       obtain rfl:=Option.some.inj hp'
       simp only [ObjRel]
       refine ⟨trivial,hp,⟨cc',e',fr,hcc',fun j hj=>hunf j (by omega)⟩,?_⟩
       exact RowRel.mem (hD (envOf N φ w')) hT.cells h1
     own:=fun n b' k' hn=>⟨Nat.lt_of_lt_of_le (hrel.own n b' k' hn).1 hT.size,(hrel.own n b' k' hn).2⟩
     inj:=hrel.inj }
   ·exact {
     os:=hT.os
     tape:=hT.tape
     output:=hT.output
     drawn:=hT.drawn
     size:=hT.size
     block:=fun b' hb' hno=>hT.block b' hb' fun e=>by subst e; exact hno 0 k hφ
     shape:=fun b' c₁ e₁ fr₁ h₁=>by
      by_cases hbb:b' = b
      ·subst hbb
       obtain ⟨c₂,h₂,h₃⟩:=hT.self c₁ e₁ fr₁ h₁
       exact ⟨c₂,fr₁,h₂,h₃⟩
      ·have:b' < w.heap.size:=(Array.getElem?_eq_some_iff.1 h₁).1
       exact ⟨c₁,fr₁,by rw [hT.block b' this hbb]; exact h₁,rfl⟩
     own:=fun n b' k' hn=>.inr ⟨n,k',hn⟩
     stay:=fun _ _ _ h=>h }
def encV:A → Value
 | .int k n=>.int k n
 | .bool b=>.bool b
 | .str s=>.string ⟨s.toArray⟩
 | _=>undef
def scalar:A → Bool
 | .int _ _=>true
 | .bool _=>true
 | .str _=>true
 | _=>false
theorem rep_scalar {E:Env} {x:A} {v:Value} (h:scalar x = true):Rep E x v ↔ v = encV x:=by
 cases x <;> simp [scalar] at h <;> simp [Rep,encV]
theorem one_scalar {x:A} (h:scalar x = true):(encV x).oneCell' = true:=by
 cases x <;> simp [scalar] at h <;> rfl
theorem pure_scalar {x:A} (h:scalar x = true):x.pure = true:=by
 cases x <;> simp [scalar] at h <;> simp [A.pure]
theorem repL_scalars {E:Env}:∀ {xs:List A},(∀ x ∈ xs,scalar x = true) → RepL E xs (xs.map encV)
 | [],_=>by simp [RepL]
 | x :: xs,h=>by
  simp only [List.map_cons,RepL]
  exact ⟨_,_,rfl,(rep_scalar (h x (by simp))).2 rfl,repL_scalars fun y hy=>h y (by simp [hy])⟩
theorem pureL_scalars:∀ {xs:List A},(∀ x ∈ xs,scalar x = true) → A.pure.pureL xs = true
 | [],_=>rfl
 | x :: xs,h=>by
  simp only [A.pure.pureL,Bool.and_eq_true]
  exact ⟨pure_scalar (h x (by simp)),pureL_scalars fun y hy=>h y (by simp [hy])⟩
theorem flatten_get {α:Type} {k:Nat} (hk:0 < k):∀ {ls:List (List α)},(∀ l ∈ ls,l.length = k) → ∀ j:Nat,ls.flatten[j]? = (ls[j / k]?).bind fun l=>l[j % k]?
 | [],_,j=>by simp
 | l :: ls,h,j=>by
  have hl:=h l (by simp)
  rw [List.flatten_cons]
  by_cases hj:j < k
  ·rw [List.getElem?_append_left (by omega),Nat.div_eq_of_lt hj,Nat.mod_eq_of_lt hj]; simp
  ·rw [List.getElem?_append_right (by omega),flatten_get hk (fun x hx=>h x (by simp [hx])) (j - l.length),hl]
   have h1:j / k = (j - k) / k + 1:=by rw [Nat.div_eq_sub_div hk (by omega)]
   have h2:j % k = (j - k) % k:=by rw [Nat.mod_eq_sub_mod (by omega)]
   rw [h1,h2]; simp
theorem rowRel_flat {E:Env} {k:Nat} {β:Type} {enc:β → List A} (hk:∀ x,(enc x).length = k) (hs:∀ x,∀ a ∈ enc x,scalar a = true):∀ l:List β,RowRel E k (l.map fun x=>.agg (enc x)) ((l.map fun x=>(enc x).map encV).flatten)
 | []=>by simp [RowRel]
 | x :: l=>by
  have h1:((enc x).map encV).length = k:=by rw [List.length_map,hk]
  simp only [List.map_cons,RowRel,A.cells,List.flatten_cons]
  refine ⟨hk x,by rw [List.length_append]; omega,?_,?_⟩
  ·rw [List.take_append_of_le_length (by omega),List.take_of_length_le (by omega)]
   exact repL_scalars (hs x)
  ·rw [List.drop_append_of_le_length (by omega),List.drop_of_length_le (by omega)]
   exact rowRel_flat hk hs l
theorem rowRel_one {E:Env} {β:Type} {enc:β → A} (hs:∀ x,scalar (enc x) = true):∀ l:List β,RowRel E 1 (l.map enc) (l.map fun x=>encV (enc x))
 | []=>by simp [RowRel]
 | x :: l=>by
  have hc:(enc x).cells = [enc x]:=by have:=hs x; cases h:enc x <;> rw [h] at this <;> simp [scalar] at this <;> rfl
  simp only [List.map_cons,RowRel,hc]
  refine ⟨rfl,by simp,?_,?_⟩
  ·simp only [List.take_succ_cons,List.take_zero,RepL]
   exact ⟨_,[],rfl,(rep_scalar (hs x)).2 rfl,rfl⟩
  ·simpa using rowRel_one hs l
theorem pureL_map {β:Type} {f:β → A} (h:∀ x,(f x).pure = true):∀ l:List β,A.pure.pureL (l.map f) = true
 | []=>rfl
 | x :: l=>by simp [A.pure.pureL,h x,pureL_map h l]
open Go.Sort in
theorem grew_grow {w w':World} (g:Grew w w'):∃ q os,w' = Sort.grow (w.drewN q) os:=by
 refine ⟨w'.drawn - w.drawn,w'.heap.extract w.heap.size w'.heap.size,?_⟩
 have hh:w.heap ++ w'.heap.extract w.heap.size w'.heap.size = w'.heap:=by
  have hsz:=g.size
  apply Array.ext_getElem?
  intro i
  by_cases hi:i < w.heap.size
  ·rw [Array.getElem?_append_left hi,g.block i hi]
  ·rw [Array.getElem?_append_right (by omega),Array.getElem?_extract]
   by_cases h2:i < w'.heap.size
   ·rw [if_pos (by omega),show w.heap.size + (i - w.heap.size) = i by omega]
   ·rw [if_neg (by omega),Array.getElem?_eq_none (by omega)]
 have hd:=g.drawn
 unfold Sort.grow World.drewN
 rw [show w.drawn + (w'.drawn - w.drawn) = w'.drawn by omega]
 obtain ⟨heap,tape,drawn,os,output⟩:=w'
 have h1:=g.os; have h2:=g.tape; have h3:=g.output
 simp only at h1 h2 h3 hh ⊢
 rw [hh,h1,h2,h3]
open Go.Sort in
theorem turn_of_put {w:World} {b n:Nat} {F F0:Array Value} {os:Array Go.Obj} (h0:Holds id w b 0 F0) (hs:F.size = F0.size) (hb:b < w.heap.size):SortTurn b F.toList w (Sort.grow (putRow id (Sort.ahead w n) b 0 F) os) where
 os:=rfl
 tape:=rfl
 output:=rfl
 drawn:=Nat.le_add_right _ _
 size:=by
  show w.heap.size ≤ ((w.heap.modify b _) ++ os).size
  simp
 block:=fun c hc hne=>by
  show ((w.heap.modify b _) ++ os)[c]? = _
  rw [Array.getElem?_append_left (by simpa using hc),Array.getElem?_modify,if_neg (Ne.symm hne)]
 self:=fun cc e fr hcc=>by
  refine ⟨putCells id 0 F cc,?_,by simp [putCells]⟩
  show ((w.heap.modify b _) ++ os)[b]? = _
  rw [Array.getElem?_append_left (by simpa using hb),Array.getElem?_modify,if_pos rfl,hcc]
  rfl
 cells:=fun j v hj=>by
  have hjF:j < F.size:=by
   have:=(List.getElem?_eq_some_iff.1 hj).1
   simpa using this
  have h1:=cell?_putRow id (Sort.ahead w n) b 0 F0 F (holds_ahead id w n b 0 F0 h0) hs j hjF
  have h2:(Sort.grow (putRow id (Sort.ahead w n) b 0 F) os).cell? ⟨b,0 + j,none⟩ = (putRow id (Sort.ahead w n) b 0 F).cell? ⟨b,0 + j,none⟩:=by
   unfold World.cell?
   show (match ((putRow id (Sort.ahead w n) b 0 F).heap ++ os)[b]? with | some (.cells c _ _)=>_ | _=>none) = _
   rw [Array.getElem?_append_left (by simpa using hb)]
   rfl
  rw [h2,h1]
  have:F[j]! = v:=by
   rw [getElem!_pos F j hjF]
   have:=(List.getElem?_eq_some_iff.1 hj).2
   simpa using this
  rw [this]; rfl
theorem unfrozen_at {w:World} {b:Nat} {c:Array Value} {e:TypeId} {fr:Nat × Nat} (hb:w.heap[b]? = some (.cells c e fr)) (hf:Unfrozen c fr) {j:Nat} (hj:j < c.size):w.frozen? ⟨b,j,none⟩ = false:=by
 have:=(there_of (w:=w) (b:=b) (off:=j) (n:=1) hb hf (by omega) 0 (by omega)).2
 simpa using this
noncomputable def sortL {β:Type} [Inhabited β] (cf:β → β → Int) (l:List β):List β:=(Sort.pdq (Go.Proofs.ltOf cf) l.toArray 0 l.toArray.size (Lib.bitLen l.toArray.size) true true).toList
theorem sortL_spec {β:Type} [Inhabited β] {cf:β → β → Int} (hO:Sort.SWO (Go.Proofs.ltOf cf)) (l:List β):(sortL cf l).Perm l ∧ (sortL cf l).Pairwise (fun x y=>¬ cf y x < 0):=by
 obtain ⟨⟨h1,_,h3⟩,h4⟩:=Sort.pdq_sorts (Go.Proofs.ltOf cf) hO l.toArray 0 l.toArray.size (Lib.bitLen l.toArray.size) true true (Nat.zero_le _) (Nat.le_refl _) (Or.inl rfl)
 refine ⟨?_,?_⟩
 ·unfold sortL
  have e:∀ d:Array β,d.size = l.toArray.size → d.extract 0 l.toArray.size = d:=fun d hd=>by rw [← hd]; simp
  rw [e _ h1,e _ rfl] at h3
  simpa using h3
 ·unfold sortL
  rw [List.pairwise_iff_getElem]
  intro i j hi hj hij
  have hj':j < l.toArray.size:=by rw [← h1]; simpa using hj
  have:=h4 i j (Nat.zero_le _) hij hj'
  have hi2:i < (Sort.pdq (Go.Proofs.ltOf cf) l.toArray 0 l.toArray.size (Lib.bitLen l.toArray.size) true true).size:=by simpa using hi
  have hj2:j < (Sort.pdq (Go.Proofs.ltOf cf) l.toArray 0 l.toArray.size (Lib.bitLen l.toArray.size) true true).size:=by simpa using hj
  rw [getElem!_pos _ i hi2,getElem!_pos _ j hj2] at this
  simpa [Go.Proofs.ltOf] using this
open Go.Shelf Go.Lib Go.Sort Go.Proofs in
/-- slices.SortFunc of structs, by a function that captures nothing. -/
theorem sort_struct {P:Program} {ρ:Ren} {β:Type} [Inhabited β] (L:SlLaysF0.n6 P ρ) {k:Nat} (hk0:0 < k) (aE:∀ w,(isAgg (ρ.t 24)).run P w = .ok true w) (zE:∀ w,(Go.sizeOf (ρ.t 24)).run P w = .ok k w) (enc:β → List A) (hk:∀ x,(enc x).length = k) (hs:∀ x,∀ a ∈ enc x,scalar a = true)
 (cf:β → β → Int) (hO:SWO (ltOf cf)) {g:FuncId} (hg:Callable P g) (hcmp:∀ x y,CallA P g [.agg (enc x),.agg (enc y)] (· = .int .i64 (cf x y))) (l:List β) (hsz:l.length < 4611686018427387904) (c:Bool) :
 CallH P (ρ.f 6) [.row 0 0 k l.length c,.fn g []] [.row k (l.map fun x=>.agg (enc x))] (.tup []) [.row k ((sortL cf l).map fun x=>.agg (enc x))] []:=by
 have hperm:=(sortL_spec hO l).1
 have hl1:(l.map fun x=>A.agg (enc x)).length = l.length:=List.length_map _
 have hle:∀ x,((enc x).map encV).length = k:=fun x=>by rw [List.length_map,hk]
 have hone:∀ x,∀ v ∈ (enc x).map encV,v.oneCell' = true:=fun x v hv=>by
  obtain ⟨a,ha,rfl⟩:=List.mem_map.1 hv
  exact one_scalar (hs x a ha)
 have:=callH_sorted (P:=P) (f:=ρ.f 6) (g:=g) (k:=k) (c:=c) (es:=l.map fun x=>A.agg (enc x)) (es':=(sortL cf l).map fun x=>A.agg (enc x)) (D:=((sortL cf l).map fun x=>(enc x).map encV).flatten) hk0
  (fun E=>rowRel_flat hk hs _) (pureL_map (fun x=>by simp only [A.pure]; exact pureL_scalars (hs x)) _) (fun u hu=>by
   obtain ⟨ys,hys,hu⟩:=List.mem_flatten.1 hu
   obtain ⟨x,_,rfl⟩:=List.mem_map.1 hys
   exact hone x u hu) (by rw [List.length_map,List.length_map]; exact hperm.length_eq)
  (fun _ w q cap=>AnyF.slices_SortFunc_none L q cap _ w) ?_
 ·rw [hl1] at this; exact this
 intro E b cap cc e fr hne hb hunf hE hfit hlc
 rw [hl1] at hlc ⊢
 have hbs:b < E.w.heap.size:=(Array.getElem?_eq_some_iff.1 hb).1
 have hmul:l.length * k ≤ cc.size:=Nat.le_trans (by rw [Nat.mul_comm]; exact Nat.mul_le_mul_left _ hlc) hfit
 have hH:HoldsK (fun x=>(enc x).map encV) k E.w b 0 l.toArray:=by
  intro j hj
  rw [size_flatK] at hj
  have hj':j < l.length * k:=by simpa using hj
  have hq:j / k < l.length:=(Nat.div_lt_iff_lt_mul hk0).2 hj'
  have hr:j % k < k:=Nat.mod_lt _ hk0
  refine ⟨?_,by rw [Nat.zero_add]; exact unfrozen_at hb hunf (by omega)⟩
  obtain ⟨_,hM⟩:=RepE_iff.1 hE (j / k) (.agg (enc l[j / k])) (by simp [hq])
  have hrl:j % k < (enc l[j / k]).length:=by rw [hk]; exact hr
  obtain ⟨v,hv,_,hrep⟩:=RepM_iff.1 hM (j % k) _ (List.getElem?_eq_getElem (by simpa [A.cells] using hrl))
  have hv':=(rep_scalar (hs _ _ (List.getElem_mem _))).1 hrep
  rw [show 0 + j / k * k + j % k = 0 + j by rw [Nat.zero_add,Nat.zero_add,Nat.mul_comm]; exact Nat.div_add_mod j k] at hv
  rw [hv,hv',get_flatK _ _ _ _ hj]
  simp only [id]
  have e1:l.toArray[j / k]! = l[j / k]:=by rw [getElem!_pos _ _ (by simpa using hq)]; simp
  rw [e1,getElem!_pos _ _ (by rw [List.length_map]; exact hrl)]
  simp only [A.cells,List.getElem_map]
  rfl
 have hcl:CmpLays P g #[] (fun x=>(enc x).map encV) k cf b 0 l.toArray.size E.w:=by
  intro m os dk hdk x y
  have hrep:RepL ⟨fun _=>False,[],sortWorldK (fun x=>(enc x).map encV) k E.w b 0 m dk os⟩ [.agg (enc x),.agg (enc y)] [.agg ((enc x).map encV).toArray,.agg ((enc y).map encV).toArray]:=by
   simp only [RepL,Rep]
   exact ⟨_,_,rfl,⟨_,rfl,repL_scalars (hs x),hone x⟩,_,_,rfl,⟨_,rfl,repL_scalars (hs y),hone y⟩,rfl⟩
  refine Calls.mono (hcmp x y (fun _=>False) _ _ (fun b h=>h.elim) hrep) ?_
  rintro e w' ⟨v,r,rfl,rfl,hr,hgr⟩
  simp only [Rep] at hr
  subst hr
  exact ⟨rfl,grew_grow hgr⟩
 have hmain:=AnyQ.slices_SortFunc_eq L k aE zE (fun x=>(enc x).map encV) hle hone cf hO g #[] b 0 cap l.toArray E.w (fun args w=>run_callFunc hg args w) hcl hH hbs (by simpa using hsz)
 have hpsz:(pdq (ltOf cf) l.toArray 0 l.toArray.size (Lib.bitLen l.toArray.size) true true).size = l.toArray.size:=(pdq_sorts (ltOf cf) hO l.toArray 0 l.toArray.size (Lib.bitLen l.toArray.size) true true (Nat.zero_le _) (Nat.le_refl _) (Or.inl rfl)).1.1
 have hsl:l.toArray.size = l.length:=by simp
 rw [hsl] at hmain
 refine Calls.mono hmain ?_
 rintro e w' ⟨rfl,n,os,rfl⟩
 refine ⟨rfl,?_⟩
 have hflat:((sortL cf l).map fun x=>(enc x).map encV).flatten = (flatK (fun x=>(enc x).map encV) k (pdq (ltOf cf) l.toArray 0 l.length (Lib.bitLen l.length) true true)).toList:=by
  rw [hsl] at hpsz
  have hsl2:(sortL cf l) = (pdq (ltOf cf) l.toArray 0 l.length (Lib.bitLen l.length) true true).toList:=by unfold sortL; rw [hsl]
  rw [hsl2]
  generalize pdq (ltOf cf) l.toArray 0 l.length (Lib.bitLen l.length) true true = d at hpsz ⊢
  apply List.ext_getElem?
  intro j
  rw [flatten_get hk0 (fun ys hys=>by obtain ⟨x,_,rfl⟩:=List.mem_map.1 hys; exact hle x)]
  by_cases hj:j < d.size * k
  ·have hq:j / k < d.size:=(Nat.div_lt_iff_lt_mul hk0).2 hj
   have hr:j % k < k:=Nat.mod_lt _ hk0
   have e1:(flatK (fun x=>(enc x).map encV) k d).toList[j]? = some ((flatK (fun x=>(enc x).map encV) k d)[j]!):=by
    rw [getElem!_pos _ j (by rw [size_flatK]; exact hj)]; simp [hj]
   rw [e1,get_flatK _ _ _ _ hj]
   rw [getElem!_pos d _ hq]
   have hq':j / k < d.toList.length:=by simpa using hq
   simp only [List.getElem?_map,List.getElem?_eq_getElem hq',Option.map_some,Option.bind_some]
   rw [getElem!_pos _ _ (by simp only [List.length_map,hk]; exact hr)]
   rw [List.getElem?_eq_getElem (by simp only [List.length_map,hk]; exact hr)]
   simp
  ·have hq:d.size ≤ j / k:=by
    rcases Nat.lt_or_ge (j / k) d.size with h | h
    ·exact absurd ((Nat.div_lt_iff_lt_mul hk0).1 h) hj
    ·exact h
   have e1:(flatK (fun x=>(enc x).map encV) k d).toList[j]? = none:=by
    rw [List.getElem?_eq_none]; rw [Array.length_toList,size_flatK]; omega
   rw [e1]
   simp [hq]
 rw [hflat]
 unfold sortWorldK putRowK
 exact turn_of_put hH (by rw [size_flatK,size_flatK]; rw [hsl] at hpsz; rw [hpsz,hsl]) hbs
open Go.Shelf Go.Lib Go.Sort Go.Proofs in
/-- slices.SortFunc of scalars. -/
theorem sort_scalar {P:Program} {ρ:Ren} {β:Type} [Inhabited β] (L:SlLaysF.n6 P ρ) (L0:SlLaysF0.n6 P ρ) (enc:β → A) (hs:∀ x,scalar (enc x) = true)
 (cf:β → β → Int) (hO:SWO (ltOf cf)) {g:FuncId} (hg:Callable P g) (hcmp:∀ x y,CallA P g [enc x,enc y] (· = .int .i64 (cf x y))) (l:List β) (hsz:l.length < 4611686018427387904) (c:Bool) :
 CallH P (ρ.f 6) [.row 0 0 1 l.length c,.fn g []] [.row 1 (l.map enc)] (.tup []) [.row 1 ((sortL cf l).map enc)] []:=by
 have hperm:=(sortL_spec hO l).1
 have hl1:(l.map enc).length = l.length:=List.length_map _
 have hcell:∀ x,(enc x).cells = [enc x]:=fun x=>by have:=hs x; cases h:enc x <;> rw [h] at this <;> simp [scalar] at this <;> rfl
 have:=callH_sorted (P:=P) (f:=ρ.f 6) (g:=g) (k:=1) (c:=c) (es:=l.map enc) (es':=(sortL cf l).map enc) (D:=(sortL cf l).map fun x=>encV (enc x)) (by omega)
  (fun E=>rowRel_one hs _) (pureL_map (fun x=>pure_scalar (hs x)) _) (fun u hu=>by
   obtain ⟨x,_,rfl⟩:=List.mem_map.1 hu
   exact one_scalar (hs x)) (by rw [List.length_map,List.length_map]; exact hperm.length_eq)
  (fun _ w q cap=>AnyF.slices_SortFunc_none L0 q cap _ w) ?_
 ·rw [hl1] at this; exact this
 intro E b cap cc e fr hne hb hunf hE hfit hlc
 rw [hl1] at hlc ⊢
 have hbs:b < E.w.heap.size:=(Array.getElem?_eq_some_iff.1 hb).1
 have hH:Holds (fun x=>encV (enc x)) E.w b 0 l.toArray:=by
  intro j hj
  have hj':j < l.length:=by simpa using hj
  refine ⟨?_,by rw [Nat.zero_add]; exact unfrozen_at hb hunf (by omega)⟩
  obtain ⟨_,hM⟩:=RepE_iff.1 hE j (enc l[j]) (by simp [hj'])
  rw [hcell] at hM
  obtain ⟨v,hv,_,hrep⟩:=RepM_one.1 hM
  have hv':=(rep_scalar (hs _)).1 hrep
  rw [Nat.mul_one] at hv
  rw [hv,hv',getElem!_pos l.toArray j hj]; simp
 have hcl:CmpLays1 P g #[] (fun x=>encV (enc x)) cf b 0 l.toArray.size E.w:=by
  intro m os dk hdk x y
  have hrep:RepL ⟨fun _=>False,[],sortWorld (fun x=>encV (enc x)) E.w b 0 m dk os⟩ [enc x,enc y] [encV (enc x),encV (enc y)]:=by
   simp only [RepL]
   exact ⟨_,_,rfl,(rep_scalar (hs x)).2 rfl,_,_,rfl,(rep_scalar (hs y)).2 rfl,rfl⟩
  refine Calls.mono (hcmp x y (fun _=>False) _ _ (fun b h=>h.elim) hrep) ?_
  rintro e w' ⟨v,r,rfl,rfl,hr,hgr⟩
  simp only [Rep] at hr
  subst hr
  exact ⟨rfl,grew_grow hgr⟩
 have hmain:=Any.slices_SortFunc_eq L (fun x=>encV (enc x)) (fun x=>one_scalar (hs x)) cf hO g #[] b 0 cap l.toArray E.w (fun args w=>run_callFunc hg args w) hcl hH hbs (by simpa using hsz)
 have hpsz:(pdq (ltOf cf) l.toArray 0 l.toArray.size (Lib.bitLen l.toArray.size) true true).size = l.toArray.size:=(pdq_sorts (ltOf cf) hO l.toArray 0 l.toArray.size (Lib.bitLen l.toArray.size) true true (Nat.zero_le _) (Nat.le_refl _) (Or.inl rfl)).1.1
 have hsl:l.toArray.size = l.length:=by simp
 rw [hsl] at hmain hpsz
 refine Calls.mono hmain ?_
 rintro e w' ⟨rfl,n,os,rfl⟩
 refine ⟨rfl,?_⟩
 have hsl2:(sortL cf l) = (pdq (ltOf cf) l.toArray 0 l.length (Lib.bitLen l.length) true true).toList:=by unfold sortL; rw [hsl]
 rw [hsl2]
 generalize pdq (ltOf cf) l.toArray 0 l.length (Lib.bitLen l.length) true true = d at hpsz ⊢
 have hput:∀ (w:World) (d:Array β),putRow (fun x=>encV (enc x)) w b 0 d = putRow id w b 0 (d.map fun x=>encV (enc x)):=fun w d=>by
  unfold putRow
  congr 1
  funext c
  unfold putCells
  apply Array.ext
  ·simp
  ·intro i h1 h2
   simp only [Array.getElem_mapIdx,Array.size_map,Nat.zero_le,true_and,Nat.zero_add,Nat.sub_zero,id]
   split
   ·rename_i hi
    rw [getElem!_pos d i hi,getElem!_pos _ i (by simpa using hi)]; simp
   ·rfl
 have hH':Holds id E.w b 0 (l.toArray.map fun x=>encV (enc x)):=fun j hj=>by
  have hj':j < l.toArray.size:=by simpa using hj
  obtain ⟨h1,h2⟩:=hH j hj'
  refine ⟨?_,h2⟩
  rw [h1,getElem!_pos l.toArray j hj',getElem!_pos (l.toArray.map fun x=>encV (enc x)) j hj]; simp
 have he:(d.toList.map fun x=>encV (enc x)) = (d.map fun x=>encV (enc x)).toList:=by simp
 rw [he]
 unfold sortWorld
 rw [hput]
 exact turn_of_put hH' (by simp [hpsz]) hbs
end Go.Abs
namespace Go.Proofs
open Go.Shelf
def YtjfdlpagcgpaoaaGreat.sortRun_ren:Go.Shelf.Ren:=⟨fun | 6=>253 | 15=>140 | 14=>284 | 28=>192 | 29=>193 | 20=>295 | 21=>296 | 22=>297 | 23=>298 | 24=>299 | 25=>300 | 26=>301 | 27=>302 | 46=>306 | 47=>232 | 48=>233 | 49=>307 | 50=>308 | 57=>309 | n=>n,fun | 22=>137 | 24=>142 | 25=>253 | 3=>3 | 39=>162 | 0=>0 | 53=>48 | 55=>210 | 4=>4 | 46=>202 | 45=>201 | 50=>206 | 5=>5 | 9=>9 | 66=>234 | 70=>238 | 76=>254 | 77=>255 | n=>n,fun | n=>n⟩
theorem YtjfdlpagcgpaoaaGreat.sortRun:Go.Proofs.SlLaysF0.n6 Tryz.prog YtjfdlpagcgpaoaaGreat.sortRun_ren:={
 mixed:=by kernel_rfl
 f6:=⟨Tryz.f253.name,by decide,Tryz.func253.trans (congrArg some (by kernel_rfl))⟩
 f14:=⟨Tryz.f284.name,by decide,Tryz.func284.trans (congrArg some (by kernel_rfl))⟩
 f15:=Tryz.func140.trans (congrArg some (by kernel_rfl))
 f20:=⟨Tryz.f295.name,by decide,Tryz.func295.trans (congrArg some (by kernel_rfl))⟩
 f21:=⟨Tryz.f296.name,by decide,Tryz.func296.trans (congrArg some (by kernel_rfl))⟩
 f22:=⟨Tryz.f297.name,by decide,Tryz.func297.trans (congrArg some (by kernel_rfl))⟩
 f23:=⟨Tryz.f298.name,by decide,Tryz.func298.trans (congrArg some (by kernel_rfl))⟩
 f24:=⟨Tryz.f299.name,by decide,Tryz.func299.trans (congrArg some (by kernel_rfl))⟩
 f25:=⟨Tryz.f300.name,by decide,Tryz.func300.trans (congrArg some (by kernel_rfl))⟩
 f26:=⟨Tryz.f301.name,by decide,Tryz.func301.trans (congrArg some (by kernel_rfl))⟩
 f27:=⟨Tryz.f302.name,by decide,Tryz.func302.trans (congrArg some (by kernel_rfl))⟩
 f28:=Tryz.func192.trans (congrArg some (by kernel_rfl))
 f29:=Tryz.func193.trans (congrArg some (by kernel_rfl))
 f46:=⟨Tryz.f306.name,by decide,Tryz.func306.trans (congrArg some (by kernel_rfl))⟩
 f47:=Tryz.func232.trans (congrArg some (by kernel_rfl))
 f48:=Tryz.func233.trans (congrArg some (by kernel_rfl))
 f49:=⟨Tryz.f307.name,by decide,Tryz.func307.trans (congrArg some (by kernel_rfl))⟩
 f50:=⟨Tryz.f308.name,by decide,Tryz.func308.trans (congrArg some (by kernel_rfl))⟩
 f57:=⟨Tryz.f309.name,by decide,Tryz.func309.trans (congrArg some (by kernel_rfl))⟩
 t0:=Tryz.underlying0
 a0:=Tryz.isAgg0
 z0:=Tryz.sizeOf0
 v0:=Tryz.zeroValue0
 t3:=Tryz.underlying3
 a3:=Tryz.isAgg3
 z3:=Tryz.sizeOf3
 v3:=Tryz.zeroValue3
 t4:=Tryz.underlying4
 a4:=Tryz.isAgg4
 z4:=Tryz.sizeOf4
 v4:=Tryz.zeroValue4
 t5:=Tryz.underlying5
 a5:=Tryz.isAgg5
 z5:=Tryz.sizeOf5
 v5:=Tryz.zeroValue5
 t9:=Tryz.underlying9
 a9:=Tryz.isAgg9
 z9:=Tryz.sizeOf9
 v9:=Tryz.zeroValue9
 t22:=Tryz.underlying137
 a22:=Tryz.isAgg137
 z22:=Tryz.sizeOf137
 v22:=Tryz.zeroValue137
 t25:=Tryz.underlying253
 a25:=Tryz.isAgg253
 z25:=Tryz.sizeOf253
 v25:=Tryz.zeroValue253
 t39:=Tryz.underlying162
 a39:=Tryz.isAgg162
 z39:=Tryz.sizeOf162
 v39:=Tryz.zeroValue162
 t45:=Tryz.underlying201
 a45:=Tryz.isAgg201
 z45:=Tryz.sizeOf201
 v45:=Tryz.zeroValue201
 t46:=Tryz.underlying202
 a46:=Tryz.isAgg202
 z46:=Tryz.sizeOf202
 v46:=Tryz.zeroValue202
 t50:=Tryz.underlying206
 a50:=Tryz.isAgg206
 z50:=Tryz.sizeOf206
 v50:=Tryz.zeroValue206
 t53:=Tryz.underlying48
 a53:=Tryz.isAgg48
 z53:=Tryz.sizeOf48
 v53:=Tryz.zeroValue48
 t55:=Tryz.underlying210
 a55:=Tryz.isAgg210
 z55:=Tryz.sizeOf210
 v55:=Tryz.zeroValue210
 t66:=Tryz.underlying234
 a66:=Tryz.isAgg234
 z66:=Tryz.sizeOf234
 v66:=Tryz.zeroValue234
 t70:=Tryz.underlying238
 a70:=Tryz.isAgg238
 z70:=Tryz.sizeOf238
 v70:=Tryz.zeroValue238
 t76:=Tryz.underlying254
 a76:=Tryz.isAgg254
 z76:=Tryz.sizeOf254
 v76:=Tryz.zeroValue254
 t77:=Tryz.underlying255
 a77:=Tryz.isAgg255
 z77:=Tryz.sizeOf255
 v77:=Tryz.zeroValue255 }
end Go.Proofs
namespace Go.Proofs.YtjfdlpagcgpaoaaGreat
open Go.Abs
set_option linter.unusedSimpArgs false
set_option linter.unusedVariables false
set_option maxRecDepth 20000
set_option maxHeartbeats 4000000
theorem ok_CloneH:codeOK Tryz.prog T13z Tryz.f230.ntmps (Tryz.f230.body.getD .skip) = true:=by kernel_rfl
theorem h_Clone_Run (l:List Run) (hl:l.length ≤ 4398046511104):CallH Tryz.prog 230 [.slc (l.map Run.enc)] [] (.row 0 0 2 l.length false) [.row 2 (l.map Run.enc)] []:=by
 cases l with
 | nil=>
  refine callH_emp (callH_nil 2 ?_) ?_
  ·refine callH_of_body T13z_ok mixed Tryz.func230 rfl (Nat.le_of_ble_eq_true rfl) (by simp) (by simp) (Nat.le_refl _) ok_CloneH ?_
   unfold Tryz.f230
   simp -implicitDefEqProofs (maxSteps:=600000) (disch:=(first | omega | decide)) only [go_sem,↓reduceIte,seval]
  ·refine callH_of_body T13z_ok mixed Tryz.func230 rfl (Nat.le_of_ble_eq_true rfl) (by simp) (by simp) (Nat.zero_le _) ok_CloneH ?_
   unfold Tryz.f230
   simp -implicitDefEqProofs (maxSteps:=600000) (disch:=(first | omega | decide)) only [go_sem,↓reduceIte,seval]
 | cons r l=>
  refine callH_of_body T13z_ok mixed Tryz.func230 rfl (Nat.le_of_ble_eq_true rfl) (by simp) (by simp) (Nat.zero_le _) ok_CloneH ?_
  unfold Tryz.f230
  obtain ⟨f,t⟩:=r
  simp only [List.length_cons] at hl
  simp -implicitDefEqProofs (maxSteps:=600000) (disch:=(first | omega | decide)) only [go_sem,↓reduceIte,seval,List.length_map]
  omega
theorem ok_counts_Of_1:codeOK Tryz.prog T13z Tryz.f254.ntmps (Tryz.f254.body.getD .skip) = true:=by kernel_rfl
theorem c_Of1 (f t f' t':Int) (h:0 ≤ f ∧ f ≤ 1099511627776 ∧ 0 ≤ f' ∧ f' ≤ 1099511627776):CallA Tryz.prog 254 [.agg [.int .i64 f,.int .i64 t],.agg [.int .i64 f',.int .i64 t']] (· = .int .i64 (f - f')):=by
 refine callA_of_body T13z_ok mixed Tryz.func254 rfl (Nat.le_of_ble_eq_true rfl) ok_counts_Of_1 ?_
 unfold Tryz.f254
 simp -implicitDefEqProofs (maxSteps:=600000) (disch:=(first | omega | decide)) only [go_sem,↓reduceIte,seval,wrap_i64]
abbrev RunB:={r:Run // oneR r = true}
instance:Inhabited RunB:=⟨⟨⟨1,1⟩,by decide⟩⟩
def cfB (a b:RunB):Int:=a.1.f - b.1.f
def RunB.cells (r:RunB):List A:=r.1.cells
theorem swoB:Go.Sort.SWO (Go.Proofs.ltOf cfB):=by
 have hl:∀ a b,Go.Proofs.ltOf cfB a b = decide (a.1.f < b.1.f):=fun a b=>by
  unfold Go.Proofs.ltOf cfB
  by_cases h:a.1.f < b.1.f
  ·have:a.1.f - b.1.f < 0:=by omega
   simp [this,h]
  ·have:¬ a.1.f - b.1.f < 0:=by omega
   simp [this,h]
 refine ⟨fun x=>?_,fun x y z h1 h2=>?_,fun x y z h1 h2=>?_⟩
 ·rw [hl]; simp
 ·rw [hl] at *
  rw [decide_eq_true_iff] at *; omega
 ·rw [hl] at *
  rw [decide_eq_false_iff_not] at *; omega
theorem c_SortFunc_Run (l:List RunB) (hl:l.length < 4611686018427387904):CallH Tryz.prog 253 [.row 0 0 2 l.length false,.fn 254 []] [.row 2 (l.map fun x=>.agg x.cells)]
 (.tup []) [.row 2 ((sortL cfB l).map fun x=>.agg x.cells)] []:=
 sort_struct Go.Proofs.YtjfdlpagcgpaoaaGreat.sortRun (by omega) Tryz.isAgg142 Tryz.sizeOf142 RunB.cells (fun _=>rfl) (fun x a ha=>by
  simp only [RunB.cells,Run.cells,List.mem_cons,List.not_mem_nil,or_false] at ha
  rcases ha with rfl | rfl <;> rfl) cfB swoB (callable_of Tryz.func254 (by kernel_rfl) (by kernel_rfl)) (fun x y=>by
   have h1:=oneR_iff.1 x.2
   have h2:=oneR_iff.1 y.2
   exact c_Of1 x.1.f x.1.t y.1.f y.1.t (by omega)) l hl false
def pickB (l:List Run):List RunB:=(l.filter oneR).attach.map fun x=>⟨x.1,(List.mem_filter.1 x.2).2⟩
theorem pickB_val (l:List Run):(pickB l).map (·.1) = l.filter oneR:=by
 unfold pickB
 rw [List.map_map]
 exact List.attach_map_subtype_val _
theorem pickB_cells (l:List Run):(pickB l).map (fun x=>A.agg x.cells) = (l.filter oneR).map Run.enc:=by
 rw [← pickB_val,List.map_map]; rfl
noncomputable def srtL (l:List Run):List Run:=(sortL cfB (pickB l)).map (·.1)
theorem srtL_cells (l:List Run):(sortL cfB (pickB l)).map (fun x=>A.agg x.cells) = (srtL l).map Run.enc:=by
 unfold srtL; rw [List.map_map]; rfl
theorem srtL_perm (l:List Run):(srtL l).Perm (l.filter oneR):=by
 rw [← pickB_val]; exact (sortL_spec swoB (pickB l)).1.map _
theorem srtL_one (l:List Run):∀ r ∈ srtL l,oneR r = true:=fun r hr=>by
 unfold srtL at hr
 obtain ⟨x,_,rfl⟩:=List.mem_map.1 hr
 exact x.2
theorem srtL_up (l:List Run):(srtL l).Pairwise (fun x y=>x.f ≤ y.f):=by
 unfold srtL
 rw [List.pairwise_map]
 exact (sortL_spec swoB (pickB l)).2.imp fun {x y} h=>by unfold cfB at h; omega
theorem srtL_has (l:List Run) (n:Int):hasL13 (srtL l) n = hasL13 l n:=by
 rw [has_perm (srtL_perm l),has_filter]
theorem srtL_all (l:List Run):((srtL l).foldl pushJ []).reverse = setR (hasL13 l):=by
 rw [fold_push_all (srtL_one l) (srtL_up l)]
 congr 1; funext n; exact srtL_has l n
def srE (l:List RunB):List A:=[.row 0 0 2 l.length false,.fn 254 []]
def srO (l:List RunB):List Go.Abs.Obj:=[.row 2 (l.map fun x=>.agg x.cells)]
def srK (l:List RunB):Prop:=l.length < 4611686018427387904
noncomputable def srR (l:List RunB):A × List Go.Abs.Obj × List Nat:=(.tup [],[.row 2 ((sortL cfB l).map fun x=>.agg x.cells)],[])
theorem runB_inj (x y:RunB) (h:A.agg x.cells = A.agg y.cells):x = y:=Subtype.ext (Run.enc_inj _ _ h)
theorem srO_inj (i j:List RunB) (h:srO i = srO j):i = j:=by
 simp only [srO,List.cons.injEq,Go.Abs.Obj.row.injEq,true_and,and_true] at h
 rwa [map_inj runB_inj] at h
noncomputable def T13f:Tab:=T13b.add 179 (entry (fun (l:List Run)=>[.slc (l.map Run.enc)]) (fun l=>l.length ≤ 4611686018427387904) (fun l=>.bool (rightL l)))
theorem T13f_ok:TabOK Tryz.prog T13f:=T13b_ok.add (callable_of Tryz.func179 (by kernel_rfl) (by kernel_rfl)) (entry_ok fun l h=>c_counts_Right l h)
@[go_sem] theorem T13f_old {g:FuncId} {xs:List A} (h:g ≠ 179):T13f.f g xs = T13b.f g xs:=Tab.add_ne h
theorem T13f_counts_Right (l:List Run) (h:l.length ≤ 4611686018427387904):T13f.f 179 [.slc (l.map Run.enc)] = some (.bool (rightL l)):=
 (Tab.add_eq:T13f.f 179 [.slc (l.map Run.enc)] = (entry (fun (l:List Run)=>[.slc (l.map Run.enc)]) (fun l=>l.length ≤ 4611686018427387904) (fun l=>.bool (rightL l))) [.slc (l.map Run.enc)]).trans (entry_eq (fun i j h=>by first | (cases i; cases j; rfl; done) | simpa [Prod.ext_iff,and_assoc] using h | (simp at h; omega) | (simp at h; exact Prod.ext h.1 (Prod.ext h.2.1 (by omega)))) l h)
noncomputable def T13g:Tab:=T13f.add 230 (entry (fun (l:List Run)=>[.slc (l.map Run.enc)]) (fun l=>l.length ≤ 4398046511104) (fun l=>.slc (l.map Run.enc)))
theorem T13g_ok:TabOK Tryz.prog T13g:=T13f_ok.add (callable_of Tryz.func230 (by kernel_rfl) (by kernel_rfl)) (entry_ok fun l h=>c_Clone_Run l h)
@[go_sem] theorem T13g_old {g:FuncId} {xs:List A} (h:g ≠ 230):T13g.f g xs = T13f.f g xs:=Tab.add_ne h
theorem T13g_slices_Clone_winnower_api_Run_winnower_api_Run (l:List Run) (h:l.length ≤ 4398046511104):T13g.f 230 [.slc (l.map Run.enc)] = some (.slc (l.map Run.enc)):=
 (Tab.add_eq:T13g.f 230 [.slc (l.map Run.enc)] = (entry (fun (l:List Run)=>[.slc (l.map Run.enc)]) (fun l=>l.length ≤ 4398046511104) (fun l=>.slc (l.map Run.enc))) [.slc (l.map Run.enc)]).trans (entry_eq (fun i j h=>by first | (cases i; cases j; rfl; done) | simpa [Prod.ext_iff,and_assoc] using h | (simp at h; omega) | (simp at h; exact Prod.ext h.1 (Prod.ext h.2.1 (by omega)))) l h)
@[go_sem] theorem t_counts_Right {l:List Run} (h:l.length ≤ 4611686018427387904):T13f.f 179 [.slc (l.map Run.enc)] = some (.bool (rightL l)):=T13f_counts_Right l h
@[go_sem] theorem t_Clone_Run {l:List Run} (h:l.length ≤ 4398046511104):T13g.f 230 [.slc (l.map Run.enc)] = some (.slc (l.map Run.enc)):=T13g_slices_Clone_winnower_api_Run_winnower_api_Run l h
noncomputable def C13Sa:Tab:=T13g.addH 253 (entryH srE srO srK srR)
noncomputable def C13S:Tab:={ C13Sa with eff:=fun f=>f == 253 }
theorem C13Sa_ok:TabOK Tryz.prog C13Sa:=T13g_ok.addH (callable_of Tryz.func253 (by kernel_rfl) (by kernel_rfl)) (entryH_ok fun l h=>c_SortFunc_Run l h)
theorem C13S_ok:TabOK Tryz.prog C13S:=⟨C13Sa_ok.f,C13Sa_ok.hp⟩
@[go_sem] theorem C13S_f:C13S.f = T13g.f:=rfl
@[go_sem] theorem C13S_eff {g:FuncId}:C13S.eff g = (g == 253):=rfl
@[go_sem] theorem C13S_frz {g:FuncId}:C13S.frz g = false:=rfl
@[go_sem] theorem C13S_fix {n:Nat}:C13S.fix n = false:=rfl
@[go_sem] theorem C13S_ords {n:Nat}:C13S.ords n = []:=rfl
theorem C13S_sort {l:List Run} {n:Nat} (hn:n = (l.filter oneR).length) (h:l.length < 4611686018427387904):C13S.hp 253 [.row 0 0 2 n false,.fn 254 []] [.row 2 ((l.filter oneR).map Run.enc)] = some (.tup [],[.row 2 ((srtL l).map Run.enc)],[]):=by
 subst hn
 have hlen:(pickB l).length = (l.filter oneR).length:=by rw [← pickB_val]; simp
 have h0:C13Sa.hp 253 (srE (pickB l)) (srO (pickB l)) = entryH srE srO srK srR (srE (pickB l)) (srO (pickB l)):=Tab.addH_eq
 have h1:C13S.hp 253 (srE (pickB l)) (srO (pickB l)) = entryH srE srO srK srR (srE (pickB l)) (srO (pickB l)):=h0
 have h2:=h1.trans (entryH_eq (fun i j _ h=>srO_inj i j h) (pickB l) (show (pickB l).length < 4611686018427387904 by rw [hlen]; exact Nat.lt_of_le_of_lt (List.length_filter_le _ _) h))
 simp only [srE,srO,srR,hlen,pickB_cells,srtL_cells] at h2
 exact h2
def rowG (acc:List Run):List A:=acc.reverse.map Run.enc
theorem rowG_cons (q:Run) (qs:List Run):rowG (q :: qs) = rowG qs ++ [.agg [.int .i64 q.f,.int .i64 q.t]]:=by
 simp [rowG,Run.enc,Run.cells]
theorem rowG_len (l:List Run):(rowG l).length = l.length:=by simp [rowG]
theorem rowG_nil:rowG [] = []:=rfl
theorem fold_step (l:List Run) (k:Nat) (h:k < l.length):(l.take (k + 1)).foldl pushJ [] = pushJ ((l.take k).foldl pushJ []) l[k]:=by
 rw [← List.take_append_getElem h,List.foldl_append]; rfl
theorem fold_len:∀ (l:List Run) (a:List Run),(l.foldl pushJ a).length ≤ a.length + l.length
 | [],a=>by simp
 | r :: l,a=>by
  have h1:=fold_len l (pushJ a r)
  have h2:=pushJ_len a r
  simp only [List.foldl_cons,List.length_cons]; omega
theorem ok_counts_Of:codeOK Tryz.prog C13S Tryz.f229.ntmps (Tryz.f229.body.getD .skip) = true:=by kernel_rfl
theorem c_counts_Of (l:List Run) (hl:l.length ≤ 4398046511104):CallA Tryz.prog 229 [.slc (l.map Run.enc)] (· = .slc ((setR (hasL13 l)).map Run.enc)):=by
 refine callA_of_body C13S_ok mixed Tryz.func229 rfl (Nat.le_of_ble_eq_true rfl) ok_counts_Of ?_
 unfold Tryz.f229
 cases hr:rightL l with
 | true=>
  have e:=setR_eq hr (fun _=>rfl)
  simp -implicitDefEqProofs (maxSteps:=600000) (disch:=(first | omega | decide)) only [go_sem,↓reduceIte,seval,hr,List.length_map]
  rw [← e]
 | false=>
  simp -implicitDefEqProofs (maxSteps:=600000) (disch:=(first | omega | decide)) only [go_sem,↓reduceIte,seval,hr,List.length_map]
  refine wpA_loop_nil 3 2 rfl ?_
  refine wpA_loop [2,14,15] (ι:={k:Nat // k ≤ l.length}) (fun p=>[(16,.int .i64 p.1),(3,.row 0 0 2 ((l.take p.1).filter oneR).length false)]) (fun p=>[(0,.row 2 (((l.take p.1).filter oneR).map Run.enc))]) (fun p=>l.length - p.1) ⟨0,by omega⟩ (Nat.zero_le _) ?_ ?_
  ·simp -implicitDefEqProofs (maxSteps:=600000) (disch:=(first | omega | decide)) only [go_sem,↓reduceIte,seval]
   simp
  ·rintro ⟨k,hk⟩
   simp only
   have hf:((l.take k).filter oneR).length ≤ k:=Nat.le_trans (List.length_filter_le _ _) (by rw [List.length_take]; omega)
   by_cases hlt:k < l.length
   ·have hlt':(k:Int) < (l.length:Int):=by omega
    have ht:l.take (k + 1) = l.take k ++ [l[k]]:=(List.take_append_getElem hlt).symm
    have e1:=run_get hlt
    generalize hx:l[k] = x at *
    obtain ⟨f,t⟩:=x
    cases h1:oneR ⟨f,t⟩ with
    | true=>
     simp -implicitDefEqProofs (maxSteps:=600000) (disch:=(first | omega | decide)) only [go_sem,↓reduceIte,seval,hlt',e1,h1,wrap_i64,List.length_map]
     refine ⟨⟨Nat.le_refl _,by omega⟩,⟨k + 1,hlt⟩,⟨⟨by simp,?_⟩,?_⟩,by show l.length - (k + 1) < l.length - k; omega⟩
     ·rw [ht,List.filter_append]; simp [h1]
     ·rw [ht,List.filter_append,List.take_of_length_le (by simp)]; simp [h1,Run.enc,Run.cells]
    | false=>
     simp -implicitDefEqProofs (maxSteps:=600000) (disch:=(first | omega | decide)) only [go_sem,↓reduceIte,seval,hlt',e1,h1,wrap_i64,List.length_map]
     refine ⟨⟨k + 1,hlt⟩,⟨⟨by simp,?_⟩,?_⟩,by show l.length - (k + 1) < l.length - k; omega⟩
     ·rw [ht,List.filter_append]; simp [h1]
     ·rw [ht,List.filter_append]; simp [h1]
   ·have hlt':¬ (k:Int) < (l.length:Int):=by omega
    rw [List.take_of_length_le (by omega)] at *
    have hs:=C13S_sort (l:=l) rfl (by omega)
    have hp:=(srtL_perm l).length_eq
    have hall:=srtL_all l
    have hone:=srtL_one l
    have hup:=srtL_up l
    rw [← hp] at hf
    simp -implicitDefEqProofs (maxSteps:=600000) (disch:=(first | omega | decide)) only [go_sem,↓reduceIte,seval,hlt',hs,List.length_map,List.contains_nil,List.contains_cons]
    rw [← hp]
    generalize srtL l = s at *
    refine wpA_loop_nil 6 2 rfl ?_
    refine wpA_loop [2,29,30] (ι:={j:Nat // j ≤ s.length}) (fun p=>[(31,.int .i64 p.1),(6,.row 1 0 2 ((s.take p.1).foldl pushJ []).length false)]) (fun p=>[(1,.row 2 (rowG ((s.take p.1).foldl pushJ [])))]) (fun p=>s.length - p.1) ⟨0,by omega⟩ (Nat.zero_le _) ?_ ?_
    ·simp -implicitDefEqProofs (maxSteps:=600000) (disch:=(first | omega | decide)) only [go_sem,↓reduceIte,seval]
     simp [rowG]
    ·rintro ⟨j,hj⟩
     simp only
     have hml:=fold_len (s.take j) []
     rw [List.length_take,List.length_nil,Nat.min_eq_left hj,Nat.zero_add] at hml
     by_cases hltj:j < s.length
     ·have hltj':(j:Int) < (s.length:Int):=by omega
      have e2:=run_get hltj
      have hst:=fold_step s j hltj
      have ho:=hone _ (List.getElem_mem hltj)
      have hR:RR ((s.take j).foldl pushJ []):=(fold_push (a:=[]) trivial (fun r hr=>hone r (List.mem_of_mem_take hr)) (hup.sublist (List.take_sublist _ _)) (fun _ _=>trivial)).1
      have fin:∀ m',(s.take (j + 1)).foldl pushJ [] = m' → ∃ i:{j:Nat // j ≤ s.length},(((j:Int) + 1 = (i.1:Int) ∧ m'.length = ((s.take i.1).foldl pushJ []).length) ∧ rowG m' = rowG ((s.take i.1).foldl pushJ [])) ∧ s.length - i.1 < s.length - j:=fun m' hm'=>⟨⟨j + 1,hltj⟩,⟨⟨by simp,by rw [hm']⟩,by rw [hm']⟩,by show s.length - (j + 1) < s.length - j; omega⟩
      generalize hx:s[j] = x at *
      generalize (s.take j).foldl pushJ [] = m at *
      obtain ⟨f,t⟩:=x
      obtain ⟨o1,o2,o3⟩:=one_parts ho
      simp only at o1 o2 o3
      have fin':=fin _ hst
      cases m with
      | nil=>
           rw [rowG_nil]
           simp -implicitDefEqProofs (maxSteps:=600000) (disch:=(first | omega | decide)) only [go_sem,↓reduceIte,seval,hltj',e2,wrap_i64,List.length_map]
           exact fin'
      | cons q qs=>
           obtain ⟨p1,p2,p3⟩:=one_parts (rr_one hR)
           rw [rowG_cons] at *
           have hlq:qs.length + 1 ≤ j:=hml
           have c0:(0:Int) < ((qs.length + 1:Nat):Int):=by omega
           have c1:(((qs.length + 1:Nat):Int) - 1).toNat = qs.length:=by omega
           have c2:(0:Int) ≤ ((qs.length + 1:Nat):Int) - 1:=by omega
           have c3:((qs.length + 1:Nat):Int) - 1 < ((qs.length + 1:Nat):Int):=by omega
           have g1:(rowG qs ++ [A.agg [.int .i64 q.f,.int .i64 q.t]])[qs.length]? = some (.agg [.int .i64 q.f,.int .i64 q.t]):=by
            have:=get_last (x:=A.agg [.int .i64 q.f,.int .i64 q.t]) (l:=rowG qs)
            rwa [rowG_len] at this
           have g2:∀ v,setNth (rowG qs ++ [A.agg [.int .i64 q.f,.int .i64 q.t]]) qs.length v = rowG qs ++ [v]:=fun v=>by
            have:=setNth_last (x:=A.agg [.int .i64 q.f,.int .i64 q.t]) (v:=v) (l:=rowG qs)
            rwa [rowG_len] at this
           have gl:(rowG qs ++ [A.agg [.int .i64 q.f,.int .i64 q.t]]).length = qs.length + 1:=by rw [List.length_append,rowG_len]; rfl
           have gt:(rowG qs ++ [A.agg [.int .i64 q.f,.int .i64 q.t]]).take (qs.length + 1) = rowG qs ++ [A.agg [.int .i64 q.f,.int .i64 q.t]]:=List.take_of_length_le (Nat.le_of_eq gl)
           by_cases hq:f - q.t < 2
           ·have hpj:pushJ (q :: qs) ⟨f,t⟩ = ⟨q.f,if t > q.t then t else q.t⟩ :: qs:=by
             simp only [pushJ]
             rw [if_pos (by omega)]
            rw [hpj,rowG_cons] at fin'
            simp -implicitDefEqProofs (maxSteps:=600000) (disch:=(first | omega | decide)) only [go_sem,↓reduceIte,seval,hltj',e2,c0,c1,c2,c3,g1,g2,hq,wrap_i64,List.length_map]
            exact fin'
           ·have hpj:pushJ (q :: qs) ⟨f,t⟩ = ⟨f,t⟩ :: q :: qs:=by
             simp only [pushJ]
             rw [if_neg (by omega)]
            rw [hpj,rowG_cons,rowG_cons] at fin'
            simp -implicitDefEqProofs (maxSteps:=600000) (disch:=(first | omega | decide)) only [go_sem,↓reduceIte,seval,hltj',e2,c0,c1,c2,c3,g1,g2,gl,gt,hq,wrap_i64,List.length_map]
            exact ⟨⟨Nat.le_refl _,by omega⟩,fin'⟩
     ·have hltj':¬ (j:Int) < (s.length:Int):=by omega
      rw [List.take_of_length_le (by omega)] at *
      have hfin:rowG (s.foldl pushJ []) = (setR (hasL13 l)).map Run.enc:=by unfold rowG; rw [hall]
      have hll:(s.foldl pushJ []).length = (rowG (s.foldl pushJ [])).length:=by rw [rowG_len]
      simp -implicitDefEqProofs (maxSteps:=600000) (disch:=(first | omega | decide)) only [go_sem,↓reduceIte,seval,hltj',wrap_i64,hll,List.length_map,List.take_length]
      rw [hfin]
      exact ⟨Nat.le_refl _,rfl⟩
end Go.Proofs.YtjfdlpagcgpaoaaGreat
namespace Go.Proofs.YtjfdlpagcgpaoaaGreat
open Go.Abs
set_option linter.unusedSimpArgs false
set_option linter.unusedVariables false
set_option linter.unusedSectionVars false
set_option maxRecDepth 20000
set_option maxHeartbeats 8000000
section
variable {D:List Run} {p e:Int}
end
section
variable {kp:Bool → Bool → Bool} {a b:List Run} (hra:rightL a = true) (hrb:rightL b = true)
include hra hrb
end
end Go.Proofs.YtjfdlpagcgpaoaaGreat
namespace Go.Proofs.YtjfdlpagcgpaoaaGreat
open Go.Abs
set_option linter.unusedSimpArgs false
set_option linter.unusedVariables false
set_option maxRecDepth 20000
set_option maxHeartbeats 8000000
theorem of_len {l:List Run} (h:rightL l = true):l.length ≤ 1099511627776:=by
 have key:∀ m:List Run,RR m → match m with | []=>True | r :: l=>((r :: l).length:Int) ≤ r.t:=by
  intro m
  induction m with
  | nil=>intro _; trivial
  | cons r l ih=>
   intro h
   have o:=oneR_iff.1 (rr_one h)
   have ih:=ih (rr_tail h)
   cases l with
   | nil=>show ((1:Nat):Int) ≤ r.t; omega
   | cons q l=>
    have h2:=h.2.1
    have ih':((q :: l).length:Int) ≤ q.t:=ih
    show (((q :: l).length + 1:Nat):Int) ≤ r.t
    omega
 have h1:=key l.reverse (right_iff.1 h)
 cases hm:l.reverse with
 | nil=>
  have:l = []:=by simpa using hm
  subst this; simp
 | cons r m=>
  rw [hm] at h1
  have o:=oneR_iff.1 (rr_one (by rw [← hm]; exact right_iff.1 h))
  have hl:l.length = (r :: m).length:=by rw [← hm]; simp
  have h1':((r :: m).length:Int) ≤ r.t:=h1
  omega
noncomputable def T13u:Tab:=T13g.add 229 (entry (fun (l:List Run)=>[.slc (l.map Run.enc)]) (fun l=>l.length ≤ 4398046511104) (fun l=>.slc ((setR (hasL13 l)).map Run.enc)))
theorem T13u_ok:TabOK Tryz.prog T13u:=T13g_ok.add (callable_of Tryz.func229 (by kernel_rfl) (by kernel_rfl)) (entry_ok fun l h=>c_counts_Of l h)
@[go_sem] theorem T13u_eff {g:FuncId}:T13u.eff g = false:=rfl
@[go_sem] theorem T13u_ords {n:Nat}:T13u.ords n = []:=rfl
theorem T13u_counts_Of (l:List Run) (h:l.length ≤ 4398046511104):T13u.f 229 [.slc (l.map Run.enc)] = some (.slc ((setR (hasL13 l)).map Run.enc)):=
 (Tab.add_eq:T13u.f 229 [.slc (l.map Run.enc)] = (entry (fun (l:List Run)=>[.slc (l.map Run.enc)]) (fun l=>l.length ≤ 4398046511104) (fun l=>.slc ((setR (hasL13 l)).map Run.enc))) [.slc (l.map Run.enc)]).trans (entry_eq (fun i j h=>by first | (cases i; cases j; rfl; done) | simpa [Prod.ext_iff,and_assoc] using h | (simp at h; omega) | (simp at h; exact Prod.ext h.1 (Prod.ext h.2.1 (by omega)))) l h)
@[go_sem] theorem u_counts_Of {l:List Run} (h:l.length ≤ 4398046511104):T13u.f 229 [.slc (l.map Run.enc)] = some (.slc ((setR (hasL13 l)).map Run.enc)):=T13u_counts_Of l h
def mostR (l:List Run):Int:=match l.getLast? with | none=>0 | some r=>r.t
theorem ok_counts_Most:codeOK Tryz.prog T13u Tryz.f182.ntmps (Tryz.f182.body.getD .skip) = true:=by kernel_rfl
theorem c_counts_Most (l:List Run) (hl:l.length ≤ 4398046511104):CallA Tryz.prog 182 [.slc (l.map Run.enc)] (· = .int .i64 (mostR (setR (hasL13 l)))):=by
 refine callA_of_body T13u_ok mixed Tryz.func182 rfl (Nat.le_of_ble_eq_true rfl) ok_counts_Most ?_
 unfold Tryz.f182
 have hu:=@u_counts_Of l hl
 have hn:(setR (hasL13 l)).length ≤ 1099511627776:=of_len' (setR_right (hasL13 l))
 generalize setR (hasL13 l) = s at *
 rcases List.eq_nil_or_concat s with rfl | ⟨rs,r,rfl⟩
 ·simp -implicitDefEqProofs (maxSteps:=600000) (disch:=(first | omega | decide)) only [go_sem,↓reduceIte,seval,hu,mostR,List.length_map,List.getLast?_nil]
 ·rw [List.concat_eq_append] at *
  obtain ⟨f,t⟩:=r
  have hm:(rs ++ [(⟨f,t⟩:Run)]).map Run.enc = rs.map Run.enc ++ [.agg [.int .i64 f,.int .i64 t]]:=by simp [Run.enc,Run.cells]
  have hl1:(rs.map Run.enc ++ [A.agg [.int .i64 f,.int .i64 t]]).length = rs.length + 1:=by simp
  have hv:mostR (rs ++ [⟨f,t⟩]) = t:=by simp [mostR]
  rw [hm] at hu
  rw [hv]
  have c0:(0:Int) < ((rs.length + 1:Nat):Int):=by omega
  have c1:(((rs.length + 1:Nat):Int) - 1).toNat = rs.length:=by omega
  have c2:(0:Int) ≤ ((rs.length + 1:Nat):Int) - 1:=by omega
  have g1:(rs.map Run.enc ++ [A.agg [.int .i64 f,.int .i64 t]])[rs.length]? = some (.agg [.int .i64 f,.int .i64 t]):=by
   have:=get_last (x:=A.agg [.int .i64 f,.int .i64 t]) (l:=rs.map Run.enc)
   rwa [List.length_map] at this
  simp only [List.length_append,List.length_singleton] at hn
  simp -implicitDefEqProofs (maxSteps:=600000) (disch:=(first | omega | decide)) only [go_sem,↓reduceIte,seval,hu,hl1,c0,c1,c2,g1,wrap_i64,List.length_map]
def cnt (p:Int → Bool):Nat → Int
 | 0=>0
 | N + 1=>cnt p N + if p ((N:Int) + 1) then 1 else 0
theorem most_spec {s:List Run} (h:rightL s = true):0 ≤ mostR s ∧ mostR s ≤ 1099511627776 ∧ (0 < mostR s → hasL13 s (mostR s) = true) ∧ ∀ n,hasL13 s n = true → n ≤ mostR s:=by
 rcases List.eq_nil_or_concat s with rfl | ⟨rs,r,rfl⟩
 ·exact ⟨Int.le_refl _,by simp [mostR],fun h=>by simp [mostR] at h,fun n h=>by simp [has_nil] at h⟩
 ·rw [List.concat_eq_append] at *
  have hv:mostR (rs ++ [r]) = r.t:=by simp [mostR]
  have h1:=right_iff.1 h
  rw [List.reverse_append] at h1
  have h1':RR (r :: rs.reverse):=h1
  have o:=oneR_iff.1 (rr_one h1')
  rw [hv]
  refine ⟨by omega,o.2.2,fun _=>?_,fun n hn=>?_⟩
  ·rw [has_append,has_cons,rr_one h1',Bool.true_and]
   have:inR r r.t = true:=by simp [inR]; omega
   rw [this]; simp
  ·refine rr_top h1' n ?_
   rw [← has_rev] at hn
   rw [List.reverse_append] at hn
   exact hn
noncomputable def T13m:Tab:=T13e.add 226 (entry (fun (v:Int × List Run × List Run)=>[.int .i64 v.1,.slc (v.2.1.map Run.enc),.slc (v.2.2.map Run.enc)]) (fun v=>opOK v.1 ∧ v.2.1.length ≤ 50000 ∧ v.2.2.length ≤ 50000) (fun v=>.slc ((setR (opP v.1 v.2.1 v.2.2)).map Run.enc)))
theorem T13m_ok:TabOK Tryz.prog T13m:=T13e_ok.add (callable_of Tryz.func226 (by kernel_rfl) (by kernel_rfl)) (entry_ok fun v h=>c_ref13_Make v.1 v.2.1 v.2.2 h.1 h.2.1 h.2.2)
@[go_sem] theorem T13m_old {g:FuncId} {xs:List A} (h:g ≠ 226):T13m.f g xs = T13e.f g xs:=Tab.add_ne h
theorem T13m_ref13_Make (v:Int × List Run × List Run) (h:opOK v.1 ∧ v.2.1.length ≤ 50000 ∧ v.2.2.length ≤ 50000):T13m.f 226 [.int .i64 v.1,.slc (v.2.1.map Run.enc),.slc (v.2.2.map Run.enc)] = some (.slc ((setR (opP v.1 v.2.1 v.2.2)).map Run.enc)):=
 (Tab.add_eq:T13m.f 226 [.int .i64 v.1,.slc (v.2.1.map Run.enc),.slc (v.2.2.map Run.enc)] = (entry (fun (v:Int × List Run × List Run)=>[.int .i64 v.1,.slc (v.2.1.map Run.enc),.slc (v.2.2.map Run.enc)]) (fun v=>opOK v.1 ∧ v.2.1.length ≤ 50000 ∧ v.2.2.length ≤ 50000) (fun v=>.slc ((setR (opP v.1 v.2.1 v.2.2)).map Run.enc))) [.int .i64 v.1,.slc (v.2.1.map Run.enc),.slc (v.2.2.map Run.enc)]).trans (entry_eq (fun i j h=>by first | (cases i; cases j; rfl; done) | simpa [Prod.ext_iff,and_assoc] using h | (simp at h; omega) | (simp at h; exact Prod.ext h.1 (Prod.ext h.2.1 (by omega)))) v h)
theorem op2 (a b:List Run):opP 2 a b = fun n=>hasL13 a n && hasL13 b n:=rfl
noncomputable def C13Aa:Tab:=T13u.addH 230 (entryH (fun l:List Run=>[.slc (l.map Run.enc)]) (fun _=>[]) (fun l=>l.length ≤ 4398046511104) (fun l=>(.row 0 0 2 l.length false,[.row 2 (l.map Run.enc)],[])))
noncomputable def C13A:Tab:={ C13Aa with eff:=fun f=>f == 229 || f == 230,frz:=fun f=>f == 229 }
theorem C13Aa_ok:TabOK Tryz.prog C13Aa:=T13u_ok.addH (callable_of Tryz.func230 (by kernel_rfl) (by kernel_rfl)) (entryH_ok fun l h=>h_Clone_Run l h)
theorem C13A_ok:TabOK Tryz.prog C13A:=⟨C13Aa_ok.f,C13Aa_ok.hp⟩
@[go_sem] theorem C13A_f:C13A.f = T13u.f:=rfl
@[go_sem] theorem C13A_eff {g:FuncId}:C13A.eff g = (g == 229 || g == 230):=rfl
@[go_sem] theorem C13A_frz {g:FuncId}:C13A.frz g = (g == 229):=rfl
@[go_sem] theorem C13A_fix {n:Nat}:C13A.fix n = false:=rfl
@[go_sem] theorem C13A_ords {n:Nat}:C13A.ords n = []:=rfl
theorem C13A_clone {l:List Run} (h:l.length ≤ 4398046511104):C13A.hp 230 [.slc (l.map Run.enc)] [] = some (.row 0 0 2 l.length false,[.row 2 (l.map Run.enc)],[]):=by
 have h0:C13Aa.hp 230 [.slc (l.map Run.enc)] [] = entryH (fun l:List Run=>[A.slc (l.map Run.enc)]) (fun _=>[]) (fun l=>l.length ≤ 4398046511104) (fun l=>(.row 0 0 2 l.length false,[.row 2 (l.map Run.enc)],[])) [.slc (l.map Run.enc)] []:=Tab.addH_eq
 exact h0.trans (entryH_eq (enc:=fun l:List Run=>[A.slc (l.map Run.enc)]) (obs:=fun _=>[]) (fun i j h _=>by simpa using h) l h)
def oneL (m:List Int):List Run:=m.map fun n=>⟨n,n⟩
theorem ok_counts_Add:codeOK Tryz.prog C13A Tryz.f250.ntmps (Tryz.f250.body.getD .skip) = true:=by kernel_rfl
theorem c_counts_Add (l:List Run) (m:List Int) (hl:l.length ≤ 1000000) (hm:m.length ≤ 1000000):CallA Tryz.prog 250 [.slc (l.map Run.enc),.slc (m.map (A.int .i64))] (· = .slc ((setR (hasL13 (l ++ oneL m))).map Run.enc)):=by
 refine callA_of_body C13A_ok mixed Tryz.func250 rfl (Nat.le_of_ble_eq_true rfl) ok_counts_Add ?_
 unfold Tryz.f250
 have h0:=C13A_clone (l:=l) (by omega)
 simp -implicitDefEqProofs (maxSteps:=600000) (disch:=(first | omega | decide)) only [go_sem,↓reduceIte,seval,h0,List.length_map,List.contains_nil,List.contains_cons]
 refine wpA_loop [4,10,11] (ι:={k:Nat // k ≤ m.length}) (fun p=>[(12,.int .i64 p.1),(5,.row 0 0 2 (l.length + p.1) false)]) (fun p=>[(0,.row 2 ((l ++ oneL (m.take p.1)).map Run.enc))]) (fun p=>m.length - p.1) ⟨0,by omega⟩ (Nat.zero_le _) ?_ ?_
 ·simp -implicitDefEqProofs (maxSteps:=600000) (disch:=(first | omega | decide)) only [go_sem,↓reduceIte,seval]
  simp [oneL]
 ·rintro ⟨k,hk⟩
  simp only
  have hlen:(l ++ oneL (m.take k)).length = l.length + k:=by simp [oneL]; omega
  by_cases hlt:k < m.length
  ·have hlt':(k:Int) < (m.length:Int):=by omega
   have e1:(m.map (A.int .i64))[k]? = some (.int .i64 m[k]):=by
    rw [List.getElem?_map,List.getElem?_eq_getElem hlt]; rfl
   have ht:m.take (k + 1) = m.take k ++ [m[k]]:=(List.take_append_getElem hlt).symm
   have hh:l ++ oneL (m.take (k + 1)) = (l ++ oneL (m.take k)) ++ [⟨m[k],m[k]⟩]:=by
    rw [ht]; unfold oneL; rw [List.map_append,← List.append_assoc]; rfl
   have tl:((l ++ oneL (m.take k)).map Run.enc).take (l.length + k) = (l ++ oneL (m.take k)).map Run.enc:=List.take_of_length_le (Nat.le_of_eq (by rw [List.length_map,hlen]))
   simp -implicitDefEqProofs (maxSteps:=600000) (disch:=(first | omega | decide)) only [go_sem,↓reduceIte,seval,hlt',e1,tl,hlen,wrap_i64,List.length_map]
   exact ⟨⟨Nat.le_refl _,by omega⟩,⟨k + 1,hlt⟩,⟨⟨by simp,by show l.length + k + 1 = l.length + (k + 1); omega⟩,by rw [hh,List.map_append (l₁:=l ++ oneL (m.take k))]; rfl⟩,by show m.length - (k + 1) < m.length - k; omega⟩
  ·have hlt':¬ (k:Int) < (m.length:Int):=by omega
   have tl:((l ++ oneL (m.take k)).map Run.enc).take (l.length + k) = (l ++ oneL (m.take k)).map Run.enc:=List.take_of_length_le (Nat.le_of_eq (by rw [List.length_map,hlen]))
   rw [List.take_of_length_le (show m.length ≤ k by omega)] at *
   simp -implicitDefEqProofs (maxSteps:=600000) (disch:=(first | omega | decide)) only [go_sem,↓reduceIte,seval,hlt',tl,hlen,List.length_map,List.contains_nil,List.contains_cons]
   exact Nat.le_refl _
noncomputable def C13L0:Tab:=T13m.add 179 (entry (fun (l:List Run)=>[.slc (l.map Run.enc)]) (fun l=>l.length ≤ 4398046511104) (fun l=>.bool (rightL l)))
theorem C13L0_ok:TabOK Tryz.prog C13L0:=T13m_ok.add (callable_of Tryz.func179 (by kernel_rfl) (by kernel_rfl)) (entry_ok fun l h=>c_counts_Right l (by omega))
@[go_sem] theorem C13L0_old {g:FuncId} {xs:List A} (h:g ≠ 179):C13L0.f g xs = T13m.f g xs:=Tab.add_ne h
theorem C13L0_counts_Right (l:List Run) (h:l.length ≤ 4398046511104):C13L0.f 179 [.slc (l.map Run.enc)] = some (.bool (rightL l)):=
 (Tab.add_eq:C13L0.f 179 [.slc (l.map Run.enc)] = (entry (fun (l:List Run)=>[.slc (l.map Run.enc)]) (fun l=>l.length ≤ 4398046511104) (fun l=>.bool (rightL l))) [.slc (l.map Run.enc)]).trans (entry_eq (fun i j h=>by first | (cases i; cases j; rfl; done) | simpa [Prod.ext_iff,and_assoc] using h | (simp at h; omega) | (simp at h; exact Prod.ext h.1 (Prod.ext h.2.1 (by omega)))) l h)
@[go_sem] theorem l_counts_Right {l:List Run} (h:l.length ≤ 4398046511104):C13L0.f 179 [.slc (l.map Run.enc)] = some (.bool (rightL l)):=C13L0_counts_Right l h
noncomputable def C13L1:Tab:=C13L0.add 172 (entry (fun (l:List Run)=>[.slc (l.map Run.enc)]) (fun l=>l.length ≤ 4398046511104) (fun l=>.bool (rightL l)))
theorem C13L1_ok:TabOK Tryz.prog C13L1:=C13L0_ok.add (callable_of Tryz.func172 (by kernel_rfl) (by kernel_rfl)) (entry_ok fun l h=>c_ref13_Right l (by omega))
@[go_sem] theorem C13L1_old {g:FuncId} {xs:List A} (h:g ≠ 172):C13L1.f g xs = C13L0.f g xs:=Tab.add_ne h
theorem C13L1_ref13_Right (l:List Run) (h:l.length ≤ 4398046511104):C13L1.f 172 [.slc (l.map Run.enc)] = some (.bool (rightL l)):=
 (Tab.add_eq:C13L1.f 172 [.slc (l.map Run.enc)] = (entry (fun (l:List Run)=>[.slc (l.map Run.enc)]) (fun l=>l.length ≤ 4398046511104) (fun l=>.bool (rightL l))) [.slc (l.map Run.enc)]).trans (entry_eq (fun i j h=>by first | (cases i; cases j; rfl; done) | simpa [Prod.ext_iff,and_assoc] using h | (simp at h; omega) | (simp at h; exact Prod.ext h.1 (Prod.ext h.2.1 (by omega)))) l h)
@[go_sem] theorem l_ref13_Right {l:List Run} (h:l.length ≤ 4398046511104):C13L1.f 172 [.slc (l.map Run.enc)] = some (.bool (rightL l)):=C13L1_ref13_Right l h
noncomputable def C13L2:Tab:=C13L1.add 194 (entry (fun (v:List Run × Int)=>[.slc (v.1.map Run.enc),.int .i64 v.2]) (fun v=>v.1.length ≤ 4398046511104) (fun v=>.bool (hasL13 v.1 v.2)))
theorem C13L2_ok:TabOK Tryz.prog C13L2:=C13L1_ok.add (callable_of Tryz.func194 (by kernel_rfl) (by kernel_rfl)) (entry_ok fun v h=>c_counts_Has v.1 v.2 (by omega))
@[go_sem] theorem C13L2_old {g:FuncId} {xs:List A} (h:g ≠ 194):C13L2.f g xs = C13L1.f g xs:=Tab.add_ne h
theorem C13L2_counts_Has (v:List Run × Int) (h:v.1.length ≤ 4398046511104):C13L2.f 194 [.slc (v.1.map Run.enc),.int .i64 v.2] = some (.bool (hasL13 v.1 v.2)):=
 (Tab.add_eq:C13L2.f 194 [.slc (v.1.map Run.enc),.int .i64 v.2] = (entry (fun (v:List Run × Int)=>[.slc (v.1.map Run.enc),.int .i64 v.2]) (fun v=>v.1.length ≤ 4398046511104) (fun v=>.bool (hasL13 v.1 v.2))) [.slc (v.1.map Run.enc),.int .i64 v.2]).trans (entry_eq (fun i j h=>by first | (cases i; cases j; rfl; done) | simpa [Prod.ext_iff,and_assoc] using h | (simp at h; omega) | (simp at h; exact Prod.ext h.1 (Prod.ext h.2.1 (by omega)))) v h)
@[go_sem] theorem l_counts_Has {a:List Run} {b:Int} (h:a.length ≤ 4398046511104):C13L2.f 194 [.slc (a.map Run.enc),.int .i64 b] = some (.bool (hasL13 a b)):=C13L2_counts_Has (a,b) h
noncomputable def C13L3:Tab:=C13L2.add 152 (entry (fun (v:List Run × List Run)=>[.slc (v.1.map Run.enc),.slc (v.2.map Run.enc)]) (fun v=>v.1.length ≤ 4398046511104 ∧ v.2.length ≤ 4398046511104) (fun v=>.bool (sameL v.1 v.2)))
theorem C13L3_ok:TabOK Tryz.prog C13L3:=C13L2_ok.add (callable_of Tryz.func152 (by kernel_rfl) (by kernel_rfl)) (entry_ok fun v h=>c_ref13_Same v.1 v.2 (by omega) (by omega))
@[go_sem] theorem C13L3_old {g:FuncId} {xs:List A} (h:g ≠ 152):C13L3.f g xs = C13L2.f g xs:=Tab.add_ne h
theorem C13L3_ref13_Same (v:List Run × List Run) (h:v.1.length ≤ 4398046511104 ∧ v.2.length ≤ 4398046511104):C13L3.f 152 [.slc (v.1.map Run.enc),.slc (v.2.map Run.enc)] = some (.bool (sameL v.1 v.2)):=
 (Tab.add_eq:C13L3.f 152 [.slc (v.1.map Run.enc),.slc (v.2.map Run.enc)] = (entry (fun (v:List Run × List Run)=>[.slc (v.1.map Run.enc),.slc (v.2.map Run.enc)]) (fun v=>v.1.length ≤ 4398046511104 ∧ v.2.length ≤ 4398046511104) (fun v=>.bool (sameL v.1 v.2))) [.slc (v.1.map Run.enc),.slc (v.2.map Run.enc)]).trans (entry_eq (fun i j h=>by first | (cases i; cases j; rfl; done) | simpa [Prod.ext_iff,and_assoc] using h | (simp at h; omega) | (simp at h; exact Prod.ext h.1 (Prod.ext h.2.1 (by omega)))) v h)
@[go_sem] theorem l_ref13_Same {a:List Run} {b:List Run} (h:a.length ≤ 4398046511104 ∧ b.length ≤ 4398046511104):C13L3.f 152 [.slc (a.map Run.enc),.slc (b.map Run.enc)] = some (.bool (sameL a b)):=C13L3_ref13_Same (a,b) h
noncomputable def C13L4:Tab:=C13L3.add 229 (entry (fun (l:List Run)=>[.slc (l.map Run.enc)]) (fun l=>l.length ≤ 4398046511104) (fun l=>.slc ((setR (hasL13 l)).map Run.enc)))
theorem C13L4_ok:TabOK Tryz.prog C13L4:=C13L3_ok.add (callable_of Tryz.func229 (by kernel_rfl) (by kernel_rfl)) (entry_ok fun l h=>c_counts_Of l h)
@[go_sem] theorem C13L4_old {g:FuncId} {xs:List A} (h:g ≠ 229):C13L4.f g xs = C13L3.f g xs:=Tab.add_ne h
theorem C13L4_counts_Of (l:List Run) (h:l.length ≤ 4398046511104):C13L4.f 229 [.slc (l.map Run.enc)] = some (.slc ((setR (hasL13 l)).map Run.enc)):=
 (Tab.add_eq:C13L4.f 229 [.slc (l.map Run.enc)] = (entry (fun (l:List Run)=>[.slc (l.map Run.enc)]) (fun l=>l.length ≤ 4398046511104) (fun l=>.slc ((setR (hasL13 l)).map Run.enc))) [.slc (l.map Run.enc)]).trans (entry_eq (fun i j h=>by first | (cases i; cases j; rfl; done) | simpa [Prod.ext_iff,and_assoc] using h | (simp at h; omega) | (simp at h; exact Prod.ext h.1 (Prod.ext h.2.1 (by omega)))) l h)
@[go_sem] theorem l_counts_Of {l:List Run} (h:l.length ≤ 4398046511104):C13L4.f 229 [.slc (l.map Run.enc)] = some (.slc ((setR (hasL13 l)).map Run.enc)):=C13L4_counts_Of l h
noncomputable def C13L5:Tab:=C13L4
theorem C13L5_ok:TabOK Tryz.prog C13L5:=C13L4_ok
@[go_sem] theorem C13L5_old {g:FuncId} {xs:List A}:C13L5.f g xs = C13L4.f g xs:=rfl
noncomputable def C13L6:Tab:=C13L5.add 250 (entry (fun (v:List Run × List Int)=>[.slc (v.1.map Run.enc),.slc (v.2.map (A.int .i64))]) (fun v=>v.1.length ≤ 1000000 ∧ v.2.length ≤ 1000000) (fun v=>.slc ((setR (hasL13 (v.1 ++ oneL v.2))).map Run.enc)))
theorem C13L6_ok:TabOK Tryz.prog C13L6:=C13L5_ok.add (callable_of Tryz.func250 (by kernel_rfl) (by kernel_rfl)) (entry_ok fun v h=>c_counts_Add v.1 v.2 h.1 h.2)
@[go_sem] theorem C13L6_old {g:FuncId} {xs:List A} (h:g ≠ 250):C13L6.f g xs = C13L5.f g xs:=Tab.add_ne h
theorem C13L6_counts_Add (v:List Run × List Int) (h:v.1.length ≤ 1000000 ∧ v.2.length ≤ 1000000):C13L6.f 250 [.slc (v.1.map Run.enc),.slc (v.2.map (A.int .i64))] = some (.slc ((setR (hasL13 (v.1 ++ oneL v.2))).map Run.enc)):=
 (Tab.add_eq:C13L6.f 250 [.slc (v.1.map Run.enc),.slc (v.2.map (A.int .i64))] = (entry (fun (v:List Run × List Int)=>[.slc (v.1.map Run.enc),.slc (v.2.map (A.int .i64))]) (fun v=>v.1.length ≤ 1000000 ∧ v.2.length ≤ 1000000) (fun v=>.slc ((setR (hasL13 (v.1 ++ oneL v.2))).map Run.enc))) [.slc (v.1.map Run.enc),.slc (v.2.map (A.int .i64))]).trans (entry_eq (fun i j h=>by first | (cases i; cases j; rfl; done) | simpa [Prod.ext_iff,and_assoc] using h | (simp at h; omega) | (simp at h; exact Prod.ext h.1 (Prod.ext h.2.1 (by omega)))) v h)
@[go_sem] theorem l_counts_Add {a:List Run} {b:List Int} (h:a.length ≤ 1000000 ∧ b.length ≤ 1000000):C13L6.f 250 [.slc (a.map Run.enc),.slc (b.map (A.int .i64))] = some (.slc ((setR (hasL13 (a ++ oneL b))).map Run.enc)):=C13L6_counts_Add (a,b) h
noncomputable def C13L7:Tab:=C13L6
theorem C13L7_ok:TabOK Tryz.prog C13L7:=C13L6_ok
@[go_sem] theorem C13L7_old {g:FuncId} {xs:List A}:C13L7.f g xs = C13L6.f g xs:=rfl
noncomputable def C13L8:Tab:=C13L7
theorem C13L8_ok:TabOK Tryz.prog C13L8:=C13L7_ok
@[go_sem] theorem C13L8_old {g:FuncId} {xs:List A}:C13L8.f g xs = C13L7.f g xs:=rfl
noncomputable def C13L9:Tab:=C13L8
theorem C13L9_ok:TabOK Tryz.prog C13L9:=C13L8_ok
@[go_sem] theorem C13L9_old {g:FuncId} {xs:List A}:C13L9.f g xs = C13L8.f g xs:=rfl
noncomputable def C13L10:Tab:=C13L9
theorem C13L10_ok:TabOK Tryz.prog C13L10:=C13L9_ok
@[go_sem] theorem C13L10_old {g:FuncId} {xs:List A}:C13L10.f g xs = C13L9.f g xs:=rfl
noncomputable def C13L11:Tab:=C13L10.add 182 (entry (fun (l:List Run)=>[.slc (l.map Run.enc)]) (fun l=>l.length ≤ 4398046511104) (fun l=>.int .i64 (mostR (setR (hasL13 l)))))
theorem C13L11_ok:TabOK Tryz.prog C13L11:=C13L10_ok.add (callable_of Tryz.func182 (by kernel_rfl) (by kernel_rfl)) (entry_ok fun l h=>c_counts_Most l h)
@[go_sem] theorem C13L11_old {g:FuncId} {xs:List A} (h:g ≠ 182):C13L11.f g xs = C13L10.f g xs:=Tab.add_ne h
theorem C13L11_counts_Most (l:List Run) (h:l.length ≤ 4398046511104):C13L11.f 182 [.slc (l.map Run.enc)] = some (.int .i64 (mostR (setR (hasL13 l)))):=
 (Tab.add_eq:C13L11.f 182 [.slc (l.map Run.enc)] = (entry (fun (l:List Run)=>[.slc (l.map Run.enc)]) (fun l=>l.length ≤ 4398046511104) (fun l=>.int .i64 (mostR (setR (hasL13 l))))) [.slc (l.map Run.enc)]).trans (entry_eq (fun i j h=>by first | (cases i; cases j; rfl; done) | simpa [Prod.ext_iff,and_assoc] using h | (simp at h; omega) | (simp at h; exact Prod.ext h.1 (Prod.ext h.2.1 (by omega)))) l h)
@[go_sem] theorem l_counts_Most {l:List Run} (h:l.length ≤ 4398046511104):C13L11.f 182 [.slc (l.map Run.enc)] = some (.int .i64 (mostR (setR (hasL13 l)))):=C13L11_counts_Most l h
noncomputable def C13L12:Tab:=C13L11
theorem C13L12_ok:TabOK Tryz.prog C13L12:=C13L11_ok
@[go_sem] theorem C13L12_old {g:FuncId} {xs:List A}:C13L12.f g xs = C13L11.f g xs:=rfl
@[go_sem] theorem C13L12_ords {n:Nat}:C13L12.ords n = []:=rfl
theorem fits_run {x:List A} (h:fitsL [.int .i64,.int .i64] x):∃ f t:Int,x = [.int .i64 f,.int .i64 t]:=by
 simp only [fitsL,fits] at h
 obtain ⟨y,zs,rfl,⟨n,rfl,_⟩,y2,zs2,rfl,⟨m,rfl,_⟩,rfl⟩:=h
 exact ⟨n,m,rfl⟩
theorem fits_runs {x:A} (h:fits (.rows [.int .i64,.int .i64]) x):∃ l:List Run,x = .slc (l.map Run.enc) ∧ l.length ≤ maxLen:=by
 simp only [fits] at h
 obtain ⟨es,rfl,hl,he⟩:=h
 obtain ⟨l,rfl,_⟩:=list_of (f:=Run.enc) (P:=fun _=>True) (es:=es) (fun e hx=>by
  obtain ⟨ys,rfl,hy⟩:=he e hx
  obtain ⟨r,c,rfl⟩:=fits_run (by simpa only [fitsL,fits] using hy)
  exact ⟨⟨r,c⟩,rfl,trivial⟩)
 exact ⟨l,rfl,by simpa using hl⟩
end Go.Proofs.YtjfdlpagcgpaoaaGreat
