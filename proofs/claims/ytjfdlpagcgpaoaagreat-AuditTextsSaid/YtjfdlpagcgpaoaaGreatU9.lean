/- What the laws of this claim rest on: the abstract executor, its soundness, and what the functions compute on pure data. No condition. -/
import Derived.Test.YtjfdlpagcgpaoaaGreatU8
import Derived.Shelf.SlSortCmp.NoneTotal
import Derived.Ground.SlsfProg
import Derived.Test.YtjfdlpagcgpaoaaGreatProg
set_option linter.unusedVariables false
set_option linter.unusedSimpArgs false
namespace Go.Proofs.YtjfdlpagcgpaoaaGreat
open Go.Abs
set_option linter.unusedSimpArgs false
set_option linter.unusedVariables false
structure It where
 key:List UInt8
 rep:Int
 cnt:Int
 rank:Int
 prio:Int
 dead:Bool
 body:List UInt8
 deriving DecidableEq
def It.enc (x:It):A:=.agg [.str x.key,.int .i64 x.rep,.int .i64 x.cnt,.int .i64 x.rank,.int .i64 x.prio,.bool x.dead,.str x.body]
theorem It.enc_inj (r s:It) (h:r.enc = s.enc):r = s:=by
 obtain ⟨a,b,c,d,e,f,g⟩:=r
 obtain ⟨a',b',c',d',e',f',g'⟩:=s
 simpa [It.enc] using h
@[simp] theorem It.enc_iff {r s:It}:(r.enc = s.enc) = (r = s):=propext ⟨It.enc_inj r s,fun h=>by rw [h]⟩
@[simp] theorem map_It_inj {l m:List It}:(l.map It.enc = m.map It.enc) = (l = m):=map_inj It.enc_inj
def It.ok (x:It):Prop:=x.key.length ≤ 9223372036854775807 ∧ x.body.length ≤ 9223372036854775807
def okI (l:List It):Prop:=∀ x ∈ l,x.ok
theorem it_get {l:List It} {k:Nat} (h:k < l.length):(l.map It.enc)[k]? = some (.agg [.str l[k].key,.int .i64 l[k].rep,.int .i64 l[k].cnt,.int .i64 l[k].rank,.int .i64 l[k].prio,.bool l[k].dead,.str l[k].body]):=by
 rw [List.getElem?_map,List.getElem?_eq_getElem h]; rfl
def rightI (x:It):Bool:=decide (1 ≤ x.key.length ∧ x.key.length ≤ 16) && rightV ⟨x.rep,x.cnt⟩ && decide (1 ≤ x.rank) && decide (x.rank ≤ 1099511627776) && decide (0 ≤ x.prio) && decide (x.prio ≤ 255) && decide (x.body.length ≤ 64) && (!x.dead || x.body == [])
def goI:Option (List UInt8) → List It → Bool
 | _,[]=>true
 | p,x :: l=>rightI x && (match p with | none=>true | some k=>ltB k x.key) && goI (some x.key) l
def rightL18 (l:List It):Bool:=goI none l
def twiceI (l:List It) (i:Nat):Bool:=(l.take i).any fun y=>match l[i]? with | some x=>decide (y.rep = x.rep ∧ y.cnt = x.cnt) | none=>false
structure Sta where
 id:Int
 fl:List Rng
 its:List It
 kn:List Pc
 ct:Int
def Sta.cells (s:Sta):List A:=[.int .i64 s.id,.slc (s.fl.map Rng.enc),.slc (s.its.map It.enc),.slc (s.kn.map Pc.enc),.int .i64 s.ct]
def Sta.enc (s:Sta):A:=.agg s.cells
theorem Sta.enc_inj (r s:Sta) (h:r.enc = s.enc):r = s:=by
 obtain ⟨a,b,c,d,e⟩:=r
 obtain ⟨a',b',c',d',e'⟩:=s
 simpa [Sta.enc,Sta.cells] using h
@[simp] theorem Sta.enc_iff {r s:Sta}:(r.enc = s.enc) = (r = s):=propext ⟨Sta.enc_inj r s,fun h=>by rw [h]⟩
def longI (l:List It) (m:Int):Bool:=decide (m < (l.length:Int)) || l.any fun x=>decide (60 < x.key.length) || decide (200 < x.body.length)
theorem longI_len {l:List It} {m:Int} (h:longI l m = false):¬ m < (l.length:Int):=by
 unfold longI at h
 simp only [Bool.or_eq_false_iff,decide_eq_false_iff_not] at h
 exact h.1
structure Fd where
 code:Int
 at_:Int
 deriving DecidableEq
def Fd.enc (x:Fd):A:=.agg [.int .i64 x.code,.int .i64 x.at_]
theorem Fd.enc_inj (r s:Fd) (h:r.enc = s.enc):r = s:=by
 obtain ⟨a,b⟩:=r
 obtain ⟨a',b'⟩:=s
 simpa [Fd.enc] using h
@[simp] theorem Fd.enc_iff {r s:Fd}:(r.enc = s.enc) = (r = s):=propext ⟨Fd.enc_inj r s,fun h=>by rw [h]⟩
@[simp] theorem map_Fd_inj {l m:List Fd}:(l.map Fd.enc = m.map Fd.enc) = (l = m):=map_inj Fd.enc_inj
theorem fd_get {l:List Fd} {k:Nat} (h:k < l.length):(l.map Fd.enc)[k]? = some (.agg [.int .i64 l[k].code,.int .i64 l[k].at_]):=by
 rw [List.getElem?_map,List.getElem?_eq_getElem h]; rfl
def ltF (x y:Fd):Bool:=decide (x.code < y.code) || (decide (x.code = y.code) && decide (x.at_ < y.at_))
theorem ltF_irrefl (x:Fd):ltF x x = false:=by simp [ltF]
theorem ltF_trans {x y z:Fd} (h:ltF x y = true) (h':ltF y z = true):ltF x z = true:=by
 simp only [ltF,Bool.or_eq_true,Bool.and_eq_true,decide_eq_true_eq] at *
 omega
theorem ltF_total {x y:Fd} (h:ltF x y = false) (h':ltF y x = false):x = y:=by
 obtain ⟨a,b⟩:=x
 obtain ⟨c,d⟩:=y
 simp only [ltF,Bool.or_eq_false_iff,Bool.and_eq_false_iff,decide_eq_false_iff_not] at *
 have e1:a = c:=by omega
 have e2:b = d:=by omega
 rw [e1,e2]
theorem up_same {V:Type} {lt:V → V → Prop} (irr:∀ x,¬ lt x x) (tr:∀ x y z,lt x y → lt y z → lt x z):∀ {a b:List V},a.Pairwise lt → b.Pairwise lt → (∀ x,x ∈ a ↔ x ∈ b) → a = b
 | [],[],_,_,_=>rfl
 | [],y :: b,_,_,h=>by have:=(h y).2 (by simp); cases this
 | x :: a,[],_,_,h=>by have:=(h x).1 (by simp); cases this
 | x :: a,y :: b,ha,hb,h=>by
  have ha':=List.pairwise_cons.1 ha
  have hb':=List.pairwise_cons.1 hb
  have hxy:x = y:=by
   rcases List.mem_cons.1 ((h x).1 (by simp)) with e | e
   ·exact e
   ·rcases List.mem_cons.1 ((h y).2 (by simp)) with f | f
    ·exact f.symm
    ·exact absurd (tr _ _ _ (ha'.1 y f) (hb'.1 x e)) (irr x)
  subst hxy
  congr 1
  refine up_same irr tr ha'.2 hb'.2 fun z=>⟨fun hz=>?_,fun hz=>?_⟩
  ·rcases List.mem_cons.1 ((h z).1 (List.mem_cons_of_mem _ hz)) with e | e
   ·subst e; exact absurd (ha'.1 z hz) (irr z)
   ·exact e
  ·rcases List.mem_cons.1 ((h z).2 (List.mem_cons_of_mem _ hz)) with e | e
   ·subst e; exact absurd (hb'.1 z hz) (irr z)
   ·exact e
noncomputable def mostP (p:Pc) (id:Int):Int:=if repOK id = true then mostR (setR (hasL13 (runsK p.s id))) else 0
noncomputable def outP (p:Pc) (F:List Rng):Bool:=!sameP (setP (restP [p] F)) (setP (atP [p]))
def aloneF (s:Sta) (c:Int):Bool:=
 if c == 1 then decide (s.id < 1) || decide (16 < s.id)
 else if c == 2 then decide (s.ct < 0) || decide (1099511627776 < s.ct)
 else if c == 3 then !rightRs s.fl
 else if c == 9 then !rightP s.kn
 else if c == 12 then decide (4096 < s.its.length)
 else false
def behindI (l:List It) (i:Nat):Bool:=match i with | 0=>false | j + 1=>match l[j]?,l[j + 1]? with | some y,some x=>!ltB y.key x.key | _,_=>false
def itemF (s:Sta) (c:Int) (i:Nat):Bool:=
 match s.its[i]? with
 | none=>false
 | some x=>
  if c == 4 then !rightI x
  else if c == 5 then behindI s.its i
  else if c == 6 then !hasRs s.fl x.key
  else if c == 7 then !hasP s.kn x.key x.rep x.cnt
  else if c == 8 then twiceI s.its i
  else false
noncomputable def pieceF (s:Sta) (c:Int) (i:Nat):Bool:=
 match s.kn[i]? with
 | none=>false
 | some p=>if c == 10 then outP p s.fl else if c == 11 then decide (s.ct < mostP p s.id) else false
theorem aloneF_code {s:Sta} {c:Int} (h:aloneF s c = true):c = 1 ∨ c = 2 ∨ c = 3 ∨ c = 9 ∨ c = 12:=by
 unfold aloneF at h
 simp only [beq_iff_eq] at h
 repeat' split at h
 all_goals first | omega | cases h
theorem itemF_code {s:Sta} {c:Int} {i:Nat} (h:itemF s c i = true):4 ≤ c ∧ c ≤ 8 ∧ i < s.its.length:=by
 unfold itemF at h
 split at h
 ·cases h
 ·rename_i x hx
  have hi:=(List.getElem?_eq_some_iff.1 hx).1
  simp only [beq_iff_eq] at h
  repeat' split at h
  all_goals first | (cases h; done) | (refine ⟨by omega,by omega,hi⟩)
theorem pieceF_code {s:Sta} {c:Int} {i:Nat} (h:pieceF s c i = true):10 ≤ c ∧ c ≤ 11 ∧ i < s.kn.length:=by
 unfold pieceF at h
 split at h
 ·cases h
 ·rename_i x hx
  have hi:=(List.getElem?_eq_some_iff.1 hx).1
  simp only [beq_iff_eq] at h
  repeat' split at h
  all_goals first | (cases h; done) | (refine ⟨by omega,by omega,hi⟩)
def fdAt (c:Int) (f:Nat → Bool) (n:Nat):List Fd:=((List.range n).filter f).map fun i:Nat=>⟨c,(i:Int)⟩
noncomputable def codeF (s:Sta) (c:Int):List Fd:=(if aloneF s c then [⟨c,0⟩] else []) ++ fdAt c (itemF s c) s.its.length ++ fdAt c (pieceF s c) s.kn.length
noncomputable def allF (s:Sta):Nat → List Fd
 | 0=>[]
 | n + 1=>allF s n ++ codeF s ((n:Int) + 1)
theorem fdAt_mem {c:Int} {f:Nat → Bool} {n:Nat} {x:Fd}:x ∈ fdAt c f n ↔ x.code = c ∧ ∃ i,i < n ∧ f i = true ∧ x.at_ = (i:Int):=by
 unfold fdAt
 simp only [List.mem_map,List.mem_filter,List.mem_range]
 constructor
 ·rintro ⟨i,⟨h1,h2⟩,rfl⟩; exact ⟨rfl,i,h1,h2,rfl⟩
 ·rintro ⟨h,i,h1,h2,h3⟩
  refine ⟨i,⟨h1,h2⟩,?_⟩
  cases x; simp only at h h3; rw [h,h3]
theorem fdAt_succ {c:Int} {f:Nat → Bool} {n:Nat}:fdAt c f (n + 1) = fdAt c f n ++ (if f n then [⟨c,(n:Int)⟩] else []):=by
 unfold fdAt
 rw [List.range_succ,List.filter_append,List.map_append]
 cases h:f n <;> simp [h]
theorem fdAt_len (c:Int) (f:Nat → Bool) (n:Nat):(fdAt c f n).length ≤ n:=by
 unfold fdAt
 rw [List.length_map]
 exact Nat.le_trans (List.length_filter_le _ _) (by simp)
theorem fdAt_up (c:Int) (f:Nat → Bool) (n:Nat):(fdAt c f n).Pairwise fun x y=>ltF x y = true:=by
 unfold fdAt
 rw [List.pairwise_map]
 refine List.Pairwise.filter _ ?_
 refine List.Pairwise.imp ?_ List.pairwise_lt_range
 intro a b h
 simp [ltF]; omega
theorem codeF_mem {s:Sta} {c:Int} {x:Fd}:x ∈ codeF s c ↔ x.code = c ∧ ((aloneF s c = true ∧ x.at_ = 0) ∨ (∃ i,itemF s c i = true ∧ x.at_ = (i:Int)) ∨ (∃ i,pieceF s c i = true ∧ x.at_ = (i:Int))):=by
 unfold codeF
 simp only [List.mem_append,fdAt_mem]
 constructor
 ·rintro ((h | ⟨h,i,h1,h2,h3⟩) | ⟨h,i,h1,h2,h3⟩)
  ·split at h
   ·rename_i ha
    obtain rfl:=List.mem_singleton.1 h
    exact ⟨rfl,.inl ⟨ha,rfl⟩⟩
   ·cases h
  ·exact ⟨h,.inr (.inl ⟨i,h2,h3⟩)⟩
  ·exact ⟨h,.inr (.inr ⟨i,h2,h3⟩)⟩
 ·rintro ⟨h,⟨h1,h2⟩ | ⟨i,h1,h2⟩ | ⟨i,h1,h2⟩⟩
  ·refine .inl (.inl ?_)
   rw [if_pos h1]
   cases x; simp only at h h2; rw [h,h2]; simp
  ·exact .inl (.inr ⟨h,i,(itemF_code h1).2.2,h1,h2⟩)
  ·exact .inr ⟨h,i,(pieceF_code h1).2.2,h1,h2⟩
theorem codeF_up (s:Sta) (c:Int):(codeF s c).Pairwise fun x y=>ltF x y = true:=by
 unfold codeF
 rw [List.pairwise_append,List.pairwise_append]
 refine ⟨⟨by split <;> simp,fdAt_up _ _ _,?_⟩,fdAt_up _ _ _,?_⟩
 ·intro a ha b hb
  split at ha
  ·rename_i h1
   obtain ⟨_,i,_,h2,_⟩:=fdAt_mem.1 hb
   have:=aloneF_code h1
   have:=itemF_code h2
   omega
  ·cases ha
 ·intro a ha b hb
  obtain ⟨_,i,_,h2,_⟩:=fdAt_mem.1 hb
  have:=pieceF_code h2
  rcases List.mem_append.1 ha with ha | ha
  ·split at ha
   ·rename_i h1
    have:=aloneF_code h1
    omega
   ·cases ha
  ·obtain ⟨_,j,_,h3,_⟩:=fdAt_mem.1 ha
   have:=itemF_code h3
   omega
theorem allF_mem {s:Sta} {x:Fd}:∀ {n:Nat},x ∈ allF s n ↔ 1 ≤ x.code ∧ x.code ≤ (n:Int) ∧ x ∈ codeF s x.code
 | 0=>by simp only [allF,List.not_mem_nil,false_iff]; omega
 | n + 1=>by
  simp only [allF,List.mem_append,allF_mem (n:=n)]
  constructor
  ·rintro (⟨h1,h2,h3⟩ | h)
   ·exact ⟨h1,by omega,h3⟩
   ·have e:=(codeF_mem.1 h).1
    exact ⟨by omega,by omega,by rw [e]; exact h⟩
  ·rintro ⟨h1,h2,h3⟩
   by_cases e:x.code = (n:Int) + 1
   ·exact .inr (by rw [← e]; exact h3)
   ·exact .inl ⟨h1,by omega,h3⟩
theorem allF_up (s:Sta):∀ n,(allF s n).Pairwise fun x y=>ltF x y = true
 | 0=>List.Pairwise.nil
 | n + 1=>by
  simp only [allF]
  rw [List.pairwise_append]
  refine ⟨allF_up s n,codeF_up s _,fun a ha b hb=>?_⟩
  have h1:=(allF_mem.1 ha).2.1
  have h2:=(codeF_mem.1 hb).1
  simp [ltF]; omega
theorem allF_len (s:Sta):∀ n,(allF s n).length ≤ n * (1 + s.its.length + s.kn.length)
 | 0=>by simp [allF]
 | n + 1=>by
  have:=allF_len s n
  have h1:=fdAt_len ((n:Int) + 1) (itemF s ((n:Int) + 1)) s.its.length
  have h2:=fdAt_len ((n:Int) + 1) (pieceF s ((n:Int) + 1)) s.kn.length
  simp only [allF,codeF,List.length_append]
  have h3:(if aloneF s ((n:Int) + 1) = true then [(⟨(n:Int) + 1,0⟩:Fd)] else []).length ≤ 1:=by split <;> simp
  rw [Nat.add_mul]
  omega
def noteF (l:List Fd) (is:Bool) (c a:Int):List Fd:=if is && !(l.any fun y=>decide (y = ⟨c,a⟩)) then l ++ [⟨c,a⟩] else l
theorem noteF_mem {l:List Fd} {is:Bool} {c a:Int} {x:Fd}:x ∈ noteF l is c a ↔ x ∈ l ∨ (is = true ∧ x = ⟨c,a⟩):=by
 unfold noteF
 split
 ·rename_i h
  simp only [Bool.and_eq_true] at h
  rw [List.mem_append,List.mem_singleton]
  exact ⟨fun h'=>h'.imp id fun e=>⟨h.1,e⟩,fun h'=>h'.imp id And.right⟩
 ·rename_i h
  refine ⟨.inl,?_⟩
  rintro (h' | ⟨h1,rfl⟩)
  ·exact h'
  ·rw [h1,Bool.true_and] at h
   simpa using h
theorem noteF_nodup {l:List Fd} {is:Bool} {c a:Int} (h:l.Nodup):(noteF l is c a).Nodup:=by
 unfold noteF
 split
 ·rename_i h1
  simp only [Bool.and_eq_true] at h1
  rw [List.nodup_append]
  refine ⟨h,by simp,?_⟩
  rintro x hx y hy rfl
  obtain rfl:=List.mem_singleton.1 hy
  have:=h1.2
  simp only [Bool.not_eq_true',List.any_eq_false,decide_eq_true_eq] at this
  exact this _ hx rfl
 ·exact h
theorem noteF_len (l:List Fd) (is:Bool) (c a:Int):(noteF l is c a).length ≤ l.length + 1:=by
 unfold noteF; split <;> simp
noncomputable def note1 (s:Sta) (l:List Fd) (i:Nat):List Fd:=
 noteF (noteF (noteF (noteF (noteF l (itemF s 4 i) 4 i) (itemF s 5 i) 5 i) (itemF s 6 i) 6 i) (itemF s 7 i) 7 i) (itemF s 8 i) 8 i
noncomputable def note2 (s:Sta) (l:List Fd) (i:Nat):List Fd:=noteF (noteF l (pieceF s 10 i) 10 i) (pieceF s 11 i) 11 i
noncomputable def notes1 (s:Sta) (l:List Fd):Nat → List Fd
 | 0=>l
 | n + 1=>note1 s (notes1 s l n) n
noncomputable def notes2 (s:Sta) (l:List Fd):Nat → List Fd
 | 0=>l
 | n + 1=>note2 s (notes2 s l n) n
noncomputable def noted (s:Sta):List Fd:=
 noteF (notes2 s (noteF (notes1 s (noteF (noteF (noteF [] (aloneF s 1) 1 0) (aloneF s 2) 2 0) (aloneF s 3) 3 0) s.its.length) (aloneF s 9) 9 0) s.kn.length) (aloneF s 12) 12 0
theorem notes1_mem {s:Sta} {l:List Fd} {x:Fd}:∀ {n:Nat},x ∈ notes1 s l n ↔ x ∈ l ∨ ∃ i,i < n ∧ ∃ c:Int,4 ≤ c ∧ c ≤ 8 ∧ itemF s c i = true ∧ x = ⟨c,i⟩
 | 0=>by simp [notes1]
 | n + 1=>by
  simp only [notes1,note1,noteF_mem,notes1_mem (n:=n)]
  constructor
  ·rintro ((((((h | ⟨i,hi,h⟩) | h) | h) | h) | h) | h)
   ·exact .inl h
   ·exact .inr ⟨i,by omega,h⟩
   all_goals exact .inr ⟨n,by omega,_,by decide,by decide,h.1,h.2⟩
  ·rintro (h | ⟨i,hi,c,h1,h2,h3,rfl⟩)
   ·simp [h]
   ·by_cases e:i = n
    ·subst e
     have:c = 4 ∨ c = 5 ∨ c = 6 ∨ c = 7 ∨ c = 8:=by omega
     rcases this with rfl | rfl | rfl | rfl | rfl <;> simp [h3]
    ·exact .inl (.inl (.inl (.inl (.inl (.inr ⟨i,by omega,c,h1,h2,h3,rfl⟩)))))
theorem notes2_mem {s:Sta} {l:List Fd} {x:Fd}:∀ {n:Nat},x ∈ notes2 s l n ↔ x ∈ l ∨ ∃ i,i < n ∧ ∃ c:Int,10 ≤ c ∧ c ≤ 11 ∧ pieceF s c i = true ∧ x = ⟨c,i⟩
 | 0=>by simp [notes2]
 | n + 1=>by
  simp only [notes2,note2,noteF_mem,notes2_mem (n:=n)]
  constructor
  ·rintro (((h | ⟨i,hi,h⟩) | h) | h)
   ·exact .inl h
   ·exact .inr ⟨i,by omega,h⟩
   all_goals exact .inr ⟨n,by omega,_,by decide,by decide,h.1,h.2⟩
  ·rintro (h | ⟨i,hi,c,h1,h2,h3,rfl⟩)
   ·simp [h]
   ·by_cases e:i = n
    ·subst e
     have:c = 10 ∨ c = 11:=by omega
     rcases this with rfl | rfl <;> simp [h3]
    ·exact .inl (.inl (.inr ⟨i,by omega,c,h1,h2,h3,rfl⟩))
theorem notes1_nodup {s:Sta} {l:List Fd} (h:l.Nodup):∀ n,(notes1 s l n).Nodup
 | 0=>h
 | n + 1=>noteF_nodup (noteF_nodup (noteF_nodup (noteF_nodup (noteF_nodup (notes1_nodup h n)))))
theorem notes2_nodup {s:Sta} {l:List Fd} (h:l.Nodup):∀ n,(notes2 s l n).Nodup
 | 0=>h
 | n + 1=>noteF_nodup (noteF_nodup (notes2_nodup h n))
theorem noted_nodup (s:Sta):(noted s).Nodup:=
 noteF_nodup (notes2_nodup (noteF_nodup (notes1_nodup (noteF_nodup (noteF_nodup (noteF_nodup List.nodup_nil))) _)) _)
theorem noted_mem {s:Sta} {x:Fd}:x ∈ noted s ↔ x ∈ allF s 12:=by
 rw [allF_mem,codeF_mem]
 unfold noted
 simp only [noteF_mem,notes1_mem,notes2_mem,List.not_mem_nil,false_or]
 constructor
 ·rintro ((((((⟨h,rfl⟩ | ⟨h,rfl⟩) | ⟨h,rfl⟩) | ⟨i,hi,c,h1,h2,h3,rfl⟩) | ⟨h,rfl⟩) | ⟨i,hi,c,h1,h2,h3,rfl⟩) | ⟨h,rfl⟩)
  ·exact ⟨by decide,by decide,trivial,.inl ⟨h,rfl⟩⟩
  ·exact ⟨by decide,by decide,trivial,.inl ⟨h,rfl⟩⟩
  ·exact ⟨by decide,by decide,trivial,.inl ⟨h,rfl⟩⟩
  ·exact ⟨by show 1 ≤ c; omega,by show c ≤ 12; omega,trivial,.inr (.inl ⟨i,h3,rfl⟩)⟩
  ·exact ⟨by decide,by decide,trivial,.inl ⟨h,rfl⟩⟩
  ·exact ⟨by show 1 ≤ c; omega,by show c ≤ 12; omega,trivial,.inr (.inr ⟨i,h3,rfl⟩)⟩
  ·exact ⟨by decide,by decide,trivial,.inl ⟨h,rfl⟩⟩
 ·obtain ⟨c,a⟩:=x
  rintro ⟨_,_,_,⟨h1,h2⟩ | ⟨i,h1,h2⟩ | ⟨i,h1,h2⟩⟩
  ·simp only at h1 h2
   subst h2
   rcases aloneF_code h1 with rfl | rfl | rfl | rfl | rfl <;> simp [h1]
  ·simp only at h1 h2
   subst h2
   obtain ⟨g1,g2,g3⟩:=itemF_code h1
   exact .inl (.inl (.inl (.inr ⟨i,g3,c,g1,g2,h1,rfl⟩)))
  ·simp only at h1 h2
   subst h2
   obtain ⟨g1,g2,g3⟩:=pieceF_code h1
   exact .inl (.inr ⟨i,g3,c,g1,g2,h1,rfl⟩)
theorem noted_sorted {s:Sta} {r:List Fd} (hp:r.Perm (noted s)) (hs:r.Pairwise fun x y=>ltF y x = false):r = allF s 12:=by
 refine up_same (lt:=fun x y=>ltF x y = true) (fun x=>by simp [ltF_irrefl]) (fun x y z=>ltF_trans) ?_ (allF_up s 12) fun x=>by rw [hp.mem_iff,noted_mem]
 have hn:r.Nodup:=hp.nodup_iff.2 (noted_nodup s)
 refine (List.Pairwise.and hs hn).imp fun {a b} h=>?_
 cases h1:ltF a b with
 | true=>rfl
 | false=>exact absurd (ltF_total h1 h.1) h.2
theorem notes1_len (s:Sta) (l:List Fd):∀ n,(notes1 s l n).length ≤ l.length + 5 * n
 | 0=>Nat.le_refl _
 | n + 1=>by
  have:=notes1_len s l n
  simp only [notes1,note1]
  have h1:=noteF_len (notes1 s l n) (itemF s 4 n) 4 n
  generalize noteF (notes1 s l n) (itemF s 4 n) 4 n = a at *
  have h2:=noteF_len a (itemF s 5 n) 5 n
  generalize noteF a (itemF s 5 n) 5 n = b at *
  have h3:=noteF_len b (itemF s 6 n) 6 n
  generalize noteF b (itemF s 6 n) 6 n = c at *
  have h4:=noteF_len c (itemF s 7 n) 7 n
  generalize noteF c (itemF s 7 n) 7 n = d at *
  have h5:=noteF_len d (itemF s 8 n) 8 n
  omega
theorem notes2_len (s:Sta) (l:List Fd):∀ n,(notes2 s l n).length ≤ l.length + 2 * n
 | 0=>Nat.le_refl _
 | n + 1=>by
  have:=notes2_len s l n
  simp only [notes2,note2]
  have h1:=noteF_len (notes2 s l n) (pieceF s 10 n) 10 n
  generalize noteF (notes2 s l n) (pieceF s 10 n) 10 n = a at *
  have h2:=noteF_len a (pieceF s 11 n) 11 n
  omega
theorem rest_at_iff {k:List Pc} {F:List Rng}:restP k F = atP k ↔ ∀ x n,repOK n = true → ∀ c,hk (setAt k x) n c = true → hasRs F x = true:=by
 constructor
 ·intro h x n hn c hc
  have h1:=hk_restP (k:=k) (l:=F) (x:=x) hn c
  rw [h,hk_atP hn,hc,Bool.and_true] at h1
  exact h1.symm
 ·intro h
  funext x
  unfold restP
  split
  ·rfl
  ·rename_i hx
   have:∀ n,repOK n = true → ∀ c,hk (setAt k x) n c = false:=fun n hn c=>by
    cases h1:hk (setAt k x) n c with
    | false=>rfl
    | true=>exact absurd (h x n hn c h1) hx
   unfold atP ofK
   exact (mkT_nil fun n hn=>setR_none fun c=>this n hn c).symm
theorem setAt_mem {k:List Pc} {x:List UInt8} {n c:Int}:hk (setAt k x) n c = true ↔ ∃ p ∈ k,hk (setAt [p] x) n c = true:=by
 induction k with
 | nil=>simp [setAt,hk,runsK,hasL13]
 | cons p k ih=>
  have e:setAt (p :: k) x = setAt [p] x ++ setAt k x:=setAt_append [p] k x
  rw [e,hk_append,Bool.or_eq_true,ih]
  simp
theorem outP_iff {p:Pc} {F:List Rng}:outP p F = false ↔ ∀ x n,repOK n = true → ∀ c,hk (setAt [p] x) n c = true → hasRs F x = true:=by
 rw [← rest_at_iff]
 unfold outP sameP
 rw [Bool.not_eq_false',decide_eq_true_iff,setP_inj (isP_rest _ _) (isP_at _)]
theorem in_iff {k:List Pc} {F:List Rng} (h:rightP k = true):sameP (setP (restP k F)) k = true ↔ ∀ p ∈ k,outP p F = false:=by
 have e:sameP (setP (restP k F)) k = sameP (setP (restP k F)) (setP (atP k)):=by rw [ofP_right h]
 rw [e]
 unfold sameP
 rw [decide_eq_true_iff,setP_inj (isP_rest _ _) (isP_at _),rest_at_iff]
 constructor
 ·intro g p hp
  exact outP_iff.2 fun x n hn c hc=>g x n hn c (setAt_mem.2 ⟨p,hp,hc⟩)
 ·intro g x n hn c hc
  obtain ⟨p,hp,h1⟩:=setAt_mem.1 hc
  exact outP_iff.1 (g p hp) x n hn c h1
noncomputable def mostK (k:List Pc) (id:Int):Int:=k.foldl (fun n p=>max n (mostP p id)) 0
theorem mostK_le {id b:Int}:∀ {k:List Pc} {n:Int},k.foldl (fun n p=>max n (mostP p id)) n ≤ b ↔ n ≤ b ∧ ∀ p ∈ k,mostP p id ≤ b
 | [],n=>by simp
 | p :: k,n=>by
  simp only [List.foldl_cons,mostK_le (k:=k),List.mem_cons,forall_eq_or_imp,Int.max_le,and_assoc]
def apartI (l:List It):Bool:=(List.range l.length).all fun i=>!twiceI l i
noncomputable def rightS (s:Sta):Bool:=
 !aloneF s 1 && !aloneF s 2 && decide (s.its.length ≤ 4096) && rightRs s.fl && rightL18 s.its && rightP s.kn && sameP (setP (restP s.kn s.fl)) s.kn && decide (mostK s.kn s.id ≤ s.ct) && apartI s.its && s.its.all fun x=>hasRs s.fl x.key && hasP s.kn x.key x.rep x.cnt
theorem goI_iff:∀ {l:List It} {p:Option (List UInt8)},goI p l = true ↔ (∀ i,i < l.length → ∃ x,l[i]? = some x ∧ rightI x = true ∧ (match i with | 0=>(match p with | none=>True | some k=>ltB k x.key = true) | j + 1=>∃ y,l[j]? = some y ∧ ltB y.key x.key = true))
 | [],p=>by simp [goI]
 | x :: l,p=>by
  simp only [goI,Bool.and_eq_true,goI_iff (l:=l)]
  constructor
  ·rintro ⟨⟨h1,h2⟩,h3⟩ i hi
   cases i with
   | zero=>
    refine ⟨x,rfl,h1,?_⟩
    cases p with
    | none=>trivial
    | some k=>exact h2
   | succ i=>
    obtain ⟨z,g1,g2,g3⟩:=h3 i (by simpa using hi)
    refine ⟨z,by simpa using g1,g2,?_⟩
    cases i with
    | zero=>exact ⟨x,rfl,g3⟩
    | succ j=>
     obtain ⟨y,k1,k2⟩:=g3
     exact ⟨y,by simpa using k1,k2⟩
  ·intro h
   obtain ⟨z,g1,g2,g3⟩:=h 0 (by simp)
   obtain rfl:x = z:=by simpa using g1
   refine ⟨⟨g2,?_⟩,fun i hi=>?_⟩
   ·cases p with
    | none=>rfl
    | some k=>exact g3
   ·obtain ⟨z,k1,k2,k3⟩:=h (i + 1) (by simpa using hi)
    refine ⟨z,by simpa using k1,k2,?_⟩
    cases i with
    | zero=>
     obtain ⟨y,m1,m2⟩:=k3
     obtain rfl:x = y:=by simpa using m1
     exact m2
    | succ j=>
     obtain ⟨y,m1,m2⟩:=k3
     exact ⟨y,by simpa using m1,m2⟩
theorem rightL18_iff {s:Sta}:rightL18 s.its = true ↔ ∀ i,itemF s 4 i = false ∧ itemF s 5 i = false:=by
 unfold rightL18
 rw [goI_iff]
 constructor
 ·intro h i
  by_cases hi:i < s.its.length
  ·obtain ⟨x,h1,h2,h3⟩:=h i hi
   refine ⟨by simp [itemF,h1,h2],?_⟩
   cases i with
   | zero=>simp [itemF,h1,behindI]
   | succ j=>
    obtain ⟨y,g1,g2⟩:=h3
    simp [itemF,h1,behindI,g1,g2]
  ·have:s.its[i]? = none:=List.getElem?_eq_none (by omega)
   simp [itemF,this]
 ·intro h i hi
  obtain ⟨h1,h2⟩:=h i
  have e:s.its[i]? = some s.its[i]:=List.getElem?_eq_getElem hi
  refine ⟨_,e,?_,?_⟩
  ·simpa [itemF,e] using h1
  ·cases i with
   | zero=>trivial
   | succ j=>
    have e':s.its[j]? = some s.its[j]:=List.getElem?_eq_getElem (by omega)
    refine ⟨_,e',?_⟩
    simpa [itemF,e,behindI,e'] using h2
theorem fd_nil {s:Sta}:allF s 12 = [] ↔ (∀ c,aloneF s c = false) ∧ (∀ c i,itemF s c i = false) ∧ ∀ c i,pieceF s c i = false:=by
 rw [List.eq_nil_iff_forall_not_mem]
 constructor
 ·intro h
  refine ⟨fun c=>?_,fun c i=>?_,fun c i=>?_⟩
  ·cases h1:aloneF s c with
   | false=>rfl
   | true=>exact absurd (allF_mem.2 ⟨by have:=aloneF_code h1; show 1 ≤ c; omega,by have:=aloneF_code h1; show c ≤ 12; omega,codeF_mem.2 ⟨rfl,.inl ⟨h1,rfl⟩⟩⟩) (h ⟨c,0⟩)
  ·cases h1:itemF s c i with
   | false=>rfl
   | true=>exact absurd (allF_mem.2 ⟨by have:=itemF_code h1; show 1 ≤ c; omega,by have:=itemF_code h1; show c ≤ 12; omega,codeF_mem.2 ⟨rfl,.inr (.inl ⟨i,h1,rfl⟩)⟩⟩) (h ⟨c,i⟩)
  ·cases h1:pieceF s c i with
   | false=>rfl
   | true=>exact absurd (allF_mem.2 ⟨by have:=pieceF_code h1; show 1 ≤ c; omega,by have:=pieceF_code h1; show c ≤ 12; omega,codeF_mem.2 ⟨rfl,.inr (.inr ⟨i,h1,rfl⟩)⟩⟩) (h ⟨c,i⟩)
 ·rintro ⟨h1,h2,h3⟩ x hx
  obtain ⟨_,⟨g,_⟩ | ⟨i,g,_⟩ | ⟨i,g,_⟩⟩:=codeF_mem.1 (allF_mem.1 hx).2.2
  ·rw [h1] at g; cases g
  ·rw [h2] at g; cases g
  ·rw [h3] at g; cases g
theorem item67 {s:Sta}:(s.its.all fun x=>hasRs s.fl x.key && hasP s.kn x.key x.rep x.cnt) = true ↔ ∀ i,itemF s 6 i = false ∧ itemF s 7 i = false:=by
 rw [List.all_eq_true]
 constructor
 ·intro h i
  by_cases hi:i < s.its.length
  ·have e:s.its[i]? = some s.its[i]:=List.getElem?_eq_getElem hi
   have:=h _ (List.getElem_mem hi)
   rw [Bool.and_eq_true] at this
   simp [itemF,e,this.1,this.2]
  ·have:s.its[i]? = none:=List.getElem?_eq_none (by omega)
   simp [itemF,this]
 ·intro h x hx
  obtain ⟨i,hi⟩:=List.getElem?_of_mem hx
  have:=h i
  simpa [itemF,hi] using this
theorem item8 {s:Sta}:apartI s.its = true ↔ ∀ i,itemF s 8 i = false:=by
 unfold apartI
 rw [List.all_eq_true]
 constructor
 ·intro h i
  by_cases hi:i < s.its.length
  ·have e:s.its[i]? = some s.its[i]:=List.getElem?_eq_getElem hi
   have:=h i (List.mem_range.2 hi)
   simp [itemF,e]
   simpa using this
  ·have:s.its[i]? = none:=List.getElem?_eq_none (by omega)
   simp [itemF,this]
 ·intro h i hi
  have hi:=List.mem_range.1 hi
  have e:s.its[i]? = some s.its[i]:=List.getElem?_eq_getElem hi
  have:=h i
  simpa [itemF,e] using this
theorem piece10 {s:Sta}:(∀ p ∈ s.kn,outP p s.fl = false) ↔ ∀ i,pieceF s 10 i = false:=by
 constructor
 ·intro h i
  unfold pieceF
  split
  ·rfl
  ·rename_i p hp; simp [h p (List.mem_of_getElem? hp)]
 ·intro h p hp
  obtain ⟨i,hi⟩:=List.getElem?_of_mem hp
  simpa [pieceF,hi] using h i
theorem piece11 {s:Sta}:(∀ p ∈ s.kn,mostP p s.id ≤ s.ct) ↔ ∀ i,pieceF s 11 i = false:=by
 constructor
 ·intro h i
  unfold pieceF
  split
  ·rfl
  ·rename_i p hp
   have:=h p (List.mem_of_getElem? hp)
   simp; omega
 ·intro h p hp
  obtain ⟨i,hi⟩:=List.getElem?_of_mem hp
  have:=h i
  simp [pieceF,hi] at this
  omega
theorem rightS_iff (s:Sta):rightS s = decide (allF s 12 = []):=by
 rw [Bool.eq_iff_iff,decide_eq_true_iff,fd_nil]
 unfold rightS
 simp only [Bool.and_eq_true,Bool.not_eq_true',decide_eq_true_eq,rightL18_iff,item67,item8]
 constructor
 ·rintro ⟨⟨⟨⟨⟨⟨⟨⟨⟨h1,h2⟩,h3⟩,h4⟩,h5⟩,h6⟩,h7⟩,h8⟩,h9⟩,h10⟩
  rw [in_iff h6,piece10] at h7
  unfold mostK at h8
  rw [mostK_le] at h8
  have h8:=piece11.1 h8.2
  refine ⟨fun c=>?_,fun c i=>?_,fun c i=>?_⟩
  ·cases g:aloneF s c with
   | false=>rfl
   | true=>
    rcases aloneF_code g with rfl | rfl | rfl | rfl | rfl
    ·rw [h1] at g; cases g
    ·rw [h2] at g; cases g
    ·simp [aloneF,h4] at g
    ·simp [aloneF,h6] at g
    ·simp [aloneF] at g; omega
  ·cases g:itemF s c i with
   | false=>rfl
   | true=>
    have:=itemF_code g
    have:c = 4 ∨ c = 5 ∨ c = 6 ∨ c = 7 ∨ c = 8:=by omega
    rcases this with rfl | rfl | rfl | rfl | rfl
    ·rw [(h5 i).1] at g; cases g
    ·rw [(h5 i).2] at g; cases g
    ·rw [(h10 i).1] at g; cases g
    ·rw [(h10 i).2] at g; cases g
    ·rw [h9 i] at g; cases g
  ·cases g:pieceF s c i with
   | false=>rfl
   | true=>
    have:=pieceF_code g
    have:c = 10 ∨ c = 11:=by omega
    rcases this with rfl | rfl
    ·rw [h7 i] at g; cases g
    ·rw [h8 i] at g; cases g
 ·rintro ⟨h1,h2,h3⟩
  have a3:=h1 3
  have a9:=h1 9
  have a12:=h1 12
  have a2:=h1 2
  simp [aloneF] at a3 a9 a12 a2
  refine ⟨⟨⟨⟨⟨⟨⟨⟨⟨h1 1,h1 2⟩,a12⟩,a3⟩,fun i=>⟨h2 4 i,h2 5 i⟩⟩,a9⟩,?_⟩,?_⟩,fun i=>h2 8 i⟩,fun i=>⟨h2 6 i,h2 7 i⟩⟩
  ·rw [in_iff a9,piece10]; exact fun i=>h3 10 i
  ·unfold mostK
   rw [mostK_le]
   exact ⟨by omega,piece11.2 fun i=>h3 11 i⟩
set_option maxRecDepth 20000
set_option maxHeartbeats 8000000
theorem ok_item_Right:codeOK Tryz.prog L15i Tryz.f77.ntmps (Tryz.f77.body.getD .skip) = true:=by kernel_rfl
theorem c_item_Right (x:It) (h:x.ok):CallA Tryz.prog 77 [x.enc] (· = .bool (rightI x)):=by
 refine callA_of_body L15i_ok mixed Tryz.func77 rfl (Nat.le_of_ble_eq_true rfl) ok_item_Right ?_
 unfold Tryz.f77
 obtain ⟨key,rep,cnt,rank,prio,dead,body⟩:=x
 obtain ⟨h1,h2⟩:=h
 simp only [It.enc] at h1 h2 ⊢
 have g1:=p_key_Right h1
 simp only [rightI]
 cases e1:decide (1 ≤ key.length ∧ key.length ≤ 16) with
 | false=>rw [e1] at g1; simp -implicitDefEqProofs (maxSteps:=600000) (disch:=(first | omega | decide)) only [go_sem,↓reduceIte,seval,g1]
 | true=>
  rw [e1] at g1
  cases e2:rightV ⟨rep,cnt⟩ with
  | false=>simp -implicitDefEqProofs (maxSteps:=600000) (disch:=(first | omega | decide)) only [go_sem,↓reduceIte,seval,g1,e2]
  | true=>
   by_cases e3:1 ≤ rank
   ·have e3':¬ rank < 1:=by omega
    by_cases e4:rank ≤ 1099511627776
    ·have e4':¬ 1099511627776 < rank:=by omega
     by_cases e5:0 ≤ prio
     ·have e5':¬ prio < 0:=by omega
      by_cases e6:prio ≤ 255
      ·have e6':¬ 255 < prio:=by omega
       by_cases e7:body.length ≤ 64
       ·have e7':(body.length:Int) ≤ 64:=by omega
        cases dead <;> cases e8:body == [] <;> simp -implicitDefEqProofs (maxSteps:=600000) (disch:=(first | omega | decide)) only [go_sem,↓reduceIte,seval,g1,e2,e3,e4,e5,e6,e7,e3',e4',e5',e6',e7',e8]
       ·have e7':¬ (body.length:Int) ≤ 64:=by omega
        simp -implicitDefEqProofs (maxSteps:=600000) (disch:=(first | omega | decide)) only [go_sem,↓reduceIte,seval,g1,e2,e3,e4,e5,e6,e7,e3',e4',e5',e6',e7']
      ·have e6':255 < prio:=by omega
       simp -implicitDefEqProofs (maxSteps:=600000) (disch:=(first | omega | decide)) only [go_sem,↓reduceIte,seval,g1,e2,e3,e4,e5,e6,e3',e4',e5',e6']
     ·have e5':prio < 0:=by omega
      simp -implicitDefEqProofs (maxSteps:=600000) (disch:=(first | omega | decide)) only [go_sem,↓reduceIte,seval,g1,e2,e3,e4,e5,e3',e4',e5']
    ·have e4':1099511627776 < rank:=by omega
     simp -implicitDefEqProofs (maxSteps:=600000) (disch:=(first | omega | decide)) only [go_sem,↓reduceIte,seval,g1,e2,e3,e4,e3',e4']
   ·have e3':rank < 1:=by omega
    simp -implicitDefEqProofs (maxSteps:=600000) (disch:=(first | omega | decide)) only [go_sem,↓reduceIte,seval,g1,e2,e3,e3']
theorem ok_ref18_Right:codeOK Tryz.prog L15i Tryz.f81.ntmps (Tryz.f81.body.getD .skip) = true:=by kernel_rfl
theorem c_ref18_Right (x:It) (h:x.ok):CallA Tryz.prog 81 [x.enc] (· = .bool (rightI x)):=by
 refine callA_of_body L15i_ok mixed Tryz.func81 rfl (Nat.le_of_ble_eq_true rfl) ok_ref18_Right ?_
 unfold Tryz.f81
 obtain ⟨key,rep,cnt,rank,prio,dead,body⟩:=x
 obtain ⟨h1,h2⟩:=h
 simp only [It.enc] at h1 h2 ⊢
 have g1:=p_ref06_Right h1
 simp only [rightI]
 cases e1:decide (1 ≤ key.length ∧ key.length ≤ 16) with
 | false=>rw [e1] at g1; simp -implicitDefEqProofs (maxSteps:=600000) (disch:=(first | omega | decide)) only [go_sem,↓reduceIte,seval,g1]
 | true=>
  rw [e1] at g1
  cases e2:rightV ⟨rep,cnt⟩ with
  | false=>simp -implicitDefEqProofs (maxSteps:=600000) (disch:=(first | omega | decide)) only [go_sem,↓reduceIte,seval,g1,e2]
  | true=>
   by_cases e3:1 ≤ rank
   ·have e3':¬ rank < 1:=by omega
    by_cases e4:rank ≤ 1099511627776
    ·have e4':¬ 1099511627776 < rank:=by omega
     by_cases e5:0 ≤ prio
     ·have e5':¬ prio < 0:=by omega
      by_cases e6:prio ≤ 255
      ·have e6':¬ 255 < prio:=by omega
       have e8':decide ((0:Int) < (body.length:Int)) = !(body == []):=by
        cases body with
        | nil=>rfl
        | cons a b=>simp
       by_cases e7:body.length ≤ 64
       ·have e7':(body.length:Int) ≤ 64:=by omega
        cases dead <;> cases e8:body == [] <;> rw [e8] at e8' <;> simp -implicitDefEqProofs (maxSteps:=600000) (disch:=(first | omega | decide)) only [go_sem,↓reduceIte,seval,g1,e2,e3,e4,e5,e6,e7,e3',e4',e5',e6',e7',e8,e8']
       ·have e7':¬ (body.length:Int) ≤ 64:=by omega
        simp -implicitDefEqProofs (maxSteps:=600000) (disch:=(first | omega | decide)) only [go_sem,↓reduceIte,seval,g1,e2,e3,e4,e5,e6,e7,e3',e4',e5',e6',e7']
      ·have e6':255 < prio:=by omega
       simp -implicitDefEqProofs (maxSteps:=600000) (disch:=(first | omega | decide)) only [go_sem,↓reduceIte,seval,g1,e2,e3,e4,e5,e6,e3',e4',e5',e6']
     ·have e5':prio < 0:=by omega
      simp -implicitDefEqProofs (maxSteps:=600000) (disch:=(first | omega | decide)) only [go_sem,↓reduceIte,seval,g1,e2,e3,e4,e5,e3',e4',e5']
    ·have e4':1099511627776 < rank:=by omega
     simp -implicitDefEqProofs (maxSteps:=600000) (disch:=(first | omega | decide)) only [go_sem,↓reduceIte,seval,g1,e2,e3,e4,e3',e4']
   ·have e3':rank < 1:=by omega
    simp -implicitDefEqProofs (maxSteps:=600000) (disch:=(first | omega | decide)) only [go_sem,↓reduceIte,seval,g1,e2,e3,e3']
noncomputable def T18a:Tab:=L15i.add 77 (entry (fun (x:It)=>[x.enc]) (fun x=>x.ok) (fun x=>.bool (rightI x)))
theorem T18a_ok:TabOK Tryz.prog T18a:=L15i_ok.add (callable_of Tryz.func77 (by kernel_rfl) (by kernel_rfl)) (entry_ok fun x h=>c_item_Right x h)
@[go_sem] theorem T18a_old {g:FuncId} {xs:List A} (h:g ≠ 77):T18a.f g xs = L15i.f g xs:=Tab.add_ne h
theorem T18a_item_Right (x:It) (h:x.ok):T18a.f 77 [x.enc] = some (.bool (rightI x)):=
 (Tab.add_eq:T18a.f 77 [x.enc] = (entry (fun (x:It)=>[x.enc]) (fun x=>x.ok) (fun x=>.bool (rightI x))) [x.enc]).trans (entry_eq (fun i j h=>by first | (cases i; cases j; rfl; done) | simpa [Prod.ext_iff,and_assoc] using h | (simp at h; omega) | (simp at h; exact Prod.ext h.1 (Prod.ext h.2.1 (by omega)))) x h)
noncomputable def T18b:Tab:=T18a.add 81 (entry (fun (x:It)=>[x.enc]) (fun x=>x.ok) (fun x=>.bool (rightI x)))
theorem T18b_ok:TabOK Tryz.prog T18b:=T18a_ok.add (callable_of Tryz.func81 (by kernel_rfl) (by kernel_rfl)) (entry_ok fun x h=>c_ref18_Right x h)
@[go_sem] theorem T18b_old {g:FuncId} {xs:List A} (h:g ≠ 81):T18b.f g xs = T18a.f g xs:=Tab.add_ne h
@[go_sem] theorem T18b_eff {g:FuncId}:T18b.eff g = false:=rfl
@[go_sem] theorem T18b_ords {n:Nat}:T18b.ords n = []:=rfl
theorem T18b_ref18_Right (x:It) (h:x.ok):T18b.f 81 [x.enc] = some (.bool (rightI x)):=
 (Tab.add_eq:T18b.f 81 [x.enc] = (entry (fun (x:It)=>[x.enc]) (fun x=>x.ok) (fun x=>.bool (rightI x))) [x.enc]).trans (entry_eq (fun i j h=>by first | (cases i; cases j; rfl; done) | simpa [Prod.ext_iff,and_assoc] using h | (simp at h; omega) | (simp at h; exact Prod.ext h.1 (Prod.ext h.2.1 (by omega)))) x h)
theorem i_Right {key body:List UInt8} {rep cnt rank prio:Int} {dead:Bool} (h:It.ok ⟨key,rep,cnt,rank,prio,dead,body⟩):T18a.f 77 [.agg [.str key,.int .i64 rep,.int .i64 cnt,.int .i64 rank,.int .i64 prio,.bool dead,.str body]] = some (.bool (rightI ⟨key,rep,cnt,rank,prio,dead,body⟩)):=T18a_item_Right _ h
theorem i_rRight {key body:List UInt8} {rep cnt rank prio:Int} {dead:Bool} (h:It.ok ⟨key,rep,cnt,rank,prio,dead,body⟩):T18b.f 81 [.agg [.str key,.int .i64 rep,.int .i64 cnt,.int .i64 rank,.int .i64 prio,.bool dead,.str body]] = some (.bool (rightI ⟨key,rep,cnt,rank,prio,dead,body⟩)):=T18b_ref18_Right _ h
theorem ok_ref18_Long:codeOK Tryz.prog T18b Tryz.f18.ntmps (Tryz.f18.body.getD .skip) = true:=by kernel_rfl
theorem c_ref18_Long (l:List It) (m:Int) (hl:l.length ≤ 9223372036854775807):CallA Tryz.prog 18 [.slc (l.map It.enc),.int .i64 m] (· = .bool (longI l m)):=by
 refine callA_of_body T18b_ok mixed Tryz.func18 rfl (Nat.le_of_ble_eq_true rfl) ok_ref18_Long ?_
 unfold Tryz.f18
 by_cases h0:m < (l.length:Int)
 ·have hh:longI l m = true:=by simp [longI,h0]
  simp -implicitDefEqProofs (maxSteps:=600000) (disch:=(first | omega | decide)) only [go_sem,↓reduceIte,seval,h0,hh,List.length_map]
 ·have hh:longI l m = l.any fun x=>decide (60 < x.key.length) || decide (200 < x.body.length):=by simp [longI,h0]
  simp -implicitDefEqProofs (maxSteps:=600000) (disch:=(first | omega | decide)) only [go_sem,↓reduceIte,seval,h0,List.length_map]
  rw [hh]
  refine wpA_loop [0] (ι:={k:Nat // k ≤ l.length ∧ (l.any fun x=>decide (60 < x.key.length) || decide (200 < x.body.length)) = ((l.drop k).any fun x=>decide (60 < x.key.length) || decide (200 < x.body.length))}) (fun p=>[(5,.int .i64 p.1),(4,.bool false)]) (fun _=>[]) (fun p=>l.length - p.1) ⟨0,by omega,rfl⟩ (Nat.zero_le _) ?_ ?_
  ·simp -implicitDefEqProofs (maxSteps:=600000) (disch:=(first | omega | decide)) only [go_sem,↓reduceIte,seval]
  ·rintro ⟨k,hk,hd⟩
   simp only
   by_cases hlt:k < l.length
   ·have hlt':(k:Int) < (l.length:Int):=by omega
    have e1:=it_get hlt
    rw [List.drop_eq_getElem_cons hlt,List.any_cons] at hd
    generalize hx:l[k] = x at *
    obtain ⟨key,rep,cnt,rank,prio,dead,body⟩:=x
    simp only at hd e1
    by_cases h1:60 < key.length
    ·have h1':(60:Int) < (key.length:Int):=by omega
     rw [decide_eq_true h1,Bool.true_or,Bool.true_or] at hd
     simp -implicitDefEqProofs (maxSteps:=600000) (disch:=(first | omega | decide)) only [go_sem,↓reduceIte,seval,hlt',e1,h1',hd,wrap_i64,List.length_map]
    ·have h1':¬ (60:Int) < (key.length:Int):=by omega
     by_cases h2:200 < body.length
     ·have h2':(200:Int) < (body.length:Int):=by omega
      rw [decide_eq_true h2,Bool.or_true,Bool.true_or] at hd
      simp -implicitDefEqProofs (maxSteps:=600000) (disch:=(first | omega | decide)) only [go_sem,↓reduceIte,seval,hlt',e1,h1',h2',hd,wrap_i64,List.length_map]
     ·have h2':¬ (200:Int) < (body.length:Int):=by omega
      rw [decide_eq_false h1,decide_eq_false h2,Bool.or_false,Bool.false_or] at hd
      simp -implicitDefEqProofs (maxSteps:=600000) (disch:=(first | omega | decide)) only [go_sem,↓reduceIte,seval,hlt',e1,h1',h2',wrap_i64,List.length_map]
      exact ⟨⟨k + 1,hlt,hd⟩,by simp,by show l.length - (k + 1) < l.length - k; omega⟩
   ·have hlt':¬ (k:Int) < (l.length:Int):=by omega
    rw [List.drop_of_length_le (by omega)] at hd
    simp -implicitDefEqProofs (maxSteps:=600000) (disch:=(first | omega | decide)) only [go_sem,↓reduceIte,seval,hlt',hd,List.length_map]
def prevI (l:List It) (k:Nat):Option (List UInt8):=match k with | 0=>none | j + 1=>(l[j]?).map (·.key)
theorem ok_ref18_List:codeOK Tryz.prog T18b Tryz.f62.ntmps (Tryz.f62.body.getD .skip) = true:=by kernel_rfl
theorem c_ref18_List (l:List It) (hl:l.length ≤ 4611686018427387904) (ho:okI l):CallA Tryz.prog 62 [.slc (l.map It.enc)] (· = .bool (rightL18 l)):=by
 refine callA_of_body T18b_ok mixed Tryz.func62 rfl (Nat.le_of_ble_eq_true rfl) ok_ref18_List ?_
 unfold Tryz.f62
 simp -implicitDefEqProofs (maxSteps:=600000) (disch:=(first | omega | decide)) only [go_sem,↓reduceIte,seval,List.length_map]
 refine wpA_loop [0] (ι:={k:Nat // k ≤ l.length ∧ rightL18 l = goI (prevI l k) (l.drop k)}) (fun p=>[(3,.int .i64 p.1)]) (fun _=>[]) (fun p=>l.length - p.1) ⟨0,by omega,rfl⟩ (Nat.zero_le _) ?_ ?_
 ·simp -implicitDefEqProofs (maxSteps:=600000) (disch:=(first | omega | decide)) only [go_sem,↓reduceIte,seval]
 ·rintro ⟨k,hk,hd⟩
  simp only
  by_cases hlt:k < l.length
  ·have hlt':(k:Int) < (l.length:Int):=by omega
   have e1:=it_get hlt
   have hox:=ho _ (List.getElem_mem hlt)
   have hpk:prevI l (k + 1) = some l[k].key:=by simp [prevI,hlt]
   rw [List.drop_eq_getElem_cons hlt] at hd
   simp only [goI] at hd
   rw [← hpk] at hd
   generalize hx:l[k] = x at *
   obtain ⟨key,rep,cnt,rank,prio,dead,body⟩:=x
   have g1:=i_rRight hox
   simp only at hd e1 hox
   cases hr:rightI ⟨key,rep,cnt,rank,prio,dead,body⟩ with
   | false=>
    rw [hr] at g1 hd
    rw [Bool.false_and,Bool.false_and] at hd
    simp -implicitDefEqProofs (maxSteps:=600000) (disch:=(first | omega | decide)) only [go_sem,↓reduceIte,seval,hlt',e1,g1,hd,List.length_map]
   | true=>
    rw [hr] at g1 hd
    cases k with
    | zero=>
     rw [show prevI l 0 = none from rfl,Bool.true_and,Bool.true_and] at hd
     have hlt0:(0:Int) < (l.length:Int):=by omega
     simp -implicitDefEqProofs (maxSteps:=600000) (disch:=(first | omega | decide)) only [go_sem,↓reduceIte,seval,hlt',hlt0,e1,g1,wrap_i64,List.length_map]
     exact ⟨⟨1,hlt,hd⟩,by simp,by show l.length - 1 < l.length - 0; omega⟩
    | succ j=>
     have hj:j < l.length:=by omega
     have e2:=it_get hj
     have hoy:=ho _ (List.getElem_mem hj)
     have hpj:prevI l (j + 1) = some l[j].key:=by simp [prevI,hj]
     rw [hpj] at hd
     generalize hy:l[j] = y at *
     obtain ⟨key',rep',cnt',rank',prio',dead',body'⟩:=y
     simp only at hd e2 hoy
     have c0:(0:Int) < ((j + 1:Nat):Int):=by omega
     have c1:(((j + 1:Nat):Int) - 1).toNat = j:=by omega
     have c2:(0:Int) ≤ ((j + 1:Nat):Int) - 1:=by omega
     have c3:((j + 1:Nat):Int) - 1 < (l.length:Int):=by omega
     have g2:=p_ref06_Less (a:=key') (b:=key) ⟨hoy.1,hox.1⟩
     have e3:(cmpB key' key == -1) = ltB key' key:=rfl
     rw [e3] at g2
     cases hb:ltB key' key with
     | false=>
          rw [hb] at g2 hd
          rw [Bool.and_false,Bool.false_and] at hd
          simp -implicitDefEqProofs (maxSteps:=600000) (disch:=(first | omega | decide)) only [go_sem,↓reduceIte,seval,hlt',e1,e2,g1,g2,c0,c1,c2,c3,hd,wrap_i64,List.length_map]
     | true=>
          rw [hb] at g2 hd
          rw [Bool.and_true,Bool.true_and] at hd
          simp -implicitDefEqProofs (maxSteps:=600000) (disch:=(first | omega | decide)) only [go_sem,↓reduceIte,seval,hlt',e1,e2,g1,g2,c0,c1,c2,c3,wrap_i64,List.length_map]
          exact ⟨⟨j + 1 + 1,hlt,hd⟩,by simp,by show l.length - (j + 1 + 1) < l.length - (j + 1); omega⟩
  ·have hlt':¬ (k:Int) < (l.length:Int):=by omega
   rw [List.drop_of_length_le (by omega)] at hd
   have hd:rightL18 l = true:=hd
   simp -implicitDefEqProofs (maxSteps:=600000) (disch:=(first | omega | decide)) only [go_sem,↓reduceIte,seval,hlt',hd,List.length_map]
noncomputable def T18c:Tab:=T18b.add 18 (entry (fun (v:List It × Int)=>[.slc (v.1.map It.enc),.int .i64 v.2]) (fun v=>v.1.length ≤ 9223372036854775807) (fun v=>.bool (longI v.1 v.2)))
theorem T18c_ok:TabOK Tryz.prog T18c:=T18b_ok.add (callable_of Tryz.func18 (by kernel_rfl) (by kernel_rfl)) (entry_ok fun v h=>c_ref18_Long v.1 v.2 h)
@[go_sem] theorem T18c_old {g:FuncId} {xs:List A} (h:g ≠ 18):T18c.f g xs = T18b.f g xs:=Tab.add_ne h
theorem T18c_ref18_Long (v:List It × Int) (h:v.1.length ≤ 9223372036854775807):T18c.f 18 [.slc (v.1.map It.enc),.int .i64 v.2] = some (.bool (longI v.1 v.2)):=
 (Tab.add_eq:T18c.f 18 [.slc (v.1.map It.enc),.int .i64 v.2] = (entry (fun (v:List It × Int)=>[.slc (v.1.map It.enc),.int .i64 v.2]) (fun v=>v.1.length ≤ 9223372036854775807) (fun v=>.bool (longI v.1 v.2))) [.slc (v.1.map It.enc),.int .i64 v.2]).trans (entry_eq (fun i j h=>by first | (cases i; cases j; rfl; done) | simpa [Prod.ext_iff,and_assoc] using h | (simp at h; omega) | (simp at h; exact Prod.ext h.1 (Prod.ext h.2.1 (by omega)))) v h)
noncomputable def T18d:Tab:=T18c.add 62 (entry (fun (l:List It)=>[.slc (l.map It.enc)]) (fun l=>l.length ≤ 4611686018427387904 ∧ okI l) (fun l=>.bool (rightL18 l)))
theorem T18d_ok:TabOK Tryz.prog T18d:=T18c_ok.add (callable_of Tryz.func62 (by kernel_rfl) (by kernel_rfl)) (entry_ok fun l h=>c_ref18_List l h.1 h.2)
@[go_sem] theorem T18d_old {g:FuncId} {xs:List A} (h:g ≠ 62):T18d.f g xs = T18c.f g xs:=Tab.add_ne h
@[go_sem] theorem T18d_eff {g:FuncId}:T18d.eff g = false:=rfl
@[go_sem] theorem T18d_ords {n:Nat}:T18d.ords n = []:=rfl
theorem T18d_ref18_List (l:List It) (h:l.length ≤ 4611686018427387904 ∧ okI l):T18d.f 62 [.slc (l.map It.enc)] = some (.bool (rightL18 l)):=
 (Tab.add_eq:T18d.f 62 [.slc (l.map It.enc)] = (entry (fun (l:List It)=>[.slc (l.map It.enc)]) (fun l=>l.length ≤ 4611686018427387904 ∧ okI l) (fun l=>.bool (rightL18 l))) [.slc (l.map It.enc)]).trans (entry_eq (fun i j h=>by first | (cases i; cases j; rfl; done) | simpa [Prod.ext_iff,and_assoc] using h | (simp at h; omega) | (simp at h; exact Prod.ext h.1 (Prod.ext h.2.1 (by omega)))) l h)
theorem i_rLong {l:List It} {m:Int} (h:l.length ≤ 9223372036854775807):T18c.f 18 [.slc (l.map It.enc),.int .i64 m] = some (.bool (longI l m)):=T18c_ref18_Long (l,m) h
theorem i_rList {l:List It} (h:l.length ≤ 4611686018427387904 ∧ okI l):T18d.f 62 [.slc (l.map It.enc)] = some (.bool (rightL18 l)):=T18d_ref18_List l h
def longS (s:Sta):Bool:=longRs s.fl 8 || longI s.its 24 || longP s.kn 24
theorem ok_ref23_Long:codeOK Tryz.prog T18d Tryz.f14.ntmps (Tryz.f14.body.getD .skip) = true:=by kernel_rfl
theorem c_ref23_Long (s:Sta) (h1:s.fl.length ≤ 9223372036854775807) (h2:s.its.length ≤ 9223372036854775807) (h3:s.kn.length ≤ 9223372036854775807) (h4:∀ p ∈ s.kn,p.s.length ≤ 9223372036854775807):CallA Tryz.prog 14 [s.enc] (· = .bool (longS s)):=by
 refine callA_of_body T18d_ok mixed Tryz.func14 rfl (Nat.le_of_ble_eq_true rfl) ok_ref23_Long ?_
 unfold Tryz.f14
 obtain ⟨id,F,I,K,ct⟩:=s
 simp only at h1 h2 h3 h4
 have g1:=q_rLong (l:=F) (m:=8) h1
 have g2:=i_rLong (l:=I) (m:=24) h2
 have g3:=p_rLong (k:=K) (m:=24) h3 h4
 simp only [Sta.enc,Sta.cells,longS]
 cases e1:longRs F 8 <;> rw [e1] at g1
 ·cases e2:longI I 24 <;> rw [e2] at g2 <;> simp -implicitDefEqProofs (maxSteps:=600000) (disch:=(first | omega | decide)) only [go_sem,↓reduceIte,seval,g1,g2,g3]
 ·simp -implicitDefEqProofs (maxSteps:=600000) (disch:=(first | omega | decide)) only [go_sem,↓reduceIte,seval,g1]
def topK (id:Int) (n:Int) (k:Known):Int:=if k.n = id then max n (mostR k.rs) else n
theorem fold_mkT {t:Int → List Run} {id n:Int}:∀ k:Nat,(mkT t k).foldl (topK id) n = if 1 ≤ id ∧ id ≤ k ∧ (t id).isEmpty = false then max n (mostR (t id)) else n
 | 0=>by
  rw [if_neg (by omega)]; rfl
 | k + 1=>by
  simp only [mkT]
  by_cases e:id = (k:Int) + 1
  ·have h0:(mkT t k).foldl (topK id) n = n:=by rw [fold_mkT k,if_neg (by omega)]
   subst e
   split
   ·rename_i h1
    rw [h0,if_neg (by rw [h1]; simp)]
   ·rename_i h1
    rw [List.foldl_append,h0,if_pos ⟨by omega,by push_cast; omega,by simpa using h1⟩]
    simp [topK]
  ·have hc:(1 ≤ id ∧ id ≤ ((k + 1:Nat):Int) ∧ (t id).isEmpty = false) ↔ (1 ≤ id ∧ id ≤ (k:Int) ∧ (t id).isEmpty = false):=by
    constructor
    ·rintro ⟨h1,h2,h3⟩; exact ⟨h1,by omega,h3⟩
    ·rintro ⟨h1,h2,h3⟩; exact ⟨h1,by omega,h3⟩
   split
   ·rw [fold_mkT k]; simp only [hc]
   ·rw [List.foldl_append,fold_mkT k]
    have:∀ m:Int,List.foldl (topK id) m [⟨(k:Int) + 1,t ((k:Int) + 1)⟩] = m:=fun m=>by
     simp [topK]; intro h; exact absurd h.symm e
    rw [this]; simp only [hc]
theorem fold_of {p:Pc} {id n:Int} (hn:0 ≤ n):(ofK p.s).foldl (topK id) n = max n (mostP p id):=by
 unfold ofK setT mostP
 rw [fold_mkT]
 cases hr:repOK id with
 | false=>
  rw [if_neg,if_neg (by simp)]
  ·omega
  ·rintro ⟨h1,h2,_⟩
   have:=repOK_iff (n:=id)
   rw [hr] at this
   simp at this
   omega
 | true=>
  have h:=repOK_iff.1 hr
  rw [if_pos rfl]
  cases he:(setR (hasL13 (runsK p.s id))).isEmpty with
  | false=>rw [if_pos ⟨by omega,by omega,by rfl⟩]
  | true=>
   have e0:setR (hasL13 (runsK p.s id)) = []:=by simpa using he
   rw [if_neg (by simp),e0]
   have:mostR [] = 0:=rfl
   rw [this]; omega
theorem max_if (a b:Int):(if b > a then b else a) = max a b:=by
 rw [Int.max_def]; split <;> split <;> omega
theorem last_run {rs:List Run} (h:rs ≠ []):∃ f,(rs.map Run.enc)[rs.length - 1]? = some (.agg [.int .i64 f,.int .i64 (mostR rs)]):=by
 have e:rs.getLast? = some (rs.getLast h):=List.getLast?_eq_some_getLast h
 refine ⟨(rs.getLast h).f,?_⟩
 rw [List.getElem?_map,← List.getLast?_eq_getElem?,e]
 unfold mostR
 rw [e]; rfl
theorem ofK_ne {s:List Known} {k:Known} (h:k ∈ ofK s):k.rs ≠ []:=(mkT_mem h).2.2.2
theorem ofK_rl {s:List Known} {k:Known} (h:k ∈ ofK s):k.rs.length ≤ 1099511627776:=of_len (by
 have:=(mkT_mem h).2.2.1
 rw [this]; exact setR_right _)
theorem mostK_nn (k:List Pc) (id:Int):0 ≤ mostK k id:=by
 unfold mostK
 have:∀ (l:List Pc) (n:Int),0 ≤ n → 0 ≤ l.foldl (fun n p=>max n (mostP p id)) n:=fun l=>by
  induction l with
  | nil=>intro n h; exact h
  | cons p l ih=>intro n h; exact ih _ (by show 0 ≤ max n (mostP p id); omega)
 exact this k 0 (Int.le_refl _)
theorem mostK_snoc {k:List Pc} {id:Int} {i:Nat} (h:i < k.length):mostK (k.take (i + 1)) id = max (mostK (k.take i) id) (mostP k[i] id):=by
 unfold mostK
 rw [← List.take_append_getElem h,List.foldl_append]; rfl
theorem midP_of {k:List Pc} (hk:okR k) {p:Pc} (hp:p ∈ k):midK p.s:=by
 have h1:=wP_mem hp
 have h2:=hk.2
 refine ⟨⟨by omega,by omega⟩,fun n=>?_⟩
 have:=runsK_len p.s n
 omega
theorem ok_ref23_Most:codeOK Tryz.prog T18d Tryz.f65.ntmps (Tryz.f65.body.getD .skip) = true:=by kernel_rfl
theorem c_ref23_Most (k:List Pc) (id:Int) (hk:okR k):CallA Tryz.prog 65 [.slc (k.map Pc.enc),.int .i64 id] (· = .int .i64 (mostK k id)):=by
 refine callA_of_body T18d_ok mixed Tryz.func65 rfl (Nat.le_of_ble_eq_true rfl) ok_ref23_Most ?_
 unfold Tryz.f65
 have hkl:=hk.1.1.1
 simp -implicitDefEqProofs (maxSteps:=600000) (disch:=(first | omega | decide)) only [go_sem,↓reduceIte,seval,List.length_map]
 have m0:mostK (k.take 0) id = 0:=rfl
 refine wpA_loop [0,1] (ι:={i:Nat // i ≤ k.length}) (fun p=>[(6,.int .i64 p.1),(5,.int .i64 (mostK (k.take p.1) id))]) (fun _=>[]) (fun p=>k.length - p.1) ⟨0,by omega⟩ (Nat.zero_le _) ?_ ?_
 ·simp -implicitDefEqProofs (maxSteps:=600000) (disch:=(first | omega | decide)) only [go_sem,↓reduceIte,seval,m0]
  rfl
 ·rintro ⟨i,hi⟩
  simp only
  by_cases hlt:i < k.length
  ·have hlt':(i:Int) < (k.length:Int):=by omega
   have e1:=pc_get hlt
   have hm:=midP_of hk (List.getElem_mem hlt)
   have go:=K14r_ref14_Of k[i].s hm
   have hn:=mostK_nn (k.take i) id
   have hs:=mostK_snoc (id:=id) hlt
   have hf:=fold_of (p:=k[i]) (id:=id) hn
   have hol:(ofK k[i].s).length ≤ 16:=by unfold ofK setT; exact mkT_len _ 16
   have hne:∀ x ∈ ofK k[i].s,x.rs ≠ []:=fun x hx=>ofK_ne hx
   have hrl:∀ x ∈ ofK k[i].s,x.rs.length ≤ 1099511627776:=fun x hx=>ofK_rl hx
   generalize ofK k[i].s = o at *
   generalize mostK (k.take i) id = n at *
   simp -implicitDefEqProofs (maxSteps:=600000) (disch:=(first | omega | decide)) only [go_sem,↓reduceIte,seval,hlt',e1,go,List.length_map]
   refine wpA_loop [0,1,6,7] (ι:={j:Nat // j ≤ o.length}) (fun q=>[(8,.int .i64 q.1),(5,.int .i64 ((o.take q.1).foldl (topK id) n))]) (fun _=>[]) (fun q=>o.length - q.1) ⟨0,by omega⟩ (Nat.zero_le _) ?_ ?_
   ·simp -implicitDefEqProofs (maxSteps:=600000) (disch:=(first | omega | decide)) only [go_sem,↓reduceIte,seval]
    rfl
   ·rintro ⟨j,hj⟩
    simp only
    by_cases hlj:j < o.length
    ·have hlj':(j:Int) < (o.length:Int):=by omega
     have e2:=known_get hlj
     have hst:(o.take (j + 1)).foldl (topK id) n = topK id ((o.take j).foldl (topK id) n) o[j]:=by
          rw [← List.take_append_getElem hlj,List.foldl_append]; rfl
     have hnj:=hne _ (List.getElem_mem hlj)
     have hrj:=hrl _ (List.getElem_mem hlj)
     obtain ⟨f,e3⟩:=last_run hnj
     have hpos:0 < o[j].rs.length:=List.length_pos_iff.2 hnj
     generalize (o.take j).foldl (topK id) n = m at *
     generalize o[j] = x at *
     obtain ⟨xn,rs⟩:=x
     simp only at e2 e3 hpos hst hrj
     cases h1:xn == id with
     | false=>
          have hne':¬ xn = id:=by simpa using h1
          have ht:topK id m ⟨xn,rs⟩ = m:=by unfold topK; rw [if_neg hne']
          rw [ht] at hst
          simp -implicitDefEqProofs (maxSteps:=600000) (disch:=(first | omega | decide)) only [go_sem,↓reduceIte,seval,hlj',e2,h1,wrap_i64,List.length_map]
          exact ⟨⟨j + 1,hlj⟩,⟨by simp,by rw [hst]⟩,by show o.length - (j + 1) < o.length - j; omega⟩
     | true=>
          have he:xn = id:=by simpa using h1
          have ht:topK id m ⟨xn,rs⟩ = max m (mostR rs):=by unfold topK; rw [if_pos he]
          rw [ht] at hst
          have c0:((rs.length:Int) - 1).toNat = rs.length - 1:=by omega
          have c1:(0:Int) ≤ (rs.length:Int) - 1:=by omega
          have c2:(rs.length:Int) - 1 < (rs.length:Int):=by omega
          simp -implicitDefEqProofs (maxSteps:=600000) (disch:=(first | omega | decide)) only [go_sem,↓reduceIte,seval,hlj',e2,e3,h1,c0,c1,c2,max_if,wrap_i64,List.length_map]
          exact ⟨⟨j + 1,hlj⟩,⟨by simp,by rw [hst]⟩,by show o.length - (j + 1) < o.length - j; omega⟩
    ·have hlj':¬ (j:Int) < (o.length:Int):=by omega
     obtain rfl:j = o.length:=by omega
     rw [List.take_length,hf,← hs]
     simp -implicitDefEqProofs (maxSteps:=600000) (disch:=(first | omega | decide)) only [go_sem,↓reduceIte,seval,hlj',wrap_i64,List.length_map]
     exact ⟨⟨i + 1,hlt⟩,⟨by simp,rfl⟩,by show k.length - (i + 1) < k.length - i; omega⟩
  ·have hlt':¬ (i:Int) < (k.length:Int):=by omega
   rw [List.take_of_length_le (by omega)]
   simp -implicitDefEqProofs (maxSteps:=600000) (disch:=(first | omega | decide)) only [go_sem,↓reduceIte,seval,hlt',List.length_map]
theorem ok_ref23_Apart:codeOK Tryz.prog T18d Tryz.f66.ntmps (Tryz.f66.body.getD .skip) = true:=by kernel_rfl
theorem c_ref23_Apart (l:List It) (hl:l.length ≤ 1000000):CallA Tryz.prog 66 [.slc (l.map It.enc)] (· = .bool (apartI l)):=by
 refine callA_of_body T18d_ok mixed Tryz.func66 rfl (Nat.le_of_ble_eq_true rfl) ok_ref23_Apart ?_
 unfold Tryz.f66
 simp -implicitDefEqProofs (maxSteps:=600000) (disch:=(first | omega | decide)) only [go_sem,↓reduceIte,seval,List.length_map]
 refine wpA_loop [0] (ι:={i:Nat // i ≤ l.length ∧ ∀ j,j < i → twiceI l j = false}) (fun p=>[(3,.int .i64 p.1)]) (fun _=>[]) (fun p=>l.length - p.1) ⟨0,by omega,fun j h=>absurd h (Nat.not_lt_zero _)⟩ (Nat.zero_le _) ?_ ?_
 ·simp -implicitDefEqProofs (maxSteps:=600000) (disch:=(first | omega | decide)) only [go_sem,↓reduceIte,seval]
 ·rintro ⟨i,hi,hd⟩
  simp only
  by_cases hlt:i < l.length
  ·have hlt':(i:Int) < (l.length:Int):=by omega
   have ei:=it_get hlt
   have hP:twiceI l i = (l.take i).any fun y=>decide (y.rep = l[i].rep ∧ y.cnt = l[i].cnt):=by
    unfold twiceI; rw [List.getElem?_eq_getElem hlt]
   have hno:twiceI l i = true → apartI l = false:=fun h=>by
    unfold apartI
    rw [List.all_eq_false]
    exact ⟨i,List.mem_range.2 hlt,by rw [h]; simp⟩
   have hll:(l.take i).length = i:=by rw [List.length_take]; omega
   have hget:∀ q (hq:q < i),(l.take i)[q]'(by omega) = l[q]'(by omega):=fun q hq=>List.getElem_take
   simp -implicitDefEqProofs (maxSteps:=600000) (disch:=(first | omega | decide)) only [go_sem,↓reduceIte,seval,hlt',List.length_map]
   refine wpA_loop [0,3] (ι:={q:Nat // q ≤ i ∧ twiceI l i = (((l.take i).drop q).any fun y=>decide (y.rep = l[i].rep ∧ y.cnt = l[i].cnt))}) (fun q=>[(4,.int .i64 q.1)]) (fun _=>[]) (fun q=>i - q.1) ⟨0,by omega,by rw [hP]; rfl⟩ (Nat.zero_le _) ?_ ?_
   ·simp -implicitDefEqProofs (maxSteps:=600000) (disch:=(first | omega | decide)) only [go_sem,↓reduceIte,seval]
   ·rintro ⟨q,hq,hd2⟩
    simp only
    by_cases hlq:q < i
    ·have hlq':(q:Int) < (i:Int):=by omega
     have eq':=it_get (show q < l.length by omega)
     rw [List.drop_eq_getElem_cons (by omega),List.any_cons,hget q hlq] at hd2
     have b1:(q:Int) < (l.length:Int):=by omega
     generalize l[q] = y at *
     generalize l[i] = z at *
     obtain ⟨key,rep,cnt,rank,prio,dead,body⟩:=y
     obtain ⟨key',rep',cnt',rank',prio',dead',body'⟩:=z
     simp only at ei eq' hd2
     cases h1:rep' == rep with
     | false=>
          have hne:decide (rep = rep' ∧ cnt = cnt') = false:=by
           have:rep' ≠ rep:=by simpa using h1
           simp [Ne.symm this]
          rw [hne,Bool.false_or] at hd2
          simp -implicitDefEqProofs (maxSteps:=600000) (disch:=(first | omega | decide)) only [go_sem,↓reduceIte,seval,hlt',hlq',b1,ei,eq',h1,wrap_i64,List.length_map]
          exact ⟨⟨q + 1,hlq,hd2⟩,by simp,by show i - (q + 1) < i - q; omega⟩
     | true=>
          obtain rfl:rep' = rep:=by simpa using h1
          cases h2:cnt' == cnt with
          | false=>
           have hne:decide (rep' = rep' ∧ cnt = cnt') = false:=by
            have:cnt' ≠ cnt:=by simpa using h2
            simp [Ne.symm this]
           rw [hne,Bool.false_or] at hd2
           simp -implicitDefEqProofs (maxSteps:=600000) (disch:=(first | omega | decide)) only [go_sem,↓reduceIte,seval,hlt',hlq',b1,ei,eq',h1,h2,wrap_i64,List.length_map]
           exact ⟨⟨q + 1,hlq,hd2⟩,by simp,by show i - (q + 1) < i - q; omega⟩
          | true=>
           obtain rfl:cnt' = cnt:=by simpa using h2
           have he:decide (rep' = rep' ∧ cnt' = cnt') = true:=by simp
           rw [he,Bool.true_or] at hd2
           have hh:=hno hd2
           simp -implicitDefEqProofs (maxSteps:=600000) (disch:=(first | omega | decide)) only [go_sem,↓reduceIte,seval,hlt',hlq',b1,ei,eq',h1,h2,hh,wrap_i64,List.length_map]
    ·have hlq':¬ (q:Int) < (i:Int):=by omega
     rw [List.drop_of_length_le (by omega)] at hd2
     have hd2:twiceI l i = false:=hd2
     simp -implicitDefEqProofs (maxSteps:=600000) (disch:=(first | omega | decide)) only [go_sem,↓reduceIte,seval,hlq',wrap_i64,List.length_map]
     exact ⟨⟨i + 1,hlt,fun j hj=>by
          by_cases e:j = i
          ·subst e; exact hd2
          ·exact hd j (by omega)⟩,by simp,by show l.length - (i + 1) < l.length - i; omega⟩
  ·have hlt':¬ (i:Int) < (l.length:Int):=by omega
   have hh:apartI l = true:=by
    unfold apartI
    rw [List.all_eq_true]
    intro j hj
    rw [hd j (by have:=List.mem_range.1 hj; omega)]; rfl
   simp -implicitDefEqProofs (maxSteps:=600000) (disch:=(first | omega | decide)) only [go_sem,↓reduceIte,seval,hlt',hh,List.length_map]
noncomputable def T23a:Tab:=T18d.add 14 (entry (fun (s:Sta)=>[s.enc]) (fun s=>(s.fl.length ≤ 9223372036854775807 ∧ s.its.length ≤ 9223372036854775807) ∧ s.kn.length ≤ 9223372036854775807 ∧ ∀ p ∈ s.kn,p.s.length ≤ 9223372036854775807) (fun s=>.bool (longS s)))
theorem T23a_ok:TabOK Tryz.prog T23a:=T18d_ok.add (callable_of Tryz.func14 (by kernel_rfl) (by kernel_rfl)) (entry_ok fun s h=>c_ref23_Long s h.1.1 h.1.2 h.2.1 h.2.2)
@[go_sem] theorem T23a_old {g:FuncId} {xs:List A} (h:g ≠ 14):T23a.f g xs = T18d.f g xs:=Tab.add_ne h
theorem T23a_ref23_Long (s:Sta) (h:(s.fl.length ≤ 9223372036854775807 ∧ s.its.length ≤ 9223372036854775807) ∧ s.kn.length ≤ 9223372036854775807 ∧ ∀ p ∈ s.kn,p.s.length ≤ 9223372036854775807):T23a.f 14 [s.enc] = some (.bool (longS s)):=
 (Tab.add_eq:T23a.f 14 [s.enc] = (entry (fun (s:Sta)=>[s.enc]) (fun s=>(s.fl.length ≤ 9223372036854775807 ∧ s.its.length ≤ 9223372036854775807) ∧ s.kn.length ≤ 9223372036854775807 ∧ ∀ p ∈ s.kn,p.s.length ≤ 9223372036854775807) (fun s=>.bool (longS s))) [s.enc]).trans (entry_eq (fun i j h=>by first | (cases i; cases j; rfl; done) | simpa [Prod.ext_iff,and_assoc] using h | (simp at h; omega) | (simp at h; exact Prod.ext h.1 (Prod.ext h.2.1 (by omega)))) s h)
noncomputable def T23b:Tab:=T23a.add 65 (entry (fun (v:List Pc × Int)=>[.slc (v.1.map Pc.enc),.int .i64 v.2]) (fun v=>okR v.1) (fun v=>.int .i64 (mostK v.1 v.2)))
theorem T23b_ok:TabOK Tryz.prog T23b:=T23a_ok.add (callable_of Tryz.func65 (by kernel_rfl) (by kernel_rfl)) (entry_ok fun v h=>c_ref23_Most v.1 v.2 h)
@[go_sem] theorem T23b_old {g:FuncId} {xs:List A} (h:g ≠ 65):T23b.f g xs = T23a.f g xs:=Tab.add_ne h
theorem T23b_ref23_Most (v:List Pc × Int) (h:okR v.1):T23b.f 65 [.slc (v.1.map Pc.enc),.int .i64 v.2] = some (.int .i64 (mostK v.1 v.2)):=
 (Tab.add_eq:T23b.f 65 [.slc (v.1.map Pc.enc),.int .i64 v.2] = (entry (fun (v:List Pc × Int)=>[.slc (v.1.map Pc.enc),.int .i64 v.2]) (fun v=>okR v.1) (fun v=>.int .i64 (mostK v.1 v.2))) [.slc (v.1.map Pc.enc),.int .i64 v.2]).trans (entry_eq (fun i j h=>by first | (cases i; cases j; rfl; done) | simpa [Prod.ext_iff,and_assoc] using h | (simp at h; omega) | (simp at h; exact Prod.ext h.1 (Prod.ext h.2.1 (by omega)))) v h)
noncomputable def T23c:Tab:=T23b.add 66 (entry (fun (l:List It)=>[.slc (l.map It.enc)]) (fun l=>l.length ≤ 1000000) (fun l=>.bool (apartI l)))
theorem T23c_ok:TabOK Tryz.prog T23c:=T23b_ok.add (callable_of Tryz.func66 (by kernel_rfl) (by kernel_rfl)) (entry_ok fun l h=>c_ref23_Apart l h)
@[go_sem] theorem T23c_old {g:FuncId} {xs:List A} (h:g ≠ 66):T23c.f g xs = T23b.f g xs:=Tab.add_ne h
theorem T23c_ref23_Apart (l:List It) (h:l.length ≤ 1000000):T23c.f 66 [.slc (l.map It.enc)] = some (.bool (apartI l)):=
 (Tab.add_eq:T23c.f 66 [.slc (l.map It.enc)] = (entry (fun (l:List It)=>[.slc (l.map It.enc)]) (fun l=>l.length ≤ 1000000) (fun l=>.bool (apartI l))) [.slc (l.map It.enc)]).trans (entry_eq (fun i j h=>by first | (cases i; cases j; rfl; done) | simpa [Prod.ext_iff,and_assoc] using h | (simp at h; omega) | (simp at h; exact Prod.ext h.1 (Prod.ext h.2.1 (by omega)))) l h)
noncomputable def T23d:Tab:=T23c.add 61 (entry (fun (l:List Rng)=>[.slc (l.map Rng.enc)]) (fun l=>l.length ≤ 100000 ∧ okL l) (fun l=>.bool (rightRs l)))
theorem T23d_ok:TabOK Tryz.prog T23d:=T23c_ok.add (callable_of Tryz.func61 (by kernel_rfl) (by kernel_rfl)) (entry_ok fun l h=>c_ref08_Right l (Nat.le_trans h.1 (by decide)) h.2)
@[go_sem] theorem T23d_old {g:FuncId} {xs:List A} (h:g ≠ 61):T23d.f g xs = T23c.f g xs:=Tab.add_ne h
@[go_sem] theorem T23d_eff {g:FuncId}:T23d.eff g = false:=rfl
@[go_sem] theorem T23d_ords {n:Nat}:T23d.ords n = []:=rfl
theorem T23d_ref08_Right (l:List Rng) (h:l.length ≤ 100000 ∧ okL l):T23d.f 61 [.slc (l.map Rng.enc)] = some (.bool (rightRs l)):=
 (Tab.add_eq:T23d.f 61 [.slc (l.map Rng.enc)] = (entry (fun (l:List Rng)=>[.slc (l.map Rng.enc)]) (fun l=>l.length ≤ 100000 ∧ okL l) (fun l=>.bool (rightRs l))) [.slc (l.map Rng.enc)]).trans (entry_eq (fun i j h=>by first | (cases i; cases j; rfl; done) | simpa [Prod.ext_iff,and_assoc] using h | (simp at h; omega) | (simp at h; exact Prod.ext h.1 (Prod.ext h.2.1 (by omega)))) l h)
theorem s_rLong {s:Sta} (h:(s.fl.length ≤ 9223372036854775807 ∧ s.its.length ≤ 9223372036854775807) ∧ s.kn.length ≤ 9223372036854775807 ∧ ∀ p ∈ s.kn,p.s.length ≤ 9223372036854775807):T23a.f 14 [.agg [.int .i64 s.id,.slc (s.fl.map Rng.enc),.slc (s.its.map It.enc),.slc (s.kn.map Pc.enc),.int .i64 s.ct]] = some (.bool (longS s)):=T23a_ref23_Long s h
theorem s_rMost {k:List Pc} {id:Int} (h:okR k):T23b.f 65 [.slc (k.map Pc.enc),.int .i64 id] = some (.int .i64 (mostK k id)):=T23b_ref23_Most (k,id) h
theorem s_rApart {l:List It} (h:l.length ≤ 1000000):T23c.f 66 [.slc (l.map It.enc)] = some (.bool (apartI l)):=T23c_ref23_Apart l h
theorem s_rRngRight {l:List Rng} (h:l.length ≤ 100000 ∧ okL l):T23d.f 61 [.slc (l.map Rng.enc)] = some (.bool (rightRs l)):=T23d_ref08_Right l h
structure OkS (s:Sta):Prop where
 fl:s.fl.length ≤ 8 ∧ okL s.fl
 its:s.its.length ≤ 24 ∧ okI s.its
 kn:s.kn.length ≤ 24 ∧ wP s.kn ≤ 24 * 272 ∧ ∀ p ∈ s.kn,p.r.lo.length ≤ 40 ∧ p.r.hi.length ≤ 40
theorem OkS.okR {s:Sta} (h:OkS s):okR s.kn:=okR_of (m:=24) h.kn (by omega)
structure OkR (s:Sta):Prop where
 fl:s.fl.length ≤ 500 ∧ okL s.fl
 its:s.its.length ≤ 1000000 ∧ okI s.its
 kn:okR s.kn ∧ s.kn.length ≤ 500
 rest:okP (setP (restP s.kn s.fl))
theorem OkS.toR {s:Sta} (h:OkS s):OkR s:=by
 have o:=okP_rest (a:=s.kn) (l:=s.fl) (N:=24) (M:=8) (W:=24 * 272) h.kn.1 h.fl.1 h.kn.2.1 (by omega) (by omega)
 exact ⟨⟨by have:=h.fl.1; omega,h.fl.2⟩,⟨by have:=h.its.1; omega,h.its.2⟩,⟨h.okR,by have:=h.kn.1; omega⟩,o.1⟩
theorem ok_ref23_Right:codeOK Tryz.prog T23d Tryz.f15.ntmps (Tryz.f15.body.getD .skip) = true:=by kernel_rfl
theorem c_ref23_Right (s:Sta) (h:OkR s):CallA Tryz.prog 15 [s.enc] (· = .bool (rightS s)):=by
 refine callA_of_body T23d_ok mixed Tryz.func15 rfl (Nat.le_of_ble_eq_true rfl) ok_ref23_Right ?_
 unfold Tryz.f15
 obtain ⟨⟨hf1,hf2⟩,⟨hi1,hi2⟩,⟨hk1,hk2⟩,hr⟩:=h
 have g1:=s_rRngRight (l:=s.fl) ⟨by omega,hf2⟩
 have g2:=i_rList (l:=s.its) ⟨by omega,hi2⟩
 have g3:=q_rRight hk1.1
 have g4:=q_Restrict hk1 hf2 ⟨hk2,hf1⟩
 have g5:=p_rSame hr hk1.1
 have g6:=s_rMost (id:=s.id) hk1
 have g7:=s_rApart hi1
 have g8:∀ x:List UInt8,x.length ≤ 9223372036854775807 → P15o.f 38 [.slc (s.fl.map Rng.enc),.str x] = some (.bool (hasRs s.fl x)):=fun x hx=>p_ref08_Has (by omega) hf2 hx
 have g9:∀ (x:List UInt8) (n c:Int),x.length ≤ 9223372036854775807 → P17d.f 67 [.slc (s.kn.map Pc.enc),.str x,.agg [.int .i64 n,.int .i64 c]] = some (.bool (hasP s.kn x n c)):=fun x n c hx=>p_rHas hk1.1 hx
 have hR:rightS s = (!(decide (s.id < 1) || decide (16 < s.id)) && !(decide (s.ct < 0) || decide (1099511627776 < s.ct)) && decide (s.its.length ≤ 4096) && rightRs s.fl && rightL18 s.its && rightP s.kn && sameP (setP (restP s.kn s.fl)) s.kn && decide (mostK s.kn s.id ≤ s.ct) && apartI s.its && s.its.all fun x=>hasRs s.fl x.key && hasP s.kn x.key x.rep x.cnt):=rfl
 rw [hR]
 obtain ⟨id,F,I,K,ct⟩:=s
 simp only [Sta.enc,Sta.cells] at *
 generalize setP (restP K F) = Q at *
 generalize mostK K id = m at *
 by_cases c1:id < 1
 ·simp -implicitDefEqProofs (maxSteps:=600000) (disch:=(first | omega | decide)) only [go_sem,↓reduceIte,seval,c1]
 ·by_cases c2:16 < id
  ·simp -implicitDefEqProofs (maxSteps:=600000) (disch:=(first | omega | decide)) only [go_sem,↓reduceIte,seval,c1,c2]
  ·by_cases c3:ct < 0
   ·simp -implicitDefEqProofs (maxSteps:=600000) (disch:=(first | omega | decide)) only [go_sem,↓reduceIte,seval,c1,c2,c3]
   ·by_cases c4:1099511627776 < ct
    ·simp -implicitDefEqProofs (maxSteps:=600000) (disch:=(first | omega | decide)) only [go_sem,↓reduceIte,seval,c1,c2,c3,c4]
    ·by_cases c5:I.length ≤ 4096
     ·have c5':¬ (4096:Int) < (I.length:Int):=by omega
      cases d1:rightRs F with
      | false=>rw [d1] at g1; simp -implicitDefEqProofs (maxSteps:=600000) (disch:=(first | omega | decide)) only [go_sem,↓reduceIte,seval,c1,c2,c3,c4,c5,c5',g1,List.length_map]
      | true=>
       rw [d1] at g1
       cases d2:rightL18 I with
       | false=>rw [d2] at g2; simp -implicitDefEqProofs (maxSteps:=600000) (disch:=(first | omega | decide)) only [go_sem,↓reduceIte,seval,c1,c2,c3,c4,c5,c5',g1,g2,List.length_map]
       | true=>
        rw [d2] at g2
        cases d3:rightP K with
        | false=>rw [d3] at g3; simp -implicitDefEqProofs (maxSteps:=600000) (disch:=(first | omega | decide)) only [go_sem,↓reduceIte,seval,c1,c2,c3,c4,c5,c5',g1,g2,g3,List.length_map]
        | true=>
         rw [d3] at g3
         cases d4:sameP Q K with
         | false=>rw [d4] at g5; simp -implicitDefEqProofs (maxSteps:=600000) (disch:=(first | omega | decide)) only [go_sem,↓reduceIte,seval,c1,c2,c3,c4,c5,c5',g1,g2,g3,g4,g5,List.length_map]
         | true=>
          rw [d4] at g5
          by_cases d5:m ≤ ct
          ·have d5':¬ ct < m:=by omega
           cases d6:apartI I with
           | false=>rw [d6] at g7; simp -implicitDefEqProofs (maxSteps:=600000) (disch:=(first | omega | decide)) only [go_sem,↓reduceIte,seval,c1,c2,c3,c4,c5,c5',g1,g2,g3,g4,g5,g6,g7,d5,d5',List.length_map]
           | true=>
            rw [d6] at g7
            simp -implicitDefEqProofs (maxSteps:=600000) (disch:=(first | omega | decide)) only [go_sem,↓reduceIte,seval,c1,c2,c3,c4,c5,c5',g1,g2,g3,g4,g5,g6,g7,d5,d5',List.length_map]
            refine wpA_loop [1] (ι:={i:Nat // i ≤ I.length ∧ (I.all fun x=>hasRs F x.key && hasP K x.key x.rep x.cnt) = ((I.drop i).all fun x=>hasRs F x.key && hasP K x.key x.rep x.cnt)}) (fun p=>[(3,.int .i64 p.1),(2,.bool false)]) (fun p=>[(0,.box [.int .i64 id,.slc (F.map Rng.enc),.slc (I.map It.enc),.slc (K.map Pc.enc),.int .i64 ct])]) (fun p=>I.length - p.1) ⟨0,by omega,rfl⟩ (Nat.zero_le _) ?_ ?_
            ·simp -implicitDefEqProofs (maxSteps:=600000) (disch:=(first | omega | decide)) only [go_sem,↓reduceIte,seval]
            ·rintro ⟨i,hi,hd⟩
             simp only
             by_cases hlt:i < I.length
             ·have hlt':(i:Int) < (I.length:Int):=by omega
              have ei:=it_get hlt
              have hox:=hi2 _ (List.getElem_mem hlt)
              rw [List.drop_eq_getElem_cons hlt,List.all_cons] at hd
              generalize I[i] = x at *
              obtain ⟨key,rep,cnt,rank,prio,dead,body⟩:=x
              simp only at ei hd
              have g8:=g8 key hox.1
              have g9:=g9 key rep cnt hox.1
              cases k1:hasRs F key with
              | false=>
               rw [k1] at g8 hd
               rw [Bool.false_and,Bool.false_and] at hd
               simp -implicitDefEqProofs (maxSteps:=600000) (disch:=(first | omega | decide)) only [go_sem,↓reduceIte,seval,hlt',ei,g8,hd,List.length_map]
              | true=>
               rw [k1] at g8 hd
               cases k2:hasP K key rep cnt with
               | false=>
                rw [k2] at g9 hd
                rw [Bool.and_false,Bool.false_and] at hd
                simp -implicitDefEqProofs (maxSteps:=600000) (disch:=(first | omega | decide)) only [go_sem,↓reduceIte,seval,hlt',ei,g8,g9,hd,List.length_map]
               | true=>
                rw [k2] at g9 hd
                rw [Bool.and_true,Bool.true_and] at hd
                simp -implicitDefEqProofs (maxSteps:=600000) (disch:=(first | omega | decide)) only [go_sem,↓reduceIte,seval,hlt',ei,g8,g9,wrap_i64,List.length_map]
                exact ⟨⟨i + 1,hlt,hd⟩,by simp,by show I.length - (i + 1) < I.length - i; omega⟩
             ·have hlt':¬ (i:Int) < (I.length:Int):=by omega
              rw [List.drop_of_length_le (by omega)] at hd
              have hd:(I.all fun x=>hasRs F x.key && hasP K x.key x.rep x.cnt) = true:=hd
              simp -implicitDefEqProofs (maxSteps:=600000) (disch:=(first | omega | decide)) only [go_sem,↓reduceIte,seval,hlt',hd,List.length_map]
          ·have d5':ct < m:=by omega
           simp -implicitDefEqProofs (maxSteps:=600000) (disch:=(first | omega | decide)) only [go_sem,↓reduceIte,seval,c1,c2,c3,c4,c5,c5',g1,g2,g3,g4,g5,g6,d5,d5',List.length_map]
     ·have c5':(4096:Int) < (I.length:Int):=by omega
      simp -implicitDefEqProofs (maxSteps:=600000) (disch:=(first | omega | decide)) only [go_sem,↓reduceIte,seval,c1,c2,c3,c4,c5,c5',List.length_map]
noncomputable def T23e:Tab:=T23d.add 15 (entry (fun (s:Sta)=>[s.enc]) (fun s=>OkR s) (fun s=>.bool (rightS s)))
theorem T23e_ok:TabOK Tryz.prog T23e:=T23d_ok.add (callable_of Tryz.func15 (by kernel_rfl) (by kernel_rfl)) (entry_ok fun s h=>c_ref23_Right s h)
@[go_sem] theorem T23e_old {g:FuncId} {xs:List A} (h:g ≠ 15):T23e.f g xs = T23d.f g xs:=Tab.add_ne h
theorem T23e_ref23_Right (s:Sta) (h:OkR s):T23e.f 15 [s.enc] = some (.bool (rightS s)):=
 (Tab.add_eq:T23e.f 15 [s.enc] = (entry (fun (s:Sta)=>[s.enc]) (fun s=>OkR s) (fun s=>.bool (rightS s))) [s.enc]).trans (entry_eq (fun i j h=>by first | (cases i; cases j; rfl; done) | simpa [Prod.ext_iff,and_assoc] using h | (simp at h; omega) | (simp at h; exact Prod.ext h.1 (Prod.ext h.2.1 (by omega)))) s h)
theorem s_rRight {s:Sta} (h:OkR s):T23e.f 15 [.agg [.int .i64 s.id,.slc (s.fl.map Rng.enc),.slc (s.its.map It.enc),.slc (s.kn.map Pc.enc),.int .i64 s.ct]] = some (.bool (rightS s)):=T23e_ref23_Right s h
end Go.Proofs.YtjfdlpagcgpaoaaGreat
namespace Go.Abs
theorem callH_boxnil {P:Program} {f:FuncId} {xs:List A} {ds cs:List A} {r:A} {S:List Nat} (i k:Nat) (hi:cs[i]? = some .nils) (h:CallH P f xs [.box ds] r [.box cs] S) :
 CallH P f xs [.box ds] r [.box (setNth cs i (.row 1 0 k 0 false)),.row k []] S:=by
 intro N φ w vs hN hrel hfree hrep
 refine Calls.mono (h N φ w vs hN hrel hfree hrep) ?_
 rintro e w' ⟨v,φ',rfl,hv,hrel',ht,hl⟩
 have e1:φ'.length = 1:=hrel'.len
 have hget:∀ m:Nat,(φ' ++ [Own.nil])[m]? = if m = 1 then some .nil else φ'[m]?:=fun m=>by
  rw [List.getElem?_append]
  split
  ·rw [if_neg (by omega)]
  ·split
   ·rename_i h1 h2; subst h2; simp [e1]
   ·rename_i h1 h2
    rw [List.getElem?_eq_none (by simp; omega),List.getElem?_eq_none (by omega)]
 have hat:∀ m b k:Nat,(φ' ++ [Own.nil])[m]? = some (Own.loc b k) → φ'[m]? = some (.loc b k):=fun m b k hm=>by
  rw [hget] at hm
  split at hm
  ·simp at hm
  ·exact hm
 have hold:∀ (m:Nat) (p:Own),φ'[m]? = some p → (φ' ++ [Own.nil])[m]? = some p:=fun m p hp=>by
  have:=(List.getElem?_eq_some_iff.1 hp).1
  rw [hget,if_neg (by omega)]; exact hp
 have hext:Ext (fun _=>True) (envOf N φ' w') (envOf N (φ' ++ [.nil]) w'):={
  size:=Nat.le_refl _
  blk:=fun b _ hn=>⟨by
   rintro (h0 | ⟨m,k',hm⟩)
   ·exact hn (.inl h0)
   ·exact hn (.inr ⟨m,k',hat m b k' hm⟩),rfl⟩
  refs:=fun n o _ hn _=>hold n o hn
  own:=fun n b k' c e fr _ _ hc=>⟨c,fr,hc,rfl⟩ }
 have hφl:φ.length = 1:=hrel.len
 refine ⟨v,φ' ++ [.nil],rfl,Rep.mono hext _ _ hv fun _ _=>trivial,?_,?_,by simp⟩
 ·exact {
   len:=by simp [e1]
   objs:=fun n o p ho hp=>by
    cases n with
    | zero=>
     simp only [nthO,Option.some.injEq] at ho
     subst ho
     rw [hget,if_neg (by omega)] at hp
     have hob:=hrel'.objs 0 (.box cs) p rfl hp
     cases p with
     | nil=>simp [ObjRel] at hob
     | free=>simp [ObjRel] at hob
     | loc b k'=>
      simp only [ObjRel] at hob ⊢
      refine ⟨hob.1,RepM_iff.2 fun j y hy=>?_⟩
      rw [setNth_eq,List.getElem?_set] at hy
      split at hy
      ·rename_i e
       subst e
       split at hy
       ·simp at hy
        subst hy
        obtain ⟨u,hu,h1',hr⟩:=RepM_iff.1 hob.2 i _ hi
        refine ⟨u,hu,h1',?_⟩
        simp only [Rep] at hr
        subst hr
        simp only [Rep]
        exact .inl ⟨.nil,by show (φ' ++ [Own.nil])[1]? = _; rw [hget]; rfl,by simp,trivial,fun _=>trivial,none,rfl⟩
       ·simp at hy
      ·obtain ⟨u,hu,h1',hr⟩:=RepM_iff.1 hob.2 j y hy
       exact ⟨u,hu,h1',Rep.mono hext _ _ hr fun _ _=>trivial⟩
    | succ n=>
     cases n with
     | succ n=>simp [nthO] at ho
     | zero=>
      simp only [nthO,Option.some.injEq] at ho
      subst ho
      rw [hget,if_pos rfl] at hp
      obtain rfl:=Option.some.inj hp
      simp [ObjRel]
   own:=fun n b k' hn=>hrel'.own n b k' (hat n b k' hn)
   inj:=fun n m b k' k'' hn hm=>hrel'.inj n m b k' k'' (hat n b k' hn) (hat m b k'' hm) }
 ·exact {
   os:=ht.os
   tape:=ht.tape
   output:=ht.output
   drawn:=ht.drawn
   size:=ht.size
   block:=ht.block
   shape:=ht.shape
   own:=fun n b k' hn=>ht.own n b k' (hat n b k' hn)
   stay:=fun n p hS hp=>hold n p (ht.stay n p hS hp) }
theorem callH_boxswap {P:Program} {f:FuncId} {xs ds pre ys es:List A} {r:A} {S:List Nat} {k k' n off:Nat} {c:Bool} (hpre:∀ x ∈ pre,∀ m,x.mem m = false) (hr:∀ m,r.mem m = false)
 (h:CallH P f xs [.box ds] r [.box (pre ++ [.row 2 off k n c]),.box ys,.row k' es] S):CallH P f xs [.box ds] r [.box (pre ++ [.row 1 off k n c]),.row k' es] S:=by
 intro N φ w vs hN hrel hfree hrep
 refine Calls.mono (h N φ w vs hN hrel hfree hrep) ?_
 rintro e w' ⟨v,φ',rfl,hv,hrel',ht,hl⟩
 have e1:φ'.length = 3:=hrel'.len
 obtain ⟨p0,p1,p2,rfl⟩:∃ p0 p1 p2,φ' = [p0,p1,p2]:=by
  match φ',e1 with
  | [a,b,c],_=>exact ⟨a,b,c,rfl⟩
 have hat:∀ (m:Nat) (p:Own),[p0,p2][m]? = some p → ∃ m',[p0,p1,p2][m']? = some p ∧ (m = 0 ∧ m' = 0 ∨ m = 1 ∧ m' = 2):=fun m p hm=>by
  match m,hm with
  | 0,hm=>exact ⟨0,hm,.inl ⟨rfl,rfl⟩⟩
  | 1,hm=>exact ⟨2,hm,.inr ⟨rfl,rfl⟩⟩
  | _ + 2,hm=>simp at hm
 have hext:Ext (fun _=>False) (envOf N [p0,p1,p2] w') (envOf N [p0,p2] w'):={
  size:=Nat.le_refl _
  blk:=fun b _ hn=>⟨by
   rintro (h0 | ⟨m,k',hm⟩)
   ·exact hn (.inl h0)
   ·obtain ⟨m',hm',_⟩:=hat m _ hm
    exact hn (.inr ⟨m',k',hm'⟩),rfl⟩
  refs:=fun n o hK=>hK.elim
  own:=fun n b k' c e fr hK=>hK.elim }
 have hφl:φ.length = 1:=hrel.len
 refine ⟨v,[p0,p2],rfl,Rep.mono hext _ _ hv (fun m hm=>by rw [hr m] at hm; cases hm),?_,?_,by simp⟩
 ·exact {
   len:=rfl
   objs:=fun m o p ho hp=>by
    match m,ho,hp with
    | 0,ho,hp=>
     simp only [nthO,Option.some.injEq] at ho
     subst ho
     have hp':p0 = p:=Option.some.inj hp
     subst hp'
     have hob:=hrel'.objs 0 _ p0 rfl rfl
     cases p0 with
     | nil=>simp [ObjRel] at hob
     | free=>simp [ObjRel] at hob
     | loc b kk=>
      simp only [ObjRel] at hob ⊢
      refine ⟨hob.1,RepM_iff.2 fun j y hy=>?_⟩
      by_cases hj:j < pre.length
      ·rw [List.getElem?_append_left hj] at hy
       obtain ⟨u,hu,h1',hr'⟩:=RepM_iff.1 hob.2 j y (by rw [List.getElem?_append_left hj]; exact hy)
       exact ⟨u,hu,h1',Rep.mono hext _ _ hr' fun m hm=>by rw [hpre y (List.mem_of_getElem? hy) m] at hm; cases hm⟩
      ·rw [List.getElem?_append_right (by omega)] at hy
       have hj0:j - pre.length = 0:=by
        cases hq:j - pre.length with
        | zero=>rfl
        | succ q=>rw [hq] at hy; simp at hy
       rw [hj0] at hy
       obtain rfl:=Option.some.inj hy
       obtain ⟨u,hu,h1',hr'⟩:=RepM_iff.1 hob.2 j (.row 2 off k n c) (by rw [List.getElem?_append_right (by omega),hj0]; rfl)
       refine ⟨u,hu,h1',?_⟩
       simp only [Rep] at hr' ⊢
       exact hr'
    | 1,ho,hp=>
     simp only [nthO,Option.some.injEq] at ho
     subst ho
     have hp':p2 = p:=Option.some.inj hp
     subst hp'
     exact ObjRel.mono hext (hrel'.objs 2 _ p2 rfl rfl) (fun b k _ c e fr hc=>hc) (fun cs hcs=>by cases hcs)
    | _ + 2,ho,hp=>simp [nthO] at ho
   own:=fun m b kk hm=>by
    obtain ⟨m',hm',_⟩:=hat m _ hm
    exact hrel'.own m' b kk hm'
   inj:=fun m m2 b kk kk' h1 h2=>by
    obtain ⟨a1,g1,q1⟩:=hat m _ h1
    obtain ⟨a2,g2,q2⟩:=hat m2 _ h2
    have:=hrel'.inj a1 a2 b kk kk' g1 g2
    omega }
 ·exact {
   os:=ht.os
   tape:=ht.tape
   output:=ht.output
   drawn:=ht.drawn
   size:=ht.size
   block:=ht.block
   shape:=ht.shape
   own:=fun m b kk hm=>by
    obtain ⟨m',hm',_⟩:=hat m _ hm
    exact ht.own m' b kk hm'
   stay:=fun m p hS hp=>by
    have hm0:m = 0:=by
     have:=(List.getElem?_eq_some_iff.1 hp).1
     omega
    subst hm0
    exact ht.stay 0 p hS hp }
end Go.Abs
namespace Go.Proofs.YtjfdlpagcgpaoaaGreat
open Go.Abs
set_option linter.unusedSimpArgs false
set_option linter.unusedVariables false
set_option maxRecDepth 20000
set_option maxHeartbeats 8000000
noncomputable def T46b:Tab:=T23e.add 69 (entry (fun (l:List Rng)=>[.slc (l.map Rng.enc)]) (fun l=>l.length ≤ 100000 ∧ okL l) (fun l=>.bool (rightRs l)))
theorem T46b_ok:TabOK Tryz.prog T46b:=T23e_ok.add (callable_of Tryz.func69 (by kernel_rfl) (by kernel_rfl)) (entry_ok fun l h=>c_ranges_Right l (Nat.le_trans h.1 (by decide)) h.2)
@[go_sem] theorem T46b_old {g:FuncId} {xs:List A} (h:g ≠ 69):T46b.f g xs = T23e.f g xs:=Tab.add_ne h
@[go_sem] theorem T46b_ords {n:Nat}:T46b.ords n = []:=rfl
theorem T46b_ranges_Right (l:List Rng) (h:l.length ≤ 100000 ∧ okL l):T46b.f 69 [.slc (l.map Rng.enc)] = some (.bool (rightRs l)):=
 (Tab.add_eq:T46b.f 69 [.slc (l.map Rng.enc)] = (entry (fun (l:List Rng)=>[.slc (l.map Rng.enc)]) (fun l=>l.length ≤ 100000 ∧ okL l) (fun l=>.bool (rightRs l))) [.slc (l.map Rng.enc)]).trans (entry_eq (fun i j h=>by first | (cases i; cases j; rfl; done) | simpa [Prod.ext_iff,and_assoc] using h | (simp at h; omega) | (simp at h; exact Prod.ext h.1 (Prod.ext h.2.1 (by omega)))) l h)
theorem a_rangesRight {l:List Rng} (h:l.length ≤ 100000 ∧ okL l):T46b.f 69 [.slc (l.map Rng.enc)] = some (.bool (rightRs l)):=T46b_ranges_Right l h
def idxF:List Fd → Fd → Int → Int
 | [],_,_=>-1
 | y :: l,x,i=>if y = x then i else idxF l x (i + 1)
theorem idxF_any:∀ {l:List Fd} {x:Fd} {i:Int},0 ≤ i → decide (0 ≤ idxF l x i) = l.any fun y=>decide (y = x)
 | [],x,i,h=>by simp [idxF]
 | y :: l,x,i,h=>by
  rw [List.any_cons]
  by_cases e:y = x
  ·have:idxF (y :: l) x i = i:=by simp [idxF,e]
   rw [this,decide_eq_true h,decide_eq_true e,Bool.true_or]
  ·have:idxF (y :: l) x i = idxF l x (i + 1):=by simp [idxF,e]
   rw [this,idxF_any (by omega),decide_eq_false e,Bool.false_or]
theorem ok_slices_Index_winnower_audit_Finding_winnower_audit_Finding:codeOK Tryz.prog T46b Tryz.f176.ntmps (Tryz.f176.body.getD .skip) = true:=by kernel_rfl
theorem c_Index_Fd (l:List Fd) (x:Fd) (hl:l.length ≤ 4611686018427387904):CallA Tryz.prog 176 [.slc (l.map Fd.enc),x.enc] (· = .int .i64 (idxF l x 0)):=by
 refine callA_of_body T46b_ok mixed Tryz.func176 rfl (Nat.le_of_ble_eq_true rfl) ok_slices_Index_winnower_audit_Finding_winnower_audit_Finding ?_
 unfold Tryz.f176
 obtain ⟨c,a⟩:=x
 simp only [Fd.enc]
 simp -implicitDefEqProofs (maxSteps:=600000) (disch:=(first | omega | decide)) only [go_sem,↓reduceIte,seval,List.length_map]
 refine wpA_loop [0,3,6,7] (ι:={k:Nat // k ≤ l.length ∧ idxF l ⟨c,a⟩ 0 = idxF (l.drop k) ⟨c,a⟩ k}) (fun p=>[(8,.int .i64 p.1)]) (fun _=>[]) (fun p=>l.length - p.1) ⟨0,by omega,rfl⟩ (by show 0 ≤ _; simp) ?_ ?_
 ·simp -implicitDefEqProofs (maxSteps:=600000) (disch:=(first | omega | decide)) only [go_sem,↓reduceIte,seval]
 ·rintro ⟨k,hk,hd⟩
  simp only
  by_cases hlt:k < l.length
  ·have hlt':(k:Int) < (l.length:Int):=by omega
   have e1:=fd_get hlt
   rw [List.drop_eq_getElem_cons hlt] at hd
   simp only [idxF] at hd
   generalize hx:l[k] = y at *
   obtain ⟨c',a'⟩:=y
   simp only at e1
   cases h1:c == c' with
   | false=>
    have hne:¬ (⟨c',a'⟩:Fd) = ⟨c,a⟩:=fun e=>by
     have:c ≠ c':=by simpa using h1
     exact this (Fd.mk.inj e).1.symm
    rw [if_neg hne] at hd
    simp -implicitDefEqProofs (maxSteps:=600000) (disch:=(first | omega | decide)) only [go_sem,↓reduceIte,seval,hlt',e1,h1,wrap_i64,List.length_map]
    exact ⟨⟨k + 1,hlt,hd⟩,by simp,by show l.length - (k + 1) < l.length - k; omega⟩
   | true=>
    obtain rfl:c = c':=by simpa using h1
    cases h2:a == a' with
    | false=>
     have hne:¬ (⟨c,a'⟩:Fd) = ⟨c,a⟩:=fun e=>by
          have:a ≠ a':=by simpa using h2
          exact this (Fd.mk.inj e).2.symm
     rw [if_neg hne] at hd
     simp -implicitDefEqProofs (maxSteps:=600000) (disch:=(first | omega | decide)) only [go_sem,↓reduceIte,seval,hlt',e1,h1,h2,wrap_i64,List.length_map]
     exact ⟨⟨k + 1,hlt,hd⟩,by simp,by show l.length - (k + 1) < l.length - k; omega⟩
    | true=>
     obtain rfl:a = a':=by simpa using h2
     rw [if_pos rfl] at hd
     simp -implicitDefEqProofs (maxSteps:=600000) (disch:=(first | omega | decide)) only [go_sem,↓reduceIte,seval,hlt',e1,h1,h2,hd,wrap_i64,List.length_map]
  ·have hlt':¬ (k:Int) < (l.length:Int):=by omega
   rw [List.drop_of_length_le (by omega)] at hd
   have hd:idxF l ⟨c,a⟩ 0 = -1:=hd
   simp -implicitDefEqProofs (maxSteps:=600000) (disch:=(first | omega | decide)) only [go_sem,↓reduceIte,seval,hlt',hd,List.length_map]
noncomputable def T46c:Tab:=T46b.add 176 (entry (fun (v:List Fd × Fd)=>[.slc (v.1.map Fd.enc),v.2.enc]) (fun v=>v.1.length ≤ 4611686018427387904) (fun v=>.int .i64 (idxF v.1 v.2 0)))
theorem T46c_ok:TabOK Tryz.prog T46c:=T46b_ok.add (callable_of Tryz.func176 (by kernel_rfl) (by kernel_rfl)) (entry_ok fun v h=>c_Index_Fd v.1 v.2 h)
@[go_sem] theorem T46c_old {g:FuncId} {xs:List A} (h:g ≠ 176):T46c.f g xs = T46b.f g xs:=Tab.add_ne h
@[go_sem] theorem T46c_eff {g:FuncId}:T46c.eff g = false:=rfl
@[go_sem] theorem T46c_ords {n:Nat}:T46c.ords n = []:=rfl
theorem T46c_slices_Index_winnower_audit_Finding_winnower_audit_Finding (v:List Fd × Fd) (h:v.1.length ≤ 4611686018427387904):T46c.f 176 [.slc (v.1.map Fd.enc),v.2.enc] = some (.int .i64 (idxF v.1 v.2 0)):=
 (Tab.add_eq:T46c.f 176 [.slc (v.1.map Fd.enc),v.2.enc] = (entry (fun (v:List Fd × Fd)=>[.slc (v.1.map Fd.enc),v.2.enc]) (fun v=>v.1.length ≤ 4611686018427387904) (fun v=>.int .i64 (idxF v.1 v.2 0))) [.slc (v.1.map Fd.enc),v.2.enc]).trans (entry_eq (fun i j h=>by first | (cases i; cases j; rfl; done) | simpa [Prod.ext_iff,and_assoc] using h | (simp at h; omega) | (simp at h; exact Prod.ext h.1 (Prod.ext h.2.1 (by omega)))) v h)
theorem a_Index {l:List Fd} {c a:Int} (h:l.length ≤ 4611686018427387904):T46c.f 176 [.slc (l.map Fd.enc),.agg [.int .i64 c,.int .i64 a]] = some (.int .i64 (idxF l ⟨c,a⟩ 0)):=T46c_slices_Index_winnower_audit_Finding_winnower_audit_Finding (l,⟨c,a⟩) h
theorem ok_slices_Contains_winnower_audit_Finding_winnower_audit_Finding:codeOK Tryz.prog T46c Tryz.f131.ntmps (Tryz.f131.body.getD .skip) = true:=by kernel_rfl
theorem c_Contains_Fd (l:List Fd) (x:Fd) (hl:l.length ≤ 4611686018427387904):CallA Tryz.prog 131 [.slc (l.map Fd.enc),x.enc] (· = .bool (l.any fun y=>decide (y = x))):=by
 refine callA_of_body T46c_ok mixed Tryz.func131 rfl (Nat.le_of_ble_eq_true rfl) ok_slices_Contains_winnower_audit_Finding_winnower_audit_Finding ?_
 unfold Tryz.f131
 obtain ⟨c,a⟩:=x
 have h1:=a_Index (c:=c) (a:=a) hl
 have h2:=idxF_any (l:=l) (x:=⟨c,a⟩) (i:=0) (Int.le_refl _)
 simp only [Fd.enc]
 simp -implicitDefEqProofs (maxSteps:=600000) (disch:=(first | omega | decide)) only [go_sem,↓reduceIte,seval,h1,h2]
noncomputable def T46d:Tab:=T46c.add 131 (entry (fun (v:List Fd × Fd)=>[.slc (v.1.map Fd.enc),v.2.enc]) (fun v=>v.1.length ≤ 4611686018427387904) (fun v=>.bool (v.1.any fun y=>decide (y = v.2))))
theorem T46d_ok:TabOK Tryz.prog T46d:=T46c_ok.add (callable_of Tryz.func131 (by kernel_rfl) (by kernel_rfl)) (entry_ok fun v h=>c_Contains_Fd v.1 v.2 h)
@[go_sem] theorem T46d_old {g:FuncId} {xs:List A} (h:g ≠ 131):T46d.f g xs = T46c.f g xs:=Tab.add_ne h
@[go_sem] theorem T46d_ords {n:Nat}:T46d.ords n = []:=rfl
theorem T46d_slices_Contains_winnower_audit_Finding_winnower_audit_Finding (v:List Fd × Fd) (h:v.1.length ≤ 4611686018427387904):T46d.f 131 [.slc (v.1.map Fd.enc),v.2.enc] = some (.bool (v.1.any fun y=>decide (y = v.2))):=
 (Tab.add_eq:T46d.f 131 [.slc (v.1.map Fd.enc),v.2.enc] = (entry (fun (v:List Fd × Fd)=>[.slc (v.1.map Fd.enc),v.2.enc]) (fun v=>v.1.length ≤ 4611686018427387904) (fun v=>.bool (v.1.any fun y=>decide (y = v.2)))) [.slc (v.1.map Fd.enc),v.2.enc]).trans (entry_eq (fun i j h=>by first | (cases i; cases j; rfl; done) | simpa [Prod.ext_iff,and_assoc] using h | (simp at h; omega) | (simp at h; exact Prod.ext h.1 (Prod.ext h.2.1 (by omega)))) v h)
theorem a_Contains {l:List Fd} {c a:Int} (h:l.length ≤ 4611686018427387904):T46d.f 131 [.slc (l.map Fd.enc),.agg [.int .i64 c,.int .i64 a]] = some (.bool (l.any fun y=>decide (y = ⟨c,a⟩))):=T46d_slices_Contains_winnower_audit_Finding_winnower_audit_Finding (l,⟨c,a⟩) h
theorem st18 (l:List It):((l.map It.enc).isEmpty || strideOf (l.map It.enc) == 7) = true:=by cases l <;> rfl
def lkC (id:Int) (F I K:List A) (ct:Int) (x:A):List A:=[.int .i64 id,.slc F,.slc I,.slc K,.int .i64 ct,x]
noncomputable def T46n:Tab:={ T46d with fix:=fun n=>n == 0,nf:=2,ords:=fun n=>if n = 2 then [[1,2,3,4,5,6,7,0,8,9,10],[1,2,3,4,5,6,0,7,8,9,10],[1,2,3,4,5,6,0,8,7,9,10],[1,2,3,4,5,6,0,8,9,7,10]] else [] }
theorem T46n_ok:TabOK Tryz.prog T46n:=⟨T46d_ok.f,T46d_ok.hp⟩
@[go_sem] theorem T46n_f:T46n.f = T46d.f:=rfl
@[go_sem] theorem T46n_eff {g:FuncId}:T46n.eff g = false:=rfl
@[go_sem] theorem T46n_fix {n:Nat}:T46n.fix n = (n == 0):=rfl
@[go_sem] theorem T46n_ords2:T46n.ords 2 = [[1,2,3,4,5,6,7,0,8,9,10],[1,2,3,4,5,6,0,7,8,9,10],[1,2,3,4,5,6,0,8,7,9,10],[1,2,3,4,5,6,0,8,9,7,10]]:=rfl
@[go_sem] theorem T46n_ords {n:Nat} (h:n ≠ 2):T46n.ords n = []:=if_neg h
theorem ok_noteR:codeOK Tryz.prog T46n Tryz.f68.ntmps (Tryz.f68.body.getD .skip) = true:=by kernel_rfl
theorem h_noteR (id:Int) (F I K:List A) (ct:Int) (l:List Fd) (is:Bool) (c a:Int) (hl:l.length ≤ 1000000) :
 CallH Tryz.prog 68 [.ref 0 0,.bool is,.int .i64 c,.int .i64 a] [.box (lkC id F I K ct (.row 1 0 2 l.length false)),.row 2 (l.map Fd.enc)]
  (.tup []) [.box (lkC id F I K ct (.row 1 0 2 (noteF l is c a).length false)),.row 2 ((noteF l is c a).map Fd.enc)] [1]:=by
 refine callH_of_body T46n_ok mixed Tryz.func68 rfl (Nat.le_of_ble_eq_true rfl) (fun n h h'=>by have h:n < 2:=h; simp at h'; have e:n = 0:=(by omega); subst e; rfl) (by show 2 ≤ 2; simp) (by show 2 ≤ 2; simp) ok_noteR ?_
 unfold Tryz.f68
 have h1:=a_Contains (l:=l) (c:=c) (a:=a) (by omega)
 have tl:(l.map Fd.enc).take l.length = l.map Fd.enc:=List.take_of_length_le (by simp)
 unfold lkC
 cases is with
 | false=>
  have e:noteF l false c a = l:=by simp [noteF]
  rw [e]
  simp -implicitDefEqProofs (maxSteps:=600000) (disch:=(first | omega | decide)) only [go_sem,↓reduceIte,seval]
 | true=>
  cases hc:l.any fun y=>decide (y = ⟨c,a⟩) with
  | true=>
   rw [hc] at h1
   have e:noteF l true c a = l:=by simp only [noteF,hc]; rfl
   rw [e]
   simp -implicitDefEqProofs (maxSteps:=600000) (disch:=(first | omega | decide)) only [go_sem,↓reduceIte,seval,h1,tl,List.length_map]
   exact Nat.le_refl _
  | false=>
   rw [hc] at h1
   have e:noteF l true c a = l ++ [⟨c,a⟩]:=by simp only [noteF,hc]; rfl
   rw [e]
   simp -implicitDefEqProofs (maxSteps:=600000) (disch:=(first | omega | decide)) only [go_sem,↓reduceIte,seval,h1,tl,List.length_map,List.map_append,List.length_append]
   exact ⟨Nat.le_refl _,⟨Nat.le_refl _,by omega⟩,rfl⟩
noncomputable def T46o:Tab:={ T46d with fix:=fun n=>n == 0,nf:=1,ords:=fun n=>if n = 2 then [[1,2,3,4,5,6,7,0,8,9,10],[1,2,3,4,5,6,0,7,8,9,10],[1,2,3,4,5,6,0,8,7,9,10],[1,2,3,4,5,6,0,8,9,7,10]] else [] }
theorem T46o_ok:TabOK Tryz.prog T46o:=⟨T46d_ok.f,T46d_ok.hp⟩
@[go_sem] theorem T46o_f:T46o.f = T46d.f:=rfl
@[go_sem] theorem T46o_eff {g:FuncId}:T46o.eff g = false:=rfl
@[go_sem] theorem T46o_ords2:T46o.ords 2 = [[1,2,3,4,5,6,7,0,8,9,10],[1,2,3,4,5,6,0,7,8,9,10],[1,2,3,4,5,6,0,8,7,9,10],[1,2,3,4,5,6,0,8,9,7,10]]:=rfl
@[go_sem] theorem T46o_ords {n:Nat} (h:n ≠ 2):T46o.ords n = []:=if_neg h
theorem ok_noteN:codeOK Tryz.prog T46o Tryz.f68.ntmps (Tryz.f68.body.getD .skip) = true:=by kernel_rfl
theorem h_noteN (id:Int) (F I K:List A) (ct:Int) (is:Bool) (c a:Int) :
 CallH Tryz.prog 68 [.ref 0 0,.bool is,.int .i64 c,.int .i64 a] [.box (lkC id F I K ct .nils)]
  (.tup []) [.box (lkC id F I K ct (.row 1 0 2 (noteF [] is c a).length false)),.row 2 ((noteF [] is c a).map Fd.enc)] []:=by
 cases is with
 | false=>
  have e:noteF [] false c a = []:=by simp [noteF]
  rw [e]
  refine callH_boxnil (cs:=lkC id F I K ct .nils) 5 2 rfl ?_
  refine callH_of_body T46o_ok mixed Tryz.func68 rfl (Nat.le_of_ble_eq_true rfl) (fun n h h'=>by simp at h; subst h; rfl) (by show 1 ≤ 1; simp) (by show 1 ≤ 1; simp) ok_noteN ?_
  unfold Tryz.f68
  unfold lkC
  simp -implicitDefEqProofs (maxSteps:=600000) (disch:=(first | omega | decide)) only [go_sem,↓reduceIte,seval]
 | true=>
  have e:noteF [] true c a = [⟨c,a⟩]:=by simp [noteF]
  rw [e]
  refine callH_boxswap (pre:=[.int .i64 id,.slc F,.slc I,.slc K,.int .i64 ct]) (ys:=[.int .i64 c,.int .i64 a]) (fun x hx m=>by
   simp only [List.mem_cons,List.not_mem_nil,or_false] at hx
   rcases hx with rfl | rfl | rfl | rfl | rfl <;> rfl) (fun m=>rfl) ?_
  refine callH_of_body T46o_ok mixed Tryz.func68 rfl (Nat.le_of_ble_eq_true rfl) (fun n h h'=>by simp at h; subst h; rfl) (by show 1 ≤ 1; simp) (by show 1 ≤ 3; simp) ok_noteN ?_
  unfold Tryz.f68
  have h1:=a_Contains (l:=[]) (c:=c) (a:=a) (by simp)
  unfold lkC
  simp only [List.map_nil,List.any_nil] at h1
  simp -implicitDefEqProofs (maxSteps:=600000) (disch:=(first | omega | decide)) only [go_sem,↓reduceIte,seval,h1,List.map_nil,List.map_cons,List.length_cons,List.length_nil,List.cons_append,List.nil_append]
  rfl
abbrev NtI:=(Int × List A × List A × List A × Int) × List Fd × Bool × Int × Int
def ntE (v:NtI):List A:=[.ref 0 0,.bool v.2.2.1,.int .i64 v.2.2.2.1,.int .i64 v.2.2.2.2]
def ntO (v:NtI):List Go.Abs.Obj:=[.box (lkC v.1.1 v.1.2.1 v.1.2.2.1 v.1.2.2.2.1 v.1.2.2.2.2 (.row 1 0 2 v.2.1.length false)),.row 2 (v.2.1.map Fd.enc)]
def ntR (v:NtI):A × List Go.Abs.Obj × List Nat:=(.tup [],[.box (lkC v.1.1 v.1.2.1 v.1.2.2.1 v.1.2.2.2.1 v.1.2.2.2.2 (.row 1 0 2 (noteF v.2.1 v.2.2.1 v.2.2.2.1 v.2.2.2.2).length false)),.row 2 ((noteF v.2.1 v.2.2.1 v.2.2.2.1 v.2.2.2.2).map Fd.enc)],[1])
theorem nt_inj (i j:NtI) (h:ntE i = ntE j) (h':ntO i = ntO j):i = j:=by
 obtain ⟨⟨a,b,c,d,e⟩,f,g,k,m⟩:=i
 obtain ⟨⟨a',b',c',d',e'⟩,f',g',k',m'⟩:=j
 simp [ntE] at h
 simp [ntO,lkC] at h'
 obtain ⟨rfl,rfl,rfl⟩:=h
 obtain ⟨⟨rfl,rfl,rfl,rfl,rfl,_⟩,rfl⟩:=h'
 rfl
theorem ok_audit_look_twice:codeOK Tryz.prog T46d Tryz.f134.ntmps (Tryz.f134.body.getD .skip) = true:=by kernel_rfl
theorem c_twice (s:Sta) (x:A) (i:Nat) (hi:i < s.its.length) (hl:s.its.length ≤ 1000000):CallA Tryz.prog 134 [.dptr (lkC s.id (s.fl.map Rng.enc) (s.its.map It.enc) (s.kn.map Pc.enc) s.ct x),.int .i64 i] (· = .bool (twiceI s.its i)):=by
 refine callA_of_body T46d_ok mixed Tryz.func134 rfl (Nat.le_of_ble_eq_true rfl) ok_audit_look_twice ?_
 unfold Tryz.f134
 obtain ⟨id,F,I,K,ct⟩:=s
 simp only at hi hl ⊢
 have st:=st18 I
 have c1:((i:Nat):Int) ≤ (I.length:Int):=by omega
 have c2:((i:Nat):Int).toNat = i:=by simp
 have tk:(I.map It.enc).take i = (I.take i).map It.enc:=List.map_take.symm
 have ll:(I.take i).length = i:=by rw [List.length_take]; omega
 have ei:=it_get hi
 have hP:twiceI I i = (I.take i).any fun y=>decide (y.rep = I[i].rep ∧ y.cnt = I[i].cnt):=by
  unfold twiceI; rw [List.getElem?_eq_getElem hi]
 rw [hP]
 unfold lkC
 simp -implicitDefEqProofs (maxSteps:=600000) (disch:=(first | omega | decide)) only [go_sem,↓reduceIte,seval,st,c1,c2,tk,ll,List.length_map,List.drop_zero]
 refine wpA_loop [0,1,13,14] (ι:={k:Nat // k ≤ i ∧ ((I.take i).any fun y=>decide (y.rep = I[i].rep ∧ y.cnt = I[i].cnt)) = (((I.take i).drop k).any fun y=>decide (y.rep = I[i].rep ∧ y.cnt = I[i].cnt))}) (fun p=>[(15,.int .i64 p.1)]) (fun _=>[]) (fun p=>i - p.1) ⟨0,by omega,rfl⟩ (by show 0 ≤ _; simp) ?_ ?_
 ·simp -implicitDefEqProofs (maxSteps:=600000) (disch:=(first | omega | decide)) only [go_sem,↓reduceIte,seval]
 ·rintro ⟨k,hk,hd⟩
  simp only
  by_cases hlt:k < i
  ·have hlt':(k:Int) < (i:Int):=by omega
   have hk2:k < (I.take i).length:=by omega
   have e1:=it_get hk2
   rw [List.drop_eq_getElem_cons hk2,List.any_cons] at hd
   generalize (I.take i)[k] = y at *
   generalize I[i] = z at *
   obtain ⟨key,rep,cnt,rank,prio,dead,body⟩:=y
   obtain ⟨key',rep',cnt',rank',prio',dead',body'⟩:=z
   simp only at e1 ei hd
   cases h1:rep == rep' with
   | false=>
    have hne:decide (rep = rep' ∧ cnt = cnt') = false:=by
     have:rep ≠ rep':=by simpa using h1
     simp [this]
    rw [hne,Bool.false_or] at hd
    simp -implicitDefEqProofs (maxSteps:=600000) (disch:=(first | omega | decide)) only [go_sem,↓reduceIte,seval,hlt',e1,ei,c1,c2,h1,wrap_i64,List.length_map]
    exact ⟨⟨k + 1,hlt,hd⟩,by simp,by show i - (k + 1) < i - k; omega⟩
   | true=>
    obtain rfl:rep = rep':=by simpa using h1
    cases h2:cnt == cnt' with
    | false=>
     have hne:decide (rep = rep ∧ cnt = cnt') = false:=by
          have:cnt ≠ cnt':=by simpa using h2
          simp [this]
     rw [hne,Bool.false_or] at hd
     simp -implicitDefEqProofs (maxSteps:=600000) (disch:=(first | omega | decide)) only [go_sem,↓reduceIte,seval,hlt',e1,ei,c1,c2,h1,h2,wrap_i64,List.length_map]
     exact ⟨⟨k + 1,hlt,hd⟩,by simp,by show i - (k + 1) < i - k; omega⟩
    | true=>
     obtain rfl:cnt = cnt':=by simpa using h2
     have he:decide (rep = rep ∧ cnt = cnt) = true:=by simp
     rw [he,Bool.true_or] at hd
     simp -implicitDefEqProofs (maxSteps:=600000) (disch:=(first | omega | decide)) only [go_sem,↓reduceIte,seval,hlt',e1,ei,c1,c2,h1,h2,hd,wrap_i64,List.length_map]
  ·have hlt':¬ (k:Int) < (i:Int):=by omega
   rw [List.drop_of_length_le (by omega)] at hd
   have hd:((I.take i).any fun y=>decide (y.rep = I[i].rep ∧ y.cnt = I[i].cnt)) = false:=hd
   simp -implicitDefEqProofs (maxSteps:=600000) (disch:=(first | omega | decide)) only [go_sem,↓reduceIte,seval,hlt',hd,List.length_map]
def twE (v:(Sta × List Fd) × Nat):List A:=[.dptr (lkC v.1.1.id (v.1.1.fl.map Rng.enc) (v.1.1.its.map It.enc) (v.1.1.kn.map Pc.enc) v.1.1.ct (.slc (v.1.2.map Fd.enc))),.int .i64 (v.2:Int)]
theorem tw_inj (i j:(Sta × List Fd) × Nat) (h:twE i = twE j):i = j:=by
 obtain ⟨⟨⟨a,b,c,d,e⟩,f⟩,g⟩:=i
 obtain ⟨⟨⟨a',b',c',d',e'⟩,f'⟩,g'⟩:=j
 simp [twE,lkC] at h
 obtain ⟨⟨rfl,rfl,rfl,rfl,rfl,rfl⟩,h2⟩:=h
 rw [show g = g' by omega]
noncomputable def T46e:Tab:=T46d.add 134 (entry twE (fun v=>v.2 < v.1.1.its.length ∧ v.1.1.its.length ≤ 1000000) (fun v=>.bool (twiceI v.1.1.its v.2)))
theorem T46e_ok:TabOK Tryz.prog T46e:=T46d_ok.add (callable_of Tryz.func134 (by kernel_rfl) (by kernel_rfl)) (entry_ok fun v h=>c_twice v.1.1 _ v.2 h.1 h.2)
@[go_sem] theorem T46e_old {g:FuncId} {xs:List A} (h:g ≠ 134):T46e.f g xs = T46d.f g xs:=Tab.add_ne h
theorem T46e_audit_look_twice (v:(Sta × List Fd) × Nat) (h:v.2 < v.1.1.its.length ∧ v.1.1.its.length ≤ 1000000):T46e.f 134 (twE v) = some (.bool (twiceI v.1.1.its v.2)):=
 (Tab.add_eq:T46e.f 134 (twE v) = entry twE (fun v=>v.2 < v.1.1.its.length ∧ v.1.1.its.length ≤ 1000000) (fun v=>.bool (twiceI v.1.1.its v.2)) (twE v)).trans (entry_eq tw_inj v h)
theorem cmp_ge (a b:List UInt8):decide (0 ≤ cmpB a b) = !ltB a b:=by
 unfold ltB
 rcases cmp_cases a b with h | h | h <;> rw [h] <;> rfl
noncomputable def T46f:Tab:=T46e.addH 68 (entryH ntE ntO (fun v=>v.2.1.length ≤ 1000000) ntR)
theorem T46f_ok:TabOK Tryz.prog T46f:=T46e_ok.addH (callable_of Tryz.func68 (by kernel_rfl) (by kernel_rfl)) (entryH_ok fun v h=>h_noteR v.1.1 v.1.2.1 v.1.2.2.1 v.1.2.2.2.1 v.1.2.2.2.2 v.2.1 v.2.2.1 v.2.2.2.1 v.2.2.2.2 h)
noncomputable def T46i:Tab:={ T46f with eff:=fun f=>f == 68,fix:=fun n=>n == 0,nf:=2 }
theorem T46i_ok:TabOK Tryz.prog T46i:=⟨T46f_ok.f,T46f_ok.hp⟩
@[go_sem] theorem T46i_f:T46i.f = T46e.f:=rfl
@[go_sem] theorem T46i_eff {g:FuncId}:T46i.eff g = (g == 68):=rfl
@[go_sem] theorem T46i_frz {g:FuncId}:T46i.frz g = false:=rfl
@[go_sem] theorem T46i_fix {n:Nat}:T46i.fix n = (n == 0):=rfl
@[go_sem] theorem T46i_ords {n:Nat}:T46i.ords n = []:=rfl
theorem a_note (id:Int) (F I K:List A) (ct:Int) {l:List Fd} {is:Bool} {c a:Int} (h:l.length ≤ 1000000):T46i.hp 68 [.ref 0 0,.bool is,.int .i64 c,.int .i64 a] [.box (lkC id F I K ct (.row 1 0 2 l.length false)),.row 2 (l.map Fd.enc)] = some (.tup [],[.box (lkC id F I K ct (.row 1 0 2 (noteF l is c a).length false)),.row 2 ((noteF l is c a).map Fd.enc)],[1]):=by
 have h0:T46f.hp 68 (ntE ((id,F,I,K,ct),l,is,c,a)) (ntO ((id,F,I,K,ct),l,is,c,a)) = entryH ntE ntO (fun v=>v.2.1.length ≤ 1000000) ntR (ntE ((id,F,I,K,ct),l,is,c,a)) (ntO ((id,F,I,K,ct),l,is,c,a)):=Tab.addH_eq
 exact h0.trans (entryH_eq nt_inj _ h)
theorem ok_item:codeOK Tryz.prog T46i Tryz.f70.ntmps (Tryz.f70.body.getD .skip) = true:=by kernel_rfl
theorem h_item (s:Sta) (hs:OkS s) (l:List Fd) (hl:l.length ≤ 900000) (i:Nat) (x:It) (hx:s.its[i]? = some x) :
 CallH Tryz.prog 70 [.ref 0 0,.int .i64 i,x.enc] [.box (lkC s.id (s.fl.map Rng.enc) (s.its.map It.enc) (s.kn.map Pc.enc) s.ct (.row 1 0 2 l.length false)),.row 2 (l.map Fd.enc)]
  (.tup []) [.box (lkC s.id (s.fl.map Rng.enc) (s.its.map It.enc) (s.kn.map Pc.enc) s.ct (.row 1 0 2 (note1 s l i).length false)),.row 2 ((note1 s l i).map Fd.enc)] [1]:=by
 refine callH_of_body T46i_ok mixed Tryz.func70 rfl (Nat.le_of_ble_eq_true rfl) (fun n h h'=>by have h:n < 2:=h; simp at h'; have e:n = 0:=(by omega); subst e; rfl) (by show 2 ≤ 2; simp) (by show 2 ≤ 2; simp) ok_item ?_
 unfold Tryz.f70
 obtain ⟨hi,hxe⟩:=List.getElem?_eq_some_iff.1 hx
 have hox:=hs.its.2 x (hxe ▸ List.getElem_mem hi)
 have e4:itemF s 4 i = !rightI x:=by simp [itemF,hx]
 have e5:itemF s 5 i = behindI s.its i:=by simp [itemF,hx]
 have e6:itemF s 6 i = !hasRs s.fl x.key:=by simp [itemF,hx]
 have e7:itemF s 7 i = !hasP s.kn x.key x.rep x.cnt:=by simp [itemF,hx]
 have e8:itemF s 8 i = twiceI s.its i:=by simp [itemF,hx]
 unfold note1
 rw [e4,e5,e6,e7,e8]
 have n1:=noteF_len l (!rightI x) 4 i
 generalize hA1:noteF l (!rightI x) 4 i = l1 at *
 have n2:=noteF_len l1 (behindI s.its i) 5 i
 generalize hA2:noteF l1 (behindI s.its i) 5 i = l2 at *
 have n3:=noteF_len l2 (!hasRs s.fl x.key) 6 i
 generalize hA3:noteF l2 (!hasRs s.fl x.key) 6 i = l3 at *
 have n4:=noteF_len l3 (!hasP s.kn x.key x.rep x.cnt) 7 i
 generalize hA4:noteF l3 (!hasP s.kn x.key x.rep x.cnt) 7 i = l4 at *
 have f1:=a_note s.id (s.fl.map Rng.enc) (s.its.map It.enc) (s.kn.map Pc.enc) s.ct (l:=l) (is:=!rightI x) (c:=4) (a:=i) (by omega)
 have f2:=a_note s.id (s.fl.map Rng.enc) (s.its.map It.enc) (s.kn.map Pc.enc) s.ct (l:=l1) (is:=behindI s.its i) (c:=5) (a:=i) (by omega)
 have f3:=a_note s.id (s.fl.map Rng.enc) (s.its.map It.enc) (s.kn.map Pc.enc) s.ct (l:=l2) (is:=!hasRs s.fl x.key) (c:=6) (a:=i) (by omega)
 have f4:=a_note s.id (s.fl.map Rng.enc) (s.its.map It.enc) (s.kn.map Pc.enc) s.ct (l:=l3) (is:=!hasP s.kn x.key x.rep x.cnt) (c:=7) (a:=i) (by omega)
 have f5:=a_note s.id (s.fl.map Rng.enc) (s.its.map It.enc) (s.kn.map Pc.enc) s.ct (l:=l4) (is:=twiceI s.its i) (c:=8) (a:=i) (by omega)
 rw [hA1] at f1; rw [hA2] at f2; rw [hA3] at f3; rw [hA4] at f4
 have g8:=T46e_audit_look_twice ((s,l4),i) ⟨hi,by have:=hs.its.1; show s.its.length ≤ _; omega⟩
 have g6:=p_ranges_Has (l:=s.fl) (s:=x.key) (by have:=hs.fl.1; omega) hs.fl.2 hox.1
 have g7:=p_Has (k:=s.kn) (x:=x.key) (n:=x.rep) (c:=x.cnt) hs.okR.1 hox.1
 have tl4:(l4.map Fd.enc).take l4.length = l4.map Fd.enc:=List.take_of_length_le (by simp)
 generalize twiceI s.its i = tw at *
 generalize hasRs s.fl x.key = hr at *
 generalize hasP s.kn x.key x.rep x.cnt = hp at *
 have ite:∀ k (hk:k < s.its.length),(s.its.map It.enc)[k]? = some (.agg [.str s.its[k].key,.int .i64 s.its[k].rep,.int .i64 s.its[k].cnt,.int .i64 s.its[k].rank,.int .i64 s.its[k].prio,.bool s.its[k].dead,.str s.its[k].body]):=fun k hk=>it_get hk
 have hbe:∀ j,i = j + 1 → ∀ hj:j < s.its.length,behindI s.its i = !ltB s.its[j].key x.key:=fun j e hj=>by
  subst e
  simp [behindI,hx,List.getElem?_eq_getElem hj]
 obtain ⟨key,rep,cnt,rank,prio,dead,body⟩:=x
 simp only at hox g6 g7 hbe
 have g4:=i_Right hox
 generalize rightI ⟨key,rep,cnt,rank,prio,dead,body⟩ = ri at *
 simp only [It.enc]
 unfold twE at g8
 unfold lkC at *
 simp only at g8
 cases i with
 | zero=>
  have b0:behindI s.its 0 = false:=rfl
  rw [b0] at f2
  simp only [show ((0:Nat):Int) = 0 from rfl] at f1 f2 f3 f4 f5 g8
  simp -implicitDefEqProofs (maxSteps:=600000) (disch:=(first | omega | decide)) only [go_sem,↓reduceIte,seval,g4,g6,g7,g8,f1,f2,f3,f4,f5,tl4,List.length_map]
  exact Nat.le_refl _
 | succ j=>
  have hj:j < s.its.length:=by omega
  have b0:=hbe j rfl hj
  have gc:=p_key_Cmp (a:=s.its[j].key) (b:=key) ⟨(hs.its.2 _ (List.getElem_mem hj)).1,hox.1⟩
  have gd:=cmp_ge s.its[j].key key
  rw [b0] at f2
  have ej:=ite j hj
  have c0:(0:Int) < ((j + 1:Nat):Int):=by omega
  have c1:(((j + 1:Nat):Int) - 1).toNat = j:=by omega
  have hl24:=hs.its.1
  have c2:(if ((j + 1:Nat):Int) - 1 > 0 then ((j + 1:Nat):Int) - 1 else 0) = (j:Int):=by split <;> omega
  have c3:(0:Int) ≤ (j:Int):=by omega
  have c4:((j:Nat):Int).toNat = j:=by simp
  simp -implicitDefEqProofs (maxSteps:=600000) (disch:=(first | omega | decide)) only [go_sem,↓reduceIte,seval,g4,g6,g7,g8,f1,f2,f3,f4,f5,tl4,ej,gc,c0,c1,c2,c3,c4,wrap_i64,List.length_map]
  exact Nat.le_refl _
end Go.Proofs.YtjfdlpagcgpaoaaGreat
namespace Go.Proofs
open Go.Shelf
def YtjfdlpagcgpaoaaGreat.sortFd_ren:Go.Shelf.Ren:=⟨fun | 6=>73 | 15=>140 | 14=>139 | 28=>192 | 29=>193 | 20=>184 | 21=>185 | 22=>186 | 23=>187 | 24=>188 | 25=>189 | 26=>190 | 27=>191 | 46=>231 | 47=>232 | 48=>233 | 49=>234 | 50=>235 | 57=>255 | n=>n,fun | 22=>29 | 24=>67 | 25=>110 | 3=>3 | 39=>162 | 0=>0 | 53=>48 | 55=>210 | 4=>4 | 46=>202 | 45=>201 | 50=>206 | 5=>5 | 9=>9 | 66=>234 | 70=>238 | 76=>254 | 77=>255 | n=>n,fun | n=>n⟩
theorem YtjfdlpagcgpaoaaGreat.sortFd:Go.Proofs.SlLaysF0.n6 Tryz.prog YtjfdlpagcgpaoaaGreat.sortFd_ren:={
 mixed:=by kernel_rfl
 f6:=⟨Tryz.f73.name,by decide,Tryz.func73.trans (congrArg some (by kernel_rfl))⟩
 f14:=⟨Tryz.f139.name,by decide,Tryz.func139.trans (congrArg some (by kernel_rfl))⟩
 f15:=Tryz.func140.trans (congrArg some (by kernel_rfl))
 f20:=⟨Tryz.f184.name,by decide,Tryz.func184.trans (congrArg some (by kernel_rfl))⟩
 f21:=⟨Tryz.f185.name,by decide,Tryz.func185.trans (congrArg some (by kernel_rfl))⟩
 f22:=⟨Tryz.f186.name,by decide,Tryz.func186.trans (congrArg some (by kernel_rfl))⟩
 f23:=⟨Tryz.f187.name,by decide,Tryz.func187.trans (congrArg some (by kernel_rfl))⟩
 f24:=⟨Tryz.f188.name,by decide,Tryz.func188.trans (congrArg some (by kernel_rfl))⟩
 f25:=⟨Tryz.f189.name,by decide,Tryz.func189.trans (congrArg some (by kernel_rfl))⟩
 f26:=⟨Tryz.f190.name,by decide,Tryz.func190.trans (congrArg some (by kernel_rfl))⟩
 f27:=⟨Tryz.f191.name,by decide,Tryz.func191.trans (congrArg some (by kernel_rfl))⟩
 f28:=Tryz.func192.trans (congrArg some (by kernel_rfl))
 f29:=Tryz.func193.trans (congrArg some (by kernel_rfl))
 f46:=⟨Tryz.f231.name,by decide,Tryz.func231.trans (congrArg some (by kernel_rfl))⟩
 f47:=Tryz.func232.trans (congrArg some (by kernel_rfl))
 f48:=Tryz.func233.trans (congrArg some (by kernel_rfl))
 f49:=⟨Tryz.f234.name,by decide,Tryz.func234.trans (congrArg some (by kernel_rfl))⟩
 f50:=⟨Tryz.f235.name,by decide,Tryz.func235.trans (congrArg some (by kernel_rfl))⟩
 f57:=⟨Tryz.f255.name,by decide,Tryz.func255.trans (congrArg some (by kernel_rfl))⟩
 t0:=Tryz.underlying0
 a0:=Tryz.isAgg0
 z0:=Tryz.sizeOf0
 v0:=Tryz.zeroValue0
 t3:=Tryz.underlying3
 a3:=Tryz.isAgg3
 z3:=Tryz.sizeOf3
 v3:=Tryz.zeroValue3
 t4:=Tryz.underlying4
 a4:=Tryz.isAgg4
 z4:=Tryz.sizeOf4
 v4:=Tryz.zeroValue4
 t5:=Tryz.underlying5
 a5:=Tryz.isAgg5
 z5:=Tryz.sizeOf5
 v5:=Tryz.zeroValue5
 t9:=Tryz.underlying9
 a9:=Tryz.isAgg9
 z9:=Tryz.sizeOf9
 v9:=Tryz.zeroValue9
 t22:=Tryz.underlying29
 a22:=Tryz.isAgg29
 z22:=Tryz.sizeOf29
 v22:=Tryz.zeroValue29
 t25:=Tryz.underlying110
 a25:=Tryz.isAgg110
 z25:=Tryz.sizeOf110
 v25:=Tryz.zeroValue110
 t39:=Tryz.underlying162
 a39:=Tryz.isAgg162
 z39:=Tryz.sizeOf162
 v39:=Tryz.zeroValue162
 t45:=Tryz.underlying201
 a45:=Tryz.isAgg201
 z45:=Tryz.sizeOf201
 v45:=Tryz.zeroValue201
 t46:=Tryz.underlying202
 a46:=Tryz.isAgg202
 z46:=Tryz.sizeOf202
 v46:=Tryz.zeroValue202
 t50:=Tryz.underlying206
 a50:=Tryz.isAgg206
 z50:=Tryz.sizeOf206
 v50:=Tryz.zeroValue206
 t53:=Tryz.underlying48
 a53:=Tryz.isAgg48
 z53:=Tryz.sizeOf48
 v53:=Tryz.zeroValue48
 t55:=Tryz.underlying210
 a55:=Tryz.isAgg210
 z55:=Tryz.sizeOf210
 v55:=Tryz.zeroValue210
 t66:=Tryz.underlying234
 a66:=Tryz.isAgg234
 z66:=Tryz.sizeOf234
 v66:=Tryz.zeroValue234
 t70:=Tryz.underlying238
 a70:=Tryz.isAgg238
 z70:=Tryz.sizeOf238
 v70:=Tryz.zeroValue238
 t76:=Tryz.underlying254
 a76:=Tryz.isAgg254
 z76:=Tryz.sizeOf254
 v76:=Tryz.zeroValue254
 t77:=Tryz.underlying255
 a77:=Tryz.isAgg255
 z77:=Tryz.sizeOf255
 v77:=Tryz.zeroValue255 }
end Go.Proofs
namespace Go.Proofs.YtjfdlpagcgpaoaaGreat
open Go.Abs
set_option linter.unusedSimpArgs false
set_option linter.unusedVariables false
set_option maxRecDepth 20000
set_option maxHeartbeats 8000000
theorem one_ok {s:Sta} (hs:OkS s) {p:Pc} (hp:p ∈ s.kn):okR [p] ∧ wP [p] ≤ 24 * 272 ∧ smallK p.s:=by
 obtain ⟨h1,h2,h3⟩:=hs.kn
 have hw:=wP_mem hp
 have e:wP [p] = p.s.length + sumK p.s:=by simp [wP]
 refine ⟨⟨⟨⟨by simp,by omega⟩,fun q hq=>?_⟩,by omega⟩,by omega,⟨by omega,by omega⟩⟩
 obtain rfl:=List.mem_singleton.1 hq
 have:=h3 q hp
 omega
theorem ok_piece:codeOK Tryz.prog T46i Tryz.f72.ntmps (Tryz.f72.body.getD .skip) = true:=by kernel_rfl
theorem h_piece (s:Sta) (hs:OkS s) (l:List Fd) (hl:l.length ≤ 900000) (i:Nat) (p:Pc) (hx:s.kn[i]? = some p) :
 CallH Tryz.prog 72 [.ref 0 0,.int .i64 i,p.enc] [.box (lkC s.id (s.fl.map Rng.enc) (s.its.map It.enc) (s.kn.map Pc.enc) s.ct (.row 1 0 2 l.length false)),.row 2 (l.map Fd.enc)]
  (.tup []) [.box (lkC s.id (s.fl.map Rng.enc) (s.its.map It.enc) (s.kn.map Pc.enc) s.ct (.row 1 0 2 (note2 s l i).length false)),.row 2 ((note2 s l i).map Fd.enc)] [1]:=by
 refine callH_of_body T46i_ok mixed Tryz.func72 rfl (Nat.le_of_ble_eq_true rfl) (fun n h h'=>by have h:n < 2:=h; simp at h'; have e:n = 0:=(by omega); subst e; rfl) (by show 2 ≤ 2; simp) (by show 2 ≤ 2; simp) ok_piece ?_
 unfold Tryz.f72
 have hp:=List.mem_of_getElem? hx
 obtain ⟨k1,k2,k3⟩:=one_ok hs hp
 have e10:pieceF s 10 i = outP p s.fl:=by simp [pieceF,hx]
 have e11:pieceF s 11 i = decide (s.ct < mostP p s.id):=by simp [pieceF,hx]
 unfold note2
 rw [e10,e11]
 have n1:=noteF_len l (outP p s.fl) 10 i
 have f1:=a_note s.id (s.fl.map Rng.enc) (s.its.map It.enc) (s.kn.map Pc.enc) s.ct (l:=l) (is:=outP p s.fl) (c:=10) (a:=i) (by omega)
 generalize hA1:noteF l (outP p s.fl) 10 i = l1 at *
 have f2:=a_note s.id (s.fl.map Rng.enc) (s.its.map It.enc) (s.kn.map Pc.enc) s.ct (l:=l1) (is:=decide (s.ct < mostP p s.id)) (c:=11) (a:=i) (by omega)
 have g1:=p_Restrict (k:=[p]) (l:=s.fl) k1.1 (by have:=hs.fl.1; omega) hs.fl.2
 rw [rest_set] at g1
 have o1:=okP_rest (a:=[p]) (l:=s.fl) (N:=1) (M:=8) (W:=24 * 272) (by simp) hs.fl.1 k2 (by omega) (by omega)
 have o2:=okP_at (k:=[p]) (N:=1) (W:=24 * 272) (by simp) k2 (by omega) (by omega)
 have ea:atP (setP (restP [p] s.fl)) = restP [p] s.fl:=atP_setP (isP_rest _ _) (rest_right _ _)
 have g2:=p_Same (a:=setP (restP [p] s.fl)) (b:=[p]) o1.1 k1.1 (by rw [ea]; exact o1.1) o2.1
 rw [ea] at g2
 have e2:sameP (setP (restP [p] s.fl)) (setP (atP [p])) = !outP p s.fl:=by unfold outP; rw [Bool.not_not]
 rw [e2] at g2
 have g3:=l_Most (s:=p.s) (n:=s.id) k3
 have e3:(if repOK s.id = true then mostR (setR (hasL13 (runsK p.s s.id))) else 0) = mostP p s.id:=rfl
 rw [e3] at g3
 generalize outP p s.fl = o at *
 generalize mostP p s.id = m at *
 generalize setP (restP [p] s.fl) = R at *
 have tl1:(l1.map Fd.enc).take l1.length = l1.map Fd.enc:=List.take_of_length_le (by simp)
 obtain ⟨⟨lo,hi,op⟩,ks⟩:=p
 simp only [List.map_cons,List.map_nil,Pc.enc,Pc.cells] at g1 g2 g3 ⊢
 unfold lkC at *
 by_cases hm:s.ct < m
 ·have hm':decide (s.ct < m) = true:=decide_eq_true hm
  rw [hm'] at f2
  cases o <;> simp -implicitDefEqProofs (maxSteps:=600000) (disch:=(first | omega | decide)) only [go_sem,↓reduceIte,seval,g1,g2,g3,f1,f2,hm,tl1,List.length_map]
 ·have hm':decide (s.ct < m) = false:=decide_eq_false hm
  rw [hm'] at f2
  cases o <;> simp -implicitDefEqProofs (maxSteps:=600000) (disch:=(first | omega | decide)) only [go_sem,↓reduceIte,seval,g1,g2,g3,f1,f2,hm,tl1,List.length_map]
def okFd (x:Fd):Bool:=decide (0 ≤ x.code) && decide (x.code ≤ 100) && decide (0 ≤ x.at_) && decide (x.at_ ≤ 1000000)
theorem okFd_iff {x:Fd}:okFd x = true ↔ 0 ≤ x.code ∧ x.code ≤ 100 ∧ 0 ≤ x.at_ ∧ x.at_ ≤ 1000000:=by
 simp [okFd,and_assoc]
abbrev FdB:={x:Fd // okFd x = true}
instance:Inhabited FdB:=⟨⟨⟨0,0⟩,by decide⟩⟩
def cfF (a b:FdB):Int:=if a.1.code = b.1.code then a.1.at_ - b.1.at_ else a.1.code - b.1.code
def FdB.cells (x:FdB):List A:=[.int .i64 x.1.code,.int .i64 x.1.at_]
theorem ok_audit_State_1:codeOK Tryz.prog T46d Tryz.f74.ntmps (Tryz.f74.body.getD .skip) = true:=by kernel_rfl
theorem c_State1 (c a c' a':Int) (h:0 ≤ c ∧ c ≤ 100 ∧ 0 ≤ a ∧ a ≤ 1000000) (h':0 ≤ c' ∧ c' ≤ 100 ∧ 0 ≤ a' ∧ a' ≤ 1000000):CallA Tryz.prog 74 [.agg [.int .i64 c,.int .i64 a],.agg [.int .i64 c',.int .i64 a']] (· = .int .i64 (if c = c' then a - a' else c - c')):=by
 refine callA_of_body T46d_ok mixed Tryz.func74 rfl (Nat.le_of_ble_eq_true rfl) ok_audit_State_1 ?_
 unfold Tryz.f74
 cases e:c == c' with
 | true=>
  have e1:c = c':=by simpa using e
  rw [if_pos e1]
  simp -implicitDefEqProofs (maxSteps:=600000) (disch:=(first | omega | decide)) only [go_sem,↓reduceIte,seval,e,wrap_i64]
 | false=>
  have e1:¬ c = c':=by simpa using e
  rw [if_neg e1]
  simp -implicitDefEqProofs (maxSteps:=600000) (disch:=(first | omega | decide)) only [go_sem,↓reduceIte,seval,e,wrap_i64]
theorem cfF_lt (a b:FdB):Go.Proofs.ltOf cfF a b = ltF a.1 b.1:=by
 unfold Go.Proofs.ltOf cfF ltF
 rw [Bool.eq_iff_iff,Bool.or_eq_true,Bool.and_eq_true,decide_eq_true_iff,decide_eq_true_iff,decide_eq_true_iff,decide_eq_true_iff]
 by_cases h:a.1.code = b.1.code
 ·rw [if_pos h]; omega
 ·rw [if_neg h]; omega
theorem swoF:Go.Sort.SWO (Go.Proofs.ltOf cfF):=by
 refine ⟨fun x=>?_,fun x y z h1 h2=>?_,fun x y z h1 h2=>?_⟩
 ·rw [cfF_lt,ltF_irrefl]
 ·rw [cfF_lt] at *; exact ltF_trans h1 h2
 ·rw [cfF_lt] at *
  simp only [ltF,Bool.or_eq_false_iff,Bool.and_eq_false_iff,decide_eq_false_iff_not] at *
  omega
theorem c_SortFunc_Fd (l:List FdB) (hl:l.length < 4611686018427387904):CallH Tryz.prog 73 [.row 0 0 2 l.length false,.fn 74 []] [.row 2 (l.map fun x=>.agg x.cells)]
 (.tup []) [.row 2 ((sortL cfF l).map fun x=>.agg x.cells)] []:=
 sort_struct Go.Proofs.YtjfdlpagcgpaoaaGreat.sortFd (by omega) Tryz.isAgg67 Tryz.sizeOf67 FdB.cells (fun _=>rfl) (fun x a ha=>by
  simp only [FdB.cells,List.mem_cons,List.not_mem_nil,or_false] at ha
  rcases ha with rfl | rfl <;> rfl) cfF swoF (callable_of Tryz.func74 (by kernel_rfl) (by kernel_rfl)) (fun x y=>c_State1 x.1.code x.1.at_ y.1.code y.1.at_ (okFd_iff.1 x.2) (okFd_iff.1 y.2)) l hl false
def pickF (l:List Fd):List FdB:=(l.filter okFd).attach.map fun x=>⟨x.1,(List.mem_filter.1 x.2).2⟩
theorem pickF_val (l:List Fd):(pickF l).map (·.1) = l.filter okFd:=by
 unfold pickF
 rw [List.map_map]
 exact List.attach_map_subtype_val _
theorem pickF_cells (l:List Fd):(pickF l).map (fun x=>A.agg x.cells) = (l.filter okFd).map Fd.enc:=by
 rw [← pickF_val,List.map_map]; rfl
noncomputable def srtF (l:List Fd):List Fd:=(sortL cfF (pickF l)).map (·.1)
theorem srtF_cells (l:List Fd):(sortL cfF (pickF l)).map (fun x=>A.agg x.cells) = (srtF l).map Fd.enc:=by
 unfold srtF; rw [List.map_map]; rfl
theorem srtF_perm (l:List Fd):(srtF l).Perm (l.filter okFd):=by
 rw [← pickF_val]; exact (sortL_spec swoF (pickF l)).1.map _
theorem srtF_up (l:List Fd):(srtF l).Pairwise (fun x y=>ltF y x = false):=by
 unfold srtF
 rw [List.pairwise_map]
 exact (sortL_spec swoF (pickF l)).2.imp fun {x y} h=>by
  rw [← cfF_lt]; unfold Go.Proofs.ltOf; simpa using h
theorem noted_ok {s:Sta} (h:s.its.length ≤ 1000 ∧ s.kn.length ≤ 1000):∀ x ∈ noted s,okFd x = true:=fun x hx=>by
 obtain ⟨h1,h2,h3⟩:=allF_mem.1 (noted_mem.1 hx)
 rw [okFd_iff]
 obtain ⟨_,⟨_,g⟩ | ⟨i,g1,g2⟩ | ⟨i,g1,g2⟩⟩:=codeF_mem.1 h3
 ·omega
 ·have:=(itemF_code g1).2.2; omega
 ·have:=(pieceF_code g1).2.2; omega
theorem srt_noted {s:Sta} (h:s.its.length ≤ 1000 ∧ s.kn.length ≤ 1000):srtF (noted s) = allF s 12:=by
 refine noted_sorted ?_ (srtF_up _)
 have:=srtF_perm (noted s)
 rwa [List.filter_eq_self.2 (noted_ok h)] at this
def sfE (l:List FdB):List A:=[.row 0 0 2 l.length false,.fn 74 []]
def sfO (l:List FdB):List Go.Abs.Obj:=[.row 2 (l.map fun x=>.agg x.cells)]
noncomputable def sfR (l:List FdB):A × List Go.Abs.Obj × List Nat:=(.tup [],[.row 2 ((sortL cfF l).map fun x=>.agg x.cells)],[])
theorem fdB_inj (x y:FdB) (h:A.agg x.cells = A.agg y.cells):x = y:=Subtype.ext (Fd.enc_inj _ _ h)
theorem sfO_inj (i j:List FdB) (h:sfO i = sfO j):i = j:=by
 simp only [sfO,List.cons.injEq,Go.Abs.Obj.row.injEq,true_and,and_true] at h
 rwa [map_inj fdB_inj] at h
abbrev NtJ:=NtI ⊕ ((Int × List A × List A × List A × Int) × Bool × Int × Int)
def njE:NtJ → List A
 | .inl v=>ntE v
 | .inr v=>[.ref 0 0,.bool v.2.1,.int .i64 v.2.2.1,.int .i64 v.2.2.2]
def njO:NtJ → List Go.Abs.Obj
 | .inl v=>ntO v
 | .inr v=>[.box (lkC v.1.1 v.1.2.1 v.1.2.2.1 v.1.2.2.2.1 v.1.2.2.2.2 .nils)]
def njR:NtJ → A × List Go.Abs.Obj × List Nat
 | .inl v=>ntR v
 | .inr v=>(.tup [],[.box (lkC v.1.1 v.1.2.1 v.1.2.2.1 v.1.2.2.2.1 v.1.2.2.2.2 (.row 1 0 2 (noteF [] v.2.1 v.2.2.1 v.2.2.2).length false)),.row 2 ((noteF [] v.2.1 v.2.2.1 v.2.2.2).map Fd.enc)],[])
def njK:NtJ → Prop
 | .inl v=>v.2.1.length ≤ 1000000
 | .inr _=>True
theorem nj_inj (i j:NtJ) (h:njE i = njE j) (h':njO i = njO j):i = j:=by
 cases i with
 | inl i=>
  cases j with
  | inl j=>rw [nt_inj i j h h']
  | inr j=>simp [njO,ntO] at h'
 | inr i=>
  cases j with
  | inl j=>simp [njO,ntO] at h'
  | inr j=>
   obtain ⟨⟨a,b,c,d,e⟩,g,k,m⟩:=i
   obtain ⟨⟨a',b',c',d',e'⟩,g',k',m'⟩:=j
   simp [njE] at h
   simp [njO,lkC] at h'
   obtain ⟨rfl,rfl,rfl⟩:=h
   obtain ⟨rfl,rfl,rfl,rfl,rfl⟩:=h'
   rfl
theorem njH (v:NtJ) (h:njK v):CallH Tryz.prog 68 (njE v) (njO v) (njR v).1 (njR v).2.1 (njR v).2.2:=by
 cases v with
 | inl v=>exact h_noteR v.1.1 v.1.2.1 v.1.2.2.1 v.1.2.2.2.1 v.1.2.2.2.2 v.2.1 v.2.2.1 v.2.2.2.1 v.2.2.2.2 h
 | inr v=>exact h_noteN v.1.1 v.1.2.1 v.1.2.2.1 v.1.2.2.2.1 v.1.2.2.2.2 v.2.1 v.2.2.1 v.2.2.2
abbrev LkI:=(Sta × List Fd) × Nat × It
def liE (v:LkI):List A:=[.ref 0 0,.int .i64 (v.2.1:Int),v.2.2.enc]
def lsO (s:Sta) (l:List Fd):List Go.Abs.Obj:=[.box (lkC s.id (s.fl.map Rng.enc) (s.its.map It.enc) (s.kn.map Pc.enc) s.ct (.row 1 0 2 l.length false)),.row 2 (l.map Fd.enc)]
theorem lsO_inj {s t:Sta} {l m:List Fd} (h:lsO s l = lsO t m):s = t ∧ l = m:=by
 obtain ⟨a,b,c,d,e⟩:=s
 obtain ⟨a',b',c',d',e'⟩:=t
 simp [lsO,lkC] at h
 obtain ⟨⟨rfl,rfl,rfl,rfl,rfl,_⟩,rfl⟩:=h
 exact ⟨rfl,rfl⟩
noncomputable def liR (v:LkI):A × List Go.Abs.Obj × List Nat:=(.tup [],lsO v.1.1 (note1 v.1.1 v.1.2 v.2.1),[1])
def liK (v:LkI):Prop:=OkS v.1.1 ∧ v.1.2.length ≤ 900000 ∧ v.1.1.its[v.2.1]? = some v.2.2
theorem li_inj (i j:LkI) (h:liE i = liE j) (h':lsO i.1.1 i.1.2 = lsO j.1.1 j.1.2):i = j:=by
 obtain ⟨⟨s,l⟩,k,x⟩:=i
 obtain ⟨⟨s',l'⟩,k',x'⟩:=j
 obtain ⟨e1,e2⟩:=lsO_inj h'
 simp only at e1 e2
 subst e1; subst e2
 simp only [liE,List.cons.injEq,A.int.injEq,true_and,and_true] at h
 obtain ⟨h1,h2⟩:=h
 rw [show k = k' by omega,It.enc_inj _ _ h2]
abbrev LkP:=(Sta × List Fd) × Nat × Pc
def lpE (v:LkP):List A:=[.ref 0 0,.int .i64 (v.2.1:Int),v.2.2.enc]
noncomputable def lpR (v:LkP):A × List Go.Abs.Obj × List Nat:=(.tup [],lsO v.1.1 (note2 v.1.1 v.1.2 v.2.1),[1])
def lpK (v:LkP):Prop:=OkS v.1.1 ∧ v.1.2.length ≤ 900000 ∧ v.1.1.kn[v.2.1]? = some v.2.2
theorem lp_inj (i j:LkP) (h:lpE i = lpE j) (h':lsO i.1.1 i.1.2 = lsO j.1.1 j.1.2):i = j:=by
 obtain ⟨⟨s,l⟩,k,x⟩:=i
 obtain ⟨⟨s',l'⟩,k',x'⟩:=j
 obtain ⟨e1,e2⟩:=lsO_inj h'
 simp only at e1 e2
 subst e1; subst e2
 simp only [lpE,List.cons.injEq,A.int.injEq,true_and,and_true] at h
 obtain ⟨h1,h2⟩:=h
 rw [show k = k' by omega,Pc.enc_inj _ _ h2]
noncomputable def T46j:Tab:=T46e.addH 68 (entryH njE njO njK njR)
theorem T46j_ok:TabOK Tryz.prog T46j:=T46e_ok.addH (callable_of Tryz.func68 (by kernel_rfl) (by kernel_rfl)) (entryH_ok njH)
noncomputable def T46k:Tab:=T46j.addH 70 (entryH liE (fun v=>lsO v.1.1 v.1.2) liK liR)
theorem T46k_ok:TabOK Tryz.prog T46k:=T46j_ok.addH (callable_of Tryz.func70 (by kernel_rfl) (by kernel_rfl)) (entryH_ok fun v h=>h_item v.1.1 h.1 v.1.2 h.2.1 v.2.1 v.2.2 h.2.2)
noncomputable def T46l:Tab:=T46k.addH 72 (entryH lpE (fun v=>lsO v.1.1 v.1.2) lpK lpR)
theorem T46l_ok:TabOK Tryz.prog T46l:=T46k_ok.addH (callable_of Tryz.func72 (by kernel_rfl) (by kernel_rfl)) (entryH_ok fun v h=>h_piece v.1.1 h.1 v.1.2 h.2.1 v.2.1 v.2.2 h.2.2)
noncomputable def T46m:Tab:=T46l.addH 73 (entryH sfE sfO (fun l=>l.length < 4611686018427387904) sfR)
theorem T46m_ok:TabOK Tryz.prog T46m:=T46l_ok.addH (callable_of Tryz.func73 (by kernel_rfl) (by kernel_rfl)) (entryH_ok fun l h=>c_SortFunc_Fd l h)
set_option maxHeartbeats 16000000
noncomputable def T46s:Tab:={ T46m with eff:=fun f=>f == 68 || f == 70 || f == 72 || f == 73 }
theorem T46s_ok:TabOK Tryz.prog T46s:=⟨T46m_ok.f,T46m_ok.hp⟩
@[go_sem] theorem T46s_f:T46s.f = T46e.f:=rfl
@[go_sem] theorem T46s_eff {g:FuncId}:T46s.eff g = (g == 68 || g == 70 || g == 72 || g == 73):=rfl
@[go_sem] theorem T46s_frz {g:FuncId}:T46s.frz g = false:=rfl
@[go_sem] theorem T46s_fix {n:Nat}:T46s.fix n = false:=rfl
@[go_sem] theorem T46s_ords {n:Nat}:T46s.ords n = []:=rfl
theorem hp_note (v:NtJ) (h:njK v):T46s.hp 68 (njE v) (njO v) = some (njR v):=by
 have h0:T46j.hp 68 (njE v) (njO v) = entryH njE njO njK njR (njE v) (njO v):=Tab.addH_eq
 have h1:T46s.hp 68 (njE v) (njO v) = T46j.hp 68 (njE v) (njO v):=rfl
 exact h1.trans (h0.trans (entryH_eq nj_inj v h))
theorem hp_item (v:LkI) (h:liK v):T46s.hp 70 (liE v) (lsO v.1.1 v.1.2) = some (liR v):=by
 have h0:T46k.hp 70 (liE v) (lsO v.1.1 v.1.2) = entryH liE (fun v=>lsO v.1.1 v.1.2) liK liR (liE v) (lsO v.1.1 v.1.2):=Tab.addH_eq
 have h1:T46s.hp 70 (liE v) (lsO v.1.1 v.1.2) = T46k.hp 70 (liE v) (lsO v.1.1 v.1.2):=rfl
 exact h1.trans (h0.trans (entryH_eq (obs:=fun v:LkI=>lsO v.1.1 v.1.2) li_inj v h))
theorem hp_piece (v:LkP) (h:lpK v):T46s.hp 72 (lpE v) (lsO v.1.1 v.1.2) = some (lpR v):=by
 have h0:T46l.hp 72 (lpE v) (lsO v.1.1 v.1.2) = entryH lpE (fun v=>lsO v.1.1 v.1.2) lpK lpR (lpE v) (lsO v.1.1 v.1.2):=Tab.addH_eq
 have h1:T46s.hp 72 (lpE v) (lsO v.1.1 v.1.2) = T46l.hp 72 (lpE v) (lsO v.1.1 v.1.2):=rfl
 exact h1.trans (h0.trans (entryH_eq (obs:=fun v:LkP=>lsO v.1.1 v.1.2) lp_inj v h))
theorem hp_sortF {l:List Fd} (h:∀ x ∈ l,okFd x = true) (hl:l.length ≤ 1000000):T46s.hp 73 [.row 0 0 2 l.length false,.fn 74 []] [.row 2 (l.map Fd.enc)] = some (.tup [],[.row 2 ((srtF l).map Fd.enc)],[]):=by
 have hf:l.filter okFd = l:=List.filter_eq_self.2 h
 have hlen:(pickF l).length = l.length:=by
  have:=congrArg List.length (pickF_val l)
  rw [List.length_map,hf] at this; exact this
 have h0:T46m.hp 73 (sfE (pickF l)) (sfO (pickF l)) = entryH sfE sfO (fun l=>l.length < 4611686018427387904) sfR (sfE (pickF l)) (sfO (pickF l)):=Tab.addH_eq
 have h1:T46s.hp 73 (sfE (pickF l)) (sfO (pickF l)) = entryH sfE sfO (fun l=>l.length < 4611686018427387904) sfR (sfE (pickF l)) (sfO (pickF l)):=h0
 have h2:=h1.trans (entryH_eq (fun i j _ h=>sfO_inj i j h) (pickF l) (show (pickF l).length < 4611686018427387904 by rw [hlen]; omega))
 simp only [sfE,sfO,sfR,hlen,pickF_cells,srtF_cells,hf] at h2
 exact h2
theorem srtF_len {l:List Fd} (h:∀ x ∈ l,okFd x = true):(srtF l).length = l.length:=by
 have:=(srtF_perm l).length_eq
 rwa [List.filter_eq_self.2 h] at this
theorem ok_audit_State:codeOK Tryz.prog T46s Tryz.f16.ntmps (Tryz.f16.body.getD .skip) = true:=by kernel_rfl
theorem c_audit_State (s:Sta) (hs:OkS s):CallA Tryz.prog 16 [s.enc] (· = .slc ((allF s 12).map Fd.enc)):=by
 refine callA_of_body T46s_ok mixed Tryz.func16 rfl (Nat.le_of_ble_eq_true rfl) ok_audit_State ?_
 unfold Tryz.f16
 have hfl:=hs.fl
 have hil:=hs.its.1
 have hkl:=hs.kn.1
 have gR:=a_rangesRight (l:=s.fl) ⟨by omega,hfl.2⟩
 have gK:=p_Right hs.okR.1
 have no:=noted_ok (s:=s) ⟨by omega,by omega⟩
 have sn:=srt_noted (s:=s) ⟨by omega,by omega⟩
 have sl:=srtF_len no
 rw [sn] at sl
 have fN:∀ (l:List Fd) (b:Bool) (c a:Int),l.length ≤ 1000000 → T46s.hp 68 [.ref 0 0,.bool b,.int .i64 c,.int .i64 a] [.box [.int .i64 s.id,.slc (s.fl.map Rng.enc),.slc (s.its.map It.enc),.slc (s.kn.map Pc.enc),.int .i64 s.ct,.row 1 0 2 l.length false],.row 2 (l.map Fd.enc)] = some (.tup [],[.box [.int .i64 s.id,.slc (s.fl.map Rng.enc),.slc (s.its.map It.enc),.slc (s.kn.map Pc.enc),.int .i64 s.ct,.row 1 0 2 (noteF l b c a).length false],.row 2 ((noteF l b c a).map Fd.enc)],[1]):=
  fun l b c a h=>hp_note (.inl ((s.id,s.fl.map Rng.enc,s.its.map It.enc,s.kn.map Pc.enc,s.ct),l,b,c,a)) h
 have f0:∀ (b:Bool) (c a:Int),T46s.hp 68 [.ref 0 0,.bool b,.int .i64 c,.int .i64 a] [.box [.int .i64 s.id,.slc (s.fl.map Rng.enc),.slc (s.its.map It.enc),.slc (s.kn.map Pc.enc),.int .i64 s.ct,.nils]] = some (.tup [],[.box [.int .i64 s.id,.slc (s.fl.map Rng.enc),.slc (s.its.map It.enc),.slc (s.kn.map Pc.enc),.int .i64 s.ct,.row 1 0 2 (noteF [] b c a).length false],.row 2 ((noteF [] b c a).map Fd.enc)],[]):=
  fun b c a=>hp_note (.inr ((s.id,s.fl.map Rng.enc,s.its.map It.enc,s.kn.map Pc.enc,s.ct),b,c,a)) trivial
 have fI:∀ (l:List Fd) (i:Nat) (x:It),l.length ≤ 900000 → s.its[i]? = some x → T46s.hp 70 [.ref 0 0,.int .i64 (i:Int),.agg [.str x.key,.int .i64 x.rep,.int .i64 x.cnt,.int .i64 x.rank,.int .i64 x.prio,.bool x.dead,.str x.body]] [.box [.int .i64 s.id,.slc (s.fl.map Rng.enc),.slc (s.its.map It.enc),.slc (s.kn.map Pc.enc),.int .i64 s.ct,.row 1 0 2 l.length false],.row 2 (l.map Fd.enc)] = some (.tup [],[.box [.int .i64 s.id,.slc (s.fl.map Rng.enc),.slc (s.its.map It.enc),.slc (s.kn.map Pc.enc),.int .i64 s.ct,.row 1 0 2 (note1 s l i).length false],.row 2 ((note1 s l i).map Fd.enc)],[1]):=
  fun l i x h1 h2=>hp_item ((s,l),i,x) ⟨hs,h1,h2⟩
 have fP:∀ (l:List Fd) (i:Nat) (p:Pc),l.length ≤ 900000 → s.kn[i]? = some p → T46s.hp 72 [.ref 0 0,.int .i64 (i:Int),.agg [.str p.r.lo,.str p.r.hi,.bool p.r.op,.slc (p.s.map Known.enc)]] [.box [.int .i64 s.id,.slc (s.fl.map Rng.enc),.slc (s.its.map It.enc),.slc (s.kn.map Pc.enc),.int .i64 s.ct,.row 1 0 2 l.length false],.row 2 (l.map Fd.enc)] = some (.tup [],[.box [.int .i64 s.id,.slc (s.fl.map Rng.enc),.slc (s.its.map It.enc),.slc (s.kn.map Pc.enc),.int .i64 s.ct,.row 1 0 2 (note2 s l i).length false],.row 2 ((note2 s l i).map Fd.enc)],[1]):=
  fun l i p h1 h2=>hp_piece ((s,l),i,p) ⟨hs,h1,h2⟩
 have fS:=hp_sortF no
 have hnl:(noted s).length ≤ 1000000:=by rw [← sl]; have:=allF_len s 12; omega
 have fS:=fS hnl
 rw [sn] at fS
 have b3:aloneF s 3 = !rightRs s.fl:=rfl
 have b9:aloneF s 9 = !rightP s.kn:=rfl
 have b12:aloneF s 12 = decide (4096 < s.its.length):=rfl
 have c12:¬ (4096:Int) < (s.its.length:Int):=by omega
 have d12:decide (4096 < s.its.length) = false:=decide_eq_false (by omega)
 unfold noted at fS hnl sl
 rw [b3,b9,b12,d12] at fS hnl sl
 obtain ⟨b1,hb1⟩:∃ b,aloneF s 1 = b:=⟨_,rfl⟩
 obtain ⟨b2,hb2⟩:∃ b,aloneF s 2 = b:=⟨_,rfl⟩
 rw [hb1,hb2] at fS hnl sl
 have f1:=f0 b1 1 0
 have n1:=noteF_len [] b1 1 0
 generalize hA1:noteF [] b1 1 0 = l1 at *
 rw [List.length_nil] at n1
 have f2:=fN l1 b2 2 0 (by omega)
 have n2:=noteF_len l1 b2 2 0
 generalize hA2:noteF l1 b2 2 0 = l2 at *
 have f3:=fN l2 (!rightRs s.fl) 3 0 (by omega)
 have n3:=noteF_len l2 (!rightRs s.fl) 3 0
 generalize hA3:noteF l2 (!rightRs s.fl) 3 0 = l3 at *
 have m1:∀ n,n ≤ s.its.length → (notes1 s l3 n).length ≤ 1000:=fun n hn=>by
  have:=notes1_len s l3 n; omega
 have f9:=fN (notes1 s l3 s.its.length) (!rightP s.kn) 9 0 (by have:=m1 s.its.length (Nat.le_refl _); omega)
 have n9:=noteF_len (notes1 s l3 s.its.length) (!rightP s.kn) 9 0
 have m1e:=m1 s.its.length (Nat.le_refl _)
 generalize hA9:noteF (notes1 s l3 s.its.length) (!rightP s.kn) 9 0 = l9 at *
 have m2:∀ n,n ≤ s.kn.length → (notes2 s l9 n).length ≤ 2000:=fun n hn=>by
  have:=notes2_len s l9 n; omega
 have m2e:=m2 s.kn.length (Nat.le_refl _)
 have f12:=fN (notes2 s l9 s.kn.length) false 12 0 (by omega)
 generalize hA12:noteF (notes2 s l9 s.kn.length) false 12 0 = lz at *
 generalize hAll:allF s 12 = ll at *
 have tz:(ll.map Fd.enc).take lz.length = ll.map Fd.enc:=List.take_of_length_le (by rw [List.length_map,sl]; exact Nat.le_refl _)
 simp only [Sta.enc,Sta.cells]
 have hid:s.id < 1 ∧ b1 = true ∨ ¬ s.id < 1 ∧ 16 < s.id ∧ b1 = true ∨ ¬ s.id < 1 ∧ ¬ 16 < s.id ∧ b1 = false:=by
  rw [← hb1]
  by_cases c1:s.id < 1
  ·exact .inl ⟨c1,by simp [aloneF,c1]⟩
  ·by_cases c2:16 < s.id
   ·exact .inr (.inl ⟨c1,c2,by simp [aloneF,c2]⟩)
   ·exact .inr (.inr ⟨c1,c2,by simp [aloneF]; omega⟩)
 have hct:s.ct < 0 ∧ b2 = true ∨ ¬ s.ct < 0 ∧ 1099511627776 < s.ct ∧ b2 = true ∨ ¬ s.ct < 0 ∧ ¬ 1099511627776 < s.ct ∧ b2 = false:=by
  rw [← hb2]
  by_cases c1:s.ct < 0
  ·exact .inl ⟨c1,by simp [aloneF,c1]⟩
  ·by_cases c2:1099511627776 < s.ct
   ·exact .inr (.inl ⟨c1,c2,by simp [aloneF,c2]⟩)
   ·exact .inr (.inr ⟨c1,c2,by simp [aloneF]; omega⟩)
 clear hb1 hb2 hA1 hA2 hA3 f0
 have l3e:notes1 s l3 0 = l3:=rfl
 have l9e:notes2 s l9 0 = l9:=rfl
 rcases hid with ⟨c1,rfl⟩ | ⟨c1,c2,rfl⟩ | ⟨c1,c2,rfl⟩
 all_goals rcases hct with ⟨d1,rfl⟩ | ⟨d1,d2,rfl⟩ | ⟨d1,d2,rfl⟩
 all_goals first | simp -implicitDefEqProofs (maxSteps:=600000) (disch:=(first | omega | decide)) only [go_sem,↓reduceIte,seval,c1,c2,d1,d2,gR,f1,f2,f3,List.length_map] | simp -implicitDefEqProofs (maxSteps:=600000) (disch:=(first | omega | decide)) only [go_sem,↓reduceIte,seval,c1,c2,d1,gR,f1,f2,f3,List.length_map] | simp -implicitDefEqProofs (maxSteps:=600000) (disch:=(first | omega | decide)) only [go_sem,↓reduceIte,seval,c1,d1,d2,gR,f1,f2,f3,List.length_map] | simp -implicitDefEqProofs (maxSteps:=600000) (disch:=(first | omega | decide)) only [go_sem,↓reduceIte,seval,c1,d1,gR,f1,f2,f3,List.length_map]
 all_goals
  refine wpA_loop [1,3,38,39] (ι:={k:Nat // k ≤ s.its.length}) (fun p=>[(40,.int .i64 p.1)]) (fun p=>[(1,.box [.int .i64 s.id,.slc (s.fl.map Rng.enc),.slc (s.its.map It.enc),.slc (s.kn.map Pc.enc),.int .i64 s.ct,.row 2 0 2 (notes1 s l3 p.1).length false]),(2,.row 2 ((notes1 s l3 p.1).map Fd.enc))]) (fun p=>s.its.length - p.1) ⟨0,by omega⟩ (Nat.zero_le _) ?_ ?_
  ·simp -implicitDefEqProofs (maxSteps:=600000) (disch:=(first | omega | decide)) only [go_sem,↓reduceIte,seval,l3e]
  ·rintro ⟨k,hk⟩
   simp only
   by_cases hlt:k < s.its.length
   ·have hlt':(k:Int) < (s.its.length:Int):=by omega
    have e1:=it_get hlt
    have g1:=fI (notes1 s l3 k) k s.its[k] (by have:=m1 k hk; omega) (List.getElem?_eq_getElem hlt)
    have hst:note1 s (notes1 s l3 k) k = notes1 s l3 (k + 1):=rfl
    rw [hst] at g1
    simp -implicitDefEqProofs (maxSteps:=600000) (disch:=(first | omega | decide)) only [go_sem,↓reduceIte,seval,hlt',e1,g1,wrap_i64,List.length_map]
    exact ⟨⟨k + 1,hlt⟩,⟨by simp,rfl,rfl⟩,by show s.its.length - (k + 1) < s.its.length - k; omega⟩
   ·have hlt':¬ (k:Int) < (s.its.length:Int):=by omega
    obtain rfl:k = s.its.length:=by omega
    simp -implicitDefEqProofs (maxSteps:=600000) (disch:=(first | omega | decide)) only [go_sem,↓reduceIte,seval,hlt',gK,f9,List.length_map]
    refine wpA_loop [1,3,57,58] (ι:={k:Nat // k ≤ s.kn.length}) (fun p=>[(59,.int .i64 p.1)]) (fun p=>[(1,.box [.int .i64 s.id,.slc (s.fl.map Rng.enc),.slc (s.its.map It.enc),.slc (s.kn.map Pc.enc),.int .i64 s.ct,.row 2 0 2 (notes2 s l9 p.1).length false]),(2,.row 2 ((notes2 s l9 p.1).map Fd.enc))]) (fun p=>s.kn.length - p.1) ⟨0,by omega⟩ (Nat.zero_le _) ?_ ?_
    ·simp -implicitDefEqProofs (maxSteps:=600000) (disch:=(first | omega | decide)) only [go_sem,↓reduceIte,seval,l9e]
    ·rintro ⟨j,hj⟩
     simp only
     by_cases hlj:j < s.kn.length
     ·have hlj':(j:Int) < (s.kn.length:Int):=by omega
      have e2:=pc_get hlj
      have g2:=fP (notes2 s l9 j) j s.kn[j] (by have:=m2 j hj; omega) (List.getElem?_eq_getElem hlj)
      have hst:note2 s (notes2 s l9 j) j = notes2 s l9 (j + 1):=rfl
      rw [hst] at g2
      simp -implicitDefEqProofs (maxSteps:=600000) (disch:=(first | omega | decide)) only [go_sem,↓reduceIte,seval,hlj',e2,g2,wrap_i64,List.length_map]
      exact ⟨⟨j + 1,hlj⟩,⟨by simp,rfl,rfl⟩,by show s.kn.length - (j + 1) < s.kn.length - j; omega⟩
     ·have hlj':¬ (j:Int) < (s.kn.length:Int):=by omega
      obtain rfl:j = s.kn.length:=by omega
      simp -implicitDefEqProofs (maxSteps:=600000) (disch:=(first | omega | decide)) only [go_sem,↓reduceIte,seval,hlj',c12,f12,fS,tz,List.length_map]
      exact Nat.le_of_eq sl.symm
set_option maxHeartbeats 8000000
noncomputable def T46p:Tab:=T46e.add 16 (entry (fun (s:Sta)=>[s.enc]) (fun s=>OkS s) (fun s=>.slc ((allF s 12).map Fd.enc)))
theorem T46p_ok:TabOK Tryz.prog T46p:=T46e_ok.add (callable_of Tryz.func16 (by kernel_rfl) (by kernel_rfl)) (entry_ok fun s h=>c_audit_State s h)
@[go_sem] theorem T46p_old {g:FuncId} {xs:List A} (h:g ≠ 16):T46p.f g xs = T46e.f g xs:=Tab.add_ne h
theorem T46p_audit_State (s:Sta) (h:OkS s):T46p.f 16 [s.enc] = some (.slc ((allF s 12).map Fd.enc)):=
 (Tab.add_eq:T46p.f 16 [s.enc] = (entry (fun (s:Sta)=>[s.enc]) (fun s=>OkS s) (fun s=>.slc ((allF s 12).map Fd.enc))) [s.enc]).trans (entry_eq (fun i j h=>by first | (cases i; cases j; rfl; done) | simpa [Prod.ext_iff,and_assoc] using h | (simp at h; omega) | (simp at h; exact Prod.ext h.1 (Prod.ext h.2.1 (by omega)))) s h)
theorem a_State {s:Sta} (h:OkS s):T46p.f 16 [.agg [.int .i64 s.id,.slc (s.fl.map Rng.enc),.slc (s.its.map It.enc),.slc (s.kn.map Pc.enc),.int .i64 s.ct]] = some (.slc ((allF s 12).map Fd.enc)):=T46p_audit_State s h
theorem digN_le:∀ (k n:Nat),n < 10 ^ k → 1 ≤ k → (digN n).length ≤ k
 | 0,n,h,h1=>by omega
 | k + 1,n,h,h1=>by
  by_cases h2:n < 10
  ·rw [digN_small h2]; simp
  ·rw [digN_step h2,List.length_append]
   rw [Nat.pow_succ] at h
   have hk:1 ≤ k:=by
    cases k with
    | zero=>simp at h; omega
    | succ k=>omega
   have:=digN_le k (n / 10) (by omega) hk
   simp only [List.length_cons,List.length_nil]; omega
theorem digN19 {n:Nat} (h:n ≤ 9223372036854775807):(digN n).length ≤ 19:=by
 have e:(10:Nat) ^ 19 = 10000000000000000000:=rfl
 exact digN_le 19 n (by rw [e]; omega) (by omega)
noncomputable def TDa (n:Nat):Tab:=T46p.add 102 (entry (fun m:Nat=>[.int .i64 m]) (fun m=>m < n) (fun m=>.str (digN m)))
@[go_sem] theorem TDa_eff {n:Nat} {g:FuncId}:(TDa n).eff g = false:=rfl
@[go_sem] theorem TDa_ords {n m:Nat}:(TDa n).ords m = []:=rfl
theorem TDa_get {n m:Nat} (h:m < n):(TDa n).f 102 [.int .i64 (m:Int)] = some (.str (digN m)):=
 Tab.add_eq.trans (entry_eq (enc:=fun m:Nat=>[A.int .i64 (m:Int)]) (fun i j h=>by simp at h; omega) m h)
theorem ok_audit_digits:codeOK Tryz.prog T46p Tryz.f102.ntmps (Tryz.f102.body.getD .skip) = true:=by kernel_rfl
theorem c_audit_digits (n:Nat) (hn:n ≤ 9223372036854775807):CallA Tryz.prog 102 [.int .i64 n] (· = .str (digN n)):=by
 induction n using Nat.strongRecOn with
 | _ n ih=>
  have hT:TabOK Tryz.prog (TDa n):=T46p_ok.add (callable_of Tryz.func102 (by kernel_rfl) (by kernel_rfl)) (entry_ok fun m h=>ih m h (by omega))
  refine callA_of_body hT mixed Tryz.func102 rfl (Nat.le_of_ble_eq_true rfl) ok_audit_digits ?_
  unfold Tryz.f102
  have hone:=bytesOfA_bytesA [digD n]
  simp only [bytesA,List.map_cons,List.map_nil,encU8,digD_val] at hone
  by_cases h:(n:Int) < 10
  ·have hw:IntKind.u8.wrap (48 + (n:Int)) = 48 + ((n % 10:Nat):Int):=by rw [wrap_u8 (by omega)]; omega
   simp -implicitDefEqProofs (maxSteps:=600000) (disch:=(first | omega | decide)) only [go_sem,↓reduceIte,seval,h,hw,hone,convB,wrap_i64,digN_small (show n < 10 by omega)]
  ·have hd:((n:Int).tdiv 10) = ((n / 10:Nat):Int):=by rw [Int.tdiv_eq_ediv_of_nonneg (by omega)]; omega
   have hm:((n:Int).tmod 10) = ((n % 10:Nat):Int):=by rw [Int.tmod_eq_emod_of_nonneg (by omega)]; omega
   have g1:=TDa_get (n:=n) (m:=n / 10) (by omega)
   have g2:=TDa_get (n:=n) (m:=n % 10) (by omega)
   have l1:=digN19 (n:=n / 10) (by omega)
   have e2:digN (n % 10) = [digD n]:=by rw [digN_small (by omega)]; unfold digD; rw [Nat.mod_mod]
   rw [e2] at g2
   have z10:¬ ((10:Int) = 0):=by omega
   simp -implicitDefEqProofs (maxSteps:=600000) (disch:=(first | omega | decide)) only [go_sem,↓reduceIte,seval,h,hd,hm,g1,g2,z10,wrap_i64,digN_step (show ¬ n < 10 by omega)]
   omega
noncomputable def T46q:Tab:=T46p.add 102 (entry (fun (m:Nat)=>[.int .i64 (m:Int)]) (fun m=>m ≤ 9223372036854775807) (fun m=>.str (digN m)))
theorem T46q_ok:TabOK Tryz.prog T46q:=T46p_ok.add (callable_of Tryz.func102 (by kernel_rfl) (by kernel_rfl)) (entry_ok fun m h=>c_audit_digits m h)
@[go_sem] theorem T46q_old {g:FuncId} {xs:List A} (h:g ≠ 102):T46q.f g xs = T46p.f g xs:=Tab.add_ne h
@[go_sem] theorem T46q_eff {g:FuncId}:T46q.eff g = false:=rfl
@[go_sem] theorem T46q_ords {n:Nat}:T46q.ords n = []:=rfl
theorem T46q_audit_digits (m:Nat) (h:m ≤ 9223372036854775807):T46q.f 102 [.int .i64 (m:Int)] = some (.str (digN m)):=
 (Tab.add_eq:T46q.f 102 [.int .i64 (m:Int)] = (entry (fun (m:Nat)=>[.int .i64 (m:Int)]) (fun m=>m ≤ 9223372036854775807) (fun m=>.str (digN m))) [.int .i64 (m:Int)]).trans (entry_eq (fun i j h=>by first | (cases i; cases j; rfl; done) | simpa [Prod.ext_iff,and_assoc] using h | (simp at h; omega) | (simp at h; exact Prod.ext h.1 (Prod.ext h.2.1 (by omega)))) m h)
theorem a_digits {n:Nat} (h:n ≤ 9223372036854775807):T46q.f 102 [.int .i64 (n:Int)] = some (.str (digN n)):=T46q_audit_digits n h
def lineF (x:Fd):List UInt8:=digN x.code.toNat ++ [32] ++ digN x.at_.toNat ++ [10]
def linesF (l:List Fd):List UInt8:=l.flatMap lineF
def negF (x:Fd):Bool:=decide (x.code < 0) || decide (x.at_ < 0)
def textF (l:List Fd):List UInt8:=if l.any negF then [] else linesF l
theorem lineF_len {x:Fd} (h:x.code ≤ 9223372036854775807 ∧ x.at_ ≤ 9223372036854775807):(lineF x).length ≤ 40:=by
 have h1:=digN19 (n:=x.code.toNat) (by omega)
 have h2:=digN19 (n:=x.at_.toNat) (by omega)
 simp only [lineF,List.length_append,List.length_cons,List.length_nil]; omega
theorem linesF_snoc {l:List Fd} {k:Nat} (h:k < l.length):linesF (l.take (k + 1)) = linesF (l.take k) ++ lineF l[k]:=by
 unfold linesF
 rw [← List.take_append_getElem h,List.flatMap_append]; simp
theorem ok_audit_Text:codeOK Tryz.prog T46q Tryz.f42.ntmps (Tryz.f42.body.getD .skip) = true:=by kernel_rfl
theorem c_audit_Text (l:List Fd) (hl:l.length ≤ 1000000) (hb:∀ x ∈ l,x.code ≤ 9223372036854775807 ∧ x.at_ ≤ 9223372036854775807):CallA Tryz.prog 42 [.slc (l.map Fd.enc)] (· = .str (textF l)):=by
 refine callA_of_body T46q_ok mixed Tryz.func42 rfl (Nat.le_of_ble_eq_true rfl) ok_audit_Text ?_
 unfold Tryz.f42
 simp -implicitDefEqProofs (maxSteps:=600000) (disch:=(first | omega | decide)) only [go_sem,↓reduceIte,seval,List.length_map]
 have z0:linesF (l.take 0) = []:=rfl
 refine wpA_loop [0,6,7] (ι:={k:Nat // k ≤ l.length ∧ l.any negF = (l.drop k).any negF ∧ (linesF (l.take k)).length ≤ 40 * k}) (fun p=>[(8,.int .i64 p.1),(3,.str (linesF (l.take p.1)))]) (fun _=>[]) (fun p=>l.length - p.1) ⟨0,by omega,rfl,by rw [z0]; simp⟩ (Nat.zero_le _) ?_ ?_
 ·simp -implicitDefEqProofs (maxSteps:=600000) (disch:=(first | omega | decide)) only [go_sem,↓reduceIte,seval,z0]
  try rfl
 ·rintro ⟨k,hk,hd,hlen⟩
  simp only
  by_cases hlt:k < l.length
  ·have hlt':(k:Int) < (l.length:Int):=by omega
   have e1:=fd_get hlt
   have hbx:=hb _ (List.getElem_mem hlt)
   have hst:=linesF_snoc hlt
   have hll:=lineF_len hbx
   rw [List.drop_eq_getElem_cons hlt,List.any_cons] at hd
   generalize hx:l[k] = x at *
   obtain ⟨c,a⟩:=x
   simp only at e1 hbx
   by_cases h1:c < 0
   ·have hn:negF ⟨c,a⟩ = true:=by simp [negF,h1]
    rw [hn,Bool.true_or] at hd
    have ht:textF l = []:=by unfold textF; rw [hd]; rfl
    simp -implicitDefEqProofs (maxSteps:=600000) (disch:=(first | omega | decide)) only [go_sem,↓reduceIte,seval,hlt',e1,h1,ht,wrap_i64,List.length_map]
   ·by_cases h2:a < 0
    ·have hn:negF ⟨c,a⟩ = true:=by simp [negF,h2]
     rw [hn,Bool.true_or] at hd
     have ht:textF l = []:=by unfold textF; rw [hd]; rfl
     simp -implicitDefEqProofs (maxSteps:=600000) (disch:=(first | omega | decide)) only [go_sem,↓reduceIte,seval,hlt',e1,h1,h2,ht,wrap_i64,List.length_map]
    ·have hn:negF ⟨c,a⟩ = false:=by simp [negF,h1,h2]
     rw [hn,Bool.false_or] at hd
     obtain ⟨cn,rfl⟩:=Int.eq_ofNat_of_zero_le (show 0 ≤ c by omega)
     obtain ⟨an,rfl⟩:=Int.eq_ofNat_of_zero_le (show 0 ≤ a by omega)
     have g1:=a_digits (n:=cn) (by omega)
     have g2:=a_digits (n:=an) (by omega)
     have k1:=digN19 (n:=cn) (by omega)
     have k2:=digN19 (n:=an) (by omega)
     have hL:lineF ⟨(cn:Int),(an:Int)⟩ = digN cn ++ [32] ++ digN an ++ [10]:=by simp [lineF]
     rw [hL] at hst hll
     generalize linesF (l.take k) = out at *
     generalize digN cn = d1 at *
     generalize digN an = d2 at *
     have q1:d1.length + [(32:UInt8)].length ≤ 9223372036854775807:=by simp; omega
     have q2:(d1 ++ [(32:UInt8)]).length + d2.length ≤ 9223372036854775807:=by simp; omega
     have q3:(d1 ++ [(32:UInt8)] ++ d2).length + [(10:UInt8)].length ≤ 9223372036854775807:=by simp; omega
     have q4:out.length + (d1 ++ [(32:UInt8)] ++ d2 ++ [10]).length ≤ 9223372036854775807:=by omega
     simp -implicitDefEqProofs (maxSteps:=600000) (disch:=(first | omega | decide)) only [go_sem,↓reduceIte,seval,hlt',e1,h1,h2,g1,g2,q1,q2,q3,q4,wrap_i64,List.length_map]
     have k3:(d1 ++ [(32:UInt8)] ++ d2).length ≤ 39:=by simp; omega
     exact ⟨by omega,by omega,⟨⟨k + 1,hlt,hd,by rw [hst,List.length_append]; omega⟩,⟨by simp,by rw [hst]⟩,by show l.length - (k + 1) < l.length - k; omega⟩⟩
  ·have hlt':¬ (k:Int) < (l.length:Int):=by omega
   rw [List.drop_of_length_le (by omega)] at hd
   have ht:textF l = linesF l:=by unfold textF; rw [hd]; rfl
   rw [List.take_of_length_le (by omega),ht]
   simp -implicitDefEqProofs (maxSteps:=600000) (disch:=(first | omega | decide)) only [go_sem,↓reduceIte,seval,hlt',List.length_map]
noncomputable def T46r:Tab:=T46q.add 42 (entry (fun (l:List Fd)=>[.slc (l.map Fd.enc)]) (fun l=>l.length ≤ 1000000 ∧ ∀ x ∈ l,x.code ≤ 9223372036854775807 ∧ x.at_ ≤ 9223372036854775807) (fun l=>.str (textF l)))
theorem T46r_ok:TabOK Tryz.prog T46r:=T46q_ok.add (callable_of Tryz.func42 (by kernel_rfl) (by kernel_rfl)) (entry_ok fun l h=>c_audit_Text l h.1 h.2)
@[go_sem] theorem T46r_old {g:FuncId} {xs:List A} (h:g ≠ 42):T46r.f g xs = T46q.f g xs:=Tab.add_ne h
@[go_sem] theorem T46r_eff {g:FuncId}:T46r.eff g = false:=rfl
@[go_sem] theorem T46r_ords {n:Nat}:T46r.ords n = []:=rfl
theorem T46r_audit_Text (l:List Fd) (h:l.length ≤ 1000000 ∧ ∀ x ∈ l,x.code ≤ 9223372036854775807 ∧ x.at_ ≤ 9223372036854775807):T46r.f 42 [.slc (l.map Fd.enc)] = some (.str (textF l)):=
 (Tab.add_eq:T46r.f 42 [.slc (l.map Fd.enc)] = (entry (fun (l:List Fd)=>[.slc (l.map Fd.enc)]) (fun l=>l.length ≤ 1000000 ∧ ∀ x ∈ l,x.code ≤ 9223372036854775807 ∧ x.at_ ≤ 9223372036854775807) (fun l=>.str (textF l))) [.slc (l.map Fd.enc)]).trans (entry_eq (fun i j h=>by first | (cases i; cases j; rfl; done) | simpa [Prod.ext_iff,and_assoc] using h | (simp at h; omega) | (simp at h; exact Prod.ext h.1 (Prod.ext h.2.1 (by omega)))) l h)
theorem a_Text {l:List Fd} (h:l.length ≤ 1000000 ∧ ∀ x ∈ l,x.code ≤ 9223372036854775807 ∧ x.at_ ≤ 9223372036854775807):T46r.f 42 [.slc (l.map Fd.enc)] = some (.str (textF l)):=T46r_audit_Text l h
theorem all0:allF ⟨0,[],[],[],0⟩ 12 = [⟨1,0⟩]:=by
 have r1:rightRs [] = true:=rfl
 have r2:rightP [] = true:=rfl
 simp [allF,codeF,fdAt,aloneF,r1,r2]
theorem ok0:OkS ⟨0,[],[],[],0⟩:=⟨⟨by simp,okL_nil⟩,⟨by simp,fun x h=>by cases h⟩,by simp,by simp [wP],fun p h=>by cases h⟩
theorem ok_law46_awake:codeOK Tryz.prog T46r Tryz.f13.ntmps (Tryz.f13.body.getD .skip) = true:=by kernel_rfl
theorem c_law46_awake:CallA Tryz.prog 13 [] (· = .bool true):=by
 refine callA_of_body T46r_ok mixed Tryz.func13 rfl (Nat.le_of_ble_eq_true rfl) ok_law46_awake ?_
 unfold Tryz.f13
 have h1:=a_State ok0
 rw [all0] at h1
 have h2:=a_Text (l:=[⟨1,0⟩]) ⟨by simp,fun x hx=>by obtain rfl:=List.mem_singleton.1 hx; exact ⟨by decide,by decide⟩⟩
 have e:textF [⟨1,0⟩] = [49,32,48,10]:=by
  have d1:digN 1 = [49]:=by rw [digN_small (by omega)]; rfl
  have d0:digN 0 = [48]:=by rw [digN_small (by omega)]; rfl
  simp [textF,linesF,lineF,negF,d1,d0]
 rw [e] at h2
 simp only [List.map_cons,List.map_nil,Fd.enc] at h1 h2
 have b1:(([49,32,48,10]:List UInt8) == [49,32,48,10]) = true:=by decide
 simp -implicitDefEqProofs (maxSteps:=600000) (disch:=(first | omega | decide)) only [go_sem,↓reduceIte,seval,h1,h2,b1,List.length_cons,List.length_nil]
noncomputable def L46a:Tab:=T46r.add 13 (entry (fun (u:Unit)=>[]) (fun u=>True) (fun u=>.bool true))
theorem L46a_ok:TabOK Tryz.prog L46a:=T46r_ok.add (callable_of Tryz.func13 (by kernel_rfl) (by kernel_rfl)) (entry_ok fun u h=>c_law46_awake)
@[go_sem] theorem L46a_old {g:FuncId} {xs:List A} (h:g ≠ 13):L46a.f g xs = T46r.f g xs:=Tab.add_ne h
@[go_sem] theorem L46a_eff {g:FuncId}:L46a.eff g = false:=rfl
@[go_sem] theorem L46a_ords {n:Nat}:L46a.ords n = []:=rfl
theorem L46a_law46_awake (u:Unit) (h:True):L46a.f 13 [] = some (.bool true):=
 (Tab.add_eq:L46a.f 13 [] = (entry (fun (u:Unit)=>[]) (fun u=>True) (fun u=>.bool true)) []).trans (entry_eq (fun i j h=>by first | (cases i; cases j; rfl; done) | simpa [Prod.ext_iff,and_assoc] using h | (simp at h; omega) | (simp at h; exact Prod.ext h.1 (Prod.ext h.2.1 (by omega)))) u h)
theorem w_awake:L46a.f 13 [] = some (.bool true):=L46a_law46_awake () trivial
structure InS (s:Sta):Prop where
 fl:s.fl.length ≤ 9223372036854775807 ∧ okL s.fl
 its:s.its.length ≤ 9223372036854775807 ∧ okI s.its
 kn:s.kn.length ≤ 9223372036854775807 ∧ ∀ p ∈ s.kn,p.s.length ≤ 9223372036854775807
theorem longS_ok {s:Sta} (h:InS s) (hl:longS s = false):OkS s:=by
 unfold longS at hl
 simp only [Bool.or_eq_false_iff] at hl
 have h1:=long_len hl.1.1
 have h2:=longI_len hl.1.2
 exact ⟨⟨by omega,h.fl.2⟩,⟨by omega,h.its.2⟩,longP_small (m:=24) hl.2⟩
theorem right_none (s:Sta):(((allF s 12).length:Int) == 0) = rightS s:=by
 rw [rightS_iff,Bool.eq_iff_iff,beq_iff_eq,decide_eq_true_iff,← List.length_eq_zero_iff]
 omega
theorem ok_law46_AuditRight:codeOK Tryz.prog L46a Tryz.f3.ntmps (Tryz.f3.body.getD .skip) = true:=by kernel_rfl
theorem c_law46_AuditRight (s:Sta) (h:InS s):CallA Tryz.prog 3 [s.enc] (· = .bool true):=by
 refine callA_of_body L46a_ok mixed Tryz.func3 rfl (Nat.le_of_ble_eq_true rfl) ok_law46_AuditRight ?_
 unfold Tryz.f3
 have g0:=w_awake
 have g1:=s_rLong (s:=s) ⟨⟨h.fl.1,h.its.1⟩,h.kn⟩
 simp only [Sta.enc,Sta.cells]
 cases hl:longS s with
 | true=>
  rw [hl] at g1
  simp -implicitDefEqProofs (maxSteps:=600000) (disch:=(first | omega | decide)) only [go_sem,↓reduceIte,seval,g0,g1]
 | false=>
  rw [hl] at g1
  have ok:=longS_ok h hl
  have g2:=s_rRight ok.toR
  have g3:=a_State ok
  have g4:=right_none s
  cases hr:rightS s with
  | true=>
   rw [hr] at g2 g4
   simp -implicitDefEqProofs (maxSteps:=600000) (disch:=(first | omega | decide)) only [go_sem,↓reduceIte,seval,g0,g1,g2,g3,g4,List.length_map]
  | false=>
   rw [hr] at g2 g4
   simp -implicitDefEqProofs (maxSteps:=600000) (disch:=(first | omega | decide)) only [go_sem,↓reduceIte,seval,g0,g1,g2,g3,g4,List.length_map]
theorem fits_its {x:A} (h:fits (.rows [.str,.int .i64,.int .i64,.int .i64,.int .i64,.bool,.str]) x):∃ l:List It,x = .slc (l.map It.enc) ∧ l.length ≤ maxLen ∧ okI l:=by
 simp only [fits] at h
 obtain ⟨es,rfl,hl,he⟩:=h
 have ml:=maxLen_le
 obtain ⟨l,rfl,hk⟩:=list_of (f:=It.enc) (P:=fun x=>x.ok) (es:=es) (fun e hx=>by
  obtain ⟨ys,rfl,hy⟩:=he e hx
  simp only [fitsL] at hy
  obtain ⟨y1,z1,rfl,h1,y2,z2,rfl,h2,y3,z3,rfl,h3,y4,z4,rfl,h4,y5,z5,rfl,h5,y6,z6,rfl,h6,y7,z7,rfl,h7,rfl⟩:=hy
  simp only [fits] at h1 h2 h3 h4 h5 h6 h7
  obtain ⟨s,rfl,hs⟩:=h1
  obtain ⟨a,rfl,_⟩:=h2
  obtain ⟨b,rfl,_⟩:=h3
  obtain ⟨c,rfl,_⟩:=h4
  obtain ⟨d,rfl,_⟩:=h5
  obtain ⟨e,rfl⟩:=h6
  obtain ⟨t,rfl,ht⟩:=h7
  exact ⟨⟨s,a,b,c,d,e,t⟩,rfl,⟨by show s.length ≤ _; omega,by show t.length ≤ _; omega⟩⟩)
 exact ⟨l,rfl,by simpa using hl,hk⟩
theorem fits_sta {x:List A} (h:fitsL [.int .i64,.rows [.str,.str,.bool],.rows [.str,.int .i64,.int .i64,.int .i64,.int .i64,.bool,.str],.rows [.str,.str,.bool,.rows [.int .i64,.rows [.int .i64,.int .i64]]],.int .i64] x):∃ s:Sta,x = s.cells ∧ InS s:=by
 simp only [fitsL] at h
 have ml:=maxLen_le
 obtain ⟨y1,z1,rfl,h1,y2,z2,rfl,h2,y3,z3,rfl,h3,y4,z4,rfl,h4,y5,z5,rfl,h5,rfl⟩:=h
 simp only [fits] at h1 h5
 obtain ⟨id,rfl,_⟩:=h1
 obtain ⟨ct,rfl,_⟩:=h5
 obtain ⟨F,rfl,f1,f2⟩:=fits_rngs h2
 obtain ⟨I,rfl,i1,i2⟩:=fits_its h3
 obtain ⟨K,rfl,k1,k2⟩:=fits_pcs h4
 exact ⟨⟨id,F,I,K,ct⟩,rfl,⟨⟨by show F.length ≤ _; omega,f2⟩,⟨by show I.length ≤ _; omega,i2⟩,⟨by show K.length ≤ _; omega,fun p hp=>by have:=k2 p hp; omega⟩⟩⟩
theorem ok_ref46_Alone:codeOK Tryz.prog L46a Tryz.f97.ntmps (Tryz.f97.body.getD .skip) = true:=by kernel_rfl
theorem c_ref46_Alone (s:Sta) (c:Int) (h:OkS s):CallA Tryz.prog 97 [s.enc,.int .i64 c] (· = .bool (aloneF s c)):=by
 refine callA_of_body L46a_ok mixed Tryz.func97 rfl (Nat.le_of_ble_eq_true rfl) ok_ref46_Alone ?_
 unfold Tryz.f97
 have g1:=s_rRngRight (l:=s.fl) ⟨by have:=h.fl.1; omega,h.fl.2⟩
 have g2:=q_rRight h.okR.1
 have hil:=h.its.1
 obtain ⟨id,F,I,K,ct⟩:=s
 simp only [Sta.enc,Sta.cells] at *
 unfold aloneF
 simp only
 cases e1:c == 1 with
 | true=>
  by_cases c1:id < 1
  ·simp -implicitDefEqProofs (maxSteps:=600000) (disch:=(first | omega | decide)) only [go_sem,↓reduceIte,seval,e1,c1]
  ·by_cases c2:16 < id
   ·simp -implicitDefEqProofs (maxSteps:=600000) (disch:=(first | omega | decide)) only [go_sem,↓reduceIte,seval,e1,c1,c2]
   ·simp -implicitDefEqProofs (maxSteps:=600000) (disch:=(first | omega | decide)) only [go_sem,↓reduceIte,seval,e1,c1,c2]
 | false=>
  cases e2:c == 2 with
  | true=>
   by_cases c1:ct < 0
   ·simp -implicitDefEqProofs (maxSteps:=600000) (disch:=(first | omega | decide)) only [go_sem,↓reduceIte,seval,e1,e2,c1]
   ·by_cases c2:1099511627776 < ct
    ·simp -implicitDefEqProofs (maxSteps:=600000) (disch:=(first | omega | decide)) only [go_sem,↓reduceIte,seval,e1,e2,c1,c2]
    ·simp -implicitDefEqProofs (maxSteps:=600000) (disch:=(first | omega | decide)) only [go_sem,↓reduceIte,seval,e1,e2,c1,c2]
  | false=>
   cases e3:c == 3 with
   | true=>simp -implicitDefEqProofs (maxSteps:=600000) (disch:=(first | omega | decide)) only [go_sem,↓reduceIte,seval,e1,e2,e3,g1]
   | false=>
    cases e4:c == 9 with
    | true=>simp -implicitDefEqProofs (maxSteps:=600000) (disch:=(first | omega | decide)) only [go_sem,↓reduceIte,seval,e1,e2,e3,e4,g2]
    | false=>
     cases e5:c == 12 with
     | true=>
      have c1:¬ (4096:Int) < (I.length:Int):=by omega
      have c2:¬ 4096 < I.length:=by omega
      simp -implicitDefEqProofs (maxSteps:=600000) (disch:=(first | omega | decide)) only [go_sem,↓reduceIte,seval,e1,e2,e3,e4,e5,c1,c2,List.length_map]
     | false=>simp -implicitDefEqProofs (maxSteps:=600000) (disch:=(first | omega | decide)) only [go_sem,↓reduceIte,seval,e1,e2,e3,e4,e5]
theorem ok_ref46_Item:codeOK Tryz.prog L46a Tryz.f98.ntmps (Tryz.f98.body.getD .skip) = true:=by kernel_rfl
theorem c_ref46_Item (s:Sta) (c:Int) (i:Nat) (h:OkS s) (hi:i < s.its.length):CallA Tryz.prog 98 [s.enc,.int .i64 c,.int .i64 i] (· = .bool (itemF s c i)):=by
 refine callA_of_body L46a_ok mixed Tryz.func98 rfl (Nat.le_of_ble_eq_true rfl) ok_ref46_Item ?_
 unfold Tryz.f98
 have hil:=h.its.1
 have ei:=it_get hi
 have hox:=h.its.2 _ (List.getElem_mem hi)
 have g2:=p_ref08_Has (l:=s.fl) (s:=s.its[i].key) (by have:=h.fl.1; omega) h.fl.2 hox.1
 have g3:=p_rHas (k:=s.kn) (x:=s.its[i].key) (n:=s.its[i].rep) (c:=s.its[i].cnt) h.okR.1 hox.1
 have hit:itemF s c i = if c == 4 then !rightI s.its[i] else if c == 5 then behindI s.its i else if c == 6 then !hasRs s.fl s.its[i].key else if c == 7 then !hasP s.kn s.its[i].key s.its[i].rep s.its[i].cnt else if c == 8 then twiceI s.its i else false:=by
  unfold itemF; rw [List.getElem?_eq_getElem hi]
 have hP:twiceI s.its i = (s.its.take i).any fun y=>decide (y.rep = s.its[i].rep ∧ y.cnt = s.its[i].cnt):=by
  unfold twiceI; rw [List.getElem?_eq_getElem hi]
 have hbe:∀ j,i = j + 1 → ∀ hj:j < s.its.length,behindI s.its i = !ltB s.its[j].key s.its[i].key:=fun j e hj=>by
  subst e
  simp [behindI,List.getElem?_eq_getElem hi,List.getElem?_eq_getElem hj]
 have hok:=h.its.2
 rw [hit]
 obtain ⟨id,F,I,K,ct⟩:=s
 simp only [Sta.enc,Sta.cells] at *
 have hi:i < I.length:=hi
 have c1:(i:Int) < (I.length:Int):=by omega
 have c2:((i:Nat):Int).toNat = i:=by simp
 have c3:(0:Int) ≤ (i:Int):=by omega
 generalize hx:I[i] = x at *
 obtain ⟨key,rep,cnt,rank,prio,dead,body⟩:=x
 simp only at ei g2 g3 hbe hP hox
 have g1:=i_rRight hox
 cases e4:c == 4 with
 | true=>simp -implicitDefEqProofs (maxSteps:=600000) (disch:=(first | omega | decide)) only [go_sem,↓reduceIte,seval,e4,ei,c1,c2,c3,g1,List.length_map]
 | false=>
  cases e5:c == 5 with
  | true=>
   cases i with
   | zero=>
    have b0:behindI I 0 = false:=rfl
    rw [b0]
    have d1:(0:Int) < (I.length:Int):=by omega
    simp -implicitDefEqProofs (maxSteps:=600000) (disch:=(first | omega | decide)) only [go_sem,↓reduceIte,seval,e4,e5,ei,c1,c2,c3,d1,List.length_map]
   | succ j=>
    have hj:j < I.length:=by omega
    rw [hbe j rfl hj]
    have ej:=it_get hj
    have gl:=p_ref06_Less (a:=I[j].key) (b:=key) ⟨(hok _ (List.getElem_mem hj)).1,hox.1⟩
    have e3:(cmpB I[j].key key == -1) = ltB I[j].key key:=rfl
    rw [e3] at gl
    have d0:(0:Int) < ((j + 1:Nat):Int):=by omega
    have d1:(((j + 1:Nat):Int) - 1).toNat = j:=by omega
    have d2:(0:Int) ≤ ((j + 1:Nat):Int) - 1:=by omega
    have d3:((j + 1:Nat):Int) - 1 < (I.length:Int):=by omega
    simp -implicitDefEqProofs (maxSteps:=600000) (disch:=(first | omega | decide)) only [go_sem,↓reduceIte,seval,e4,e5,ei,ej,gl,c1,c2,c3,d0,d1,d2,d3,wrap_i64,List.length_map]
  | false=>
   cases e6:c == 6 with
   | true=>simp -implicitDefEqProofs (maxSteps:=600000) (disch:=(first | omega | decide)) only [go_sem,↓reduceIte,seval,e4,e5,e6,ei,c1,c2,c3,g2,List.length_map]
   | false=>
    cases e7:c == 7 with
    | true=>simp -implicitDefEqProofs (maxSteps:=600000) (disch:=(first | omega | decide)) only [go_sem,↓reduceIte,seval,e4,e5,e6,e7,ei,c1,c2,c3,g3,List.length_map]
    | false=>
     cases e8:c == 8 with
     | false=>simp -implicitDefEqProofs (maxSteps:=600000) (disch:=(first | omega | decide)) only [go_sem,↓reduceIte,seval,e4,e5,e6,e7,e8,ei,c1,c2,c3,List.length_map]
     | true=>
      simp -implicitDefEqProofs (maxSteps:=600000) (disch:=(first | omega | decide)) only [go_sem,↓reduceIte,seval,e4,e5,e6,e7,e8,ei,c1,c2,c3,List.length_map]
      have hll:(I.take i).length = i:=by rw [List.length_take]; omega
      have hget:∀ q (hq:q < i),(I.take i)[q]'(by omega) = I[q]'(by omega):=fun q hq=>List.getElem_take
      refine wpA_loop [2,3,7] (ι:={q:Nat // q ≤ i ∧ twiceI I i = (((I.take i).drop q).any fun y=>decide (y.rep = rep ∧ y.cnt = cnt))}) (fun q=>[(8,.int .i64 q.1)]) (fun _=>[(0,.box [.int .i64 id,.slc (F.map Rng.enc),.slc (I.map It.enc),.slc (K.map Pc.enc),.int .i64 ct]),(1,.box [.str key,.int .i64 rep,.int .i64 cnt,.int .i64 rank,.int .i64 prio,.bool dead,.str body])]) (fun q=>i - q.1) ⟨0,by omega,by rw [hP]; rfl⟩ (Nat.zero_le _) ?_ ?_
      ·simp -implicitDefEqProofs (maxSteps:=600000) (disch:=(first | omega | decide)) only [go_sem,↓reduceIte,seval]
      ·rintro ⟨q,hq,hd2⟩
       simp only
       by_cases hlq:q < i
       ·have hlq':(q:Int) < (i:Int):=by omega
        have hqI:q < I.length:=by omega
        have eq':=it_get hqI
        rw [List.drop_eq_getElem_cons (by omega),List.any_cons,hget q hlq] at hd2
        have b1:(q:Int) < (I.length:Int):=by omega
        generalize I[q] = y at *
        obtain ⟨key',rep',cnt',rank',prio',dead',body'⟩:=y
        simp only at eq' hd2
        cases h1:rep' == rep with
        | false=>
         have hne:decide (rep' = rep ∧ cnt' = cnt) = false:=by
          have:rep' ≠ rep:=by simpa using h1
          simp [this]
         rw [hne,Bool.false_or] at hd2
         simp -implicitDefEqProofs (maxSteps:=600000) (disch:=(first | omega | decide)) only [go_sem,↓reduceIte,seval,hlq',b1,eq',h1,wrap_i64,List.length_map]
         exact ⟨⟨q + 1,hlq,hd2⟩,by simp,by show i - (q + 1) < i - q; omega⟩
        | true=>
         obtain rfl:rep' = rep:=by simpa using h1
         cases h2:cnt' == cnt with
         | false=>
          have hne:decide (rep' = rep' ∧ cnt' = cnt) = false:=by
               have:cnt' ≠ cnt:=by simpa using h2
               simp [this]
          rw [hne,Bool.false_or] at hd2
          simp -implicitDefEqProofs (maxSteps:=600000) (disch:=(first | omega | decide)) only [go_sem,↓reduceIte,seval,hlq',b1,eq',h1,h2,wrap_i64,List.length_map]
          exact ⟨⟨q + 1,hlq,hd2⟩,by simp,by show i - (q + 1) < i - q; omega⟩
         | true=>
          obtain rfl:cnt' = cnt:=by simpa using h2
          have he:decide (rep' = rep' ∧ cnt' = cnt') = true:=by simp
          rw [he,Bool.true_or] at hd2
          simp -implicitDefEqProofs (maxSteps:=600000) (disch:=(first | omega | decide)) only [go_sem,↓reduceIte,seval,hlq',b1,eq',h1,h2,hd2,wrap_i64,List.length_map]
       ·have hlq':¬ (q:Int) < (i:Int):=by omega
        rw [List.drop_of_length_le (by omega)] at hd2
        have hd2:twiceI I i = false:=hd2
        simp -implicitDefEqProofs (maxSteps:=600000) (disch:=(first | omega | decide)) only [go_sem,↓reduceIte,seval,hlq',hd2,List.length_map]
theorem mostP_nn (p:Pc) (id:Int):0 ≤ mostP p id:=by
 unfold mostP
 split
 ·exact (most_spec (setR_right _)).1
 ·exact Int.le_refl _
theorem mostK_one (p:Pc) (id:Int):mostK [p] id = mostP p id:=by
 have:=mostP_nn p id
 show max 0 (mostP p id) = _
 omega
theorem st15 (l:List Pc):((l.map Pc.enc).isEmpty || strideOf (l.map Pc.enc) == 4) = true:=by cases l <;> rfl
theorem ok_ref46_Piece:codeOK Tryz.prog L46a Tryz.f99.ntmps (Tryz.f99.body.getD .skip) = true:=by kernel_rfl
theorem c_ref46_Piece (s:Sta) (c:Int) (i:Nat) (h:OkS s) (hi:i < s.kn.length):CallA Tryz.prog 99 [s.enc,.int .i64 c,.int .i64 i] (· = .bool (pieceF s c i)):=by
 refine callA_of_body L46a_ok mixed Tryz.func99 rfl (Nat.le_of_ble_eq_true rfl) ok_ref46_Piece ?_
 unfold Tryz.f99
 have hp:=List.getElem_mem hi
 obtain ⟨k1,k2,k3⟩:=one_ok h hp
 have hkl:=h.kn.1
 have g1:=q_Restrict (a:=[s.kn[i]]) (l:=s.fl) k1 h.fl.2 ⟨by simp,by have:=h.fl.1; omega⟩
 have g2:=q_Of (a:=[s.kn[i]]) k1 (by simp)
 have o1:=okP_rest (a:=[s.kn[i]]) (l:=s.fl) (N:=1) (M:=8) (W:=24 * 272) (by simp) h.fl.1 k2 (by omega) (by omega)
 have o2:=okP_at (k:=[s.kn[i]]) (N:=1) (W:=24 * 272) (by simp) k2 (by omega) (by omega)
 have g3:=p_rSame o1.1 o2.1
 have e3:sameP (setP (restP [s.kn[i]] s.fl)) (setP (atP [s.kn[i]])) = !outP s.kn[i] s.fl:=by unfold outP; rw [Bool.not_not]
 rw [e3] at g3
 have g4:=s_rMost (id:=s.id) k1
 rw [mostK_one] at g4
 have hsl:((s.kn.map Pc.enc).take (i + 1)).drop i = [s.kn[i]].map Pc.enc:=by
  rw [← List.map_take,← List.map_drop,List.take_succ_eq_append_getElem hi,List.drop_append_of_le_length (by rw [List.length_take]; omega),List.drop_of_length_le (by rw [List.length_take]; omega),List.nil_append]
 have st:=st15 s.kn
 have hpF:pieceF s c i = if c == 10 then outP s.kn[i] s.fl else if c == 11 then decide (s.ct < mostP s.kn[i] s.id) else false:=by
  unfold pieceF; rw [List.getElem?_eq_getElem hi]
 rw [hpF]
 obtain ⟨id,F,I,K,ct⟩:=s
 simp only [Sta.enc,Sta.cells] at *
 have hi:i < K.length:=hi
 have hkl:K.length ≤ 24:=hkl
 generalize setP (restP [K[i]] F) = Q at *
 generalize outP K[i] F = o at *
 generalize mostP K[i] id = m at *
 simp only [List.map_cons,List.map_nil] at g1 g2 g4 hsl
 have c1:(0:Int) ≤ (i:Int):=by omega
 have c2:(i:Int) ≤ (i:Int) + 1:=by omega
 have c3:(i:Int) + 1 ≤ (K.length:Int):=by omega
 have c4:((i:Int) + 1).toNat = i + 1:=by omega
 have c5:((i:Nat):Int).toNat = i:=by simp
 cases e1:c == 10 with
 | true=>cases o <;> simp -implicitDefEqProofs (maxSteps:=600000) (disch:=(first | omega | decide)) only [go_sem,↓reduceIte,seval,e1,g1,g2,g3,hsl,st,c1,c2,c3,c4,c5,wrap_i64,List.length_map]
 | false=>
  cases e2:c == 11 with
  | true=>
   by_cases hm:ct < m
   ·simp -implicitDefEqProofs (maxSteps:=600000) (disch:=(first | omega | decide)) only [go_sem,↓reduceIte,seval,e1,e2,g4,hm,hsl,st,c1,c2,c3,c4,c5,wrap_i64,List.length_map]
   ·simp -implicitDefEqProofs (maxSteps:=600000) (disch:=(first | omega | decide)) only [go_sem,↓reduceIte,seval,e1,e2,g4,hm,hsl,st,c1,c2,c3,c4,c5,wrap_i64,List.length_map]
  | false=>simp -implicitDefEqProofs (maxSteps:=600000) (disch:=(first | omega | decide)) only [go_sem,↓reduceIte,seval,e1,e2,hsl,st,c1,c2,c3,c4,c5,wrap_i64,List.length_map]
end Go.Proofs.YtjfdlpagcgpaoaaGreat
