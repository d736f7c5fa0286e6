/- What the laws of this claim rest on: the abstract executor, its soundness, and what the functions compute on pure data. No condition. -/
import Derived.Test.YtihgnfmoafjakaaGreatU8
noncomputable section
set_option linter.unusedVariables false
set_option linter.unusedSimpArgs false
namespace Go.wG
set_option linter.unusedVariables false
set_option linter.unusedSimpArgs false
section
variable{V:Type}(lt:V->V->Bool)
structure Swo:Prop where
 xD: ∀x,lt x x=false
 asy: ∀x y,lt x y=true->lt y x=false
 neg: ∀x y z,lt x y=false->lt y z=false->lt x z=false
def eqv(x y:V):Bool:= !lt x y&& !lt y x
def jX(l:List V):Prop:=l.Pairwise fun x y=>lt y x=false
def St(l s:List V):Prop:=jX lt s/\ ∀x,s.filter (eqv lt x)=l.filter (eqv lt x)
end
section
variable{V:Type}{lt:V->V->Bool}(o:Swo lt)
include o
theorem ia(x:V):eqv lt x x=true:=by simp[eqv,o.xD]
theorem St.mem{l s:List V}(h:St lt l s)(x:V):x∈s ↔ x∈l:=by
 have e: ∀m:List V,x∈m ↔ x∈m.filter (eqv lt x):=fun m=>by rw[List.mem_filter];exact⟨fun g=>⟨g,ia o x⟩,And.left⟩
 rw[e s,e l,h.2 x]
theorem n5{x y x' y':V}(h:lt y x=true)(hx:lt x' x=false)(hy:lt y y'=false):lt y' x'=true:=by
 cases h':lt y' x' with
 |true=>rfl
 |false=>rw[o.neg y y' x hy (o.neg y' x' x h' hx)]at h;cases h
theorem split{X1 X2 Y1 Y2 S1 S2:List V}(hX:jX lt (X1++X2))(hY:jX lt (Y1++Y2))(h1: ∀x∈X2,∀y∈Y1,lt y x=true)(h2: ∀x∈X1,∀y∈Y2,lt y x=false)
 (s1:St lt (X1++Y1) S1) (s2:St lt (X2++Y2) S2):St lt (X1++X2++(Y1++Y2)) (S1++S2):=by
 obtain⟨_,_,hx⟩:=List.pairwise_append.1 hX;obtain⟨_,_,hy⟩:=List.pairwise_append.1 hY;refine⟨List.pairwise_append.2 ⟨s1.1,s2.1,fun a ha b hb=> ?_⟩,fun x=> ?_⟩
 · rcases List.mem_append.1 ((s1.mem o a).1 ha)with ha|ha<;>rcases List.mem_append.1 ((s2.mem o b).1 hb)with hb|hb
   · exact hx a ha b hb
   · exact h2 a ha b hb
   · exact o.asy _ _ (h1 b hb a ha)
   · exact hy a ha b hb
 · simp only[List.filter_append]
   have e1:=s1.2 x;have e2:=s2.2 x;simp only[List.filter_append]at e1 e2;rw[e1,e2]
   by_cases hc:Y1.filter (eqv lt x)=[]
   · rw[hc];simp
   · have:X2.filter (eqv lt x)=[]:=by
      rw[List.filter_eq_nil_iff]
      intro b hb hbe;obtain⟨y,zx⟩:=List.exists_mem_of_ne_nil _ hc;rw[List.mem_filter]at zx;have g:=h1 b hb y zx.1;simp only[eqv,Bool.and_eq_true,Bool.not_eq_true']at hbe zx;rw[o.neg y x b zx.2.2 hbe.1]at g;cases g
     rw[this];simp
omit o in
theorem St.refl{l:List V}(h:jX lt l):St lt l l:=⟨h,fun _=>rfl⟩
omit o in
theorem St.comp{l1 l2 s1 s2 s:List V}(h1:St lt l1 s1)(h2:St lt l2 s2)(h:St lt (s1++s2) s):St lt (l1++l2) s:=
 ⟨h.1,fun x=>by rw[h.2 x,List.filter_append,List.filter_append,h1.2 x,h2.2 x]⟩
theorem Yu{x:V}{Y1 Y2:List V}(hY:jX lt (Y1++Y2))(h1: ∀y∈Y1,lt y x=true)(h2: ∀y∈Y2,lt y x=false):St lt (x::(Y1++Y2)) (Y1++x::Y2):=by
 obtain⟨k1,k2,_⟩:=List.pairwise_append.1 hY;have:=split o (X1:=[]) (X2:=[x]) (Y1:=Y1) (Y2:=Y2) (S1:=Y1) (S2:=x::Y2) (by simp[jX]) hY (fun a ha y hy=>by simp at ha;subst ha;exact h1 y hy) (fun a ha=>by simp at ha) (St.refl k1) (St.refl (List.pairwise_cons.2 ⟨h2,k2⟩))
 simpa using this
theorem wH{y:V}{X1 X2:List V}(hX:jX lt (X1++X2))(h1: ∀x∈X1,lt y x=false)(h2: ∀x∈X2,lt y x=true):St lt (X1++X2++[y]) (X1++y::X2):=by
 obtain⟨k1,k2,_⟩:=List.pairwise_append.1 hX
 have:=split o (X1:=X1) (X2:=X2) (Y1:=[y]) (Y2:=[]) (S1:=X1++[y]) (S2:=X2) hX (by simp[jX]) (fun x hx a ha=>by simp at ha;subst ha;exact h2 x hx) (fun x _ a ha=>by simp at ha)
  (St.refl (List.pairwise_append.2 ⟨k1,by simp,fun a ha b hb=>by simp at hb;subst hb;exact h1 a ha⟩)) (by rw[List.append_nil];exact St.refl k2)
 simpa using this
theorem St.uniq{l s s':List V}(h:St lt l s)(h':St lt l s'):s=s':=by
 have key: ∀(n:Nat) (a b:List V),a.length<=n->jX lt a->jX lt b->(∀x,a.filter (eqv lt x)=b.filter (eqv lt x))->a=b:=by
  intro n;induction n with
  |zero=>
   intro a b hn _ _ hf;obtain rfl:a=[]:=List.length_eq_zero_iff.1 (by omega)
   cases b with
   |nil=>rfl
   |cons y b=>
    have:=hf y;rw[List.filter_cons_of_pos (ia o y)]at this;cases this
  |succ n ih=>
   intro a b hn ha hb hf;cases a with
   |nil=>
    cases b with
    |nil=>rfl
    |cons y b=>
     have:=hf y;rw[List.filter_cons_of_pos (ia o y)]at this;cases this
   |cons x a=>
    cases b with
    |nil=>
     have:=hf x;rw[List.filter_cons_of_pos (ia o x)]at this;cases this
    |cons y b=>
     have Hz:=List.pairwise_cons.1 ha;have o9:=List.pairwise_cons.1 hb
     have mm: ∀z,z∈x::a ↔ z∈y::b:=fun z=>by
      have e: ∀m:List V,z∈m ↔ z∈m.filter (eqv lt z):=fun m=>by rw[List.mem_filter];exact⟨fun g=>⟨g,ia o z⟩,And.left⟩
      rw[e (x::a),e (y::b),hf z]
     have LW:lt x y=false:=by
      rcases List.mem_cons.1 ((mm x).1 (by simp))with e|e
      · rw[e];exact o.xD y
      · exact o9.1 x e
     have hyx:lt y x=false:=by
      rcases List.mem_cons.1 ((mm y).2 (by simp))with e|e
      · rw[e];exact o.xD x
      · exact Hz.1 y e
     have e:=hf x;rw[List.filter_cons_of_pos (ia o x),List.filter_cons_of_pos (by simp[eqv,LW,hyx])]at e;obtain⟨rfl,_⟩:=List.cons.inj e
     congr 1
     refine ih a b (by simpa using hn) Hz.2 o9.2 fun z=> ?_;have:=hf z;simp only[List.filter_cons]at this;split at this
     · exact(List.cons.inj this).2
     · exact this
 exact key s.length s s' (Nat.le_refl _) h.1 h'.1 fun x=>by rw[h.2 x,h'.2 x]
theorem cut [Inhabited V]{X Y:List V}(hX:jX lt X)(hY:jX lt Y){u v:Nat}(hu:u<=X.length)(hv:v<=Y.length)
 (h1:0<v->u<X.length->lt (Y[v-1]!) (X[u]!)=true) (h2:0<u->v<Y.length->lt (Y[v]!) (X[u-1]!)=false):
 (∀x∈X.drop u,∀y∈Y.take v,lt y x=true)/\(∀x∈X.take u,∀y∈Y.drop v,lt y x=false):=by
 have le: ∀{l:List V},jX lt l-> ∀{i j:Nat} (vw:i<=j) (hj:j<l.length),lt (l[j]) (l[i])=false:=fun{l} hl {i j} vw hj=>by
  by_cases e:i=j
  · subst e;exact o.xD _
  · exact(List.pairwise_iff_getElem.1 hl) i j (by omega) hj (by omega)
 constructor
 · intro x hx y hy
   obtain⟨i,hi,rfl⟩:=List.getElem_of_mem hx;obtain⟨j,hj,rfl⟩:=List.getElem_of_mem hy;rw[List.length_drop]at hi;rw[List.length_take]at hj;have g:=h1 (by omega) (by omega)
   rw[getElem!_pos Y (v-1) (by omega),getElem!_pos X u (by omega)]at g;rw[List.getElem_drop,List.getElem_take]
   exact n5 o g (le hX (by omega) (by omega)) (le hY (by omega) (by omega))
 · intro x hx y hy
   obtain⟨i,hi,rfl⟩:=List.getElem_of_mem hx;obtain⟨j,hj,rfl⟩:=List.getElem_of_mem hy;rw[List.length_take]at hi;rw[List.length_drop]at hj;have g:=h2 (by omega) (by omega)
   rw[getElem!_pos Y v (by omega),getElem!_pos X (u-1) (by omega)]at g;rw[List.getElem_drop,List.getElem_take]
   exact o.neg _ _ _ (le hY (by omega) (by omega)) (o.neg _ _ _ g (le hX (by omega) (by omega)))
def ins(lt:V->V->Bool)(s:List V)(y:V):List V:=s.takeWhile (fun x=> !lt y x)++y::s.dropWhile (fun x=> !lt y x)
def bg(lt:V->V->Bool)(l:List V):List V:=l.foldl (ins lt) []
theorem Fm{s:List V}{y:V}(hs:jX lt s): ∀x∈s.dropWhile (fun x=> !lt y x),lt y x=true:=by
 induction s with
 |nil=>intro x hx;simp at hx
 |cons a s ih=>
  have h:=List.pairwise_cons.1 hs;intro x hx;rw[List.dropWhile_cons]at hx;split at hx
  · exact ih h.2 x hx
  · rename_i ha
    have ha:lt y a=true:=by simpa using ha
    rcases List.mem_cons.1 hx with rfl|hx
    · exact ha
    · exact n5 o ha (h.1 x hx) (o.xD y)
omit o in
theorem Fo{s:List V}{y:V}: ∀x∈s.takeWhile (fun x=> !lt y x),lt y x=false:=by
 induction s with
 |nil=>intro x hx;simp at hx
 |cons a s ih=>
  intro x hx;rw[List.takeWhile_cons]at hx;split at hx
  · rename_i ha
    rcases List.mem_cons.1 hx with rfl|hx
    · simpa using ha
    · exact ih x hx
  · simp at hx
theorem Yv{s:List V}{y:V}(hs:jX lt s):St lt (s++[y]) (ins lt s y):=by
 have:=wH o (y:=y) (X1:=s.takeWhile (fun x=> !lt y x)) (X2:=s.dropWhile (fun x=> !lt y x)) (by rw[List.takeWhile_append_dropWhile];exact hs) Fo (Fm o hs)
 rwa [List.takeWhile_append_dropWhile]at this
theorem Qs(l:List V): ∀(p s:List V),St lt p s->St lt (p++l) (l.foldl (ins lt) s):=by
 induction l with
 |nil=>intro p s h;simpa using h
 |cons y l ih=>
  intro p s h;have h1:St lt (p++[y]) (ins lt s y):=St.comp h (St.refl (by simp[jX])) (Yv o h.1)
  have:=ih (p++[y]) _ h1;simpa using this
theorem gi(l:List V):St lt l (bg lt l):=Qs o l [] [] ⟨List.Pairwise.nil,fun _=>rfl⟩
theorem qi{l s:List V}(h:St lt l s):s=bg lt l:=St.uniq o h (gi o l)
omit o in
theorem bP(l:List V):(bg lt l).length=l.length:=by
 have: ∀(l s:List V),(l.foldl (ins lt) s).length=s.length+l.length:=fun l=>by
  induction l with
  |nil=>intro s;rfl
  |cons y l ih=>
   intro s;rw[List.foldl_cons,ih]
   unfold ins;have:=congrArg List.length (List.takeWhile_append_dropWhile (p:=fun x=> !lt y x) (l:=s))
   rw[List.length_append]at this;simp only[List.length_append,List.length_cons];omega
 have:=this l []
 unfold bg;rw[this];simp
end
end Go.wG
namespace Go.wG
set_option linter.unusedVariables false
set_option linter.unusedSimpArgs false
set_option linter.unusedSectionVars false
section
variable{V:Type}(lt bt:V->V->Bool)
def better(b x:V):V:=if bt x b then x else b
def kB:List V->Option V
 | []=>none
 |x::l=>some (l.foldl (better bt) x)
def dO:List V->V->List V
 | [],x=>[x]
 |y::r,x=>if eqv lt x y then better bt y x::r else x::y::r
def WD(l:List V):List V:=((bg lt l).foldl (dO lt bt) []).reverse
end
section
variable{V:Type}{lt bt:V->V->Bool}
theorem G1(l:List V)(x:V):kB bt (l++[x])=some (match kB bt l with|none=>x|some b=>better bt b x):=by
 cases l with
 |nil=>rfl
 |cons y l=>simp[kB,List.foldl_append]
theorem G2(b x:V):better bt b x=b\/better bt b x=x:=by unfold better;split<;>simp
theorem mV: ∀{l:List V} {b:V},kB bt l=some b->b∈l:=by
 intro l;cases l with
 |nil=>intro b h;simp[kB]at h
 |cons x l=>
  intro b h;simp only[kB,Option.some.injEq]at h;subst h
  have: ∀(l:List V) (x:V),l.foldl (better bt) x=x\/l.foldl (better bt) x∈l:=fun l=>by
   induction l with
   |nil=>intro x;exact .inl rfl
   |cons y l ih=>
    intro x;rw[List.foldl_cons]
    rcases ih (better bt x y)with h|h
    · rw[h]
      rcases G2 (bt:=bt) x y with e|e
      · exact .inl e
      · rw[e];exact .inr (by simp)
    · exact .inr (List.mem_cons_of_mem _ h)
  rcases this l x with h|h
  · rw[h];simp
  · exact List.mem_cons_of_mem _ h
theorem wI{l:List V}(h:kB bt l=none):l=[]:=by
 cases l with
 |nil=>rfl
 |cons x l=>cases h
end
section
variable{V:Type}{lt bt:V->V->Bool}(o:Swo lt)
include o
theorem mW{x y:V}(h:eqv lt x y=true):eqv lt y x=true:=by simp only[eqv,Bool.and_eq_true]at*;exact⟨h.2,h.1⟩
theorem mX{x y z:V}(h:eqv lt x y=true)(h':eqv lt y z=true):eqv lt x z=true:=by simp only[eqv,Bool.and_eq_true,Bool.not_eq_true']at*;exact⟨o.neg _ _ _ h.1 h'.1,o.neg _ _ _ h'.2 h.2⟩
theorem sT{x y:V}(h:eqv lt x y=true)(l:List V):l.filter (eqv lt x)=l.filter (eqv lt y):=by
 congr 1
 funext z
 rw[Bool.eq_iff_iff]
 exact⟨fun g=>mX o (mW o h) g,fun g=>mX o h g⟩
theorem lt_tr{x y z:V}(h:lt x y=true)(h':lt y z=true):lt x z=true:=
 n5 o (x:=z) (y:=y) (x':=z) (y':=x) h' (o.xD z) (o.asy x y h)
theorem Nr{x y z:V}(h:lt x y=true)(e:eqv lt z x=true):lt z y=true:=by simp only[eqv,Bool.and_eq_true,Bool.not_eq_true']at e;exact n5 o h (o.xD y) e.2
structure Ns(s r:List V):Prop where
 up:r.Pairwise fun a b=>lt b a=true
 mem: ∀z,z∈r ↔ kB bt (s.filter (eqv lt z))=some z
omit o in
theorem Ns.sub{s r:List V}(h:Ns (lt:=lt) (bt:=bt) s r){z:V}(hz:z∈r):z∈s:=(List.mem_filter.1 (mV ((h.mem z).1 hz))).1
theorem Ns.all{s r:List V}(h:Ns (lt:=lt) (bt:=bt) s r){w:V}(hw:w∈s): ∃z∈r,eqv lt w z=true:=by
 cases hb:kB bt (s.filter (eqv lt w))with
 |none=>
  have:=wI hb;have hm:w∈s.filter (eqv lt w):=List.mem_filter.2 ⟨hw,ia o w⟩
  rw[this]at hm;cases hm
 |some z=>
  have hz:=(List.mem_filter.1 (mV hb)).2;exact⟨z,(h.mem z).2 (by rw[<-sT o hz];exact hb),hz⟩
theorem UK{s r:List V}{x:V}(h:Ns (lt:=lt) (bt:=bt) s r)(hx: ∀y∈s,lt x y=false):Ns (lt:=lt) (bt:=bt) (s++[x]) (dO lt bt r x):=by
 cases r with
 |nil=>
  have hs:s=[]:=by
   cases s with
   |nil=>rfl
   |cons w s=>obtain⟨z,hz,_⟩:=h.all o (w:=w) (by simp);cases hz
  subst hs;refine⟨by simp[dO],fun z=> ?_⟩
  simp only[dO,List.mem_singleton,List.nil_append]
  cases hz:eqv lt z x with
  |true=>
   rw[List.filter_cons_of_pos hz]
   simp only[List.filter_nil,kB,List.foldl_nil,Option.some.injEq]
   exact eq_comm
  |false=>
   rw[List.filter_cons_of_neg (by rw[hz];simp)]
   simp only[List.filter_nil,kB]
   constructor
   · rintro rfl;rw[ia o]at hz;cases hz
   · intro h;cases h
 |cons y r0=>
  have hy:=h.sub (List.mem_cons_self ..)
  have LW:=hx y hy;obtain⟨u1,u2⟩:=List.pairwise_cons.1 h.up
  have Zt: ∀b∈r0,eqv lt b x=false:=fun b hb=>by
   cases e:eqv lt b x with
   |false=>rfl
   |true=>
    have:=Nr o (u1 b hb) (mW o e)
    rw[LW]at this;cases this
  cases e:eqv lt x y with
  |true=>
   have hw:eqv lt (better bt y x) x=true:=by
    rcases G2 (bt:=bt) y x with g|g<;>rw[g]
    · exact mW o e
    · exact ia o x
   have hp:dO lt bt (y::r0) x=better bt y x::r0:=by simp[dO,e]
   rw[hp]
   refine⟨List.pairwise_cons.2 ⟨fun b hb=> ?_,u2⟩,fun z=> ?_⟩
   · have g:=u1 b hb
     have ey:eqv lt (better bt y x) y=true:=mX o hw e;simp only[eqv,Bool.and_eq_true,Bool.not_eq_true']at ey;exact n5 o g ey.1 (o.xD b)
   · rw[List.filter_append]
     cases hz:eqv lt z x with
     |true=>
      rw[List.filter_cons_of_pos hz,List.filter_nil,G1]
      have hb:kB bt (s.filter (eqv lt z))=some y:=by
       rw[sT o (mX o hz e)]
       exact(h.mem y).1 (by simp)
      rw[hb]
      simp only[List.mem_cons,Option.some.injEq]
      constructor
      · rintro(rfl|g)
        · rfl
        · rw[Zt z g]at hz;cases hz
      · intro g;exact .inl g.symm
     |false=>
      rw[List.filter_cons_of_neg (by rw[hz];simp),List.filter_nil,List.append_nil,<-h.mem z]
      simp only[List.mem_cons]
      constructor
      · rintro(rfl|g)
        · rw[hw]at hz;cases hz
        · exact .inr g
      · rintro(rfl|g)
        · rw[mW o e]at hz;cases hz
        · exact .inr g
  |false=>
   have hp:dO lt bt (y::r0) x=x::y::r0:=by simp[dO,e]
   have aw:lt y x=true:=by
    cases g:lt y x with
    |true=>rfl
    |false=>simp[eqv,LW,g]at e
   have qF: ∀b∈y::r0,eqv lt b x=false:=fun b hb=>by
    rcases List.mem_cons.1 hb with rfl|hb
    · cases g:eqv lt b x with
      |false=>rfl
      |true=>rw[mW o g]at e;cases e
    · exact Zt b hb
   have Gc:s.filter (eqv lt x)=[]:=by
    rw[List.filter_eq_nil_iff]
    intro w hw hwe;obtain⟨b,hb,hbe⟩:=h.all o hw;have:=qF b hb;rw[mW o (mX o hwe hbe)]at this;cases this
   rw[hp]
   refine⟨List.pairwise_cons.2 ⟨fun b hb=> ?_,h.up⟩,fun z=> ?_⟩
   · rcases List.mem_cons.1 hb with rfl|hb
     · exact aw
     · exact lt_tr o (u1 b hb) aw
   · rw[List.filter_append]
     cases hz:eqv lt z x with
     |true=>
      rw[List.filter_cons_of_pos hz,List.filter_nil,sT o hz,Gc]
      simp only[List.nil_append,kB,List.foldl_nil,Option.some.injEq]
      constructor
      · intro g
        rcases List.mem_cons.1 g with rfl|g
        · rfl
        · rw[qF z g]at hz;cases hz
      · rintro rfl;simp
     |false=>
      rw[List.filter_cons_of_neg (by rw[hz];simp),List.filter_nil,List.append_nil,<-h.mem z]
      constructor
      · intro g
        rcases List.mem_cons.1 g with rfl|g
        · rw[ia o]at hz;cases hz
        · exact g
      · exact fun g=>List.mem_cons_of_mem _ g
theorem G3: ∀(l p r:List V),jX lt (p++l)->Ns (lt:=lt) (bt:=bt) p r->Ns (lt:=lt) (bt:=bt) (p++l) (l.foldl (dO lt bt) r)
 | [],p,r,_,h=>by simpa using h
 |x::l,p,r,hs,h=>by
  have e:p++x::l=(p++[x])++l:=by simp
  rw[e]at hs⊢;exact G3 l (p++[x]) _ hs (UK o h fun y hy=>(List.pairwise_append.1 (List.pairwise_append.1 hs).1).2.2 y hy x (by simp))
theorem Nt(l:List V):(WD lt bt l).Pairwise (fun a b=>lt a b=true)/\ ∀z,z∈WD lt bt l ↔ kB bt (l.filter (eqv lt z))=some z:=by
 have h:=G3 (bt:=bt) o (bg lt l) [] [] (gi o l).1 ⟨List.Pairwise.nil,fun z=>by simp[kB]⟩
 rw[List.nil_append]at h;refine⟨List.pairwise_reverse.2 h.up,fun z=> ?_⟩
 unfold WD;rw[List.mem_reverse,h.mem z,(gi o l).2 z]
theorem Yw{l m:List V}(h1:m.Pairwise fun a b=>lt a b=true)(h2: ∀z,z∈m ↔ kB bt (l.filter (eqv lt z))=some z):m=WD lt bt l:=by
 have key: ∀{a b:List V},(a.Pairwise fun x y=>lt x y=true)->(b.Pairwise fun x y=>lt x y=true)->(∀x,x∈a ↔ x∈b)->a=b:=by
  intro a;induction a with
  |nil=>
   intro b _ _ h;cases b with
   |nil=>rfl
   |cons y b=>have:=(h y).2 (by simp);cases this
  |cons x a ih=>
   intro b ha hb h;cases b with
   |nil=>have:=(h x).1 (by simp);cases this
   |cons y b=>
    have Hz:=List.pairwise_cons.1 ha;have o9:=List.pairwise_cons.1 hb
    have LW:x=y:=by
     rcases List.mem_cons.1 ((h x).1 (by simp))with e|e
     · exact e
     · rcases List.mem_cons.1 ((h y).2 (by simp))with f|f
       · exact f.symm
       · have g:=o.asy _ _ (Hz.1 y f)
         rw[o9.1 x e]at g;cases g
    subst LW
    congr 1
    refine ih Hz.2 o9.2 fun z=>⟨fun hz=> ?_,fun hz=> ?_⟩
    · rcases List.mem_cons.1 ((h z).1 (List.mem_cons_of_mem _ hz))with e|e
      · subst e
        have g:=Hz.1 z hz;rw[o.xD]at g;cases g
      · exact e
    · rcases List.mem_cons.1 ((h z).2 (List.mem_cons_of_mem _ hz))with e|e
      · subst e
        have g:=o9.1 z hz;rw[o.xD]at g;cases g
      · exact e
 have hs:=Nt (bt:=bt) o l;exact key h1 hs.1 fun z=>by rw[h2 z,hs.2 z]
theorem mrg_len(l:List V):(WD lt bt l).length<=l.length:=by
 have: ∀(l r:List V),(l.foldl (dO lt bt) r).length<=r.length+l.length:=fun l=>by
  induction l with
  |nil=>intro r;simp
  |cons x l ih=>
   intro r;rw[List.foldl_cons]
   have h1:=ih (dO lt bt r x)
   have h2:(dO lt bt r x).length<=r.length+1:=by
    cases r with
    |nil=>simp[dO]
    |cons y r=>simp only[dO];split<;>simp
   simp only[List.length_cons];omega
 have h:=this (bg lt l) []
 rw[bP]at h;unfold WD;rw[List.length_reverse];simpa using h
end
end Go.wG
namespace Go.Proofs.YtihgnfmoafjakaaGreat
open Go.bJ Go.wG
set_option linter.unusedSimpArgs false
set_option linter.unusedVariables false
def cm(x y:It):Bool:=aQ x.key y.key
theorem ltB_neg{x y z:List UInt8}(h:aQ x y=false)(h':aQ y z=false):aQ x z=false:=by
 cases g:aQ x z with
 |false=>rfl
 |true=>
  cases k:aQ z y with
  |true=>rw[bW g k]at h;cases h
  |false=>
   have e:y=z:=by
    rcases oL.tri y z with r|r|r
    · rw[h']at r;cases r
    · exact r
    · rw[k]at r;cases r
   subst e;rw[h]at g;cases g
theorem ib:Swo cm where
 xD x:=lt_irrefl x.key
 asy x y h:=eR h
 neg x y z h h':=ltB_neg h h'
theorem eqvI{x y:It}:eqv cm x y=(x.key==y.key):=by
 rw[Bool.eq_iff_iff,beq_iff_eq]
 simp only[eqv,cm,Bool.and_eq_true,Bool.not_eq_true']
 constructor
 · rintro⟨h1,h2⟩
   rcases oL.tri x.key y.key with r|r|r
   · rw[h1]at r;cases r
   · exact r
   · rw[h2]at r;cases r
 · intro h
   rw[h]
   exact⟨lt_irrefl _,lt_irrefl _⟩
def bt(x y:It):Bool:=decide (y.bq<x.bq)||(decide (x.bq=y.bq)&&yv ⟨y.rep,y.cu⟩ ⟨x.rep,x.cu⟩)
def Qt(x y:It):Int:=if y.bq<x.bq then 1 else if x.bq<y.bq then-1 else fA ⟨x.rep,x.cu⟩ ⟨y.rep,y.cu⟩
theorem cmpI_bt(x y:It):decide (0<Qt x y)=bt x y:=by
 rw[Bool.eq_iff_iff,decide_eq_true_iff]
 unfold Qt bt;simp only[Bool.or_eq_true,Bool.and_eq_true,decide_eq_true_eq]
 by_cases h1:y.bq<x.bq
 · simp[h1]
 · by_cases h2:x.bq<y.bq
   · rw[if_neg h1,if_pos h2]
     constructor
     · intro h;omega
     · rintro(h|⟨h,_⟩)
       · exact absurd h h1
       · omega
   · rw[if_neg h1,if_neg h2]
     have e:x.bq=y.bq:=by omega
     unfold fA;by_cases h3:(⟨x.rep,x.cu⟩:bS)=⟨y.rep,y.cu⟩
     · rw[if_pos h3]
       constructor
       · intro h;omega
       · rintro(h|⟨_,h⟩)
         · exact absurd h h1
         · rw[h3]at h
           have:=fO.1 h;omega
     · rw[if_neg h3]
       by_cases h4:yv ⟨x.rep,x.cu⟩ ⟨y.rep,y.cu⟩=true
       · rw[if_pos h4]
         constructor
         · intro h;omega
         · rintro(h|⟨_,h⟩)
           · exact absurd h h1
           · have:=fO.1 h
             have:=fO.1 h4;simp only at*;omega
       · rw[if_neg h4]
         refine⟨fun _=> .inr ⟨e, ?_⟩,fun _=>by omega⟩
         rw[fO]at*;have hc: ¬(x.rep=y.rep/\x.cu=y.cu):=fun⟨a,b⟩=>h3 (by rw[a,b])
         simp only at*;omega
def aN(l:List It):List It:=WD cm bt (l.filter aM)
theorem fa(l:List It):(aN l).Pairwise (fun x y=>aQ x.key y.key=true)/\ ∀z,z∈aN l ↔ kB bt ((l.filter aM).filter fun x=>z.key==x.key)=some z:=by
 obtain⟨h1,h2⟩:=Nt (bt:=bt) ib (l.filter aM)
 refine⟨h1,fun z=> ?_⟩
 rw[show aN l=WD cm bt (l.filter aM)from rfl,h2 z]
 have:eqv cm z=fun x=>z.key==x.key:=funext fun x=>eqvI;rw[this]
theorem jF(l:List It):(aN l).length<=l.length:=Nat.le_trans (mrg_len ib _) (List.length_filter_le _ _)
theorem dD{l:List It}{x:It}(h:x∈aN l):x∈l/\aM x=true:=by
 have h:=(fa l).2 x|>.1 h
 have:=(List.mem_filter.1 (mV h)).1;exact List.mem_filter.1 this
end Go.Proofs.YtihgnfmoafjakaaGreat
namespace Go.wG
set_option linter.unusedVariables false
set_option linter.unusedSimpArgs false
section
variable{V:Type} [Inhabited V]
def mj(l:List V)(a b:Nat):Nat->List V
 |0=>l
 |n+1=>((mj l a b n).set (a+n) (l[b+n]!)).set (b+n) (l[a+n]!)
theorem CX(l:List V)(a b:Nat): ∀n,(mj l a b n).length=l.length
 |0=>rfl
 |n+1=>by simp only[mj,List.length_set];exact CX l a b n
theorem uP{l:List V}{a b:Nat}(k:Nat): ∀{n:Nat},a+n<=b->b+n<=l.length->(mj l a b n)[k]? =if a<=k/\k<a+n then l[k-a+b]? else if b<=k/\k<b+n then l[k-b+a]? else l[k]?
 |0,h,hb=>by rw[if_neg (by omega),if_neg (by omega)];rfl
 |n+1,h,hb=>by
  have ih:=uP (l:=l) (a:=a) (b:=b) k (n:=n) (by omega) (by omega)
  have hl:=CX l a b n;simp only[mj]
  rw[List.getElem?_set,List.getElem?_set,List.length_set,ih,hl]
  by_cases h1:b+n=k
  · subst h1
    rw[if_pos rfl,if_pos (by omega),if_neg (by omega),if_pos (by omega),getElem!_pos l (a+n) (by omega)]
    rw[show b+n-b+a=a+n by omega,List.getElem?_eq_getElem (by omega)]
  · rw[if_neg h1]
    by_cases h2:a+n=k
    · subst h2
      rw[if_pos rfl,if_pos (by omega),if_pos (by omega),getElem!_pos l (b+n) (by omega)]
      rw[show a+n-a+b=b+n by omega,List.getElem?_eq_getElem (by omega)]
    · rw[if_neg h2]
      by_cases h3:a<=k/\k<a+n
      · rw[if_pos h3,if_pos (by omega)]
      · rw[if_neg h3,if_neg (show¬(a<=k/\k<a+(n+1)) by omega)]
        by_cases h4:b<=k/\k<b+n
        · rw[if_pos h4,if_pos (by omega)]
        · rw[if_neg h4,if_neg (by omega)]
theorem CY(P A M B Q:List V)(h:B.length=A.length):mj (P++(A++(M++(B++Q)))) P.length (P.length+A.length+M.length) A.length=P++(B++(M++(A++Q))):=by
 apply List.ext_getElem?;intro k;rw[uP k (by omega) (by simp only[List.length_append];omega)]
 simp only[List.getElem?_append]
 repeat' split
 all_goals first|omega|rfl|(congr 1;omega)
theorem Yx(P U1 U2 W Q:List V)(h:W.length=U1.length):mj (P++(U1++U2++(W++Q))) P.length (P.length+(U1++U2).length) U1.length=P++W++(U2++(U1++Q)):=by
 have:=CY P U1 U2 W Q h;rw[List.length_append,<-Nat.add_assoc]
 simp only[List.append_assoc]at this⊢;exact this
theorem rot_lt(P U V1 V2 Q:List V)(h:V2.length=U.length):mj (P++(U++(V1++V2++Q))) P.length (P.length+U.length+V1.length) U.length=P++(V2++(V1++(U++Q))):=by have:=CY P U V1 V2 Q h;simp only[List.append_assoc]at this⊢;exact this
omit [Inhabited V]in
theorem Yy(A B:List V)(x y:V):((A++x::y::B).set (A.length+1) x).set A.length y=A++y::x::B:=by
 rw[List.set_append_right _ _ (by omega),Nat.add_sub_cancel_left,List.set_append_right _ _ (by omega),Nat.sub_self]
 rfl
omit [Inhabited V]in
theorem UL(A B:List V)(x y:V):((A++x::y::B).set A.length y).set (A.length+1) x=A++y::x::B:=by
 rw[List.set_append_right _ _ (by omega),Nat.sub_self,List.set_append_right _ _ (by omega),Nat.add_sub_cancel_left]
 rfl
end
section
variable{V:Type}
def dL(P D Z:List V)(y:V)(u:Nat):List V:=P++(D.take u++(y::(D.drop u++Z)))
theorem CZ{P D Z:List V}{y:V}{u:Nat}:(dL P D Z y u).length=P.length+D.length+Z.length+1:=by
 have:=congrArg List.length (List.take_append_drop u D)
 rw[List.length_append]at this;simp only[dL,List.length_append,List.length_cons];omega
theorem JA{P D Z:List V}{y:V}{u:Nat}(h:u<D.length):dL P D Z y u=(P++D.take u)++y::D[u]::(D.drop (u+1)++Z):=by unfold dL;rw[List.drop_eq_getElem_cons h];simp only[List.append_assoc,List.cons_append]
theorem JB{P D Z:List V}{y:V}{u:Nat}(h:u<D.length):dL P D Z y (u+1)=(P++D.take u)++D[u]::y::(D.drop (u+1)++Z):=by unfold dL;rw[<-List.take_append_getElem h];simp only[List.append_assoc,List.cons_append,List.nil_append]
theorem C0{P D Z:List V}{y:V}{u:Nat}(h:u<=D.length):(dL P D Z y u)[P.length+u]? =some y:=by
 unfold dL;rw[List.getElem?_append_right (by omega),Nat.add_sub_cancel_left,List.getElem?_append_right (by rw[List.length_take];omega)]
 rw[show u-(D.take u).length=0 by rw[List.length_take];omega];rfl
theorem zQ{P D:List V}{u:Nat}(h:u<D.length):(P++D.take u).length=P.length+u:=by rw[List.length_append,List.length_take];omega
theorem Qu{P D Z:List V}{y:V}{u:Nat}(h:u<D.length):(dL P D Z y (u+1))[P.length+u]? =some D[u]:=by rw[JB h,<-zQ h,List.getElem?_append_right (Nat.le_refl _),Nat.sub_self];rfl
theorem Yz{P D Z:List V}{y:V}{u:Nat}(h:u<D.length):(dL P D Z y u)[P.length+(u+1)]? =some D[u]:=by rw[JA h,<-Nat.add_assoc,<-zQ h,List.getElem?_append_right (by omega),Nat.add_sub_cancel_left];rfl
theorem G4{P D Z:List V}{y:V}{u:Nat}(h:u<D.length):((dL P D Z y (u+1)).set (P.length+(u+1)) D[u]).set (P.length+u) y=dL P D Z y u:=by rw[JB h,JA h,<-Nat.add_assoc,<-zQ h];exact Yy _ _ _ _
theorem Qv{P D Z:List V}{y:V}{u:Nat}(h:u<D.length):((dL P D Z y u).set (P.length+u) D[u]).set (P.length+(u+1)) y=dL P D Z y (u+1):=by rw[JB h,JA h,<-Nat.add_assoc,<-zQ h];exact UL _ _ _ _
theorem rQ{P D Z:List V}{y:V}{u:Nat}(h:u<D.length):((dL P D Z y (u+1)).set (P.length+(u+1)) D[u])[P.length+u]? =some D[u]:=by rw[List.getElem?_set_ne (by omega)];exact Qu h
theorem C1{P D Z:List V}{y:V}{u:Nat}(h:u<D.length):((dL P D Z y u).set (P.length+u) D[u])[P.length+(u+1)]? =some D[u]:=by rw[List.getElem?_set_ne (by omega)];exact Yz h
end
section
variable{V:Type}{lt:V->V->Bool}(o:Swo lt)
include o
theorem ins_eq{S1 S2:List V}{y:V}(hs:jX lt (S1++S2))(h1: ∀x∈S1,lt y x=false)(h2: ∀x∈S2,lt y x=true):ins lt (S1++S2) y=S1++y::S2:=
 St.uniq o (Yv o hs) (wH o hs h1 h2)
omit o in
theorem Qw(l:List V)(y:V):bg lt (l++[y])=ins lt (bg lt l) y:=by unfold bg;rw[List.foldl_append];rfl
theorem JC{X Y:List V}(u v:Nat)(hX:jX lt X)(hY:jX lt Y)(h1: ∀x∈X.drop u,∀y∈Y.take v,lt y x=true)(h2: ∀x∈X.take u,∀y∈Y.drop v,lt y x=false):
 bg lt (X.take u++Y.take v)++bg lt (X.drop u++Y.drop v)=bg lt (X++Y):=by
 have:=split o (X1:=X.take u) (X2:=X.drop u) (Y1:=Y.take v) (Y2:=Y.drop v) (by rw[List.take_append_drop];exact hX) (by rw[List.take_append_drop];exact hY) h1 h2 (gi o _) (gi o _)
 rw[List.take_append_drop,List.take_append_drop]at this;exact qi o this
theorem n9{l:List V}(h:jX lt l):bg lt l=l:=(qi o (St.refl h)).symm
theorem mY(l:List V):jX lt (bg lt l):=(gi o l).1
omit o in
theorem jX.take{l:List V}(h:jX lt l)(n:Nat):jX lt (l.take n):=List.Pairwise.sublist (List.take_sublist _ _) h
omit o in
theorem jX.drop{l:List V}(h:jX lt l)(n:Nat):jX lt (l.drop n):=List.Pairwise.sublist (List.drop_sublist _ _) h
theorem G5(l m:List V):bg lt (bg lt l++bg lt m)=bg lt (l++m):=
 (qi o (St.comp (gi o l) (gi o m) (gi o _)))
end
end Go.wG
namespace Go.Proofs.YtihgnfmoafjakaaGreat
open Go.bJ Go.wG
set_option linter.unusedSimpArgs false
set_option linter.unusedVariables false
set_option maxRecDepth 20000
set_option maxHeartbeats 8000000
instance:Inhabited It:=⟨⟨[],0,0,0,0,false,[]⟩⟩
theorem zd:ai Tryz.prog wC Tryz.f148.ntmps (Tryz.f148.body.getD .skip)=true:=by kernel_rfl
theorem Fp(x y:It)(h:x.ok/\y.ok):az Tryz.prog 148 [x.enc,y.enc] (· = .int .i64 (ck x.key y.key)):=by
 refine aa uJ mixed Tryz.func148 rfl (Nat.le_of_ble_eq_true rfl) zd ?_;unfold Tryz.f148;have g:=GR (a:=x.key) (b:=y.key) ⟨h.1.1,h.2.1⟩
 simp only[It.enc]
 simp-implicitDefEqProofs (disch:=(first|omega|decide)) only[go_sem,↓reduceIte,seval,g]
def TIa:aj:=wC.add 148 (entry (fun(v:It×It)=>[v.1.enc,v.2.enc]) (fun v=>v.1.ok/\v.2.ok) (fun v=> .int .i64 (ck v.1.key v.2.key)))
theorem YA:ag Tryz.prog TIa:=uJ.bG Tryz.func148 (by kernel_rfl) (by kernel_rfl) fun v h=>Fp v.1 v.2 h
theorem wJ(v:It×It)(h:v.1.ok/\v.2.ok):TIa.f 148 [v.1.enc,v.2.enc]=some (.int .i64 (ck v.1.key v.2.key)):=aj.an (Γ:=wC) (fun i j h=>by simpa[Prod.ext_iff,and_assoc]using h) v h
theorem C2{x y:It}(h:x.ok/\y.ok):TIa.f 148 [.agg [.str x.key,.int .i64 x.rep,.int .i64 x.cu,.int .i64 x.bq,.int .i64 x.prio,.bool x.dead,.str x.body],.agg [.str y.key,.int .i64 y.rep,.int .i64 y.cu,.int .i64 y.bq,.int .i64 y.prio,.bool y.dead,.str y.body]]=some (.int .i64 (ck x.key y.key)):=wJ (x,y) h
theorem n_(l:List It)(k:Nat)(x:It):cn (l.map It.enc) k (.agg [.str x.key,.int .i64 x.rep,.int .i64 x.cu,.int .i64 x.bq,.int .i64 x.prio,.bool x.dead,.str x.body])=(l.set k x).map It.enc:=by rw[fE,List.map_set];rfl
theorem c_{l:List It}{k:Nat}{x:It}(h:l[k]? =some x):(l.map It.enc)[k]? =some (.agg [.str x.key,.int .i64 x.rep,.int .i64 x.cu,.int .i64 x.bq,.int .i64 x.prio,.bool x.dead,.str x.body]):=by rw[List.getElem?_map,h];rfl
theorem YB(a b c d e f g a' b' c' d' e' f' g':A):dY [a,b,c,d,e,f,g] 0 [a',b',c',d',e',f',g']=[a',b',c',d',e',f',g']:=rfl
def Vv:aj:={TIa with fix:=fun n=>n==0,nf:=1}
theorem wK:ag Tryz.prog Vv:=⟨YA.f,YA.hp⟩
@[go_sem] theorem TIs_f:Vv.f=TIa.f:=rfl
@[go_sem] theorem TIs_effT:Vv.SZ=false:=rfl
@[go_sem] theorem TIs_ords{n:Nat}:Vv.c6 n=[]:=rfl
theorem eU:ai Tryz.prog Vv Tryz.f256.ntmps (Tryz.f256.body.getD .skip)=true:=by kernel_rfl
theorem Nu(l:List It)(a b n:Nat)(h:a+n<=b/\b+n<=l.length/\l.length<=1000000):dG Tryz.prog 256 [.row 0 0 7 l.length false,.int .i64 a,.int .i64 b,.int .i64 n,.fn 148 []] [.row 7 (l.map It.enc)]
 (.cx []) [.row 7 ((mj l a b n).map It.enc)] []:=by
 refine bV wK mixed Tryz.func256 rfl (Nat.le_of_ble_eq_true rfl) (fun n h _=>by simp at h;subst h;rfl) (by show _<=1;simp) (by show 1<=_;simp) eU ?_;unfold Tryz.f256;obtain⟨h1,h2,h3⟩:=h;simp-implicitDefEqProofs (disch:=(first|omega|decide)) only[go_sem,↓reduceIte,seval,List.length_map]
 refine ao [0,1,2,3] (ι:={i:Nat//i<=n}) (fun i=>[(10,.int .i64 i.1)]) (fun i=>[(0,.row 7 ((mj l a b i.1).map It.enc))]) (fun i=>n-i.1) ⟨0,by omega⟩ (by show 1<=_;simp) ?_ ?_
 · simp-implicitDefEqProofs (disch:=(first|omega|decide)) only[go_sem,↓reduceIte,seval]
   first|done|(simp[mj];done)|(exact⟨rfl,rfl⟩)|rfl
 · rintro⟨i,hi⟩
   simp only;by_cases aw:i<n
   · have ae:(i:Int)<(n:Int):=by omega
     have hA:(a:Int)+(i:Int)=((a+i:Nat):Int):=by omega
     have hB:(b:Int)+(i:Int)=((b+i:Nat):Int):=by omega
     have rA:((a+i:Nat):Int)<(l.length:Int):=by omega
     have rB:((b+i:Nat):Int)<(l.length:Int):=by omega
     have pA:(0:Int)<=((a+i:Nat):Int):=by omega
     have pB:(0:Int)<=((b+i:Nat):Int):=by omega
     have tA:((a+i:Nat):Int).toNat=a+i:=Int.toNat_natCast _;have tB:((b+i:Nat):Int).toNat=b+i:=Int.toNat_natCast _;have hc:=CX l a b i;have gx:(mj l a b i)[a+i]? =l[a+i]? :=by rw[uP _ (by omega) (by omega),if_neg (by omega),if_neg (by omega)]
     have gy:(mj l a b i)[b+i]? =l[b+i]? :=by rw[uP _ (by omega) (by omega),if_neg (by omega),if_neg (by omega)]
     have bR:mj l a b (i+1)=((mj l a b i).set (a+i) l[b+i]).set (b+i) l[a+i]:=by simp only[mj];rw[getElem!_pos l (a+i) (by omega),getElem!_pos l (b+i) (by omega)]
     rw[List.getElem?_eq_getElem (show a+i<l.length by omega)]at gx;rw[List.getElem?_eq_getElem (show b+i<l.length by omega)]at gy;generalize l[a+i]=x at*;generalize l[b+i]=y at*;generalize hnx:mj l a b (i+1)=iS at*;generalize mj l a b i=cur at*;have ex:=c_ gx;have ey:=c_ gy;have s1:=n_ cur (a+i) y;have gy2:(cur.set (a+i) y)[b+i]? =some y:=by rw[List.getElem?_set_ne (by omega),gy]
     have ey2:=c_ gy2;have s2:=n_ (cur.set (a+i) y) (b+i) x;simp-implicitDefEqProofs (disch:=(first|omega|decide)) only[go_sem,↓reduceIte,seval,ae,hA,hB,rA,rB,pA,pB,tA,tB,hc,ex,ey,ey2,s1,s2,YB,wrap_i64,List.length_map,List.length_set]
     exact⟨⟨i+1,aw⟩,⟨by simp,by show _=List.map It.enc (mj l a b (i+1));rw[hnx,bR]⟩,by show n-(i+1)<n-i;omega⟩
   · have ae: ¬(i:Int)<(n:Int):=by omega
     obtain rfl:i=n:=by omega
     simp-implicitDefEqProofs (disch:=(first|omega|decide)) only[go_sem,↓reduceIte,seval,ae,List.length_map]
abbrev YC:=List It×Nat×Nat×Nat
def Fq(v:YC):List A:=[.row 0 0 7 v.1.length false,.int .i64 v.2.1,.int .i64 v.2.2.1,.int .i64 v.2.2.2,.fn 148 []]
def gj(l:List It):List Go.bJ.Obj:=[.row 7 (l.map It.enc)]
theorem uQ{i j:List It}(h:gj i=gj j):i=j:=by simpa[gj]using h
def swpK(v:YC):Prop:=v.2.1+v.2.2.2<=v.2.2.1/\v.2.2.1+v.2.2.2<=v.1.length/\v.1.length<=1000000
def swpR(v:YC):A×List Go.bJ.Obj×List Nat:=(.cx [],gj (mj v.1 v.2.1 v.2.2.1 v.2.2.2),[])
theorem sw_inj(i j:YC)(h:Fq i=Fq j)(h':gj i.1=gj j.1):i=j:=by obtain⟨l,a,b,n⟩:=i;obtain⟨l',a',b',n'⟩:=j;obtain rfl:=uQ h';simp only[Fq,List.cons.injEq,A.int.injEq,true_and,and_true,Int.ofNat_inj]at h;obtain⟨rfl,rfl,rfl⟩:=h;rfl
def TIb:aj:=Vv.eP 256 (bo Fq (fun v=>gj v.1) swpK swpR)
theorem YD:ag Tryz.prog TIb:=wK.eP (bn Tryz.func256 (by kernel_rfl) (by kernel_rfl)) (cL fun v h=>Nu v.1 v.2.1 v.2.2.1 v.2.2.2 h)
def TIr:aj:={TIb with l_:=fun f=>f==256}
theorem TIr_ok:ag Tryz.prog TIr:=⟨YD.f,YD.hp⟩
@[go_sem] theorem TIr_eff{g:FuncId}:TIr.l_ g=(g==256):=rfl
@[go_sem] theorem TIr_frz{g:FuncId}:TIr.qU g=false:=rfl
@[go_sem] theorem TIr_ords{n:Nat}:TIr.c6 n=[]:=rfl
theorem JD(l:List It)(a b n m:Nat)(hm:m=l.length)(h:a+n<=b/\b+n<=l.length/\l.length<=1000000):TIr.hp 256 [.row 0 0 7 m false,.int .i64 a,.int .i64 b,.int .i64 n,.fn 148 []] [.row 7 (l.map It.enc)]=some (.cx [],[.row 7 ((mj l a b n).map It.enc)],[]):=by subst hm;have UM:TIb.hp 256 (Fq (l,a,b,n)) (gj l)=bo Fq (fun v=>gj v.1) swpK swpR (Fq (l,a,b,n)) (gj l):=aj.dZ;have h0:TIr.hp 256 (Fq (l,a,b,n)) (gj l)=bo Fq (fun v=>gj v.1) swpK swpR (Fq (l,a,b,n)) (gj l):=UM;exact h0.trans (cM (DE:=fun v:YC=>gj v.1) sw_inj (l,a,b,n) h)
theorem fC:ai Tryz.prog TIr Tryz.f236.ntmps (Tryz.f236.body.getD .skip)=true:=by kernel_rfl
theorem YE(P U W Q:List It)(h:(P++(U++(W++Q))).length<=1000000)(hU:0<U.length)(hW:0<W.length):dG Tryz.prog 236 [.row 0 0 7 (P++(U++(W++Q))).length false,.int .i64 P.length,.int .i64 (P.length+U.length:Nat),.int .i64 (P.length+U.length+W.length:Nat),.fn 148 []] [.row 7 ((P++(U++(W++Q))).map It.enc)]
 (.cx []) [.row 7 ((P++(W++(U++Q))).map It.enc)] []:=by
 refine bV TIr_ok mixed Tryz.func236 rfl (Nat.le_of_ble_eq_true rfl) (fun n h _=>by simp at h;subst h;rfl) (by show _<=1;simp) (by show 1<=_;simp) fC ?_;unfold Tryz.f236;have h0:=h;simp only[List.length_append]at h0;obtain⟨N,hN⟩: ∃N,(P++(U++(W++Q))).length=N:=⟨_,rfl⟩
 have Pd:=hN;simp only[List.length_append]at Pd;obtain⟨m,hm⟩: ∃m,P.length+U.length=m:=⟨_,rfl⟩
 obtain⟨R,hR⟩: ∃R,P++(W++(U++Q))=R:=⟨_,rfl⟩
 rw[hm,hR,hN]
 have e1:(m:Int)-(P.length:Int)=(U.length:Int):=by omega
 have e2:((m+W.length:Nat):Int)-(m:Int)=(W.length:Int):=by omega
 simp-implicitDefEqProofs (disch:=(first|omega|decide)) only[go_sem,↓reduceIte,seval,e1,e2,wrap_i64,List.length_map]
 refine ao [0,2,4] (ι:={p:List It×List It×List It×List It//0<p.2.1.length/\0<p.2.2.1.length/\p.1.length+p.2.1.length=m/\(p.1++(p.2.1++(p.2.2.1++p.2.2.2))).length=N/\p.1++(p.2.2.1++(p.2.1++p.2.2.2))=R}) (fun p=>[(10,.int .i64 p.1.2.1.length),(11,.int .i64 p.1.2.2.1.length)]) (fun p=>[(0,.row 7 ((p.1.1++(p.1.2.1++(p.1.2.2.1++p.1.2.2.2))).map It.enc))]) (fun p=>p.1.2.1.length+p.1.2.2.1.length) ⟨(P,U,W,Q),hU,hW,hm,hN,hR⟩ (by show 1<=_;simp) ?_ ?_
 · simp-implicitDefEqProofs (disch:=(first|omega|decide)) only[go_sem,↓reduceIte,seval]
   first|done|exact⟨rfl,rfl⟩|rfl
 · rintro⟨⟨P',U',W',Q'⟩,k1,k2,k3,k4,k5⟩
   simp only at k1 k2 k3 k4 k5⊢;have k6:=k4;simp only[List.length_append]at k6;have q1:(m:Int)-(U'.length:Int)=(P'.length:Int):=by omega
   by_cases c1:U'.length=W'.length
   · have XY:(U'.length:Int)=(W'.length:Int):=by omega
     have c1b:(((U'.length:Int)==(W'.length:Int)))=true:=by simp[c1]
     have f:=JD (P'++(U'++(W'++Q'))) P'.length m U'.length N k4.symm ⟨by omega,by omega,by omega⟩
     have sp:=Yx P' U' [] W' Q' c1.symm;rw[List.append_nil,List.nil_append,k3,List.append_assoc,k5]at sp;rw[sp]at f;rw[<-XY]
     simp-implicitDefEqProofs (disch:=(first|omega|decide)) only[go_sem,↓reduceIte,seval,c1b,q1,f,wrap_i64,List.length_map,beq_self_eq_true]
   · have c1b:(((U'.length:Int)==(W'.length:Int)))=false:=by
      rw[beq_eq_false_iff_ne];omega
     by_cases c2:W'.length<U'.length
     · have c2':(W'.length:Int)<(U'.length:Int):=by omega
       have f:=JD (P'++(U'++(W'++Q'))) P'.length m W'.length N k4.symm ⟨by omega,by omega,by omega⟩
       obtain⟨U1,U2,rfl,hu⟩: ∃U1 U2,U'=U1++U2/\U1.length=W'.length:=⟨U'.take W'.length,U'.drop W'.length,(List.take_append_drop _ _).symm,by rw[List.length_take];omega⟩
       have sp:=Yx P' U1 U2 W' Q' hu.symm;have lu:(U1++U2).length=U1.length+U2.length:=List.length_append;rw[k3,hu]at sp;rw[sp]at f;have q2:(((U1++U2).length:Nat):Int)-(W'.length:Int)=(U2.length:Int):=by omega
       simp-implicitDefEqProofs (disch:=(first|omega|decide)) only[go_sem,↓reduceIte,seval,c1b,c2',q1,q2,f,wrap_i64,List.length_map]
       refine⟨⟨(P'++W',U2,U1,Q'),by show 0<U2.length;omega,by show 0<U1.length;omega,by show(P'++W').length+U2.length=m;rw[List.length_append];omega,by show(P'++W'++(U2++(U1++Q'))).length=N;simp only[List.length_append];omega,by show P'++W'++(U1++(U2++Q'))=R;rw[<-k5];simp only[List.append_assoc]⟩,⟨⟨by simp,by simp;omega⟩,rfl⟩,by show U2.length+U1.length<(U1++U2).length+W'.length;omega⟩
     · have c2': ¬(W'.length:Int)<(U'.length:Int):=by omega
       have q3:(m:Int)+(W'.length:Int)-(U'.length:Int)=((m+(W'.length-U'.length):Nat):Int):=by omega
       have f:=JD (P'++(U'++(W'++Q'))) P'.length (m+(W'.length-U'.length)) U'.length N k4.symm ⟨by omega,by omega,by omega⟩
       obtain⟨V1,V2,rfl,hv⟩: ∃V1 V2,W'=V1++V2/\V2.length=U'.length:=⟨W'.take (W'.length-U'.length),W'.drop (W'.length-U'.length),(List.take_append_drop _ _).symm,by rw[List.length_drop];omega⟩
       have sp:=rot_lt P' U' V1 V2 Q' hv;have lv:(V1++V2).length=V1.length+V2.length:=List.length_append;have ll:(V1++V2).length-U'.length=V1.length:=by omega
       rw[k3]at sp;rw[ll,sp]at f;rw[ll]at q3;have q2:(((V1++V2).length:Nat):Int)-(U'.length:Int)=(V1.length:Int):=by omega
       simp-implicitDefEqProofs (disch:=(first|omega|decide)) only[go_sem,↓reduceIte,seval,c1b,c2',q1,q2,q3,f,wrap_i64,List.length_map]
       refine⟨⟨(P',V2,V1,U'++Q'),by show 0<V2.length;omega,by show 0<V1.length;omega,by show P'.length+V2.length=m;omega,by show(P'++(V2++(V1++(U'++Q')))).length=N;simp only[List.length_append];omega,by show P'++(V1++(V2++(U'++Q')))=R;rw[<-k5];simp only[List.append_assoc]⟩,⟨⟨by simp;omega,by simp⟩,rfl⟩,by show V2.length+V1.length<U'.length+(V1++V2).length;omega⟩
theorem ssort1(S:List It):bg cm (S.take 1)++S.drop 1=S:=by
 match S with
 | []=>rfl
 | [x]=>rfl
 |x::y::S=>rfl
theorem YF{D:List It}{y:It}{u:Nat}(hs:jX cm D)(hu:u<=D.length)(h1:u=0\/ ∃h:u-1<D.length,cm y D[u-1]=false)(h2: ∀x∈D.drop u,cm y x=true):ins cm D y=D.take u++y::D.drop u:=by
 have:=ins_eq ib (S1:=D.take u) (S2:=D.drop u) (y:=y) (by rw[List.take_append_drop];exact hs) (fun x hx=> ?_) h2
 · rwa [List.take_append_drop]at this
 · rcases h1 with rfl|⟨h,h1⟩
   · simp at hx
   · obtain⟨i,hi,rfl⟩:=List.getElem_of_mem hx
     rw[List.length_take]at hi;rw[List.getElem_take]
     by_cases e:i=u-1
     · subst e;exact h1
     · exact ib.neg _ _ _ h1 ((List.pairwise_iff_getElem.1 hs) i (u-1) (by omega) h (by omega))
theorem C3{P D Z:List It}{y:It}:dL P D Z y D.length=P++(D++(y::Z)):=by unfold dL;rw[List.take_length,List.drop_length,List.nil_append]
theorem ez:ai Tryz.prog Vv Tryz.f207.ntmps (Tryz.f207.body.getD .skip)=true:=by kernel_rfl
theorem UN(P S T:List It)(h:(P++(S++T)).length<=1000000)(hk: ∀x∈S,x.ok):dG Tryz.prog 207 [.row 0 0 7 (P++(S++T)).length false,.int .i64 P.length,.int .i64 (P.length+S.length:Nat),.fn 148 []] [.row 7 ((P++(S++T)).map It.enc)]
 (.cx []) [.row 7 ((P++(bg cm S++T)).map It.enc)] []:=by
 refine bV wK mixed Tryz.func207 rfl (Nat.le_of_ble_eq_true rfl) (fun n h _=>by simp at h;subst h;rfl) (by show _<=1;simp) (by show 1<=_;simp) ez ?_;unfold Tryz.f207;have h0:=h;simp only[List.length_append]at h0;obtain⟨N,hN⟩: ∃N,(P++(S++T)).length=N:=⟨_,rfl⟩
 have Pd:=hN;simp only[List.length_append]at Pd;rw[hN]
 simp-implicitDefEqProofs (disch:=(first|omega|decide)) only[go_sem,↓reduceIte,seval,wrap_i64,List.length_map]
 refine ao [0,1,2,3] (ι:={k:Nat//1<=k/\(k<=S.length\/k=1)}) (fun k=>[(8,.int .i64 ((P.length+k.1:Nat):Int))]) (fun k=>[(0,.row 7 ((P++(bg cm (S.take k.1)++(S.drop k.1++T))).map It.enc))]) (fun k=>S.length-k.1) ⟨1,by omega,.inr rfl⟩ (by show 1<=_;simp) ?_ ?_
 · have e:=ssort1 S
   rw[<-List.append_assoc (bg cm (S.take 1)),e]
   simp-implicitDefEqProofs (disch:=(first|omega|decide)) only[go_sem,↓reduceIte,seval]
   first|done|(simp;done)|(exact⟨by simp,rfl⟩)
 · rintro⟨k,ke,OF⟩
   simp only;by_cases aw:k<S.length
   · have ae:((P.length+k:Nat):Int)<((P.length+S.length:Nat):Int):=by omega
     obtain⟨D,hD⟩: ∃D,bg cm (S.take k)=D:=⟨_,rfl⟩
     have hDl:D.length=k:=by rw[<-hD,bP,List.length_take];omega
     have hDs:jX cm D:=hD▸mY ib _;have hDk: ∀x∈D,x.ok:=fun x hx=>by rw[<-hD]at hx;exact hk x (List.mem_of_mem_take ((St.mem ib (gi ib _) x).1 hx))
     have hyk:=hk _ (List.getElem_mem aw)
     have hsd:S.drop k=S[k]::S.drop (k+1):=List.drop_eq_getElem_cons aw;have bR:bg cm (S.take (k+1))=ins cm D S[k]:=by rw[<-List.take_append_getElem aw,Qw,hD]
     rw[hD,hsd]
     generalize S[k]=y at*;obtain⟨Z,hZ⟩: ∃Z,S.drop (k+1)++T=Z:=⟨_,rfl⟩
     have hNZ:P.length+D.length+Z.length+1=N:=by rw[<-hZ,List.length_append,List.length_drop];omega
     rw[List.cons_append,hZ,<-C3]
     simp-implicitDefEqProofs (disch:=(first|omega|decide)) only[go_sem,↓reduceIte,seval,ae,wrap_i64,List.length_map]
     refine ao [0,1,2,3,8] (ι:={u:Nat//u<=D.length/\ ∀x∈D.drop u,cm y x=true}) (fun u=>[(9,.int .i64 ((P.length+u.1:Nat):Int))]) (fun u=>[(0,.row 7 ((dL P D Z y u.1).map It.enc))]) (fun u=>u.1) ⟨D.length,Nat.le_refl _,by rw[List.drop_length];simp⟩ (by show 1<=_;simp) ?_ ?_
     · simp-implicitDefEqProofs (disch:=(first|omega|decide)) only[go_sem,↓reduceIte,seval,hDl]
       try rfl
     · rintro⟨u,hu,TL⟩
       simp only;have fin: ∀h1:(u=0\/ ∃h:u-1<D.length,cm y D[u-1]=false),dL P D Z y u=P++(bg cm (S.take (k+1))++(S.drop (k+1)++T)):=fun h1=>by rw[bR,YF hDs (by omega) h1 TL,hZ,dL,List.append_assoc];rfl
       cases u with
       |zero=>
        have fin:=fin (.inl rfl)
        rw[fin,Nat.add_zero]
        have k1:((P.length+k:Nat):Int)+1=((P.length+(k+1):Nat):Int):=by omega
        simp-implicitDefEqProofs (disch:=(first|omega|decide)) only[go_sem,↓reduceIte,seval,k1,Int.lt_irrefl,wrap_i64,List.length_map]
        refine⟨⟨k+1,by omega,.inl (by omega)⟩,⟨by simp,rfl⟩,by show S.length-(k+1)<S.length-k;omega⟩
       |succ u=>
        have hud:u<D.length:=hu;have c0:(P.length:Int)<((P.length+(u+1):Nat):Int):=by omega
        have j1:((P.length+(u+1):Nat):Int)-1=((P.length+u:Nat):Int):=by omega
        have k1:((P.length+k:Nat):Int)+1=((P.length+(k+1):Nat):Int):=by omega
        have pj:(0:Int)<=((P.length+(u+1):Nat):Int):=by omega
        have pj1:(0:Int)<=((P.length+u:Nat):Int):=by omega
        have rj:((P.length+(u+1):Nat):Int)<(N:Int):=by omega
        have rj1:((P.length+u:Nat):Int)<(N:Int):=by omega
        have tj:((P.length+(u+1):Nat):Int).toNat=P.length+(u+1):=Int.toNat_natCast _;have tj1:((P.length+u:Nat):Int).toNat=P.length+u:=Int.toNat_natCast _;have hdk:=hDk _ (List.getElem_mem hud)
        have ln:=CZ (P:=P) (D:=D) (Z:=Z) (y:=y) (u:=u+1)
        rw[hNZ]at ln;have gy:=c_ (C0 (P:=P) (Z:=Z) (y:=y) hu)
        have gd:=c_ (Qu (P:=P) (Z:=Z) (y:=y) hud)
        have gd2:=c_ (rQ (P:=P) (Z:=Z) (y:=y) hud)
        have s1:=n_ (dL P D Z y (u+1)) (P.length+(u+1)) D[u]
        have s2:=n_ ((dL P D Z y (u+1)).set (P.length+(u+1)) D[u]) (P.length+u) y;rw[G4 hud]at s2;have gc:=C2 (x:=y) (y:=D[u]) ⟨hyk,hdk⟩
        have hdd:D.drop u=D[u]::D.drop (u+1):=List.drop_eq_getElem_cons hud;have YG:cm y D[u]=false->_:=fun hh=>fin (.inr ⟨by show u<D.length;omega,hh⟩)
        have iS:cm y D[u]=true-> ∀x∈D.drop u,cm y x=true:=fun hh x hx=>by
          rw[hdd]at hx;rcases List.mem_cons.1 hx with rfl|hx
          · exact hh
          · exact TL x hx
        have UO:cm y D[u]=aQ y.key D[u].key:=rfl;rw[UO]at YG iS;clear fin hdd TL;generalize D[u]=d at*;cases hb:aQ y.key d.key with
        |true=>
          have iS:=iS hb;generalize dL P D Z y (u+1)=r1 at*;generalize Zt:dL P D Z y u=r0 at*;simp-implicitDefEqProofs (disch:=(first|omega|decide)) only[go_sem,↓reduceIte,seval,c0,j1,k1,pj,pj1,rj,rj1,tj,tj1,ln,gy,gd,gd2,s1,s2,gc,hb,YB,wrap_i64,List.length_map,List.length_set]
          exact⟨⟨u,by omega,iS⟩,⟨by simp,by rw[Zt]⟩,by show u<u+1;omega⟩
        |false=>
          have YG:=YG hb;rw[YG]at gy gd⊢;rw[YG]at ln;generalize hr1:P++(bg cm (S.take (k+1))++(S.drop (k+1)++T))=r1 at*;simp-implicitDefEqProofs (disch:=(first|omega|decide)) only[go_sem,↓reduceIte,seval,c0,j1,k1,pj,pj1,rj,rj1,tj,tj1,ln,gy,gd,gc,hb,wrap_i64,List.length_map,List.length_set]
          refine⟨⟨k+1,by omega,.inl (by omega)⟩,⟨by simp,by rw[hr1]⟩,by show S.length-(k+1)<S.length-k;omega⟩
   · have ae: ¬((P.length+k:Nat):Int)<((P.length+S.length:Nat):Int):=by omega
     have e1:S.take k=S:=List.take_of_length_le (by omega)
     have e2:S.drop k=[]:=List.drop_of_length_le (by omega)
     rw[e1,e2,List.nil_append]
     simp-implicitDefEqProofs (disch:=(first|omega|decide)) only[go_sem,↓reduceIte,seval,ae,List.length_map]
def JE:aj:=sQ.add 166 (entry (fun(v:(Int×Int)×(Int×Int))=>[.agg [.int .i64 v.1.1,.int .i64 v.1.2],.agg [.int .i64 v.2.1,.int .i64 v.2.2]]) (fun v=>True) (fun v=> .int .i64 (fA ⟨v.1.1,v.1.2⟩ ⟨v.2.1,v.2.2⟩)))
theorem Si:ag Tryz.prog JE:=uL.bG Tryz.func166 (by kernel_rfl) (by kernel_rfl) fun v h=>mh ⟨v.1.1,v.1.2⟩ ⟨v.2.1,v.2.2⟩
@[go_sem] theorem X18a_old{g:FuncId}{xs:List A}(h:g≠166):JE.f g xs=sQ.f g xs:=aj.ak h
@[go_sem] theorem X18a_s:JE.pl sQ:=⟨fun _=>rfl,fun _=>rfl,rfl,fun _=>rfl,rfl,fun _=>rfl,rfl⟩
theorem wL(v:(Int×Int)×(Int×Int))(h:True):JE.f 166 [.agg [.int .i64 v.1.1,.int .i64 v.1.2],.agg [.int .i64 v.2.1,.int .i64 v.2.2]]=some (.int .i64 (fA ⟨v.1.1,v.1.2⟩ ⟨v.2.1,v.2.2⟩)):=aj.an (Γ:=sQ) (fun i j h=>by simpa[Prod.ext_iff,and_assoc]using h) v h
theorem x_vCmp{r c r' c':Int}:JE.f 166 [.agg [.int .i64 r,.int .i64 c],.agg [.int .i64 r',.int .i64 c']]=some (.int .i64 (fA ⟨r,c⟩ ⟨r',c'⟩)):=wL ((r,c),(r',c')) trivial
theorem Nv:ai Tryz.prog JE Tryz.f130.ntmps (Tryz.f130.body.getD .skip)=true:=by kernel_rfl
theorem Qx(x y:It):az Tryz.prog 130 [x.enc,y.enc] (· = .int .i64 (Qt x y)):=by
 refine aa Si mixed Tryz.func130 rfl (Nat.le_of_ble_eq_true rfl) Nv ?_;unfold Tryz.f130;have g:=x_vCmp (r:=x.rep) (c:=x.cu) (r':=y.rep) (c':=y.cu)
 simp only[It.enc,Qt]
 by_cases h1:y.bq<x.bq
 · simp-implicitDefEqProofs (disch:=(first|omega|decide)) only[go_sem,↓reduceIte,seval,h1]
 · by_cases h2:x.bq<y.bq
   · simp-implicitDefEqProofs (disch:=(first|omega|decide)) only[go_sem,↓reduceIte,seval,h1,h2]
   · simp-implicitDefEqProofs (disch:=(first|omega|decide)) only[go_sem,↓reduceIte,seval,h1,h2,g]
def Fs:aj:=JE.add 130 (entry (fun(v:It×It)=>[v.1.enc,v.2.enc]) (fun v=>True) (fun v=> .int .i64 (Qt v.1 v.2)))
theorem Sj:ag Tryz.prog Fs:=Si.bG Tryz.func130 (by kernel_rfl) (by kernel_rfl) fun v h=>Qx v.1 v.2
@[go_sem] theorem X18b_old{g:FuncId}{xs:List A}(h:g≠130):Fs.f g xs=JE.f g xs:=aj.ak h
theorem Ft(v:It×It)(h:True):Fs.f 130 [v.1.enc,v.2.enc]=some (.int .i64 (Qt v.1 v.2)):=aj.an (Γ:=JE) (fun i j h=>by simpa[Prod.ext_iff,and_assoc]using h) v h
theorem x_Cmp{x y:It}:Fs.f 130 [.agg [.str x.key,.int .i64 x.rep,.int .i64 x.cu,.int .i64 x.bq,.int .i64 x.prio,.bool x.dead,.str x.body],.agg [.str y.key,.int .i64 y.rep,.int .i64 y.cu,.int .i64 y.bq,.int .i64 y.prio,.bool y.dead,.str y.body]]=some (.int .i64 (Qt x y)):=Ft (x,y) trivial
theorem jU(l:List It)(x:It):l.map It.enc++[.agg [.str x.key,.int .i64 x.rep,.int .i64 x.cu,.int .i64 x.bq,.int .i64 x.prio,.bool x.dead,.str x.body]]=(l++[x]).map It.enc:=by rw[List.map_append];rfl
theorem x_Right{x:It}(h:x.ok):Jv.f 69 [.agg [.str x.key,.int .i64 x.rep,.int .i64 x.cu,.int .i64 x.bq,.int .i64 x.prio,.bool x.dead,.str x.body]]=some (.bool (aM x)):=Sf h
theorem l8{α:Type}{l:List α}{k:Nat}{f:α->Bool}(h:k<l.length):(l.take (k+1)).filter f=(l.take k).filter f++(if f l[k]then [l[k]]else []):=by
 rw[<-List.take_append_getElem h,List.filter_append]
 cases hf:f l[k]<;>simp[hf]
theorem Qy{α:Type}(L:List (List α))(i:Nat):((L.take i).flatten).length<=L.flatten.length:=by
 have:=congrArg (fun l:List (List α)=>l.flatten.length) (List.take_append_drop i L)
 simp only[List.flatten_append,List.length_append]at this;omega
theorem C4{α:Type}{L:List (List α)}{i:Nat}(h:i<L.length):(L.take (i+1)).flatten=(L.take i).flatten++L[i]:=by rw[<-List.take_append_getElem h,List.flatten_append];simp
theorem UP(r:List It)(x:It):(dO cm bt r x).length<=r.length+1:=by
 cases r with
 |nil=>simp[dO]
 |cons y r=>simp only[dO];split<;>simp
theorem G6: ∀(l r:List It),(l.foldl (dO cm bt) r).length<=r.length+l.length
 | [],r=>by simp
 |x::l,r=>by
  rw[List.foldl_cons]
  have h1:=G6 l (dO cm bt r x)
  have h2:=UP r x;simp only[List.length_cons];omega
def Fu:aj:=Fs.add 124 (entry (fun(v:(Int×Int)×(Int×Int))=>[.agg [.int .i64 v.1.1,.int .i64 v.1.2],.agg [.int .i64 v.2.1,.int .i64 v.2.2]]) (fun v=>True) (fun v=> .bool (yv ⟨v.1.1,v.1.2⟩ ⟨v.2.1,v.2.2⟩)))
theorem Sk:ag Tryz.prog Fu:=Sj.bG Tryz.func124 (by kernel_rfl) (by kernel_rfl) fun v h=>uo ⟨v.1.1,v.1.2⟩ ⟨v.2.1,v.2.2⟩
@[go_sem] theorem X18c_old{g:FuncId}{xs:List A}(h:g≠124):Fu.f g xs=Fs.f g xs:=aj.ak h
@[go_sem] theorem X18c_s:Fu.pl Fs:=⟨fun _=>rfl,fun _=>rfl,rfl,fun _=>rfl,rfl,fun _=>rfl,rfl⟩
theorem ze(v:(Int×Int)×(Int×Int))(h:True):Fu.f 124 [.agg [.int .i64 v.1.1,.int .i64 v.1.2],.agg [.int .i64 v.2.1,.int .i64 v.2.2]]=some (.bool (yv ⟨v.1.1,v.1.2⟩ ⟨v.2.1,v.2.2⟩)):=aj.an (Γ:=Fs) (fun i j h=>by simpa[Prod.ext_iff,and_assoc]using h) v h
theorem x_vLess{r c r' c':Int}:Fu.f 124 [.agg [.int .i64 r,.int .i64 c],.agg [.int .i64 r',.int .i64 c']]=some (.bool (yv ⟨r,c⟩ ⟨r',c'⟩)):=ze ((r,c),(r',c')) trivial
theorem C5:ai Tryz.prog Fu Tryz.f64.ntmps (Tryz.f64.body.getD .skip)=true:=by kernel_rfl
theorem Fv(x y:It):az Tryz.prog 64 [x.enc,y.enc] (· = .bool (bt x y)):=by
 refine aa Sk mixed Tryz.func64 rfl (Nat.le_of_ble_eq_true rfl) C5 ?_;unfold Tryz.f64;have g:=x_vLess (r:=y.rep) (c:=y.cu) (r':=x.rep) (c':=x.cu)
 simp only[It.enc,bt]
 cases h1:x.bq==y.bq with
 |true=>
  have mb:x.bq=y.bq:=by simpa using h1
  have h2: ¬y.bq<x.bq:=by omega
  have d2:decide (y.bq<x.bq)=false:=decide_eq_false h2;have d1:decide (x.bq=y.bq)=true:=decide_eq_true mb;rw[d1,d2,Bool.true_and,Bool.false_or]
  simp-implicitDefEqProofs (disch:=(first|omega|decide)) only[go_sem,↓reduceIte,seval,h1,g]
 |false=>
  have mb: ¬x.bq=y.bq:=by simpa using h1
  have d1:decide (x.bq=y.bq)=false:=decide_eq_false mb;rw[d1,Bool.false_and,Bool.or_false]
  simp-implicitDefEqProofs (disch:=(first|omega|decide)) only[go_sem,↓reduceIte,seval,h1]
def JF:aj:=Fu.add 64 (entry (fun(v:It×It)=>[v.1.enc,v.2.enc]) (fun v=>True) (fun v=> .bool (bt v.1 v.2)))
theorem Sl:ag Tryz.prog JF:=Sk.bG Tryz.func64 (by kernel_rfl) (by kernel_rfl) fun v h=>Fv v.1 v.2
@[go_sem] theorem X18d_old{g:FuncId}{xs:List A}(h:g≠64):JF.f g xs=Fu.f g xs:=aj.ak h
@[go_sem] theorem X18d_s:JF.pl Fu:=⟨fun _=>rfl,fun _=>rfl,rfl,fun _=>rfl,rfl,fun _=>rfl,rfl⟩
theorem wM(v:It×It)(h:True):JF.f 64 [v.1.enc,v.2.enc]=some (.bool (bt v.1 v.2)):=aj.an (Γ:=Fu) (fun i j h=>by simpa[Prod.ext_iff,and_assoc]using h) v h
theorem Sm{x y:It}:JF.f 64 [.agg [.str x.key,.int .i64 x.rep,.int .i64 x.cu,.int .i64 x.bq,.int .i64 x.prio,.bool x.dead,.str x.body],.agg [.str y.key,.int .i64 y.rep,.int .i64 y.cu,.int .i64 y.bq,.int .i64 y.prio,.bool y.dead,.str y.body]]=some (.bool (bt x y)):=wM (x,y) trivial
def mZ(k:List UInt8)(all:Bool)(x:It):Bool:=aM x&&(all||x.key==k)
def C6(l:List It)(k:List UInt8)(all:Bool):Nat->Int
 |0=> -1
 |n+1=>if mZ k all (l[n]!)&&(decide (C6 l k all n<0)||bt (l[n]!) (l[(C6 l k all n).toNat]!))then(n:Int)else C6 l k all n
theorem C7(l:List It)(k:List UInt8)(all:Bool): ∀n,n<=l.length->(C6 l k all n= -1/\kB bt ((l.take n).filter (mZ k all))=none)\/(∃j,j<n/\C6 l k all n=(j:Int)/\kB bt ((l.take n).filter (mZ k all))=some (l[j]!))
 |0,_=> .inl ⟨rfl,rfl⟩
 |n+1,h=>by
  have aw:n<l.length:=by omega
  have ih:=C7 l k all n (by omega)
  have iN:=l8 (f:=mZ k all) aw;rw[<-getElem!_pos l n aw]at iN;simp only[C6]
  rw[iN]
  cases hc:mZ k all (l[n]!)with
  |false=>
   simp only[Bool.false_and,Bool.false_eq_true,if_false,List.append_nil]
   rcases ih with ih|⟨j,h1,h2,h3⟩
   · exact .inl ih
   · exact .inr ⟨j,by omega,h2,h3⟩
  |true=>
   simp only[Bool.true_and,if_true]
   rw[G1]
   rcases ih with⟨h1,h2⟩|⟨j,h1,h2,h3⟩
   · rw[h1,h2]
     exact .inr ⟨n,by omega,by simp,rfl⟩
   · rw[h2,h3]
     have h0: ¬((j:Int)<0):=by omega
     have ht:((j:Nat):Int).toNat=j:=by simp
     rw[decide_eq_false h0,Bool.false_or,ht]
     simp only[better]
     cases hb:bt (l[n]!) (l[j]!)with
     |true=>exact .inr ⟨n,by omega,by simp,by simp⟩
     |false=>exact .inr ⟨j,by omega,by simp,by simp⟩
theorem bAt_rng(l:List It)(k:List UInt8)(all:Bool)(n:Nat)(h:n<=l.length):C6 l k all n= -1\/ ∃j,j<n/\C6 l k all n=(j:Int):=by
 rcases C7 l k all n h with h|⟨j,h1,h2,_⟩
 · exact .inl h.1
 · exact .inr ⟨j,h1,h2⟩
theorem Nw{x:It}(h:x.ok):CS.f 73 [.agg [.str x.key,.int .i64 x.rep,.int .i64 x.cu,.int .i64 x.bq,.int .i64 x.prio,.bool x.dead,.str x.body]]=some (.bool (aM x)):=mU x h
theorem Fw:ai Tryz.prog JF Tryz.f86.ntmps (Tryz.f86.body.getD .skip)=true:=by kernel_rfl
theorem JG(l:List It)(k:List UInt8)(all:Bool)(hl:l.length<=1000000)(hk: ∀x∈l,x.ok):az Tryz.prog 86 [.ad (l.map It.enc),.str k,.bool all] (· = .int .i64 (C6 l k all l.length)):=by
 refine aa Sl mixed Tryz.func86 rfl (Nat.le_of_ble_eq_true rfl) Fw ?_;unfold Tryz.f86;simp-implicitDefEqProofs (disch:=(first|omega|decide)) only[go_sem,↓reduceIte,seval,List.length_map]
 refine ao [0,1,2] (ι:={i:Nat//i<=l.length}) (fun i=>[(8,.int .i64 i.1),(7,.int .i64 (C6 l k all i.1))]) (fun _=>[]) (fun i=>l.length-i.1) ⟨0,by omega⟩ (Nat.zero_le _) ?_ ?_
 · simp-implicitDefEqProofs (disch:=(first|omega|decide)) only[go_sem,↓reduceIte,seval,C6]
   try rfl
 · rintro⟨i,hi⟩
   simp only;by_cases aw:i<l.length
   · have ae:(i:Int)<(l.length:Int):=by omega
     have p1:(0:Int)<=(i:Int):=by omega
     have t1:((i:Nat):Int).toNat=i:=Int.toNat_natCast _;have e1:=c_ (l:=l) (k:=i) (x:=l[i]!) (by rw[getElem!_pos l i aw,List.getElem?_eq_getElem aw])
     have ox:(l[i]!).ok:=by rw[getElem!_pos l i aw];exact hk _ (List.getElem_mem aw)
     have g1:=Nw ox;have hb:C6 l k all (i+1)=if mZ k all (l[i]!)&&(decide (C6 l k all i<0)||bt (l[i]!) (l[(C6 l k all i).toNat]!))then(i:Int)else C6 l k all i:=rfl
     have hr:=bAt_rng l k all i hi;have iS: ∀v:Int,C6 l k all (i+1)=v-> ∃j:{i:Nat//i<=l.length},((i:Int)+1=(j.1:Int)/\v=C6 l k all j.1)/\l.length-j.1<l.length-i:=fun v hv=>⟨⟨i+1,aw⟩,⟨by simp,hv.symm⟩,by show l.length-(i+1)<l.length-i;omega⟩
     have e2: ∀j,j<i->(l.map It.enc)[j]? =some (.agg [.str (l[j]!).key,.int .i64 (l[j]!).rep,.int .i64 (l[j]!).cu,.int .i64 (l[j]!).bq,.int .i64 (l[j]!).prio,.bool (l[j]!).dead,.str (l[j]!).body]):=fun j hj=>c_ (by rw[getElem!_pos l j (by omega),List.getElem?_eq_getElem (by omega)])
     generalize l[i]! =x at*;generalize C6 l k all i=a at*;cases hR:aM x with
     |false=>
      rw[hR]at g1;simp only[mZ,hR,Bool.false_and,Bool.false_eq_true,if_false]at hb;simp-implicitDefEqProofs (disch:=(first|omega|decide)) only[go_sem,↓reduceIte,seval,ae,p1,t1,e1,g1,wrap_i64,List.length_map]
      exact iS _ hb
     |true=>
      rw[hR]at g1;cases all
      all_goals
       cases S6:x.key==k
       all_goals
          simp only[mZ,hR,S6,Bool.or_false,Bool.false_or,Bool.or_true,Bool.true_or,Bool.false_and,Bool.true_and,Bool.false_eq_true,if_false]at hb
      · simp-implicitDefEqProofs (disch:=(first|omega|decide)) only[go_sem,↓reduceIte,seval,ae,p1,t1,e1,g1,S6,wrap_i64,List.length_map]
        exact iS _ hb
      all_goals
       rcases hr with rfl|⟨j,hj,rfl⟩
      all_goals
       first
          |(have hm:decide ((-1:Int)<0)=true:=rfl
            simp only[hm,Bool.true_or,if_true]at hb;simp-implicitDefEqProofs (disch:=(first|omega|decide)) only[go_sem,↓reduceIte,seval,ae,p1,t1,e1,g1,S6,wrap_i64,List.length_map]
            exact iS _ hb)
          |(have q1: ¬((j:Int)<0):=by omega
            have q2:(0:Int)<=(j:Int):=by omega
            have q3:(j:Int)<(l.length:Int):=by omega
            have q4:((j:Nat):Int).toNat=j:=Int.toNat_natCast _;have ej:=e2 j hj;simp only[decide_eq_false q1,Bool.false_or,q4]at hb;generalize l[j]! =y at*;have gb:=Sm (x:=x) (y:=y)
            cases hw:bt x y
            · rw[hw]at gb
              simp only[hw,Bool.false_eq_true,if_false]at hb;simp-implicitDefEqProofs (disch:=(first|omega|decide)) only[go_sem,↓reduceIte,seval,ae,p1,t1,e1,g1,S6,q1,q2,q3,q4,ej,gb,wrap_i64,List.length_map]
              exact iS _ hb
            · rw[hw]at gb
              simp only[hw,if_true]at hb;simp-implicitDefEqProofs (disch:=(first|omega|decide)) only[go_sem,↓reduceIte,seval,ae,p1,t1,e1,g1,S6,q1,q2,q3,q4,ej,gb,wrap_i64,List.length_map]
              exact iS _ hb)
   · have ae: ¬(i:Int)<(l.length:Int):=by omega
     obtain rfl:i=l.length:=by omega
     simp-implicitDefEqProofs (disch:=(first|omega|decide)) only[go_sem,↓reduceIte,seval,ae,List.length_map]
def Nx:aj:=JF.add 86 (entry (fun(v:List It×List UInt8×Bool)=>[.ad (v.1.map It.enc),.str v.2.1,.bool v.2.2]) (fun v=>v.1.length<=1000000/\ ∀x∈v.1,x.ok) (fun v=> .int .i64 (C6 v.1 v.2.1 v.2.2 v.1.length)))
theorem X18e_ok:ag Tryz.prog Nx:=Sl.bG Tryz.func86 (by kernel_rfl) (by kernel_rfl) fun v h=>JG v.1 v.2.1 v.2.2 h.1 h.2
@[go_sem] theorem X18e_old{g:FuncId}{xs:List A}(h:g≠86):Nx.f g xs=JF.f g xs:=aj.ak h
theorem zf(v:List It×List UInt8×Bool)(h:v.1.length<=1000000/\ ∀x∈v.1,x.ok):Nx.f 86 [.ad (v.1.map It.enc),.str v.2.1,.bool v.2.2]=some (.int .i64 (C6 v.1 v.2.1 v.2.2 v.1.length)):=aj.an (Γ:=JF) (fun i j h=>by simpa[Prod.ext_iff,and_assoc]using h) v h
theorem x_Best{l:List It}{k:List UInt8}{all:Bool}(h:l.length<=1000000/\ ∀x∈l,x.ok):Nx.f 86 [.ad (l.map It.enc),.str k,.bool all]=some (.int .i64 (C6 l k all l.length)):=zf (l,k,all) h
def l9(a b:List It):Bool:=decide (a=b)
def ka(F:List ax)(l:List It):List It:=l.filter fun x=>ar F x.key
theorem uR(F:List ax)(l:List It):(ka F l).length<=l.length:=List.length_filter_le _ _
def rf:aj:=Nx.add 135 (entry (fun(l:List ax)=>[.ad (l.map ax.enc)]) (fun l=>l.length<=100000/\dp l) (fun l=> .ad ((dd (ar l)).map ax.enc)))
theorem kC:ag Tryz.prog rf:=X18e_ok.bG Tryz.func135 (by kernel_rfl) (by kernel_rfl) fun l h=>p' l (Nat.le_trans h.1 (by decide)) h.2
@[go_sem] theorem X18f_old{g:FuncId}{xs:List A}(h:g≠135):rf.f g xs=Nx.f g xs:=aj.ak h
@[go_sem] theorem X18f_s:rf.pl Nx:=⟨fun _=>rfl,fun _=>rfl,rfl,fun _=>rfl,rfl,fun _=>rfl,rfl⟩
theorem C8(l:List ax)(h:l.length<=100000/\dp l):rf.f 135 [.ad (l.map ax.enc)]=some (.ad ((dd (ar l)).map ax.enc)):=aj.an (Γ:=Nx) (fun i j h=>by simpa[Prod.ext_iff,and_assoc]using h) l h
theorem x_rOf{l:List ax}(h:l.length<=100000/\dp l):rf.f 135 [.ad (l.map ax.enc)]=some (.ad ((dd (ar l)).map ax.enc)):=C8 l h
theorem Qz:ai Tryz.prog rf Tryz.f82.ntmps (Tryz.f82.body.getD .skip)=true:=by kernel_rfl
theorem UQ(l:List It)(F:List ax)(hl:l.length<=1000000)(hF:F.length<=100000/\dp F)(hk: ∀x∈l,x.ok):az Tryz.prog 82 [.ad (l.map It.enc),.ad (F.map ax.enc)] (· = .ad ((ka F l).map It.enc)):=by
 refine aa kC mixed Tryz.func82 rfl (Nat.le_of_ble_eq_true rfl) Qz ?_;unfold Tryz.f82;have g0:=x_rOf hF;have tk: ∀m:List It,(m.map It.enc).take m.length=m.map It.enc:=fun m=>List.take_of_length_le (by simp)
 have gH: ∀s:List UInt8,s.length<=9223372036854775807->MV.f 70 [.ad ((dd (ar F)).map ax.enc),.str s]=some (.bool (ar F s)):=fun s hs=>by
  have:=kA (l:=dd (ar F)) (s:=s) (Nat.le_trans (qa F) hF.1) (uA _) hs
  rwa [Bg (Ro F)]at this
 generalize dd (ar F)=S at*;simp-implicitDefEqProofs (disch:=(first|omega|decide)) only[go_sem,↓reduceIte,seval,g0,List.length_map]
 refine aU 5 7 rfl ?_;refine ao [1,10,11] (ι:={j:Nat//j<=l.length}) (fun j=>[(12,.int .i64 j.1),(5,.row 0 0 7 (ka F (l.take j.1)).length false)]) (fun j=>[(0,.row 7 ((ka F (l.take j.1)).map It.enc))]) (fun j=>l.length-j.1) ⟨0,by omega⟩ (Nat.zero_le _) ?_ ?_
 · simp-implicitDefEqProofs (disch:=(first|omega|decide)) only[go_sem,↓reduceIte,seval]
   first|done|(simp[ka];done)|exact⟨⟨rfl,rfl⟩,rfl⟩
 · rintro⟨j,hj⟩
   simp only;by_cases zB:j<l.length
   · have uS:(j:Int)<(l.length:Int):=by omega
     have ej:=dK zB;have gr:=gH l[j].key (hk _ (List.getElem_mem zB)).1;have iN:ka F (l.take (j+1))=ka F (l.take j)++(if ar F l[j].key then [l[j]]else []):=l8 (f:=fun x:It=>ar F x.key) zB
     have hgl:(ka F (l.take j)).length<=1000000:=by
      have:=uR F (l.take j)
      rw[List.length_take]at this;omega
     generalize l[j]=x at*;obtain⟨G,hG⟩: ∃G,ka F (l.take j)=G:=⟨_,rfl⟩
     have tkG:=tk G;rw[hG]at iN hgl⊢;cases hr:ar F x.key with
     |true=>
      rw[hr,if_pos rfl]at iN;rw[hr]at gr;simp-implicitDefEqProofs (disch:=(first|omega|decide)) only[go_sem,↓reduceIte,seval,uS,ej,gr,tkG,wrap_i64,List.length_map]
      refine⟨⟨Nat.le_refl _,by omega⟩,⟨j+1,zB⟩,⟨⟨by simp,by rw[iN];simp⟩,by rw[iN,<-jU]⟩,by show l.length-(j+1)<l.length-j;omega⟩
     |false=>
      rw[hr]at iN gr;simp only[Bool.false_eq_true,if_false,List.append_nil]at iN;simp-implicitDefEqProofs (disch:=(first|omega|decide)) only[go_sem,↓reduceIte,seval,uS,ej,gr,wrap_i64,List.length_map]
      exact⟨⟨j+1,zB⟩,⟨⟨by simp,by rw[iN]⟩,by rw[iN]⟩,by show l.length-(j+1)<l.length-j;omega⟩
   · have uS: ¬(j:Int)<(l.length:Int):=by omega
     rw[List.take_of_length_le (by omega)]
     have N8:=tk (ka F l)
     simp-implicitDefEqProofs (disch:=(first|omega|decide)) only[go_sem,↓reduceIte,seval,uS,N8,wrap_i64,List.length_map,Nat.le_refl]
theorem Ny:ai Tryz.prog rf Tryz.f30.ntmps (Tryz.f30.body.getD .skip)=true:=by kernel_rfl
theorem QA(l:List It)(F:List ax)(hl:l.length<=1000000)(hF:F.length<=100000/\dp F)(hk: ∀x∈l,x.ok):az Tryz.prog 30 [.ad (l.map It.enc),.ad (F.map ax.enc)] (· = .ad ((ka F l).map It.enc)):=by
 refine aa kC mixed Tryz.func30 rfl (Nat.le_of_ble_eq_true rfl) Ny ?_;unfold Tryz.f30;have tk: ∀m:List It,(m.map It.enc).take m.length=m.map It.enc:=fun m=>List.take_of_length_le (by simp)
 have gH: ∀s:List UInt8,s.length<=9223372036854775807->I1.f 36 [.ad (F.map ax.enc),.str s]=some (.bool (ar F s)):=fun s hs=>l6 (by omega) hF.2 hs;simp-implicitDefEqProofs (disch:=(first|omega|decide)) only[go_sem,↓reduceIte,seval]
 refine aU 5 7 rfl ?_;refine ao [0,1] (ι:={j:Nat//j<=l.length}) (fun j=>[(6,.int .i64 j.1),(5,.row 0 0 7 (ka F (l.take j.1)).length false)]) (fun j=>[(0,.row 7 ((ka F (l.take j.1)).map It.enc))]) (fun j=>l.length-j.1) ⟨0,by omega⟩ (Nat.zero_le _) ?_ ?_
 · simp-implicitDefEqProofs (disch:=(first|omega|decide)) only[go_sem,↓reduceIte,seval]
   first|done|(simp[ka];done)|exact⟨⟨rfl,rfl⟩,rfl⟩
 · rintro⟨j,hj⟩
   simp only;by_cases zB:j<l.length
   · have uS:(j:Int)<(l.length:Int):=by omega
     have ej:=dK zB;have gr:=gH l[j].key (hk _ (List.getElem_mem zB)).1;have iN:ka F (l.take (j+1))=ka F (l.take j)++(if ar F l[j].key then [l[j]]else []):=l8 (f:=fun x:It=>ar F x.key) zB
     have hgl:(ka F (l.take j)).length<=1000000:=by
      have:=uR F (l.take j)
      rw[List.length_take]at this;omega
     generalize l[j]=x at*;obtain⟨G,hG⟩: ∃G,ka F (l.take j)=G:=⟨_,rfl⟩
     have tkG:=tk G;rw[hG]at iN hgl⊢;cases hr:ar F x.key with
     |true=>
      rw[hr,if_pos rfl]at iN;rw[hr]at gr;simp-implicitDefEqProofs (disch:=(first|omega|decide)) only[go_sem,↓reduceIte,seval,uS,ej,gr,tkG,wrap_i64,List.length_map]
      refine⟨⟨Nat.le_refl _,by omega⟩,⟨j+1,zB⟩,⟨⟨by simp,by rw[iN];simp⟩,by rw[iN,<-jU]⟩,by show l.length-(j+1)<l.length-j;omega⟩
     |false=>
      rw[hr]at iN gr;simp only[Bool.false_eq_true,if_false,List.append_nil]at iN;simp-implicitDefEqProofs (disch:=(first|omega|decide)) only[go_sem,↓reduceIte,seval,uS,ej,gr,wrap_i64,List.length_map]
      exact⟨⟨j+1,zB⟩,⟨⟨by simp,by rw[iN]⟩,by rw[iN]⟩,by show l.length-(j+1)<l.length-j;omega⟩
   · have uS: ¬(j:Int)<(l.length:Int):=by omega
     rw[List.take_of_length_le (by omega)]
     have N8:=tk (ka F l)
     simp-implicitDefEqProofs (disch:=(first|omega|decide)) only[go_sem,↓reduceIte,seval,uS,N8,wrap_i64,List.length_map,Nat.le_refl]
end Go.Proofs.YtihgnfmoafjakaaGreat
namespace Go.Proofs.YtihgnfmoafjakaaGreat
open Go.bJ
set_option linter.unusedSimpArgs false
set_option linter.unusedVariables false
theorem G7{p:Pc}{x:List UInt8}:setAt [p] x=if cg p.r x=true then p.s else []:=by unfold setAt;by_cases h:cg p.r x=true<;>simp[h]
theorem C9{k:List Pc}{x:List UInt8}{n c:Int}:hk (setAt k x) n c=true ↔∃p∈k,cg p.r x=true/\hk p.s n c=true:=by
 rw[UG]
 constructor
 · rintro⟨p,hp,h⟩
   rw[G7]at h;split at h
   · rename_i hx;exact⟨p,hp,hx,h⟩
   · simp[hk,aB,ah]at h
 · rintro⟨p,hp,hx,h⟩
   exact⟨p,hp,by rw[G7,if_pos hx];exact h⟩
theorem C_{p:Pc}{id b:Int}(hid:bI id=true)(hb:0<=b):oz p id<=b ↔∀c,hk p.s id c=true->c<=b:=by
 unfold oz hk;rw[if_pos hid]
 obtain⟨h1,h2,h3,h4⟩:=TV (f_ (ah (aB p.s id)))
 have e: ∀c,ah (cw (ah (aB p.s id))) c=ah (aB p.s id) c:=fun c=>mJ (zG _) c;constructor
 · intro h c hc
   have:=h4 c (by rw[e];exact hc)
   omega
 · intro h
   by_cases hz:0<eI (cw (ah (aB p.s id)))
   · have:=h3 hz
     rw[e]at this;exact h _ this
   · omega
structure fi(s:bh):Prop where
 id:1<=s.id/\s.id<=16
 ct:0<=s.ct/\s.ct<=1099511627776
 len:s.aK.length<=4096
 fl:aO s.fl=true
 up:s.aK.Pairwise fun x y=>aQ x.key y.key=true
 right: ∀x∈s.aK,aM x=true
 kn:aS s.kn=true
 inF: ∀x n,bI n=true-> ∀c,hk (setAt s.kn x) n c=true->ar s.fl x=true
 QB: ∀x c,hk (setAt s.kn x) s.id c=true->c<=s.ct
 apart:s.aK.Pairwise fun x y=> ¬(x.rep=y.rep/\x.cu=y.cu)
 aK: ∀x∈s.aK,ar s.fl x.key=true/\bZ s.kn x.key x.rep x.cu=true
theorem JH: ∀{l:List It} {p:Option (List UInt8)},goI p l=true ↔ (∀x∈l,aM x=true)/\l.Pairwise (fun x y=>aQ x.key y.key=true)/\ ∀k,p=some k-> ∀x∈l,aQ k x.key=true
 | [],p=>by simp[goI]
 |x::l,p=>by
  simp only[goI,Bool.and_eq_true,JH (l:=l),List.pairwise_cons,List.mem_cons,forall_eq_or_imp]
  constructor
  · rintro⟨⟨h1,h2⟩,h3,h4,h5⟩
    have h6:=h5 x.key rfl;refine⟨⟨h1,h3⟩,⟨h6,h4⟩, ?_⟩
    rintro k rfl;exact⟨h2,fun y hy=>bW h2 (h6 y hy)⟩
  · rintro⟨⟨h1,h2⟩,⟨h3,h4⟩,h5⟩
    refine⟨⟨h1, ?_⟩,h2,h4, ?_⟩
    · cases p with
      |none=>rfl
      |some k=>exact(h5 k rfl).1
    · rintro k hk y hy
      obtain rfl:=Option.some.inj hk;exact h3 y hy
theorem qS{l:List It}:cY l=true ↔ l.Pairwise fun x y=> ¬(x.rep=y.rep/\x.cu=y.cu):=by
 unfold cY;rw[List.all_eq_true,List.pairwise_iff_getElem]
 constructor
 · intro h i j hi hj vw
   have h1:=h j (List.mem_range.2 hj)
   simp only[nZ,List.getElem?_eq_getElem hj,Bool.not_eq_true',List.any_eq_false,decide_eq_true_eq]at h1
   exact h1 l[i] (by
    have:l[i]=(l.take j)[i]'(by rw[List.length_take];omega):=by rw[List.getElem_take]
    rw[this];exact List.getElem_mem _)
 · intro h j hj
   have hj:=List.mem_range.1 hj;simp only[nZ,List.getElem?_eq_getElem hj,Bool.not_eq_true',List.any_eq_false,decide_eq_true_eq]
   intro y hy;obtain⟨i,hi,rfl⟩:=List.getElem_of_mem hy;rw[List.length_take]at hi;rw[List.getElem_take]
   exact h i j (by omega) hj (by omega)
theorem dE(s:bh):cp s=true ↔ fi s:=by
 unfold cp;simp only[Bool.and_eq_true,Bool.not_eq_true',decide_eq_true_eq,List.all_eq_true]
 constructor
 · rintro⟨⟨⟨⟨⟨⟨⟨⟨⟨h1,h2⟩,h3⟩,h4⟩,h5⟩,h6⟩,h7⟩,h8⟩,h9⟩,h10⟩
   simp only[CQ]at h1 h2;simp at h1 h2;have hid:bI s.id=true:=bL.2 (by omega)
   have TO:=qg.1 (by
    have e:cX (aV (br s.kn s.fl)) s.kn=cX (aV (br s.kn s.fl)) (aV (df s.kn)):=by rw[kN h6]
    rw[e]at h7;unfold cX at h7
    rwa [decide_eq_true_iff,Nh (qf _ _) (Qj _)]at h7)
   unfold dc at h8;rw[uK]at h8;obtain⟨g1,g2,_⟩:=JH.1 h5
   exact{
    id:=by omega
    ct:=by omega
    len:=h3
    fl:=h4
    up:=g2
    right:=g1
    kn:=h6
    inF:=TO
    QB:=fun x c hc=>by obtain⟨p,hp,_,h⟩:=C9.1 hc;exact(C_ hid (by omega)).1 (h8.2 p hp) c h
    apart:=qS.1 h9
    aK:=h10}
 · intro h
   have hid:bI s.id=true:=bL.2 h.id;have:=h.id;have:=h.ct;refine⟨⟨⟨⟨⟨⟨⟨⟨⟨?_, ?_⟩,h.len⟩,h.fl⟩, ?_⟩,h.kn⟩, ?_⟩, ?_⟩, ?_⟩,h.aK⟩
   · simp[CQ];omega
   · simp[CQ];omega
   · exact JH.2 ⟨h.right,h.up,fun k hk=>by cases hk⟩
   · have e:cX (aV (br s.kn s.fl)) s.kn=cX (aV (br s.kn s.fl)) (aV (df s.kn)):=by rw[kN h.kn]
     rw[e]
     unfold cX;rw[decide_eq_true_iff,Nh (qf _ _) (Qj _)]
     exact qg.2 h.inF
   · unfold dc
     rw[uK]
     refine⟨h.ct.1,fun p hp=>(C_ hid h.ct.1).2 fun c hc=> ?_⟩
     have h1:=(eN.1 h.kn).1 p hp;unfold dW at h1;simp only[Bool.and_eq_true]at h1;exact h.QB p.r.lo c (C9.2 ⟨p,hp,tS h1.1.1,hc⟩)
   · exact qS.2 h.apart
open Go.wG
theorem hk_one{key x:List UInt8}{v:bS}{n c:Int}(C':1<=key.length/\key.length<=16)(hv:aL v=true)(hn:bI n=true):hk (setAt (eQ key [v]) x) n c=true ↔ x=key/\n=v.r/\c=v.c:=by
 have h1: ∀n,bI n=true-> ∀c,hk (dF (cG [v])) n c=true ↔ n=v.r/\c=v.c:=fun n hn c=>by
  rw[RP hn c]
  unfold hk;rw[Js,List.mem_singleton]
  constructor
  · rintro⟨e,_⟩;rw[<-e];exact⟨rfl,rfl⟩
  · rintro⟨e1,e2⟩
    have e:(⟨n,c⟩:bS)=v:=IY e1 e2;rw[e];exact⟨rfl,hv⟩
 have hr:bI v.r=true:=by unfold aL at hv;simp only[Bool.and_eq_true,decide_eq_true_eq]at hv;exact bL.2 ⟨hv.1.1.1,hv.1.1.2⟩
 have bU:dF (cG [v])≠ []:=fun e=>by
  have:=(h1 v.r hr v.c).2 ⟨rfl,rfl⟩
  rw[e]at this;simp[hk,aB,ah]at this
 have e:eQ key [v]=[⟨mH key,dF (cG [v])⟩]:=by unfold eQ;rw[if_pos ⟨by simpa using C',bU⟩]
 rw[e,C9]
 constructor
 · rintro⟨p,hp,hx,h⟩
   obtain rfl:=List.mem_singleton.1 hp;rw[Wz C'.2]at hx;exact⟨by simpa using hx,(h1 n hn c).1 h⟩
 · rintro⟨rfl,h⟩
   exact⟨_,List.mem_singleton.2 rfl,by rw[Wz C'.2];simp,(h1 n hn c).2 h⟩
theorem Da{x:It}(h:aM x=true):bI x.rep=true/\(1<=x.key.length/\x.key.length<=16)/\aL ⟨x.rep,x.cu⟩=true:=by
 unfold aM at h;simp only[Bool.and_eq_true,decide_eq_true_eq]at h;have hv:=h.1.1.1.1.1.1.2;refine⟨?_,h.1.1.1.1.1.1.1,hv⟩
 unfold aL at hv;simp only[Bool.and_eq_true,decide_eq_true_eq]at hv;exact bL.2 ⟨hv.1.1.1,hv.1.1.2⟩
theorem od{k:List Pc}{x:List UInt8}{n c:Int}(hn:bI n=true):bZ k x n c=hk (setAt k x) n c:=by rw[aaI];unfold nL hk;rw[hn,Bool.true_and]
def cO(s:bh)(x:It):bh:=⟨s.id,s.fl,aN (x::s.aK),aV (df (s.kn++eQ x.key [⟨x.rep,x.cu⟩])),s.ct+1⟩
theorem up_len{l:List It}{x:It}(hr: ∀y∈x::l,aM y=true)(hl:l.Pairwise fun a b=>aQ a.key b.key=true)(hm:x.key∈l.map (·.key)):(aN (x::l)).length<=l.length:=by
 obtain⟨h1,h2⟩:=fa (x::l)
 have sub: ∀z∈aN (x::l),z.key∈l.map (·.key):=fun z hz=>by
  rcases List.mem_cons.1 (dD hz).1 with rfl|h
  · exact hm
  · exact List.mem_map.2 ⟨z,h,rfl⟩
 have nd:((aN (x::l)).map (·.key)).Nodup:=by
  unfold List.Nodup;rw[List.pairwise_map]
  exact h1.imp fun{a b} h e=>by rw[e,lt_irrefl]at h;cases h
 have key: ∀(a b:List (List UInt8)),a.Nodup->(∀z∈a,z∈b)->a.length<=b.length:=fun a=>by
  induction a with
  |nil=>intro b _ _;simp
  |cons y a ih=>
   intro b hn hs;obtain⟨n1,n2⟩:=List.nodup_cons.1 hn;have hy:=hs y (by simp)
   have:=ih (b.erase y) n2 fun z hz=>by
    have bU:z≠y:=fun e=>n1 (e▸hz)
    exact(List.mem_erase_of_ne bU).2 (hs z (List.mem_cons_of_mem _ hz))
   rw[List.length_erase_of_mem hy]at this;have:0<b.length:=List.length_pos_of_mem hy;simp only[List.length_cons];omega
 have:=key _ _ nd fun z hz=>by obtain⟨w,hw,rfl⟩:=List.mem_map.1 hz;exact sub w hw
 simpa using this
theorem G8{s:bh}{x:It}(h:fi s)(hx:aM x=true)(hr:x.rep=s.id)(hc:x.cu=s.ct+1)(hf:ar s.fl x.key=true)(hm:s.ct<1099511627776)(hl:s.aK.length<4096\/x.key∈s.aK.map (·.key)):fi (cO s x):=by
 obtain⟨cF,C',hv⟩:=Da hx
 have gZ: ∀y∈x::s.aK,aM y=true:=fun y hy=>by
  rcases List.mem_cons.1 hy with rfl|hy
  · exact hx
  · exact h.right y hy
 have hj: ∀z n,bI n=true-> ∀c,hk (setAt (aV (df (s.kn++eQ x.key [⟨x.rep,x.cu⟩]))) z) n c=true ↔ hk (setAt s.kn z) n c=true\/(z=x.key/\n=x.rep/\c=x.cu):=fun z n hn c=>by rw[mi hn,Bool.or_eq_true,hk_one C' hv hn]
 have hct:=h.ct;obtain⟨m1,m2⟩:=fa (x::s.aK)
 exact{
  id:=h.id
  ct:=by show 0<=s.ct+1/\s.ct+1<=_;omega
  len:=by
   show(aN (x::s.aK)).length<=4096;rcases hl with hl|hl
   · have:=jF (x::s.aK);simp only[List.length_cons]at this;omega
   · exact Nat.le_trans (up_len gZ h.up hl) h.len
  fl:=h.fl
  up:=m1
  right:=fun y hy=>(dD hy).2
  kn:=lk _
  inF:=fun z n hn c hc=>by
   rcases(hj z n hn c).1 hc with g|⟨rfl,_,_⟩
   · exact h.inF z n hn c g
   · exact hf
  QB:=fun z c hc=>by
   show c<=s.ct+1;rcases(hj z s.id (bL.2 h.id) c).1 hc with g|⟨_,_,e⟩
   · have:=h.QB z c g;omega
   · omega
  apart:=by
   show(aN (x::s.aK)).Pairwise _
   have DP: ∀y∈s.aK,¬(y.rep=x.rep/\y.cu=x.cu):=fun y hy ⟨e1,e2⟩=>by
    obtain⟨zx,_,_⟩:=Da (h.right y hy)
    have:=(h.aK y hy).2;rw[od zx,e1,hr]at this;have:=h.QB _ _ this;omega
   have gW: ∀y∈aN (x::s.aK),y=x\/y∈s.aK:=fun y hy=>List.mem_cons.1 (dD hy).1;refine List.Pairwise.imp_of_mem ?_ m1;intro a b ha hb Rj ⟨e1,e2⟩
   rcases gW a ha with rfl|Hz<;>rcases gW b hb with rfl|o9
   · rw[lt_irrefl]at Rj;cases Rj
   · exact DP b o9 ⟨e1.symm,e2.symm⟩
   · exact DP a Hz ⟨e1,e2⟩
   · obtain⟨i,hi,rfl⟩:=List.getElem_of_mem Hz
     obtain⟨j,u6,rfl⟩:=List.getElem_of_mem o9;have hp:=List.pairwise_iff_getElem.1 h.apart;rcases Nat.lt_trichotomy i j with r|r|r
     · exact hp i j hi u6 r ⟨e1,e2⟩
     · subst r;rw[lt_irrefl]at Rj;cases Rj
     · exact hp j i u6 hi r ⟨e1.symm,e2.symm⟩
  aK:=fun y hy=>by
   show ar s.fl y.key=true/\bZ (aV (df (s.kn++eQ x.key [⟨x.rep,x.cu⟩]))) y.key y.rep y.cu=true;rcases List.mem_cons.1 (dD hy).1 with rfl|zy
   · exact⟨hf,by rw[od cF];exact(hj _ _ cF _).2 (.inr ⟨rfl,rfl,rfl⟩)⟩
   · obtain⟨zx,_,_⟩:=Da (h.right y zy)
     obtain⟨g1,g2⟩:=h.aK y zy;rw[od zx]at g2;exact⟨g1,by rw[od zx];exact(hj _ _ zx _).2 (.inl g2)⟩}
def Db(s:bh)(l:List It)(k:List Pc):bh:=⟨s.id,s.fl,aN (s.aK++l),aV (df (s.kn++k)),s.ct⟩
theorem QC{s:bh}{l:List It}{k:List Pc}(h:fi s)(hf: ∀x∈l,ar s.fl x.key=true)(ke: ∀x n,bI n=true-> ∀c,hk (setAt k x) n c=true->ar s.fl x=true)
 (OF: ∀x c,hk (setAt k x) s.id c=true->c<=s.ct) (hl: ∀x∈l,bZ s.kn x.key x.rep x.cu=true\/bZ k x.key x.rep x.cu=true)
 (ha:(aN (s.aK++l)).Pairwise fun x y=> ¬(x.rep=y.rep/\x.cu=y.cu)) (hn:(aN (s.aK++l)).length<=4096):fi (Db s l k):=by
 have hj: ∀z n,bI n=true-> ∀c,hk (setAt (aV (df (s.kn++k))) z) n c=true ↔ hk (setAt s.kn z) n c=true\/hk (setAt k z) n c=true:=fun z n hn c=>by rw[mi hn,Bool.or_eq_true]
 obtain⟨m1,m2⟩:=fa (s.aK++l)
 exact{
  id:=h.id
  ct:=h.ct
  len:=hn
  fl:=h.fl
  up:=m1
  right:=fun y hy=>(dD hy).2
  kn:=lk _
  inF:=fun z n hn c hc=>by
   rcases(hj z n hn c).1 hc with g|g
   · exact h.inF z n hn c g
   · exact ke z n hn c g
  QB:=fun z c hc=>by
   rcases(hj z s.id (bL.2 h.id) c).1 hc with g|g
   · exact h.QB z c g
   · exact OF z c g
  apart:=ha
  aK:=fun y hy=>by
   show ar s.fl y.key=true/\bZ (aV (df (s.kn++k))) y.key y.rep y.cu=true;obtain⟨zx,_,_⟩:=Da (dD hy).2;rw[od zx,hj _ _ zx,<-od zx,<-od zx]
   rcases List.mem_append.1 (dD hy).1 with zy|zy
   · exact⟨(h.aK y zy).1,.inl (h.aK y zy).2⟩
   · exact⟨hf y zy,hl y zy⟩}
theorem QD(x:It):bt x x=false:=by simp[bt,yv]
theorem bt_tr{x y z:It}(h:bt x y=true)(h':bt y z=true):bt x z=true:=by simp only[bt,Bool.or_eq_true,Bool.and_eq_true,decide_eq_true_eq,fO]at*;omega
theorem YH{l:List It}{b:It}(h:kB bt l=some b): ∀x∈l,bt x b=false:=by
 cases l with
 |nil=>cases h
 |cons y l=>
  simp only[kB,Option.some.injEq]at h
  have key: ∀(l p:List It) (y:It),(∀x∈p,bt x y=false)-> ∀x∈p++l,bt x (l.foldl (better bt) y)=false:=fun l=>by
   induction l with
   |nil=>intro p y hp x hx;exact hp x (by simpa using hx)
   |cons z l ih=>
    intro p y hp x hx;rw[List.foldl_cons]
    have e:p++z::l=(p++[z])++l:=by simp
    rw[e]at hx;refine ih (p++[z]) _ (fun w hw=> ?_) x hx;unfold better;rcases List.mem_append.1 hw with hw|hw
    · split
      · rename_i hz
        cases g:bt w z with
        |false=>rfl
        |true=>
         have:=bt_tr g hz;rw[hp w hw]at this;cases this
      · exact hp w hw
    · obtain rfl:=List.mem_singleton.1 hw
      split
      · exact QD w
      · rename_i hz;simpa using hz
  intro x hx;have:=key l [y] y (fun x hx=>by obtain rfl:=List.mem_singleton.1 hx;exact QD x) x (by simpa using hx)
  rw[h]at this;exact this
theorem UR{l:List It}{x:It}(hx:x∈l)(hr:aM x=true): ∃y∈aN l,y.key=x.key/\bt x y=false:=by
 cases hb:kB bt ((l.filter aM).filter fun y=>x.key==y.key)with
 |none=>
  have:=wI hb;have hm:x∈(l.filter aM).filter fun y=>x.key==y.key:=List.mem_filter.2 ⟨List.mem_filter.2 ⟨hx,hr⟩,by simp⟩
  rw[this]at hm;cases hm
 |some y=>
  have hy:=(List.mem_filter.1 (mV hb)).2;have hy:x.key=y.key:=by simpa using hy
  refine⟨y,((fa l).2 y).2 (by rw[<-hy];exact hb),hy.symm,YH hb x (List.mem_filter.2 ⟨List.mem_filter.2 ⟨hx,hr⟩,by simp⟩)⟩
set_option maxRecDepth 20000
set_option maxHeartbeats 8000000
def YI:It:=⟨[],0,0,0,0,false,[]⟩
def er(l:List It)(k:List UInt8):Option It:=l.find? fun x=>x.key==k
def JI:Option It->A
 |some x=> .cx [x.enc,.bool true]
 |none=> .cx [YI.enc,.bool false]
theorem JJ:ai Tryz.prog rf Tryz.f37.ntmps (Tryz.f37.body.getD .skip)=true:=by kernel_rfl
theorem Nz(s:bh)(k:List UInt8)(hl:s.aK.length<=1000000):az Tryz.prog 37 [s.enc,.str k] (· =JI (er s.aK k)):=by
 refine aa kC mixed Tryz.func37 rfl (Nat.le_of_ble_eq_true rfl) JJ ?_;unfold Tryz.f37;obtain⟨id,F,I,K,ct⟩:=s;simp only[bh.enc,bh.cells]at*;simp-implicitDefEqProofs (disch:=(first|omega|decide)) only[go_sem,↓reduceIte,seval,List.length_map]
 refine ao [1,2,4,9,10] (ι:={i:Nat//i<=I.length/\er I k=er (I.drop i) k}) (fun i=>[(11,.int .i64 i.1)]) (fun _=>[]) (fun i=>I.length-i.1) ⟨0,by omega,rfl⟩ (Nat.zero_le _) ?_ ?_
 · simp-implicitDefEqProofs (disch:=(first|omega|decide)) only[go_sem,↓reduceIte,seval]
   try rfl
 · rintro⟨i,hi,hd⟩
   simp only;by_cases aw:i<I.length
   · have ae:(i:Int)<(I.length:Int):=by omega
     have e1:=dK aw;rw[List.drop_eq_getElem_cons aw]at hd;generalize I[i]=x at*;cases hk:x.key==k with
     |true=>
      have hg:er I k=some x:=by rw[hd];simp[er,hk]
      rw[hg]
      simp-implicitDefEqProofs (disch:=(first|omega|decide)) only[go_sem,↓reduceIte,seval,ae,e1,hk,wrap_i64,List.length_map]
      rfl
     |false=>
      have hg:er I k=er (I.drop (i+1)) k:=by rw[hd];simp[er,hk]
      simp-implicitDefEqProofs (disch:=(first|omega|decide)) only[go_sem,↓reduceIte,seval,ae,e1,hk,wrap_i64,List.length_map]
      exact⟨⟨i+1,aw,hg⟩,by simp,by show I.length-(i+1)<I.length-i;omega⟩
   · have ae: ¬(i:Int)<(I.length:Int):=by omega
     rw[List.drop_of_length_le (by omega)]at hd;have hg:er I k=none:=hd;rw[hg]
     simp-implicitDefEqProofs (disch:=(first|omega|decide)) only[go_sem,↓reduceIte,seval,ae,List.length_map]
     rfl
def lF(l:List It)(k:List UInt8):Int:=match l.findIdx? fun x=>x.key==k with|some i=>(i:Int)|none=> -1
theorem JK:ai Tryz.prog rf Tryz.f87.ntmps (Tryz.f87.body.getD .skip)=true:=by kernel_rfl
theorem NA(l:List It)(hl:l.length<=4611686018427387904)(ho:sP l):az Tryz.prog 87 [.ad (l.map It.enc)] (· = .bool (b_ l)):=by
 refine aa kC mixed Tryz.func87 rfl (Nat.le_of_ble_eq_true rfl) JK ?_;unfold Tryz.f87;simp-implicitDefEqProofs (disch:=(first|omega|decide)) only[go_sem,↓reduceIte,seval,List.length_map]
 refine ao [0,5,6] (ι:={k:Nat//k<=l.length/\b_ l=goI (oA l k) (l.drop k)}) (fun p=>[(7,.int .i64 p.1)]) (fun _=>[]) (fun p=>l.length-p.1) ⟨0,by omega,rfl⟩ (Nat.zero_le _) ?_ ?_
 · simp-implicitDefEqProofs (disch:=(first|omega|decide)) only[go_sem,↓reduceIte,seval]
 · rintro⟨k,hk,hd⟩
   simp only;by_cases aw:k<l.length
   · have ae:(k:Int)<(l.length:Int):=by omega
     have e1:=dK aw;have G0:=ho _ (List.getElem_mem aw)
     have N5:oA l (k+1)=some l[k].key:=by simp[oA,aw]
     rw[List.drop_eq_getElem_cons aw]at hd;simp only[goI]at hd;rw[<-N5]at hd;generalize hx:l[k]=x at*;obtain⟨key,rep,cu,bq,prio,dead,body⟩:=x;have g1:=Sf G0;simp only at hd e1 G0;cases hr:aM ⟨key,rep,cu,bq,prio,dead,body⟩with
     |false=>
      rw[hr]at g1 hd;rw[Bool.false_and,Bool.false_and]at hd;simp-implicitDefEqProofs (disch:=(first|omega|decide)) only[go_sem,↓reduceIte,seval,ae,e1,g1,hd,List.length_map]
     |true=>
      rw[hr]at g1 hd;cases k with
      |zero=>
       rw[show oA l 0=none from rfl,Bool.true_and,Bool.true_and]at hd;have hlt0:(0:Int)<(l.length:Int):=by omega
       simp-implicitDefEqProofs (disch:=(first|omega|decide)) only[go_sem,↓reduceIte,seval,ae,hlt0,e1,g1,wrap_i64,List.length_map]
       exact⟨⟨1,aw,hd⟩,by simp,by show l.length-1<l.length-0;omega⟩
      |succ j=>
       have hj:j<l.length:=by omega
       have e2:=dK hj;have hoy:=ho _ (List.getElem_mem hj)
       have Ic:oA l (j+1)=some l[j].key:=by simp[oA,hj]
       rw[Ic]at hd;generalize hy:l[j]=y at*;obtain⟨Nl,Fj,Jz,rank',prio',dead',body'⟩:=y;simp only at hd e2 hoy;have c0:(0:Int)<((j+1:Nat):Int):=by omega
       have c1:(((j+1:Nat):Int)-1).toNat=j:=by omega
       have c2:(0:Int)<=((j+1:Nat):Int)-1:=by omega
       have c3:((j+1:Nat):Int)-1<(l.length:Int):=by omega
       have g2:=GR (a:=Nl) (b:=key) ⟨hoy.1,G0.1⟩
       cases hb:aQ Nl key with
       |false=>
          rw[hb]at hd;rw[Bool.and_false,Bool.false_and]at hd;simp-implicitDefEqProofs (disch:=(first|omega|decide)) only[go_sem,↓reduceIte,seval,ae,e1,e2,g1,g2,hb,c0,c1,c2,c3,hd,wrap_i64,List.length_map]
       |true=>
          rw[hb]at hd;rw[Bool.and_true,Bool.true_and]at hd;simp-implicitDefEqProofs (disch:=(first|omega|decide)) only[go_sem,↓reduceIte,seval,ae,e1,e2,g1,g2,hb,c0,c1,c2,c3,wrap_i64,List.length_map]
          exact⟨⟨j+1+1,aw,hd⟩,by simp,by show l.length-(j+1+1)<l.length-(j+1);omega⟩
   · have ae: ¬(k:Int)<(l.length:Int):=by omega
     rw[List.drop_of_length_le (by omega)]at hd;have hd:b_ l=true:=hd;simp-implicitDefEqProofs (disch:=(first|omega|decide)) only[go_sem,↓reduceIte,seval,ae,hd,List.length_map]
theorem Fx:ai Tryz.prog rf Tryz.f89.ntmps (Tryz.f89.body.getD .skip)=true:=by kernel_rfl
theorem JL(k:List Pc)(id:Int)(hk:gn k):az Tryz.prog 89 [.ad (k.map Pc.enc),.int .i64 id] (· = .int .i64 (dc k id)):=by
 refine aa kC mixed Tryz.func89 rfl (Nat.le_of_ble_eq_true rfl) Fx ?_;unfold Tryz.f89;have Vn:=hk.1.1.1;have m0:dc (k.take 0) id=0:=rfl;simp-implicitDefEqProofs (disch:=(first|omega|decide)) only[go_sem,↓reduceIte,seval,List.length_map]
 refine ao [1,8,9] (ι:={i:Nat//i<=k.length}) (fun p=>[(10,.int .i64 p.1),(5,.int .i64 (dc (k.take p.1) id))]) (fun _=>[]) (fun p=>k.length-p.1) ⟨0,by omega⟩ (Nat.zero_le _) ?_ ?_
 · simp-implicitDefEqProofs (disch:=(first|omega|decide)) only[go_sem,↓reduceIte,seval,m0]
   try rfl
 · rintro⟨i,hi⟩
   simp only;by_cases aw:i<k.length
   · have ae:(i:Int)<(k.length:Int):=by omega
     have e1:=fM aw;have hm:=Sg hk (List.getElem_mem aw)
     have g1:=l_Most (s:=k[i].s) (n:=id) hm.1;have e3:(if bI id=true then eI (cw (ah (aB k[i].s id)))else 0)=oz k[i] id:=rfl;rw[e3]at g1;have hs:=CU (id:=id) aw;generalize oz k[i] id=m at*;obtain⟨a,ha⟩: ∃a,dc (k.take i) id=a:=⟨_,rfl⟩
     rw[ha]at hs⊢;have KK:=Yp a m;generalize k[i]=p at*;obtain⟨⟨lo,eW,op⟩,ks⟩:=p;simp only at e1 g1;simp-implicitDefEqProofs (disch:=(first|omega|decide)) only[go_sem,↓reduceIte,seval,ae,e1,g1,wrap_i64,List.length_map]
     exact⟨⟨i+1,aw⟩,⟨by simp,by rw[hs];exact KK⟩,by show k.length-(i+1)<k.length-i;omega⟩
   · have ae: ¬(i:Int)<(k.length:Int):=by omega
     rw[List.take_of_length_le (by omega)]
     simp-implicitDefEqProofs (disch:=(first|omega|decide)) only[go_sem,↓reduceIte,seval,ae,List.length_map]
def QE:aj:={rf with c6:=fun n=>if n=7 then [[999999,0]]else []}
theorem X23a_ok:ag Tryz.prog QE:=⟨kC.f,kC.hp⟩
@[go_sem] theorem X23a_f:QE.f=rf.f:=rfl
@[go_sem] theorem X23a_eff{g:FuncId}:QE.l_ g=false:=rfl
@[go_sem] theorem X23a_fix{n:Nat}:QE.fix n=false:=rfl
@[go_sem] theorem X23a_ords7:QE.c6 7=[[999999,0]]:=rfl
@[go_sem] theorem X23a_ords{n:Nat}(h:n≠7):QE.c6 n=[]:=if_neg h
def oD(x:It):bS:=⟨x.rep,x.cu⟩
theorem NB: ∀{s:List bS},s.Pairwise (fun x y=> ¬fA y x<0)->(aT s).Pairwise (fun a b=>yv a b=true)
 | [],_=>by simp[aT]
 | [x],_=>by simp[aT]
 |x::y::s,h=>by
  rw[List.pairwise_cons]at h;have ih:=NB h.2;simp only[aT]
  split
  · exact ih
  · rename_i bU
    have hle: ∀a,¬fA a x<0->a≠x->yv x a=true:=fun a h1 h2=>by
     rw[zN,fO]at h1;rw[fO]
     have hc: ¬(x.r=a.r/\x.c=a.c):=fun⟨p,q⟩=>h2 (IY p q).symm;omega
    have LW:=hle y (h.1 y (by simp)) (fun e=>bU e.symm)
    rw[List.pairwise_cons]
    refine⟨fun z hz=> ?_,ih⟩
    rw[kM]at hz;rcases List.mem_cons.1 hz with rfl|hz
    · exact LW
    · have h3:=(List.pairwise_cons.1 h.2).1 z hz
      rw[zN,fO]at h3;rw[fO]at LW⊢;omega
theorem US(l:List bS):(ec l).Pairwise (fun a b=>a≠b):=by
 have hp:=((dC Ug (l.filter aL)).2)
 unfold ec;exact(NB hp).imp fun{a b} h e=>by rw[e,fO]at h;omega
theorem Dc: ∀{s:List bS},s.Nodup->aT s=s
 | [],_=>rfl
 | [x],_=>rfl
 |x::y::s,h=>by
  have bU:x≠y:=fun e=>(List.nodup_cons.1 h).1 (by rw[e];simp)
  simp only[aT]
  rw[if_neg bU,Dc (List.nodup_cons.1 h).2]
theorem QF{l:List bS}(h: ∀v∈l,aL v=true):(ec l).length=l.length ↔ l.Nodup:=by
 have hf:l.filter aL=l:=List.filter_eq_self.2 h;have hp:=(dC Ug (l.filter aL)).1;rw[hf]at hp;constructor
 · intro hl
   have hs:aT (cW fA l)=cW fA l:=by
    refine(GL _).eq_of_length ?_;have:(ec l).length=(aT (cW fA l)).length:=by unfold ec;rw[hf]
    rw[<-this,hl,hp.length_eq]
   have h2:=US l;unfold ec at h2;rw[hf,hs]at h2;exact hp.nodup_iff.1 h2
 · intro hn
   have h2:(cW fA l).Nodup:=hp.nodup_iff.2 hn;have hs:aT (cW fA l)=cW fA l:=by exact Dc h2
   unfold ec;rw[hf,hs,hp.length_eq]
theorem NC(l:List It):cY l=decide ((l.map oD).Nodup):=by
 rw[Bool.eq_iff_iff,qS,decide_eq_true_iff,List.Nodup,List.pairwise_map]
 constructor
 · intro h
   exact h.imp fun{a b} Rj e=>Rj ⟨congrArg bS.r e,congrArg bS.c e⟩
 · intro h
   exact h.imp fun{a b} Rj ⟨e1,e2⟩=>Rj (IY e1 e2)
theorem Dd:ai Tryz.prog QE Tryz.f91.ntmps (Tryz.f91.body.getD .skip)=true:=by kernel_rfl
theorem Fy(l:List It)(hl:l.length<=1000000)(hr: ∀x∈l,aM x=true):az Tryz.prog 91 [.ad (l.map It.enc)] (· = .bool (cY l)):=by
 refine aa X23a_ok mixed Tryz.func91 rfl (Nat.le_of_ble_eq_true rfl) Dd ?_;unfold Tryz.f91;have tk: ∀m:List bS,(m.map bS.enc).take m.length=m.map bS.enc:=fun m=>List.take_of_length_le (by simp)
 simp-implicitDefEqProofs (disch:=(first|omega|decide)) only[go_sem,↓reduceIte,seval,List.length_map]
 refine aU 3 2 rfl ?_;refine ao [0,6,7] (ι:={k:Nat//k<=l.length}) (fun p=>[(8,.int .i64 p.1),(3,.row 0 0 2 p.1 false)]) (fun p=>[(0,.row 2 (((l.take p.1).map oD).map bS.enc))]) (fun p=>l.length-p.1) ⟨0,by omega⟩ (Nat.zero_le _) ?_ ?_
 · simp-implicitDefEqProofs (disch:=(first|omega|decide)) only[go_sem,↓reduceIte,seval]
   first|done|simp
 · rintro⟨k,hk⟩
   simp only;by_cases aw:k<l.length
   · have ae:(k:Int)<(l.length:Int):=by omega
     have e1:=dK aw;have iN:((l.take (k+1)).map oD).map bS.enc=((l.take k).map oD).map bS.enc++[.agg [.int .i64 l[k].rep,.int .i64 l[k].cu]]:=by rw[<-List.take_append_getElem aw,List.map_append,List.map_append];rfl
     have qx:((l.take k).map oD).length=k:=by rw[List.length_map,List.length_take];omega
     have tkm:=tk ((l.take k).map oD)
     rw[qx]at tkm;generalize(l.take k).map oD=m at*;generalize l[k]=x at*;simp-implicitDefEqProofs (disch:=(first|omega|decide)) only[go_sem,↓reduceIte,seval,ae,e1,tkm,qx,wrap_i64,List.length_map]
     exact⟨⟨Nat.le_refl _,by omega⟩,⟨k+1,aw⟩,⟨⟨by simp,rfl⟩,iN.symm⟩,by show l.length-(k+1)<l.length-k;omega⟩
   · have ae: ¬(k:Int)<(l.length:Int):=by omega
     obtain rfl:k=l.length:=by omega
     rw[List.take_of_length_le (Nat.le_refl _)]
     have tkm:=tk (l.map oD)
     rw[List.length_map]at tkm;have hrv: ∀v∈l.map oD,aL v=true:=fun v hv=>by obtain⟨x,hx,rfl⟩:=List.mem_map.1 hv;have:=hr x hx;exact(Da this).2.2
     have gs:=MX (l:=l.map oD) (by rw[List.length_map];exact hl)
     have hsa:=QF hrv;rw[List.length_map]at hsa;rw[NC]
     have hvl:(l.map oD).length=l.length:=List.length_map _;generalize l.map oD=vs at*;generalize ec vs=sv at*;have dQ:((sv.length:Int)==(l.length:Int))=decide vs.Nodup:=by rw[Bool.eq_iff_iff,beq_iff_eq,decide_eq_true_iff,<-hsa];omega
     simp-implicitDefEqProofs (disch:=(first|omega|decide)) only[go_sem,↓reduceIte,seval,ae,gs,tkm,hvl,dQ,List.length_map,Nat.le_refl]
def QG:aj:=rf.add 87 (entry (fun(l:List It)=>[.ad (l.map It.enc)]) (fun l=>l.length<=1000000/\sP l) (fun l=> .bool (b_ l)))
theorem Y23a_ok:ag Tryz.prog QG:=kC.bG Tryz.func87 (by kernel_rfl) (by kernel_rfl) fun l h=>NA l (Nat.le_trans h.1 (by decide)) h.2
@[go_sem] theorem Y23a_old{g:FuncId}{xs:List A}(h:g≠87):QG.f g xs=rf.f g xs:=aj.ak h
theorem De(l:List It)(h:l.length<=1000000/\sP l):QG.f 87 [.ad (l.map It.enc)]=some (.bool (b_ l)):=aj.an (Γ:=rf) (fun i j h=>by simpa[Prod.ext_iff,and_assoc]using h) l h
def QH:aj:=QG.add 89 (entry (fun(v:List Pc×Int)=>[.ad (v.1.map Pc.enc),.int .i64 v.2]) (fun v=>gn v.1) (fun v=> .int .i64 (dc v.1 v.2)))
theorem Y23b_ok:ag Tryz.prog QH:=Y23a_ok.bG Tryz.func89 (by kernel_rfl) (by kernel_rfl) fun v h=>JL v.1 v.2 h
@[go_sem] theorem Y23b_old{g:FuncId}{xs:List A}(h:g≠89):QH.f g xs=QG.f g xs:=aj.ak h
theorem zg(v:List Pc×Int)(h:gn v.1):QH.f 89 [.ad (v.1.map Pc.enc),.int .i64 v.2]=some (.int .i64 (dc v.1 v.2)):=aj.an (Γ:=QG) (fun i j h=>by simpa[Prod.ext_iff,and_assoc]using h) v h
def QI:aj:=QH.add 91 (entry (fun(l:List It)=>[.ad (l.map It.enc)]) (fun l=>l.length<=1000000/\ ∀x∈l,aM x=true) (fun l=> .bool (cY l)))
theorem Y23c_ok:ag Tryz.prog QI:=Y23b_ok.bG Tryz.func91 (by kernel_rfl) (by kernel_rfl) fun l h=>Fy l h.1 h.2
@[go_sem] theorem Y23c_old{g:FuncId}{xs:List A}(h:g≠91):QI.f g xs=QH.f g xs:=aj.ak h
theorem wN(l:List It)(h:l.length<=1000000/\ ∀x∈l,aM x=true):QI.f 91 [.ad (l.map It.enc)]=some (.bool (cY l)):=aj.an (Γ:=QH) (fun i j h=>by simpa[Prod.ext_iff,and_assoc]using h) l h
def ND:aj:=QI.add 109 (entry (fun(l:List ax)=>[.ad (l.map ax.enc)]) (fun l=>l.length<=100000/\dp l) (fun l=> .bool (aO l)))
theorem Y23d_ok:ag Tryz.prog ND:=Y23c_ok.bG Tryz.func109 (by kernel_rfl) (by kernel_rfl) fun l h=>pU l (Nat.le_trans h.1 (by decide)) h.2
@[go_sem] theorem Y23d_old{g:FuncId}{xs:List A}(h:g≠109):ND.f g xs=QI.f g xs:=aj.ak h
theorem uT(l:List ax)(h:l.length<=100000/\dp l):ND.f 109 [.ad (l.map ax.enc)]=some (.bool (aO l)):=aj.an (Γ:=QI) (fun i j h=>by simpa[Prod.ext_iff,and_assoc]using h) l h
def Fz:aj:=ND.add 37 (entry (fun(v:bh×List UInt8)=>[v.1.enc,.str v.2]) (fun v=>v.1.aK.length<=1000000) (fun v=>JI (er v.1.aK v.2)))
theorem Sn:ag Tryz.prog Fz:=Y23d_ok.bG Tryz.func37 (by kernel_rfl) (by kernel_rfl) fun v h=>Nz v.1 v.2 h
@[go_sem] theorem Y23e_old{g:FuncId}{xs:List A}(h:g≠37):Fz.f g xs=ND.f g xs:=aj.ak h
@[go_sem] theorem Y23e_s:Fz.pl ND:=⟨fun _=>rfl,fun _=>rfl,rfl,fun _=>rfl,rfl,fun _=>rfl,rfl⟩
theorem Df(v:bh×List UInt8)(h:v.1.aK.length<=1000000):Fz.f 37 [v.1.enc,.str v.2]=some (JI (er v.1.aK v.2)):=aj.an (Γ:=ND) (fun i j h=>by simpa[Prod.ext_iff,and_assoc]using h) v h
theorem YJ{l:List It}(h:l.length<=1000000/\sP l):QG.f 87 [.ad (l.map It.enc)]=some (.bool (b_ l)):=De l h
theorem YK{k:List Pc}{id:Int}(h:gn k):QH.f 89 [.ad (k.map Pc.enc),.int .i64 id]=some (.int .i64 (dc k id)):=zg (k,id) h
theorem Sp{l:List It}(h:l.length<=1000000/\ ∀x∈l,aM x=true):QI.f 91 [.ad (l.map It.enc)]=some (.bool (cY l)):=wN l h
theorem YL{l:List ax}(h:l.length<=100000/\dp l):ND.f 109 [.ad (l.map ax.enc)]=some (.bool (aO l)):=uT l h
theorem Sq{s:bh}{k:List UInt8}(h:s.aK.length<=1000000):Fz.f 37 [.agg [.int .i64 s.id,.ad (s.fl.map ax.enc),.ad (s.aK.map It.enc),.ad (s.kn.map Pc.enc),.int .i64 s.ct],.str k]=some (JI (er s.aK k)):=Df (s,k) h
theorem Dg:ai Tryz.prog Fz Tryz.f56.ntmps (Tryz.f56.body.getD .skip)=true:=by kernel_rfl
theorem rR(s:bh)(h:s_ s):az Tryz.prog 56 [s.enc] (· = .bool (cp s)):=by
 refine aa Sn mixed Tryz.func56 rfl (Nat.le_of_ble_eq_true rfl) Dg ?_;unfold Tryz.f56;obtain⟨⟨hf1,Vf⟩,⟨hi1,tg⟩,⟨ke,OF⟩,hr⟩:=h;have g1:=YL (l:=s.fl) ⟨by omega,Vf⟩
 have g2:=YJ (l:=s.aK) ⟨hi1,tg⟩
 have g3:=I9 ke.1;have g4:=CH (k:=s.kn) (l:=s.fl) ke.1 (by omega) Vf;rw[Ni]at g4;have ea:df (aV (br s.kn s.fl))=br s.kn s.fl:=Yg (qf _ _) (Qk _ _)
 have g5:aS s.kn=true->_:=fun HJ=>p_Same (a:=aV (br s.kn s.fl)) (b:=s.kn) hr ke.1 (by rw[ea];exact hr) (by rw[kN HJ];exact ke.1)
 have g5:aS s.kn=true->M8.f 110 [.ad ((aV (br s.kn s.fl)).map Pc.enc),.ad (s.kn.map Pc.enc)]=some (.bool (cX (aV (br s.kn s.fl)) s.kn)):=fun HJ=>by
  have:=g5 HJ
  rwa [ea,kN HJ]at this
 have g6:=YK (id:=s.id) ke;have g7:b_ s.aK=true->_:=fun hh=>Sp (l:=s.aK) ⟨hi1,(JH.1 hh).1⟩
 have g8: ∀x:List UInt8,x.length<=9223372036854775807->MV.f 70 [.ad (s.fl.map ax.enc),.str x]=some (.bool (ar s.fl x)):=fun x hx=>kA (by omega) Vf hx;have g9: ∀(x:List UInt8) (n c:Int),x.length<=9223372036854775807->EZ.f 71 [.ad (s.kn.map Pc.enc),.str x,.agg [.int .i64 n,.int .i64 c]]=some (.bool (bZ s.kn x n c)):=fun x n c hx=>Yf ke.1 hx;have hR:cp s=(!(decide (s.id<1)||decide (16<s.id))&& !(decide (s.ct<0)||decide (1099511627776<s.ct))&&decide (s.aK.length<=4096)&&aO s.fl&&b_ s.aK&&aS s.kn&&cX (aV (br s.kn s.fl)) s.kn&&decide (dc s.kn s.id<=s.ct)&&cY s.aK&&s.aK.all fun x=>ar s.fl x.key&&bZ s.kn x.key x.rep x.cu):=rfl;rw[hR]
 obtain⟨id,F,I,K,ct⟩:=s;simp only[bh.enc,bh.cells]at*;clear ea hR;generalize aV (br K F)=Q at*;generalize dc K id=m at*;by_cases c1:id<1
 · simp-implicitDefEqProofs (disch:=(first|omega|decide)) only[go_sem,↓reduceIte,seval,c1]
 · by_cases c2:16<id
   · simp-implicitDefEqProofs (disch:=(first|omega|decide)) only[go_sem,↓reduceIte,seval,c1,c2]
   · by_cases c3:ct<0
     · simp-implicitDefEqProofs (disch:=(first|omega|decide)) only[go_sem,↓reduceIte,seval,c1,c2,c3]
     · by_cases c4:1099511627776<ct
       · simp-implicitDefEqProofs (disch:=(first|omega|decide)) only[go_sem,↓reduceIte,seval,c1,c2,c3,c4]
       · cases d1:aO F with
         |false=>rw[d1]at g1;simp-implicitDefEqProofs (disch:=(first|omega|decide)) only[go_sem,↓reduceIte,seval,c1,c2,c3,c4,g1,Bool.and_false,Bool.false_and,List.length_map]
         |true=>
          rw[d1]at g1;by_cases c5:I.length<=4096
          · have Ks: ¬(4096:Int)<(I.length:Int):=by omega
            cases d2:b_ I with
            |false=>rw[d2]at g2;simp-implicitDefEqProofs (disch:=(first|omega|decide)) only[go_sem,↓reduceIte,seval,c1,c2,c3,c4,c5,Ks,g1,g2,List.length_map]
            |true=>
             rw[d2]at g2;have g7:=g7 d2;cases d3:aS K with
             |false=>rw[d3]at g3;simp-implicitDefEqProofs (disch:=(first|omega|decide)) only[go_sem,↓reduceIte,seval,c1,c2,c3,c4,c5,Ks,g1,g2,g3,List.length_map]
             |true=>
              rw[d3]at g3;have g5:=g5 d3;cases d4:cX Q K with
              |false=>rw[d4]at g5;simp-implicitDefEqProofs (maxSteps:=600000) (disch:=(first|omega|decide)) only[go_sem,↓reduceIte,seval,c1,c2,c3,c4,c5,Ks,g1,g2,g3,g4,g5,List.length_map]
              |true=>
               rw[d4]at g5;by_cases d5:m<=ct
               · have d5': ¬ct<m:=by omega
                 cases d6:cY I with
                 |false=>rw[d6]at g7;simp-implicitDefEqProofs (maxSteps:=600000) (disch:=(first|omega|decide)) only[go_sem,↓reduceIte,seval,c1,c2,c3,c4,c5,Ks,g1,g2,g3,g4,g5,g6,g7,d5,d5',List.length_map]
                 |true=>
                  rw[d6]at g7;simp-implicitDefEqProofs (maxSteps:=600000) (disch:=(first|omega|decide)) only[go_sem,↓reduceIte,seval,c1,c2,c3,c4,c5,Ks,g1,g2,g3,g4,g5,g6,g7,d5,d5',List.length_map]
                  refine ao [1,72,73] (ι:={i:Nat//i<=I.length/\(I.all fun x=>ar F x.key&&bZ K x.key x.rep x.cu)=((I.drop i).all fun x=>ar F x.key&&bZ K x.key x.rep x.cu)}) (fun p=>[(74,.int .i64 p.1)]) (fun _=>[]) (fun p=>I.length-p.1) ⟨0,by omega,rfl⟩ (Nat.zero_le _) ?_ ?_
                  · simp-implicitDefEqProofs (disch:=(first|omega|decide)) only[go_sem,↓reduceIte,seval]
                    try rfl
                  · rintro⟨i,hi,hd⟩
                    simp only;by_cases aw:i<I.length
                    · have ae:(i:Int)<(I.length:Int):=by omega
                      have ei:=dK aw;have G0:=tg _ (List.getElem_mem aw)
                      rw[List.drop_eq_getElem_cons aw,List.all_cons]at hd;generalize I[i]=x at*;have g8:=g8 x.key G0.1;have g9:=g9 x.key x.rep x.cu G0.1;cases k1:ar F x.key with
                      |false=>
                       rw[k1]at g8 hd;rw[Bool.false_and,Bool.false_and]at hd;simp-implicitDefEqProofs (disch:=(first|omega|decide)) only[go_sem,↓reduceIte,seval,ae,ei,g8,hd,List.length_map]
                      |true=>
                       rw[k1]at g8 hd;cases k2:bZ K x.key x.rep x.cu with
                       |false=>
                        rw[k2]at g9 hd;rw[Bool.and_false,Bool.false_and]at hd;simp-implicitDefEqProofs (disch:=(first|omega|decide)) only[go_sem,↓reduceIte,seval,ae,ei,g8,g9,hd,List.length_map]
                       |true=>
                        rw[k2]at g9 hd;rw[Bool.and_true,Bool.true_and]at hd;simp-implicitDefEqProofs (disch:=(first|omega|decide)) only[go_sem,↓reduceIte,seval,ae,ei,g8,g9,wrap_i64,List.length_map]
                        exact⟨⟨i+1,aw,hd⟩,by simp,by show I.length-(i+1)<I.length-i;omega⟩
                    · have ae: ¬(i:Int)<(I.length:Int):=by omega
                      rw[List.drop_of_length_le (by omega)]at hd;have hd:(I.all fun x=>ar F x.key&&bZ K x.key x.rep x.cu)=true:=hd;simp-implicitDefEqProofs (disch:=(first|omega|decide)) only[go_sem,↓reduceIte,seval,ae,hd,List.length_map]
               · have d5':ct<m:=by omega
                 simp-implicitDefEqProofs (maxSteps:=600000) (disch:=(first|omega|decide)) only[go_sem,↓reduceIte,seval,c1,c2,c3,c4,c5,Ks,g1,g2,g3,g4,g5,g6,d5,d5',List.length_map]
          · have Ks:(4096:Int)<(I.length:Int):=by omega
            simp-implicitDefEqProofs (disch:=(first|omega|decide)) only[go_sem,↓reduceIte,seval,c1,c2,c3,c4,c5,Ks,g1,List.length_map]
def QJ:aj:=Fz.add 56 (entry (fun(s:bh)=>[s.enc]) (fun s=>s_ s) (fun s=> .bool (cp s)))
theorem zR:ag Tryz.prog QJ:=Sn.bG Tryz.func56 (by kernel_rfl) (by kernel_rfl) fun s h=>rR s h
@[go_sem] theorem Y23f_old{g:FuncId}{xs:List A}(h:g≠56):QJ.f g xs=Fz.f g xs:=aj.ak h
@[go_sem] theorem Y23f_s:QJ.pl Fz:=⟨fun _=>rfl,fun _=>rfl,rfl,fun _=>rfl,rfl,fun _=>rfl,rfl⟩
abbrev UT:=List It×List It×List It×List It
def rh(v:UT):List It:=v.1++(v.2.1++(v.2.2.1++v.2.2.2))
def wO(v:UT):List A:=[.row 0 0 7 (rh v).length false,.int .i64 v.1.length,.int .i64 (v.1.length+v.2.1.length:Nat),.int .i64 (v.1.length+v.2.1.length+v.2.2.1.length:Nat),.fn 148 []]
def rtK(v:UT):Prop:=(rh v).length<=1000000/\0<v.2.1.length/\0<v.2.2.1.length
def rtR(v:UT):A×List Go.bJ.Obj×List Nat:=(.cx [],gj (v.1++(v.2.2.1++(v.2.1++v.2.2.2))),[])
def smK(n:Nat)(v:UT):Prop:=rtK v/\jX cm v.2.1/\jX cm v.2.2.1/\(∀x∈v.2.1,x.ok)/\(∀x∈v.2.2.1,x.ok)/\v.2.1.length+v.2.2.1.length<n
def Vw(v:UT):A×List Go.bJ.Obj×List Nat:=(.cx [],gj (v.1++(bg cm (v.2.1++v.2.2.1)++v.2.2.2)),[])
theorem QK(i j:UT)(h:wO i=wO j)(h':gj (rh i)=gj (rh j)):i=j:=by
 obtain⟨P,U,W,Q⟩:=i;obtain⟨P',U',W',Q'⟩:=j;have e:=uQ h';simp only[wO,List.cons.injEq,A.int.injEq,true_and,and_true,Int.ofNat_inj]at h;obtain⟨_,h1,h2,h3⟩:=h;simp only[rh]at e;obtain⟨p1,e1⟩:=List.append_inj e h1;obtain⟨p2,e2⟩:=List.append_inj e1 (by rw[p1]at h2;omega)
 obtain⟨p3,p4⟩:=List.append_inj e2 (by rw[p1,p2]at h3;omega)
 rw[p1,p2,p3,p4]
def TIc(n:Nat):aj:=(Vv.eP 236 (bo wO (fun v=>gj (rh v)) rtK rtR)).eP 208 (bo wO (fun v=>gj (rh v)) (smK n) Vw)
def N9(n:Nat):aj:={TIc n with l_:=fun f=>f==236||f==208}
@[go_sem] theorem TIm_f{m:Nat}:(N9 m).f=TIa.f:=rfl
@[go_sem] theorem TIm_eff{m:Nat}{g:FuncId}:(N9 m).l_ g=(g==236||g==208):=rfl
@[go_sem] theorem TIm_frz{m:Nat}{g:FuncId}:(N9 m).qU g=false:=rfl
@[go_sem] theorem TIm_effT{m:Nat}:(N9 m).SZ=false:=rfl
@[go_sem] theorem TIm_ords{m n:Nat}:(N9 m).c6 n=[]:=rfl
theorem hp_rot{m N a b c:Nat}{P U W Q R0 R1:List It}(e0:P++(U++(W++Q))=R0)(e1:P++(W++(U++Q))=R1)(hN:R0.length=N)(hl:N<=1000000)(ha:P.length=a)(hb:a+U.length=b)(hc:b+W.length=c)(hU:0<U.length)(hW:0<W.length):(N9 m).hp 236 [.row 0 0 7 N false,.int .i64 (a:Int),.int .i64 (b:Int),.int .i64 (c:Int),.fn 148 []] [.row 7 (R0.map It.enc)]=some (.cx [],[.row 7 (R1.map It.enc)],[]):=by subst e0 e1 hN ha hb hc;have UM:(TIc m).hp 236 (wO (P,U,W,Q)) (gj (rh (P,U,W,Q)))=bo wO (fun v=>gj (rh v)) rtK rtR (wO (P,U,W,Q)) (gj (rh (P,U,W,Q))):=(aj.qC (by decide)).trans aj.dZ;have h0:(N9 m).hp 236 (wO (P,U,W,Q)) (gj (rh (P,U,W,Q)))=bo wO (fun v=>gj (rh v)) rtK rtR (wO (P,U,W,Q)) (gj (rh (P,U,W,Q))):=UM;exact h0.trans (cM (DE:=fun v:UT=>gj (rh v)) QK (P,U,W,Q) ⟨hl,hU,hW⟩)
theorem YM{m N a b c:Nat}{P U W Q R0 R1:List It}(e0:P++(U++(W++Q))=R0)(e1:P++(bg cm (U++W)++Q)=R1)(hN:R0.length=N)(hl:N<=1000000)(ha:P.length=a)(hb:a+U.length=b)(hc:b+W.length=c)(hU:0<U.length)(hW:0<W.length)(sU:jX cm U)(sW:jX cm W)(kU: ∀x∈U,x.ok)(kW: ∀x∈W,x.ok)(hm:U.length+W.length<m):(N9 m).hp 208 [.row 0 0 7 N false,.int .i64 (a:Int),.int .i64 (b:Int),.int .i64 (c:Int),.fn 148 []] [.row 7 (R0.map It.enc)]=some (.cx [],[.row 7 (R1.map It.enc)],[]):=by subst e0 e1 hN ha hb hc;have UM:(TIc m).hp 208 (wO (P,U,W,Q)) (gj (rh (P,U,W,Q)))=bo wO (fun v=>gj (rh v)) (smK m) Vw (wO (P,U,W,Q)) (gj (rh (P,U,W,Q))):=aj.dZ;have h0:(N9 m).hp 208 (wO (P,U,W,Q)) (gj (rh (P,U,W,Q)))=bo wO (fun v=>gj (rh v)) (smK m) Vw (wO (P,U,W,Q)) (gj (rh (P,U,W,Q))):=UM;exact h0.trans (cM (DE:=fun v:UT=>gj (rh v)) QK (P,U,W,Q) ⟨⟨hl,hU,hW⟩,sU,sW,kU,kW,hm⟩)
theorem ic:IntKind.u64.bits=64:=rfl
theorem FA{x:Int}:x.fdiv (2^(min 1 64:Nat))=x.fdiv 2:=rfl
theorem sym_cut{X Y:List It}(hX:jX cm X)(hY:jX cm Y){h s:Nat}(hs:h-Y.length<=s/\s<=h/\s<=X.length)
 (h1:s=min h X.length\/cm (Y[h-1-s]!) (X[s]!)=true) (h2:s=h-Y.length\/cm (Y[h-s]!) (X[s-1]!)=false):
 bg cm (X.take s++Y.take (h-s))++bg cm (X.drop s++Y.drop (h-s))=bg cm (X++Y):=by
 obtain⟨c1,c2⟩:=Go.wG.cut ib hX hY (u:=s) (v:=h-s) hs.2.2 (by omega) (fun hv hu=>by
  rcases h1 with h1|h1
  · omega
  · rwa [show h-s-1=h-1-s by omega]) (fun hu hv=>by
  rcases h2 with h2|h2
  · omega
  · exact h2)
 exact JC ib s (h-s) hX hY c1 c2
theorem TIm_ok{n:Nat}(ih: ∀v:UT,smK n v->dG Tryz.prog 208 (wO v) (gj (rh v)) (Vw v).1 (Vw v).2.1 (Vw v).2.2):ag Tryz.prog (N9 n):=by
 have h1:ag Tryz.prog (Vv.eP 236 (bo wO (fun v=>gj (rh v)) rtK rtR)):=wK.eP (bn Tryz.func236 (by kernel_rfl) (by kernel_rfl)) (cL fun v h=>YE v.1 v.2.1 v.2.2.1 v.2.2.2 h.1 h.2.1 h.2.2)
 have h2:ag Tryz.prog (TIc n):=h1.eP (bn Tryz.func208 (by kernel_rfl) (by kernel_rfl)) (cL ih)
 exact⟨h2.f,h2.hp⟩
theorem lo_step{Y:List It}{x:It}{c:Nat}(hY:jX cm Y)(hc:c<Y.length)(h:cm Y[c] x=true): ∀y∈Y.take (c+1),cm y x=true:=fun y hy=>by
 obtain⟨i,hi,rfl⟩:=List.getElem_of_mem hy;rw[List.length_take]at hi;rw[List.getElem_take]
 by_cases e:i=c
 · subst e;exact h
 · exact n5 ib h (ib.xD x) ((List.pairwise_iff_getElem.1 hY) i c (by omega) hc (by omega))
theorem hi_step{Y:List It}{x:It}{c:Nat}(hY:jX cm Y)(hc:c<Y.length)(h:cm Y[c] x=false): ∀y∈Y.drop c,cm y x=false:=fun y hy=>by
 obtain⟨i,hi,rfl⟩:=List.getElem_of_mem hy;rw[List.length_drop]at hi;rw[List.getElem_drop]
 by_cases e:i=0
 · subst e;exact h
 · exact ib.neg _ _ _ ((List.pairwise_iff_getElem.1 hY) c (c+i) hc (by omega) (by omega)) h
theorem YN{X:List It}{y:It}{c:Nat}(hX:jX cm X)(hc:c<X.length)(h:cm y X[c]=false): ∀x∈X.take (c+1),cm y x=false:=fun x hx=>by
 obtain⟨i,hi,rfl⟩:=List.getElem_of_mem hx;rw[List.length_take]at hi;rw[List.getElem_take]
 by_cases e:i=c
 · subst e;exact h
 · exact ib.neg _ _ _ h ((List.pairwise_iff_getElem.1 hX) i c (by omega) hc (by omega))
theorem YO{X:List It}{y:It}{c:Nat}(hX:jX cm X)(hc:c<X.length)(h:cm y X[c]=true): ∀x∈X.drop c,cm y x=true:=fun x hx=>by
 obtain⟨i,hi,rfl⟩:=List.getElem_of_mem hx;rw[List.length_drop]at hi;rw[List.getElem_drop]
 by_cases e:i=0
 · subst e;exact h
 · exact n5 ib h ((List.pairwise_iff_getElem.1 hX) c (c+i) hc (by omega) (by omega)) (ib.xD y)
theorem bO:ai Tryz.prog Vv Tryz.f208.ntmps (Tryz.f208.body.getD .skip)=true:=by kernel_rfl
theorem sym_A{n:Nat}(hT:ag Tryz.prog (N9 n))(P Y Q:List It)(x:It)(h:(P++([x]++(Y++Q))).length<=1000000)(hY:jX cm Y)(kx:x.ok)(kY: ∀y∈Y,y.ok)(hY0:0<Y.length):dG Tryz.prog 208 [.row 0 0 7 (P++([x]++(Y++Q))).length false,.int .i64 P.length,.int .i64 (P.length+1:Nat),.int .i64 (P.length+1+Y.length:Nat),.fn 148 []] [.row 7 ((P++([x]++(Y++Q))).map It.enc)]
 (.cx []) [.row 7 ((P++(bg cm ([x]++Y)++Q)).map It.enc)] []:=by
 refine bV hT mixed Tryz.func208 rfl (Nat.le_of_ble_eq_true rfl) (fun n h _=>by simp at h;subst h;rfl) (by show _<=1;simp) (by show 1<=_;simp) bO ?_;unfold Tryz.f208;obtain⟨N,hN⟩: ∃N,(P++([x]++(Y++Q))).length=N:=⟨_,rfl⟩
 have Pd:=hN;simp only[List.length_append,List.length_cons,List.length_nil]at Pd;have Zt:P++([x]++(Y++Q))=dL P Y Q x 0:=rfl;have hlen: ∀u,(dL P Y Q x u).length=N:=fun u=>by rw[CZ];omega
 obtain⟨RF,hRF⟩: ∃RF,P++(bg cm ([x]++Y)++Q)=RF:=⟨_,rfl⟩
 rw[hRF]
 rw[hN]at h⊢;rw[Zt]
 have e1:((P.length+1:Nat):Int)-(P.length:Int)=1:=by omega
 simp-implicitDefEqProofs (maxSteps:=600000) (disch:=(first|omega|decide)) only[go_sem,↓reduceIte,seval,e1,wrap_i64,List.length_map,beq_self_eq_true]
 refine ao [0,1,2,3,4] (ι:={q:Nat×Nat//q.1<=q.2/\q.2<=Y.length/\(∀y∈Y.take q.1,cm y x=true)/\(∀y∈Y.drop q.2,cm y x=false)}) (fun q=>[(10,.int .i64 ((P.length+1+q.1.1:Nat):Int)),(11,.int .i64 ((P.length+1+q.1.2:Nat):Int))]) (fun q=>[(0,.row 7 ((dL P Y Q x 0).map It.enc))]) (fun q=>q.1.2-q.1.1) ⟨(0,Y.length),by simp⟩ (by show 1<=_;simp) ?_ ?_
 · simp-implicitDefEqProofs (maxSteps:=600000) (disch:=(first|omega|decide)) only[go_sem,↓reduceIte,seval,Nat.add_zero]
   try rfl
 · rintro⟨⟨i,j⟩,h1,h2,h3,h4⟩
   simp only at h1 h2 h3 h4⊢;by_cases aw:i<j
   · have c0:((P.length+1+i:Nat):Int)<((P.length+1+j:Nat):Int):=by omega
     obtain⟨c,hc⟩: ∃c,(i+j)/2=c:=⟨_,rfl⟩
     have s1:((P.length+1+i:Nat):Int)+((P.length+1+j:Nat):Int)=((2*(P.length+1)+i+j:Nat):Int):=by omega
     have s2:((2*(P.length+1)+i+j:Nat):Int).fdiv 2=((P.length+(c+1):Nat):Int):=by rw[Int.fdiv_eq_ediv_of_nonneg _ (by omega)];omega
     have jg:c<Y.length:=by omega
     have gy:(dL P Y Q x 0)[P.length+(c+1)]? =some Y[c]:=by show(P++(x::(Y++Q)))[P.length+(c+1)]? =_;rw[List.getElem?_append_right (by omega),Nat.add_sub_cancel_left,List.getElem?_cons_succ,List.getElem?_append_left jg,List.getElem?_eq_getElem jg]
     have gy:=c_ gy;have gx:=c_ (C0 (P:=P) (D:=Y) (Z:=Q) (y:=x) (u:=0) (by omega))
     rw[Nat.add_zero]at gx;have ln:=hlen 0;have gc:=C2 (x:=Y[c]) (y:=x) ⟨kY _ (List.getElem_mem jg),kx⟩
     have st1:=lo_step (x:=x) hY jg;have st2:=hi_step (x:=x) hY jg;have UO:cm Y[c] x=aQ Y[c].key x.key:=rfl;rw[UO]at st1 st2;have r1:((P.length+(c+1):Nat):Int)<(N:Int):=by omega
     have r2:(0:Int)<=((P.length+(c+1):Nat):Int):=by omega
     have r3:((P.length+(c+1):Nat):Int).toNat=P.length+(c+1):=Int.toNat_natCast _;have r4:(P.length:Int)<(N:Int):=by omega
     have r5:((P.length+(c+1):Nat):Int)+1=((P.length+1+(c+1):Nat):Int):=by omega
     have r6:P.length+(c+1)=P.length+1+c:=by omega
     generalize Y[c]=d at*;generalize dL P Y Q x 0=r at*;cases hb:aQ d.key x.key with
     |true=>
      have st1:=st1 hb;simp-implicitDefEqProofs (maxSteps:=600000) (disch:=(first|omega|decide)) only[go_sem,↓reduceIte,seval,c0,s1,s2,gy,gx,ln,gc,hb,r1,r2,r3,r4,r5,FA,ic,wrap_u64,wrap_i64,List.length_map]
      exact⟨⟨(c+1,j),by show c+1<=j;omega,h2,st1,h4⟩,⟨by simp,rfl⟩,by show j-(c+1)<j-i;omega⟩
     |false=>
      have st2:=st2 hb;simp-implicitDefEqProofs (maxSteps:=600000) (disch:=(first|omega|decide)) only[go_sem,↓reduceIte,seval,c0,s1,s2,gy,gx,ln,gc,hb,r1,r2,r3,r4,FA,ic,wrap_u64,wrap_i64,List.length_map]
      exact⟨⟨(i,c),by show i<=c;omega,by show c<=Y.length;omega,h3,st2⟩,⟨by simp,by rw[r6]⟩,by show c-i<j-i;omega⟩
   · have c0: ¬((P.length+1+i:Nat):Int)<((P.length+1+j:Nat):Int):=by omega
     obtain rfl:i=j:=by omega
     have dQ:RF=dL P Y Q x i:=by
      rw[<-hRF]
      have bR:=Yu ib (x:=x) (Y1:=Y.take i) (Y2:=Y.drop i) (by rw[List.take_append_drop];exact hY) h3 h4;rw[List.take_append_drop]at bR;rw[show [x]++Y=x::Y from rfl,<-qi ib bR,dL,List.append_assoc];rfl
     rw[dQ]
     have m1:((P.length+1+i:Nat):Int)-1=((P.length+i:Nat):Int):=by omega
     simp-implicitDefEqProofs (maxSteps:=600000) (disch:=(first|omega|decide)) only[go_sem,↓reduceIte,seval,c0,List.length_map]
     refine ao [0,10] (ι:={t:Nat//t<=i}) (fun t=>[(13,.int .i64 ((P.length+t.1:Nat):Int))]) (fun t=>[(0,.row 7 ((dL P Y Q x t.1).map It.enc))]) (fun t=>i-t.1) ⟨0,by omega⟩ (by show 1<=_;simp) ?_ ?_
     · simp-implicitDefEqProofs (maxSteps:=600000) (disch:=(first|omega|decide)) only[go_sem,↓reduceIte,seval,Nat.add_zero]
       try rfl
     · rintro⟨t,ht⟩
       simp only;by_cases htl:t<i
       · have d0:((P.length+t:Nat):Int)<((P.length+i:Nat):Int):=by omega
         have htY:t<Y.length:=by omega
         have gx:=c_ (C0 (P:=P) (D:=Y) (Z:=Q) (y:=x) (u:=t) (by omega))
         have gd:=c_ (Yz (P:=P) (Z:=Q) (y:=x) (u:=t) htY)
         have gd2:=c_ (C1 (P:=P) (Z:=Q) (y:=x) htY)
         have w1:=n_ (dL P Y Q x t) (P.length+t) Y[t]
         have w2:=n_ ((dL P Y Q x t).set (P.length+t) Y[t]) (P.length+(t+1)) x;rw[Qv htY]at w2;have ln:=hlen t;have q1:((P.length+t:Nat):Int)+1=((P.length+(t+1):Nat):Int):=by omega
         have q2:((P.length+(t+1):Nat):Int)<(N:Int):=by omega
         have q3:(0:Int)<=((P.length+(t+1):Nat):Int):=by omega
         have q4:((P.length+(t+1):Nat):Int).toNat=P.length+(t+1):=Int.toNat_natCast _;have q5:((P.length+t:Nat):Int)<(N:Int):=by omega
         have q6:(0:Int)<=((P.length+t:Nat):Int):=by omega
         have q7:((P.length+t:Nat):Int).toNat=P.length+t:=Int.toNat_natCast _;generalize Y[t]=d at*;generalize Zx:dL P Y Q x (t+1)=n1 at*;generalize dL P Y Q x t=n0 at*;simp-implicitDefEqProofs (maxSteps:=600000) (disch:=(first|omega|decide)) only[go_sem,↓reduceIte,seval,m1,d0,gx,gd,gd2,w1,w2,ln,q1,q2,q3,q4,q5,q6,q7,YB,wrap_i64,List.length_map,List.length_set]
         exact⟨⟨t+1,htl⟩,⟨by simp,by rw[Zx]⟩,by show i-(t+1)<i-t;omega⟩
       · have d0: ¬((P.length+t:Nat):Int)<((P.length+i:Nat):Int):=by omega
         obtain rfl:t=i:=by omega
         simp-implicitDefEqProofs (maxSteps:=600000) (disch:=(first|omega|decide)) only[go_sem,↓reduceIte,seval,m1,d0,wrap_i64,List.length_map]
theorem sym_B{n:Nat}(hT:ag Tryz.prog (N9 n))(P X Q:List It)(y:It)(h:(P++(X++([y]++Q))).length<=1000000)(hX:jX cm X)(ky:y.ok)(kX: ∀x∈X,x.ok)(hX0:1<X.length):dG Tryz.prog 208 [.row 0 0 7 (P++(X++([y]++Q))).length false,.int .i64 P.length,.int .i64 (P.length+X.length:Nat),.int .i64 (P.length+X.length+1:Nat),.fn 148 []] [.row 7 ((P++(X++([y]++Q))).map It.enc)]
 (.cx []) [.row 7 ((P++(bg cm (X++[y])++Q)).map It.enc)] []:=by
 refine bV hT mixed Tryz.func208 rfl (Nat.le_of_ble_eq_true rfl) (fun n h _=>by simp at h;subst h;rfl) (by show _<=1;simp) (by show 1<=_;simp) bO ?_;unfold Tryz.f208;obtain⟨N,hN⟩: ∃N,(P++(X++([y]++Q))).length=N:=⟨_,rfl⟩
 have Pd:=hN;simp only[List.length_append,List.length_cons,List.length_nil]at Pd;have Zt:P++(X++([y]++Q))=dL P X Q y X.length:=C3.symm;have hlen: ∀u,(dL P X Q y u).length=N:=fun u=>by rw[CZ];omega
 obtain⟨RF,hRF⟩: ∃RF,P++(bg cm (X++[y])++Q)=RF:=⟨_,rfl⟩
 rw[hRF]
 rw[hN]at h⊢;rw[Zt]
 have e1:((P.length+X.length:Nat):Int)-(P.length:Int)=(X.length:Int):=by omega
 have e1b:((X.length:Int)==1)=false:=by rw[beq_eq_false_iff_ne];omega
 have e2:((P.length+X.length+1:Nat):Int)-((P.length+X.length:Nat):Int)=1:=by omega
 simp-implicitDefEqProofs (maxSteps:=600000) (disch:=(first|omega|decide)) only[go_sem,↓reduceIte,seval,e1,e1b,e2,wrap_i64,List.length_map,beq_self_eq_true]
 refine ao [0,1,2,3,4] (ι:={q:Nat×Nat//q.1<=q.2/\q.2<=X.length/\(∀x∈X.take q.1,cm y x=false)/\(∀x∈X.drop q.2,cm y x=true)}) (fun q=>[(14,.int .i64 ((P.length+q.1.1:Nat):Int)),(15,.int .i64 ((P.length+q.1.2:Nat):Int))]) (fun q=>[(0,.row 7 ((dL P X Q y X.length).map It.enc))]) (fun q=>q.1.2-q.1.1) ⟨(0,X.length),by simp⟩ (by show 1<=_;simp) ?_ ?_
 · simp-implicitDefEqProofs (maxSteps:=600000) (disch:=(first|omega|decide)) only[go_sem,↓reduceIte,seval,Nat.add_zero]
   try rfl
 · rintro⟨⟨i,j⟩,h1,h2,h3,h4⟩
   simp only at h1 h2 h3 h4⊢;by_cases aw:i<j
   · have c0:((P.length+i:Nat):Int)<((P.length+j:Nat):Int):=by omega
     obtain⟨c,hc⟩: ∃c,(i+j)/2=c:=⟨_,rfl⟩
     have s1:((P.length+i:Nat):Int)+((P.length+j:Nat):Int)=((2*P.length+i+j:Nat):Int):=by omega
     have s2:((2*P.length+i+j:Nat):Int).fdiv 2=((P.length+c:Nat):Int):=by rw[Int.fdiv_eq_ediv_of_nonneg _ (by omega)];omega
     have jg:c<X.length:=by omega
     have gx:(dL P X Q y X.length)[P.length+c]? =some X[c]:=by rw[C3,List.getElem?_append_right (by omega),Nat.add_sub_cancel_left,List.getElem?_append_left jg,List.getElem?_eq_getElem jg]
     have gx:=c_ gx;have gy:=c_ (C0 (P:=P) (D:=X) (Z:=Q) (y:=y) (u:=X.length) (Nat.le_refl _))
     have ln:=hlen X.length;have gc:=C2 (x:=y) (y:=X[c]) ⟨ky,kX _ (List.getElem_mem jg)⟩
     have st1:=YN (y:=y) hX jg;have st2:=YO (y:=y) hX jg;have UO:cm y X[c]=aQ y.key X[c].key:=rfl;rw[UO]at st1 st2;have r1:((P.length+c:Nat):Int)<(N:Int):=by omega
     have r2:(0:Int)<=((P.length+c:Nat):Int):=by omega
     have r3:((P.length+c:Nat):Int).toNat=P.length+c:=Int.toNat_natCast _;have r4:((P.length+X.length:Nat):Int)<(N:Int):=by omega
     have r4b:(0:Int)<=((P.length+X.length:Nat):Int):=by omega
     have r4c:((P.length+X.length:Nat):Int).toNat=P.length+X.length:=Int.toNat_natCast _;have r5:((P.length+c:Nat):Int)+1=((P.length+(c+1):Nat):Int):=by omega
     generalize X[c]=d at*;generalize dL P X Q y X.length=r at*;cases hb:aQ y.key d.key with
     |false=>
      have st1:=st1 hb;simp-implicitDefEqProofs (maxSteps:=600000) (disch:=(first|omega|decide)) only[go_sem,↓reduceIte,seval,c0,s1,s2,gy,gx,ln,gc,hb,r1,r2,r3,r4,r4b,r4c,r5,FA,ic,wrap_u64,wrap_i64,List.length_map]
      exact⟨⟨(c+1,j),by show c+1<=j;omega,h2,st1,h4⟩,⟨by simp,rfl⟩,by show j-(c+1)<j-i;omega⟩
     |true=>
      have st2:=st2 hb;simp-implicitDefEqProofs (maxSteps:=600000) (disch:=(first|omega|decide)) only[go_sem,↓reduceIte,seval,c0,s1,s2,gy,gx,ln,gc,hb,r1,r2,r3,r4,r4b,r4c,FA,ic,wrap_u64,wrap_i64,List.length_map]
      exact⟨⟨(i,c),by show i<=c;omega,by show c<=X.length;omega,h3,st2⟩,⟨by simp,rfl⟩,by show c-i<j-i;omega⟩
   · have c0: ¬((P.length+i:Nat):Int)<((P.length+j:Nat):Int):=by omega
     obtain rfl:i=j:=by omega
     have dQ:RF=dL P X Q y i:=by
      rw[<-hRF]
      have bR:=wH ib (y:=y) (X1:=X.take i) (X2:=X.drop i) (by rw[List.take_append_drop];exact hX) h3 h4;rw[List.take_append_drop]at bR;rw[<-qi ib bR,dL,List.append_assoc];rfl
     rw[dQ]
     simp-implicitDefEqProofs (maxSteps:=600000) (disch:=(first|omega|decide)) only[go_sem,↓reduceIte,seval,c0,List.length_map]
     refine ao [0,14] (ι:={u:Nat//i<=u/\u<=X.length}) (fun u=>[(17,.int .i64 ((P.length+u.1:Nat):Int))]) (fun u=>[(0,.row 7 ((dL P X Q y u.1).map It.enc))]) (fun u=>u.1-i) ⟨X.length,h2,Nat.le_refl _⟩ (by show 1<=_;simp) ?_ ?_
     · simp-implicitDefEqProofs (maxSteps:=600000) (disch:=(first|omega|decide)) only[go_sem,↓reduceIte,seval]
       try rfl
     · rintro⟨u,hu,hu2⟩
       simp only;by_cases htl:i<u
       · have d0:((P.length+i:Nat):Int)<((P.length+u:Nat):Int):=by omega
         obtain⟨t,rfl⟩: ∃t,u=t+1:=⟨u-1,by omega⟩
         have htX:t<X.length:=by omega
         have gy:=c_ (C0 (P:=P) (D:=X) (Z:=Q) (y:=y) (u:=t+1) hu2)
         have gd:=c_ (Qu (P:=P) (Z:=Q) (y:=y) htX)
         have gd2:=c_ (rQ (P:=P) (Z:=Q) (y:=y) htX)
         have w1:=n_ (dL P X Q y (t+1)) (P.length+(t+1)) X[t]
         have w2:=n_ ((dL P X Q y (t+1)).set (P.length+(t+1)) X[t]) (P.length+t) y;rw[G4 htX]at w2;have ln:=hlen (t+1)
         have q1:((P.length+(t+1):Nat):Int)-1=((P.length+t:Nat):Int):=by omega
         have q2:((P.length+(t+1):Nat):Int)<(N:Int):=by omega
         have q3:(0:Int)<=((P.length+(t+1):Nat):Int):=by omega
         have q4:((P.length+(t+1):Nat):Int).toNat=P.length+(t+1):=Int.toNat_natCast _;have q5:((P.length+t:Nat):Int)<(N:Int):=by omega
         have q6:(0:Int)<=((P.length+t:Nat):Int):=by omega
         have q7:((P.length+t:Nat):Int).toNat=P.length+t:=Int.toNat_natCast _;generalize X[t]=d at*;generalize dL P X Q y (t+1)=n1 at*;generalize Zn:dL P X Q y t=n0 at*;simp-implicitDefEqProofs (maxSteps:=600000) (disch:=(first|omega|decide)) only[go_sem,↓reduceIte,seval,d0,gy,gd,gd2,w1,w2,ln,q1,q2,q3,q4,q5,q6,q7,YB,wrap_i64,List.length_map,List.length_set]
         exact⟨⟨t,by omega,by omega⟩,⟨by simp,by rw[Zn]⟩,by show t-i<t+1-i;omega⟩
       · have d0: ¬((P.length+i:Nat):Int)<((P.length+u:Nat):Int):=by omega
         obtain rfl:u=i:=by omega
         simp-implicitDefEqProofs (maxSteps:=600000) (disch:=(first|omega|decide)) only[go_sem,↓reduceIte,seval,d0,wrap_i64,List.length_map]
theorem sym_C{n:Nat}(hT:ag Tryz.prog (N9 n))(P X Y Q:List It)(h:(P++(X++(Y++Q))).length<=1000000)(hX:jX cm X)(hY:jX cm Y)(kX: ∀x∈X,x.ok)(kY: ∀y∈Y,y.ok)(hX0:1<X.length)(hY0:1<Y.length)(hn:X.length+Y.length<=n):dG Tryz.prog 208 [.row 0 0 7 (P++(X++(Y++Q))).length false,.int .i64 P.length,.int .i64 (P.length+X.length:Nat),.int .i64 (P.length+X.length+Y.length:Nat),.fn 148 []] [.row 7 ((P++(X++(Y++Q))).map It.enc)]
 (.cx []) [.row 7 ((P++(bg cm (X++Y)++Q)).map It.enc)] []:=by
 refine bV hT mixed Tryz.func208 rfl (Nat.le_of_ble_eq_true rfl) (fun n h _=>by simp at h;subst h;rfl) (by show _<=1;simp) (by show 1<=_;simp) bO ?_;unfold Tryz.f208;obtain⟨N,hN⟩: ∃N,(P++(X++(Y++Q))).length=N:=⟨_,rfl⟩
 have Pd:=hN;simp only[List.length_append]at Pd;obtain⟨p,hp⟩: ∃p,P.length=p:=⟨_,rfl⟩
 obtain⟨xl,Z0⟩: ∃xl,X.length=xl:=⟨_,rfl⟩
 obtain⟨yl,hyl⟩: ∃yl,Y.length=yl:=⟨_,rfl⟩
 obtain⟨hf,hhf⟩: ∃hf,(xl+yl)/2=hf:=⟨_,rfl⟩
 obtain⟨R0,Vx⟩: ∃R0,P++(X++(Y++Q))=R0:=⟨_,rfl⟩
 have gX: ∀c (hc:c<xl),R0[p+c]? =some (X[c]!):=fun c hc=>by rw[<-Vx,<-hp,List.getElem?_append_right (by omega),Nat.add_sub_cancel_left,List.getElem?_append_left (by omega),List.getElem?_eq_getElem (by omega),getElem!_pos X c (by omega)]
 have gY: ∀c (hc:c<yl),R0[p+xl+c]? =some (Y[c]!):=fun c hc=>by
  rw[<-Vx,<-hp,List.getElem?_append_right (by omega),List.getElem?_append_right (by omega),List.getElem?_append_left (by omega)]
  rw[show P.length+xl+c-P.length-X.length=c by omega,List.getElem?_eq_getElem (by omega),getElem!_pos Y c (by omega)]
 have oX: ∀c (hc:c<xl),(X[c]!).ok:=fun c hc=>by rw[getElem!_pos X c (by omega)];exact kX _ (List.getElem_mem _)
 have oY: ∀c (hc:c<yl),(Y[c]!).ok:=fun c hc=>by rw[getElem!_pos Y c (by omega)];exact kY _ (List.getElem_mem _)
 rw[hN]at h⊢;rw[hp,Z0,hyl,Vx]
 rw[Vx]at hN;rw[hp,Z0,hyl]at Pd;have e1:((p+xl:Nat):Int)-(p:Int)=(xl:Int):=by omega
 have e1b:((xl:Int)==1)=false:=by rw[beq_eq_false_iff_ne];omega
 have e2:((p+xl+yl:Nat):Int)-((p+xl:Nat):Int)=(yl:Int):=by omega
 have e2b:((yl:Int)==1)=false:=by rw[beq_eq_false_iff_ne];omega
 have s1:(p:Int)+((p+xl+yl:Nat):Int)=((2*p+xl+yl:Nat):Int):=by omega
 have s2:((2*p+xl+yl:Nat):Int).fdiv 2=((p+hf:Nat):Int):=by rw[Int.fdiv_eq_ediv_of_nonneg _ (by omega)];omega
 have s3:((p+hf:Nat):Int)+((p+xl:Nat):Int)=((2*p+hf+xl:Nat):Int):=by omega
 have s4:((2*p+hf+xl:Nat):Int)-1=((2*p+hf+xl-1:Nat):Int):=by omega
 have ya:hf-yl<=min hf xl:=by omega
 have rl0:R0.length=N:=hN
 have fin: ∀s,hf-yl<=s->s<=min hf xl->(s=hf-yl\/cm (Y[hf-s]!) (X[s-1]!)=false)->(s=min hf xl\/cm (Y[hf-1-s]!) (X[s]!)=true)->
  ∃R1 R2:List It,(¬(s<xl/\0<hf-s)->R0=R1)/\(¬(0<s/\0<hf-s)->R1=R2)/\(¬(s<xl/\hf-s<yl)->R2=P++(bg cm (X++Y)++Q))/\
   (s<xl/\0<hf-s->(N9 n).hp 236 [.row 0 0 7 N false,.int .i64 ((p+s:Nat):Int),.int .i64 ((p+xl:Nat):Int),.int .i64 ((p+xl+(hf-s):Nat):Int),.fn 148 []] [.row 7 (R0.map It.enc)]=some (.cx [],[.row 7 (R1.map It.enc)],[]))/\
   (0<s/\0<hf-s->(N9 n).hp 208 [.row 0 0 7 N false,.int .i64 (p:Int),.int .i64 ((p+s:Nat):Int),.int .i64 ((p+hf:Nat):Int),.fn 148 []] [.row 7 (R1.map It.enc)]=some (.cx [],[.row 7 (R2.map It.enc)],[]))/\
   (s<xl/\hf-s<yl->(N9 n).hp 208 [.row 0 0 7 N false,.int .i64 ((p+hf:Nat):Int),.int .i64 ((p+xl+(hf-s):Nat):Int),.int .i64 ((p+xl+yl:Nat):Int),.fn 148 []] [.row 7 (R2.map It.enc)]=some (.cx [],[.row 7 ((P++(bg cm (X++Y)++Q)).map It.enc)],[])):=by
  intro s hs1 hs2 i1 i2;have HK:=sym_cut hX hY (h:=hf) (s:=s) (by omega) (by rw[Z0];exact i2) (by rw[hyl];exact i1)
  have lX1:(X.take s).length=s:=by rw[List.length_take];omega
  have lX2:(X.drop s).length=xl-s:=by rw[List.length_drop];omega
  have lY1:(Y.take (hf-s)).length=hf-s:=by rw[List.length_take];omega
  have lY2:(Y.drop (hf-s)).length=yl-(hf-s):=by rw[List.length_drop];omega
  have eX:X.take s++X.drop s=X:=List.take_append_drop _ _;have eY:Y.take (hf-s)++Y.drop (hf-s)=Y:=List.take_append_drop _ _;have sX1:=jX.take hX s;have sX2:=jX.drop hX s;have sY1:=jX.take hY (hf-s)
  have sY2:=jX.drop hY (hf-s)
  have kX1: ∀x∈X.take s,x.ok:=fun x hx=>kX x (List.mem_of_mem_take hx)
  have kX2: ∀x∈X.drop s,x.ok:=fun x hx=>kX x (List.mem_of_mem_drop hx)
  have kY1: ∀x∈Y.take (hf-s),x.ok:=fun x hx=>kY x (List.mem_of_mem_take hx)
  have kY2: ∀x∈Y.drop (hf-s),x.ok:=fun x hx=>kY x (List.mem_of_mem_drop hx)
  rw[<-HK]
  rw[<-eX,<-eY]at Vx;generalize X.take s=X1 at*;generalize X.drop s=X2 at*;generalize Y.take (hf-s)=Y1 at*;generalize Y.drop (hf-s)=Y2 at*;have hS1:(bg cm (X1++Y1)).length=hf:=by rw[bP,List.length_append];omega
  simp only[List.append_assoc]at Vx;refine⟨P++(X1++(Y1++(X2++(Y2++Q)))),P++(bg cm (X1++Y1)++(X2++(Y2++Q))), ?_, ?_, ?_, ?_, ?_, ?_⟩
  · intro qF
    rw[<-Vx]
    by_cases h1:s<xl
    · obtain rfl:Y1=[]:=List.length_eq_zero_iff.1 (by omega)
      simp
    · obtain rfl:X2=[]:=List.length_eq_zero_iff.1 (by omega)
      simp
  · intro qF
    have:bg cm (X1++Y1)=X1++Y1:=by
     by_cases h1:0<s
     · obtain rfl:Y1=[]:=List.length_eq_zero_iff.1 (by omega)
       rw[List.append_nil];exact n9 ib sX1
     · obtain rfl:X1=[]:=List.length_eq_zero_iff.1 (by omega)
       rw[List.nil_append];exact n9 ib sY1
    rw[this,List.append_assoc]
  · intro qF
    have:bg cm (X2++Y2)=X2++Y2:=by
     by_cases h1:s<xl
     · obtain rfl:Y2=[]:=List.length_eq_zero_iff.1 (by omega)
       rw[List.append_nil];exact n9 ib sX2
     · obtain rfl:X2=[]:=List.length_eq_zero_iff.1 (by omega)
       rw[List.nil_append];exact n9 ib sY2
    rw[this];simp only[List.append_assoc]
  · intro hyes
    exact hp_rot (m:=n) (P:=P++X1) (U:=X2) (W:=Y1) (Q:=Y2++Q) (by rw[<-Vx];simp only[List.append_assoc]) (by simp only[List.append_assoc]) rl0 h (by rw[List.length_append];omega) (by omega) (by omega) (by omega) (by omega)
  · intro hyes
    exact YM (P:=P) (U:=X1) (W:=Y1) (Q:=X2++(Y2++Q)) rfl rfl (by rw[<-rl0,<-Vx];simp only[List.length_append];omega) h hp (by omega) (by omega) (by omega) (by omega) sX1 sY1 kX1 kY1 (by omega)
  · intro hyes
    exact YM (P:=P++bg cm (X1++Y1)) (U:=X2) (W:=Y2) (Q:=Q) (by simp only[List.append_assoc]) (by simp only[List.append_assoc]) (by rw[<-rl0,<-Vx];simp only[List.length_append,hS1];omega) h (by rw[List.length_append];omega) (by omega) (by omega) (by omega) (by omega) sX2 sY2 kX2 kY2 (by omega)
 generalize P++(bg cm (X++Y)++Q)=RF at*;have run:hf<xl\/ ¬hf<xl:=Decidable.em _;rcases run with hc|hc
 · have c1:((p+hf:Nat):Int)<((p+xl:Nat):Int):=by omega
   have s5:((2*p+hf+xl:Nat):Int)-((p+xl+yl:Nat):Int)=((p+(hf-yl):Nat):Int):=by omega
   have yi:min hf xl=hf:=by omega
   simp-implicitDefEqProofs (maxSteps:=600000) (disch:=(first|omega|decide)) only[go_sem,↓reduceIte,seval,e1,e1b,e2,e2b,s1,s2,s3,s4,s5,c1,FA,ic,wrap_u64,wrap_i64,List.length_map,beq_self_eq_true]
   refine ao [0,1,2,3,4,18,19,22] (ι:={q:Nat×Nat//hf-yl<=q.1/\q.1<=q.2/\q.2<=min hf xl/\(q.1=hf-yl\/cm (Y[hf-q.1]!) (X[q.1-1]!)=false)/\(q.2=min hf xl\/cm (Y[hf-1-q.2]!) (X[q.2]!)=true)}) (fun q=>[(20,.int .i64 ((p+q.1.1:Nat):Int)),(21,.int .i64 ((p+q.1.2:Nat):Int))]) (fun q=>[(0,.row 7 (R0.map It.enc))]) (fun q=>q.1.2-q.1.1) ⟨(hf-yl,min hf xl),Nat.le_refl _,ya,Nat.le_refl _,.inl rfl,.inl rfl⟩ (by show 1<=_;simp) ?_ ?_
   · simp-implicitDefEqProofs (maxSteps:=600000) (disch:=(first|omega|decide)) only[go_sem,↓reduceIte,seval,yi]
     try rfl
   · rintro⟨⟨s,e⟩,h1,h2,h3,i1,i2⟩
     simp only at h1 h2 h3 i1 i2⊢;by_cases aw:s<e
     · have d0:((p+s:Nat):Int)<((p+e:Nat):Int):=by omega
       obtain⟨c,hcd⟩: ∃c,(s+e)/2=c:=⟨_,rfl⟩
       have t1:((p+s:Nat):Int)+((p+e:Nat):Int)=((2*p+s+e:Nat):Int):=by omega
       have t2:((2*p+s+e:Nat):Int).fdiv 2=((p+c:Nat):Int):=by rw[Int.fdiv_eq_ediv_of_nonneg _ (by omega)];omega
       have t3:((2*p+hf+xl-1:Nat):Int)-((p+c:Nat):Int)=((p+xl+(hf-1-c):Nat):Int):=by omega
       have t4:((p+c:Nat):Int)+1=((p+(c+1):Nat):Int):=by omega
       have gx:=c_ (gX c (by omega))
       have gy:=c_ (gY (hf-1-c) (by omega))
       have gc:=C2 (x:=Y[hf-1-c]!) (y:=X[c]!) ⟨oY _ (by omega),oX _ (by omega)⟩
       have r1:((p+c:Nat):Int)<(N:Int):=by omega
       have r2:(0:Int)<=((p+c:Nat):Int):=by omega
       have r3:((p+c:Nat):Int).toNat=p+c:=Int.toNat_natCast _;have r4:((p+xl+(hf-1-c):Nat):Int)<(N:Int):=by omega
       have r5:(0:Int)<=((p+xl+(hf-1-c):Nat):Int):=by omega
       have r6:((p+xl+(hf-1-c):Nat):Int).toNat=p+xl+(hf-1-c):=Int.toNat_natCast _;have UO:cm (Y[hf-1-c]!) (X[c]!)=aQ (Y[hf-1-c]!).key (X[c]!).key:=rfl;have YP:aQ (Y[hf-1-c]!).key (X[c]!).key=false->cm (Y[hf-(c+1)]!) (X[c+1-1]!)=false:=fun hh=>by rw[show hf-(c+1)=hf-1-c by omega,show c+1-1=c by omega,UO,hh]
       have UU:aQ (Y[hf-1-c]!).key (X[c]!).key=true->cm (Y[hf-1-c]!) (X[c]!)=true:=fun hh=>by rw[UO,hh]
       clear UO fin;generalize hdy:Y[hf-1-c]! =dy at gy gc YP UU;generalize hdx:X[c]! =dx at gx gc YP UU;cases hb:aQ dy.key dx.key with
       |false=>
        have YP:=YP hb;simp-implicitDefEqProofs (maxSteps:=600000) (disch:=(first|omega|decide)) only[go_sem,↓reduceIte,seval,d0,t1,t2,t3,t4,gx,gy,rl0,gc,hb,r1,r2,r3,r4,r5,r6,FA,ic,wrap_u64,wrap_i64,List.length_map]
        exact⟨⟨(c+1,e),by show hf-yl<=c+1;omega,by show c+1<=e;omega,h3,.inr YP,i2⟩,⟨by simp,rfl⟩,by show e-(c+1)<e-s;omega⟩
       |true=>
        have UU:=UU hb;rw[<-hdy,<-hdx]at UU;simp-implicitDefEqProofs (maxSteps:=600000) (disch:=(first|omega|decide)) only[go_sem,↓reduceIte,seval,d0,t1,t2,t3,gx,gy,rl0,gc,hb,r1,r2,r3,r4,r5,r6,FA,ic,wrap_u64,wrap_i64,List.length_map]
        exact⟨⟨(s,c),h1,by show s<=c;omega,by show c<=min hf xl;omega,i1,.inr UU⟩,⟨by simp,rfl⟩,by show c-s<e-s;omega⟩
     · have d0: ¬((p+s:Nat):Int)<((p+e:Nat):Int):=by omega
       obtain rfl:s=e:=by omega
       obtain⟨R1,R2,E1,E2,E3,F1,F2,F3⟩:=fin s h1 h3 i1 i2;have t5:((2*p+hf+xl:Nat):Int)-((p+s:Nat):Int)=((p+xl+(hf-s):Nat):Int):=by omega
       clear fin gX gY oX oY i1 i2 Vx;have lb1:s<xl\/s=xl:=by omega
       have lb2:0<hf-s\/hf-s=0:=by omega
       have lb3:0<s\/s=0:=by omega
       have lb4:hf-s<yl\/hf-s=yl:=by omega
       have K1:(((p+s:Nat):Int)<((p+xl:Nat):Int))=(s<xl):=propext ⟨fun _=>by omega,fun _=>by omega⟩
       have K2:(((p+xl:Nat):Int)<((p+xl+(hf-s):Nat):Int))=(0<hf-s):=propext ⟨fun _=>by omega,fun _=>by omega⟩
       have K3:((p:Int)<((p+s:Nat):Int))=(0<s):=propext ⟨fun _=>by omega,fun _=>by omega⟩
       have K4:(((p+s:Nat):Int)<((p+hf:Nat):Int))=(0<hf-s):=propext ⟨fun _=>by omega,fun _=>by omega⟩
       have K5:(((p+hf:Nat):Int)<((p+xl+(hf-s):Nat):Int))=(s<xl):=propext ⟨fun _=>by omega,fun _=>by omega⟩
       have K6:(((p+xl+(hf-s):Nat):Int)<((p+xl+yl:Nat):Int))=(hf-s<yl):=propext ⟨fun _=>by omega,fun _=>by omega⟩
       by_cases a1:s<xl<;>by_cases a2:0<hf-s<;>by_cases a3:0<s<;>by_cases a4:hf-s<yl
       all_goals
        first
         |(have F1:=F1 ⟨a1,a2⟩)
         |(obtain rfl:=E1 (fun h=>by first|exact a1 h.1|exact a2 h.2);clear F1;have F1:([]:List It)++[]=[]:=rfl)
       all_goals
        first
         |(have F2:=F2 ⟨a3,a2⟩)
         |(obtain rfl:=E2 (fun h=>by first|exact a3 h.1|exact a2 h.2);clear F2;have F2:([]:List It)++[]=[]:=rfl)
       all_goals
        first
         |(have F3:=F3 ⟨a1,a4⟩)
         |(obtain rfl:=E3 (fun h=>by first|exact a1 h.1|exact a4 h.2);clear F3;have F3:([]:List It)++[]=[]:=rfl)
       all_goals
        simp-implicitDefEqProofs (maxSteps:=600000) (disch:=(first|omega|decide)) only[go_sem,↓reduceIte,seval,d0,t5,K1,K2,K3,K4,K5,K6,a1,a2,a3,a4,F1,F2,F3,wrap_i64,List.length_map]
 · have c1: ¬((p+hf:Nat):Int)<((p+xl:Nat):Int):=by omega
   have yi:min hf xl=xl:=by omega
   have hlo0:hf-yl=0:=by omega
   simp-implicitDefEqProofs (maxSteps:=600000) (disch:=(first|omega|decide)) only[go_sem,↓reduceIte,seval,e1,e1b,e2,e2b,s1,s2,s3,s4,c1,FA,ic,wrap_u64,wrap_i64,List.length_map,beq_self_eq_true]
   refine ao [0,1,2,3,4,18,19,22] (ι:={q:Nat×Nat//hf-yl<=q.1/\q.1<=q.2/\q.2<=min hf xl/\(q.1=hf-yl\/cm (Y[hf-q.1]!) (X[q.1-1]!)=false)/\(q.2=min hf xl\/cm (Y[hf-1-q.2]!) (X[q.2]!)=true)}) (fun q=>[(20,.int .i64 ((p+q.1.1:Nat):Int)),(21,.int .i64 ((p+q.1.2:Nat):Int))]) (fun q=>[(0,.row 7 (R0.map It.enc))]) (fun q=>q.1.2-q.1.1) ⟨(hf-yl,min hf xl),Nat.le_refl _,ya,Nat.le_refl _,.inl rfl,.inl rfl⟩ (by show 1<=_;simp) ?_ ?_
   · simp-implicitDefEqProofs (maxSteps:=600000) (disch:=(first|omega|decide)) only[go_sem,↓reduceIte,seval,yi,hlo0,Nat.add_zero]
     try rfl
   · rintro⟨⟨s,e⟩,h1,h2,h3,i1,i2⟩
     simp only at h1 h2 h3 i1 i2⊢;by_cases aw:s<e
     · have d0:((p+s:Nat):Int)<((p+e:Nat):Int):=by omega
       obtain⟨c,hcd⟩: ∃c,(s+e)/2=c:=⟨_,rfl⟩
       have t1:((p+s:Nat):Int)+((p+e:Nat):Int)=((2*p+s+e:Nat):Int):=by omega
       have t2:((2*p+s+e:Nat):Int).fdiv 2=((p+c:Nat):Int):=by rw[Int.fdiv_eq_ediv_of_nonneg _ (by omega)];omega
       have t3:((2*p+hf+xl-1:Nat):Int)-((p+c:Nat):Int)=((p+xl+(hf-1-c):Nat):Int):=by omega
       have t4:((p+c:Nat):Int)+1=((p+(c+1):Nat):Int):=by omega
       have gx:=c_ (gX c (by omega))
       have gy:=c_ (gY (hf-1-c) (by omega))
       have gc:=C2 (x:=Y[hf-1-c]!) (y:=X[c]!) ⟨oY _ (by omega),oX _ (by omega)⟩
       have r1:((p+c:Nat):Int)<(N:Int):=by omega
       have r2:(0:Int)<=((p+c:Nat):Int):=by omega
       have r3:((p+c:Nat):Int).toNat=p+c:=Int.toNat_natCast _;have r4:((p+xl+(hf-1-c):Nat):Int)<(N:Int):=by omega
       have r5:(0:Int)<=((p+xl+(hf-1-c):Nat):Int):=by omega
       have r6:((p+xl+(hf-1-c):Nat):Int).toNat=p+xl+(hf-1-c):=Int.toNat_natCast _;have UO:cm (Y[hf-1-c]!) (X[c]!)=aQ (Y[hf-1-c]!).key (X[c]!).key:=rfl;have YP:aQ (Y[hf-1-c]!).key (X[c]!).key=false->cm (Y[hf-(c+1)]!) (X[c+1-1]!)=false:=fun hh=>by rw[show hf-(c+1)=hf-1-c by omega,show c+1-1=c by omega,UO,hh]
       have UU:aQ (Y[hf-1-c]!).key (X[c]!).key=true->cm (Y[hf-1-c]!) (X[c]!)=true:=fun hh=>by rw[UO,hh]
       clear UO fin;generalize hdy:Y[hf-1-c]! =dy at gy gc YP UU;generalize hdx:X[c]! =dx at gx gc YP UU;cases hb:aQ dy.key dx.key with
       |false=>
        have YP:=YP hb;simp-implicitDefEqProofs (maxSteps:=600000) (disch:=(first|omega|decide)) only[go_sem,↓reduceIte,seval,d0,t1,t2,t3,t4,gx,gy,rl0,gc,hb,r1,r2,r3,r4,r5,r6,FA,ic,wrap_u64,wrap_i64,List.length_map]
        exact⟨⟨(c+1,e),by show hf-yl<=c+1;omega,by show c+1<=e;omega,h3,.inr YP,i2⟩,⟨by simp,rfl⟩,by show e-(c+1)<e-s;omega⟩
       |true=>
        have UU:=UU hb;rw[<-hdy,<-hdx]at UU;simp-implicitDefEqProofs (maxSteps:=600000) (disch:=(first|omega|decide)) only[go_sem,↓reduceIte,seval,d0,t1,t2,t3,gx,gy,rl0,gc,hb,r1,r2,r3,r4,r5,r6,FA,ic,wrap_u64,wrap_i64,List.length_map]
        exact⟨⟨(s,c),h1,by show s<=c;omega,by show c<=min hf xl;omega,i1,.inr UU⟩,⟨by simp,rfl⟩,by show c-s<e-s;omega⟩
     · have d0: ¬((p+s:Nat):Int)<((p+e:Nat):Int):=by omega
       obtain rfl:s=e:=by omega
       obtain⟨R1,R2,E1,E2,E3,F1,F2,F3⟩:=fin s h1 h3 i1 i2;have t5:((2*p+hf+xl:Nat):Int)-((p+s:Nat):Int)=((p+xl+(hf-s):Nat):Int):=by omega
       clear fin gX gY oX oY i1 i2 Vx;have lb1:s<xl\/s=xl:=by omega
       have lb2:0<hf-s\/hf-s=0:=by omega
       have lb3:0<s\/s=0:=by omega
       have lb4:hf-s<yl\/hf-s=yl:=by omega
       have K1:(((p+s:Nat):Int)<((p+xl:Nat):Int))=(s<xl):=propext ⟨fun _=>by omega,fun _=>by omega⟩
       have K2:(((p+xl:Nat):Int)<((p+xl+(hf-s):Nat):Int))=(0<hf-s):=propext ⟨fun _=>by omega,fun _=>by omega⟩
       have K3:((p:Int)<((p+s:Nat):Int))=(0<s):=propext ⟨fun _=>by omega,fun _=>by omega⟩
       have K4:(((p+s:Nat):Int)<((p+hf:Nat):Int))=(0<hf-s):=propext ⟨fun _=>by omega,fun _=>by omega⟩
       have K5:(((p+hf:Nat):Int)<((p+xl+(hf-s):Nat):Int))=(s<xl):=propext ⟨fun _=>by omega,fun _=>by omega⟩
       have K6:(((p+xl+(hf-s):Nat):Int)<((p+xl+yl:Nat):Int))=(hf-s<yl):=propext ⟨fun _=>by omega,fun _=>by omega⟩
       by_cases a1:s<xl<;>by_cases a2:0<hf-s<;>by_cases a3:0<s<;>by_cases a4:hf-s<yl
       all_goals
        first
         |(have F1:=F1 ⟨a1,a2⟩)
         |(obtain rfl:=E1 (fun h=>by first|exact a1 h.1|exact a2 h.2);clear F1;have F1:([]:List It)++[]=[]:=rfl)
       all_goals
        first
         |(have F2:=F2 ⟨a3,a2⟩)
         |(obtain rfl:=E2 (fun h=>by first|exact a3 h.1|exact a2 h.2);clear F2;have F2:([]:List It)++[]=[]:=rfl)
       all_goals
        first
         |(have F3:=F3 ⟨a1,a4⟩)
         |(obtain rfl:=E3 (fun h=>by first|exact a1 h.1|exact a4 h.2);clear F3;have F3:([]:List It)++[]=[]:=rfl)
       all_goals
        simp-implicitDefEqProofs (maxSteps:=600000) (disch:=(first|omega|decide)) only[go_sem,↓reduceIte,seval,d0,t5,K1,K2,K3,K4,K5,K6,a1,a2,a3,a4,F1,F2,F3,wrap_i64,List.length_map]
theorem Dh: ∀(n:Nat) (v:UT),smK n v->dG Tryz.prog 208 (wO v) (gj (rh v)) (Vw v).1 (Vw v).2.1 (Vw v).2.2
 |0,v,h=>absurd h.2.2.2.2.2 (by omega)
 |n+1,(P,X,Y,Q),⟨⟨k1,k2,k3⟩,k4,k5,k6,k7,k8⟩=>by
  have hT:=TIm_ok (n:=n) (Dh n)
  simp only[rh]at k1 k2 k3 k4 k5 k6 k7 k8;by_cases h1:X.length=1
  · obtain⟨x,rfl⟩:=List.length_eq_one_iff.1 h1
    exact sym_A hT P Y Q x k1 k5 (k6 x (by simp)) k7 k3
  · by_cases h2:Y.length=1
    · obtain⟨y,rfl⟩:=List.length_eq_one_iff.1 h2
      exact sym_B hT P X Q y k1 k4 (k7 y (by simp)) k6 (by omega)
    · exact sym_C hT P X Y Q k1 k4 k5 k6 k7 (by omega) (by omega) (by omega)
end Go.Proofs.YtihgnfmoafjakaaGreat
namespace Go.wG
set_option linter.unusedVariables false
set_option linter.unusedSimpArgs false
section
variable{V:Type}{lt:V->V->Bool}
inductive zS(lt:V->V->Bool)(bs:Nat):List V->List V->Prop
 |last (l:List V):l.length<=bs->zS lt bs l (bg lt l)
 |cons (B l r:List V):B.length=bs->zS lt bs l r->zS lt bs (B++l) (bg lt B++r)
theorem zS.len{bs:Nat}{l r:List V}(h:zS lt bs l r):r.length=l.length:=by
 induction h with
 |last l h=>exact bP l
 |cons B l r hB h ih=>rw[List.length_append,List.length_append,bP,ih]
theorem zS.nil{bs:Nat}{r:List V}(h:zS lt bs [] r):r=[]:=List.length_eq_zero_iff.1 h.len
theorem zS.small{bs:Nat}{l r:List V}(h:zS lt bs l r)(hl:l.length<=bs):r=bg lt l:=by
 cases h with
 |last l h=>rfl
 |cons B l r hB h=>
  rw[List.length_append]at hl;obtain rfl:l=[]:=List.length_eq_zero_iff.1 (by omega)
  rw[h.nil,List.append_nil,List.append_nil]
theorem zS.part{bs:Nat}{l r:List V}(h:zS lt bs l r)(hl:bs<=l.length): ∃B l' r',l=B++l'/\B.length=bs/\r=bg lt B++r'/\zS lt bs l' r':=by
 cases h with
 |last l h=>exact⟨l,[],[],by simp,by omega,by simp,zS.last [] (by simp)⟩
 |cons B l r hB h=>exact⟨B,l,r,rfl,hB,rfl,h⟩
end
end Go.wG
