/- What the laws of this claim rest on: the abstract executor, its soundness, and what the functions compute on pure data. No condition. -/
import Derived.Test.YtihgnfmoafjakaaGreatU8
noncomputable section
set_option linter.unusedVariables false
set_option linter.unusedSimpArgs false
namespace Go.yv
set_option linter.unusedVariables false
set_option linter.unusedSimpArgs false
section
variable{V:Type}(lt:V->V->Bool)
structure Swo:Prop where
 zx: ∀x,lt x x=false
 asy: ∀x y,lt x y=true->lt y x=false
 neg: ∀x y z,lt x y=false->lt y z=false->lt x z=false
def eqv(x y:V):Bool:= !lt x y&& !lt y x
def kP(l:List V):Prop:=l.Pairwise fun x y=>lt y x=false
def St(l s:List V):Prop:=kP lt s/\ ∀x,s.filter (eqv lt x)=l.filter (eqv lt x)
end
section
variable{V:Type}{lt:V->V->Bool}(o:Swo lt)
include o
theorem iS(x:V):eqv lt x x=true:=by simp[eqv,o.zx]
theorem St.mem{l s:List V}(h:St lt l s)(x:V):x∈s ↔ x∈l:=by
 have e: ∀m:List V,x∈m ↔ x∈m.filter (eqv lt x):=fun m=>by rw[List.mem_filter];exact⟨fun g=>⟨g,iS o x⟩,And.left⟩
 rw[e s,e l,h.2 x]
theorem pb{x y x' y':V}(h:lt y x=true)(hx:lt x' x=false)(hy:lt y y'=false):lt y' x'=true:=by
 cases h':lt y' x' with
 |true=>rfl
 |false=>rw[o.neg y y' x hy (o.neg y' x' x h' hx)]at h;cases h
theorem split{X1 X2 Y1 Y2 S1 S2:List V}(hX:kP lt (X1++X2))(hY:kP lt (Y1++Y2))(h1: ∀x∈X2,∀y∈Y1,lt y x=true)(h2: ∀x∈X1,∀y∈Y2,lt y x=false)
 (s1:St lt (X1++Y1) S1) (s2:St lt (X2++Y2) S2):St lt (X1++X2++(Y1++Y2)) (S1++S2):=by
 obtain⟨_,_,hx⟩:=List.pairwise_append.1 hX;obtain⟨_,_,hy⟩:=List.pairwise_append.1 hY;refine⟨List.pairwise_append.2 ⟨s1.1,s2.1,fun a ha b hb=> ?_⟩,fun x=> ?_⟩
 · rcases List.mem_append.1 ((s1.mem o a).1 ha)with ha|ha<;>rcases List.mem_append.1 ((s2.mem o b).1 hb)with hb|hb
   · exact hx a ha b hb
   · exact h2 a ha b hb
   · exact o.asy _ _ (h1 b hb a ha)
   · exact hy a ha b hb
 · simp only[List.filter_append]
   have e1:=s1.2 x;have e2:=s2.2 x;simp only[List.filter_append]at e1 e2;rw[e1,e2]
   by_cases hc:Y1.filter (eqv lt x)=[]
   · rw[hc];simp
   · have:X2.filter (eqv lt x)=[]:=by
      rw[List.filter_eq_nil_iff]
      intro b hb hbe;obtain⟨y,Bw⟩:=List.exists_mem_of_ne_nil _ hc;rw[List.mem_filter]at Bw;have g:=h1 b hb y Bw.1;simp only[eqv,Bool.and_eq_true,Bool.not_eq_true']at hbe Bw;rw[o.neg y x b Bw.2.2 hbe.1]at g;cases g
     rw[this];simp
omit o in
theorem St.refl{l:List V}(h:kP lt l):St lt l l:=⟨h,fun _=>rfl⟩
omit o in
theorem St.comp{l1 l2 s1 s2 s:List V}(h1:St lt l1 s1)(h2:St lt l2 s2)(h:St lt (s1++s2) s):St lt (l1++l2) s:=
 ⟨h.1,fun x=>by rw[h.2 x,List.filter_append,List.filter_append,h1.2 x,h2.2 x]⟩
theorem ins_left{x:V}{Y1 Y2:List V}(hY:kP lt (Y1++Y2))(h1: ∀y∈Y1,lt y x=true)(h2: ∀y∈Y2,lt y x=false):St lt (x::(Y1++Y2)) (Y1++x::Y2):=by
 obtain⟨k1,k2,_⟩:=List.pairwise_append.1 hY;have:=split o (X1:=[]) (X2:=[x]) (Y1:=Y1) (Y2:=Y2) (S1:=Y1) (S2:=x::Y2) (by simp[kP]) hY (fun a ha y hy=>by simp at ha;subst ha;exact h1 y hy) (fun a ha=>by simp at ha) (St.refl k1) (St.refl (List.pairwise_cons.2 ⟨h2,k2⟩))
 simpa using this
theorem yw{y:V}{X1 X2:List V}(hX:kP lt (X1++X2))(h1: ∀x∈X1,lt y x=false)(h2: ∀x∈X2,lt y x=true):St lt (X1++X2++[y]) (X1++y::X2):=by
 obtain⟨k1,k2,_⟩:=List.pairwise_append.1 hX
 have:=split o (X1:=X1) (X2:=X2) (Y1:=[y]) (Y2:=[]) (S1:=X1++[y]) (S2:=X2) hX (by simp[kP]) (fun x hx a ha=>by simp at ha;subst ha;exact h2 x hx) (fun x _ a ha=>by simp at ha)
  (St.refl (List.pairwise_append.2 ⟨k1,by simp,fun a ha b hb=>by simp at hb;subst hb;exact h1 a ha⟩)) (by rw[List.append_nil];exact St.refl k2)
 simpa using this
theorem St.uniq{l s s':List V}(h:St lt l s)(h':St lt l s'):s=s':=by
 have key: ∀(n:Nat) (a b:List V),a.length<=n->kP lt a->kP lt b->(∀x,a.filter (eqv lt x)=b.filter (eqv lt x))->a=b:=by
  intro n;induction n with
  |zero=>
   intro a b hn _ _ hf;obtain rfl:a=[]:=List.length_eq_zero_iff.1 (by omega)
   cases b with
   |nil=>rfl
   |cons y b=>
    have:=hf y;rw[List.filter_cons_of_pos (iS o y)]at this;cases this
  |succ n ih=>
   intro a b hn ha hb hf;cases a with
   |nil=>
    cases b with
    |nil=>rfl
    |cons y b=>
     have:=hf y;rw[List.filter_cons_of_pos (iS o y)]at this;cases this
   |cons x a=>
    cases b with
    |nil=>
     have:=hf x;rw[List.filter_cons_of_pos (iS o x)]at this;cases this
    |cons y b=>
     have JG:=List.pairwise_cons.1 ha;have qi:=List.pairwise_cons.1 hb
     have mm: ∀z,z∈x::a ↔ z∈y::b:=fun z=>by
      have e: ∀m:List V,z∈m ↔ z∈m.filter (eqv lt z):=fun m=>by rw[List.mem_filter];exact⟨fun g=>⟨g,iS o z⟩,And.left⟩
      rw[e (x::a),e (y::b),hf z]
     have N6:lt x y=false:=by
      rcases List.mem_cons.1 ((mm x).1 (by simp))with e|e
      · rw[e];exact o.zx y
      · exact qi.1 x e
     have hyx:lt y x=false:=by
      rcases List.mem_cons.1 ((mm y).2 (by simp))with e|e
      · rw[e];exact o.zx x
      · exact JG.1 y e
     have e:=hf x;rw[List.filter_cons_of_pos (iS o x),List.filter_cons_of_pos (by simp[eqv,N6,hyx])]at e;obtain⟨rfl,_⟩:=List.cons.inj e
     congr 1
     refine ih a b (by simpa using hn) JG.2 qi.2 fun z=> ?_;have:=hf z;simp only[List.filter_cons]at this;split at this
     · exact(List.cons.inj this).2
     · exact this
 exact key s.length s s' (Nat.le_refl _) h.1 h'.1 fun x=>by rw[h.2 x,h'.2 x]
theorem cut [Inhabited V]{X Y:List V}(hX:kP lt X)(hY:kP lt Y){u v:Nat}(hu:u<=X.length)(hv:v<=Y.length)
 (h1:0<v->u<X.length->lt (Y[v-1]!) (X[u]!)=true) (h2:0<u->v<Y.length->lt (Y[v]!) (X[u-1]!)=false):
 (∀x∈X.drop u,∀y∈Y.take v,lt y x=true)/\(∀x∈X.take u,∀y∈Y.drop v,lt y x=false):=by
 have le: ∀{l:List V},kP lt l-> ∀{i j:Nat} (xo:i<=j) (hj:j<l.length),lt (l[j]) (l[i])=false:=fun{l} hl {i j} xo hj=>by
  by_cases e:i=j
  · subst e;exact o.zx _
  · exact(List.pairwise_iff_getElem.1 hl) i j (by omega) hj (by omega)
 constructor
 · intro x hx y hy
   obtain⟨i,hi,rfl⟩:=List.getElem_of_mem hx;obtain⟨j,hj,rfl⟩:=List.getElem_of_mem hy;rw[List.length_drop]at hi;rw[List.length_take]at hj;have g:=h1 (by omega) (by omega)
   rw[getElem!_pos Y (v-1) (by omega),getElem!_pos X u (by omega)]at g;rw[List.getElem_drop,List.getElem_take]
   exact pb o g (le hX (by omega) (by omega)) (le hY (by omega) (by omega))
 · intro x hx y hy
   obtain⟨i,hi,rfl⟩:=List.getElem_of_mem hx;obtain⟨j,hj,rfl⟩:=List.getElem_of_mem hy;rw[List.length_take]at hi;rw[List.length_drop]at hj;have g:=h2 (by omega) (by omega)
   rw[getElem!_pos Y v (by omega),getElem!_pos X (u-1) (by omega)]at g;rw[List.getElem_drop,List.getElem_take]
   exact o.neg _ _ _ (le hY (by omega) (by omega)) (o.neg _ _ _ g (le hX (by omega) (by omega)))
def ins(lt:V->V->Bool)(s:List V)(y:V):List V:=s.takeWhile (fun x=> !lt y x)++y::s.dropWhile (fun x=> !lt y x)
def bn(lt:V->V->Bool)(l:List V):List V:=l.foldl (ins lt) []
theorem Hp{s:List V}{y:V}(hs:kP lt s): ∀x∈s.dropWhile (fun x=> !lt y x),lt y x=true:=by
 induction s with
 |nil=>intro x hx;simp at hx
 |cons a s ih=>
  have h:=List.pairwise_cons.1 hs;intro x hx;rw[List.dropWhile_cons]at hx;split at hx
  · exact ih h.2 x hx
  · rename_i ha
    have ha:lt y a=true:=by simpa using ha
    rcases List.mem_cons.1 hx with rfl|hx
    · exact ha
    · exact pb o ha (h.1 x hx) (o.zx y)
omit o in
theorem Hq{s:List V}{y:V}: ∀x∈s.takeWhile (fun x=> !lt y x),lt y x=false:=by
 induction s with
 |nil=>intro x hx;simp at hx
 |cons a s ih=>
  intro x hx;rw[List.takeWhile_cons]at hx;split at hx
  · rename_i ha
    rcases List.mem_cons.1 hx with rfl|hx
    · simpa using ha
    · exact ih x hx
  · simp at hx
theorem ins_st{s:List V}{y:V}(hs:kP lt s):St lt (s++[y]) (ins lt s y):=by
 have:=yw o (y:=y) (X1:=s.takeWhile (fun x=> !lt y x)) (X2:=s.dropWhile (fun x=> !lt y x)) (by rw[List.takeWhile_append_dropWhile];exact hs) Hq (Hp o hs)
 rwa [List.takeWhile_append_dropWhile]at this
theorem SE(l:List V): ∀(p s:List V),St lt p s->St lt (p++l) (l.foldl (ins lt) s):=by
 induction l with
 |nil=>intro p s h;simpa using h
 |cons y l ih=>
  intro p s h;have h1:St lt (p++[y]) (ins lt s y):=St.comp h (St.refl (by simp[kP])) (ins_st o h.1)
  have:=ih (p++[y]) _ h1;simpa using this
theorem im(l:List V):St lt l (bn lt l):=SE o l [] [] ⟨List.Pairwise.nil,fun _=>rfl⟩
theorem rz{l s:List V}(h:St lt l s):s=bn lt l:=St.uniq o h (im o l)
omit o in
theorem bY(l:List V):(bn lt l).length=l.length:=by
 have: ∀(l s:List V),(l.foldl (ins lt) s).length=s.length+l.length:=fun l=>by
  induction l with
  |nil=>intro s;rfl
  |cons y l ih=>
   intro s;rw[List.foldl_cons,ih]
   unfold ins;have:=congrArg List.length (List.takeWhile_append_dropWhile (p:=fun x=> !lt y x) (l:=s))
   rw[List.length_append]at this;simp only[List.length_append,List.length_cons];omega
 have:=this l []
 unfold bn;rw[this];simp
end
end Go.yv
namespace Go.yv
set_option linter.unusedVariables false
set_option linter.unusedSimpArgs false
set_option linter.unusedSectionVars false
section
variable{V:Type}(lt bt:V->V->Bool)
def better(b x:V):V:=if bt x b then x else b
def eA:List V->Option V
 | []=>none
 |x::l=>some (l.foldl (better bt) x)
def ec:List V->V->List V
 | [],x=>[x]
 |y::r,x=>if eqv lt x y then better bt y x::r else x::y::r
def YV(l:List V):List V:=((bn lt l).foldl (ec lt bt) []).reverse
end
section
variable{V:Type}{lt bt:V->V->Bool}
theorem I6(l:List V)(x:V):eA bt (l++[x])=some (match eA bt l with|none=>x|some b=>better bt b x):=by
 cases l with
 |nil=>rfl
 |cons y l=>simp[eA,List.foldl_append]
theorem I7(b x:V):better bt b x=b\/better bt b x=x:=by unfold better;split<;>simp
theorem kM: ∀{l:List V} {b:V},eA bt l=some b->b∈l:=by
 intro l;cases l with
 |nil=>intro b h;simp[eA]at h
 |cons x l=>
  intro b h;simp only[eA,Option.some.injEq]at h;subst h
  have: ∀(l:List V) (x:V),l.foldl (better bt) x=x\/l.foldl (better bt) x∈l:=fun l=>by
   induction l with
   |nil=>intro x;exact .inl rfl
   |cons y l ih=>
    intro x;rw[List.foldl_cons]
    rcases ih (better bt x y)with h|h
    · rw[h]
      rcases I7 (bt:=bt) x y with e|e
      · exact .inl e
      · rw[e];exact .inr (by simp)
    · exact .inr (List.mem_cons_of_mem _ h)
  rcases this l x with h|h
  · rw[h];simp
  · exact List.mem_cons_of_mem _ h
theorem yx{l:List V}(h:eA bt l=none):l=[]:=by
 cases l with
 |nil=>rfl
 |cons x l=>cases h
end
section
variable{V:Type}{lt bt:V->V->Bool}(o:Swo lt)
include o
theorem nX{x y:V}(h:eqv lt x y=true):eqv lt y x=true:=by simp only[eqv,Bool.and_eq_true]at*;exact⟨h.2,h.1⟩
theorem nY{x y z:V}(h:eqv lt x y=true)(h':eqv lt y z=true):eqv lt x z=true:=by simp only[eqv,Bool.and_eq_true,Bool.not_eq_true']at*;exact⟨o.neg _ _ _ h.1 h'.1,o.neg _ _ _ h'.2 h.2⟩
theorem uC{x y:V}(h:eqv lt x y=true)(l:List V):l.filter (eqv lt x)=l.filter (eqv lt y):=by
 congr 1
 funext z
 rw[Bool.eq_iff_iff]
 exact⟨fun g=>nY o (nX o h) g,fun g=>nY o h g⟩
theorem lt_tr{x y z:V}(h:lt x y=true)(h':lt y z=true):lt x z=true:=
 pb o (x:=z) (y:=y) (x':=z) (y':=x) h' (o.zx z) (o.asy x y h)
theorem Py{x y z:V}(h:lt x y=true)(e:eqv lt z x=true):lt z y=true:=by simp only[eqv,Bool.and_eq_true,Bool.not_eq_true']at e;exact pb o h (o.zx y) e.2
structure Pz(s r:List V):Prop where
 up:r.Pairwise fun a b=>lt b a=true
 mem: ∀z,z∈r ↔ eA bt (s.filter (eqv lt z))=some z
omit o in
theorem Pz.sub{s r:List V}(h:Pz (lt:=lt) (bt:=bt) s r){z:V}(hz:z∈r):z∈s:=(List.mem_filter.1 (kM ((h.mem z).1 hz))).1
theorem Pz.all{s r:List V}(h:Pz (lt:=lt) (bt:=bt) s r){w:V}(hw:w∈s): ∃z∈r,eqv lt w z=true:=by
 cases hb:eA bt (s.filter (eqv lt w))with
 |none=>
  have:=yx hb;have hm:w∈s.filter (eqv lt w):=List.mem_filter.2 ⟨hw,iS o w⟩
  rw[this]at hm;cases hm
 |some z=>
  have hz:=(List.mem_filter.1 (kM hb)).2;exact⟨z,(h.mem z).2 (by rw[<-uC o hz];exact hb),hz⟩
theorem W3{s r:List V}{x:V}(h:Pz (lt:=lt) (bt:=bt) s r)(hx: ∀y∈s,lt x y=false):Pz (lt:=lt) (bt:=bt) (s++[x]) (ec lt bt r x):=by
 cases r with
 |nil=>
  have hs:s=[]:=by
   cases s with
   |nil=>rfl
   |cons w s=>obtain⟨z,hz,_⟩:=h.all o (w:=w) (by simp);cases hz
  subst hs;refine⟨by simp[ec],fun z=> ?_⟩
  simp only[ec,List.mem_singleton,List.nil_append]
  cases hz:eqv lt z x with
  |true=>
   rw[List.filter_cons_of_pos hz]
   simp only[List.filter_nil,eA,List.foldl_nil,Option.some.injEq]
   exact eq_comm
  |false=>
   rw[List.filter_cons_of_neg (by rw[hz];simp)]
   simp only[List.filter_nil,eA]
   constructor
   · rintro rfl;rw[iS o]at hz;cases hz
   · intro h;cases h
 |cons y r0=>
  have hy:=h.sub (List.mem_cons_self ..)
  have N6:=hx y hy;obtain⟨u1,u2⟩:=List.pairwise_cons.1 h.up
  have hr0: ∀b∈r0,eqv lt b x=false:=fun b hb=>by
   cases e:eqv lt b x with
   |false=>rfl
   |true=>
    have:=Py o (u1 b hb) (nX o e)
    rw[N6]at this;cases this
  cases e:eqv lt x y with
  |true=>
   have hw:eqv lt (better bt y x) x=true:=by
    rcases I7 (bt:=bt) y x with g|g<;>rw[g]
    · exact nX o e
    · exact iS o x
   have hp:ec lt bt (y::r0) x=better bt y x::r0:=by simp[ec,e]
   rw[hp]
   refine⟨List.pairwise_cons.2 ⟨fun b hb=> ?_,u2⟩,fun z=> ?_⟩
   · have g:=u1 b hb
     have ey:eqv lt (better bt y x) y=true:=nY o hw e;simp only[eqv,Bool.and_eq_true,Bool.not_eq_true']at ey;exact pb o g ey.1 (o.zx b)
   · rw[List.filter_append]
     cases hz:eqv lt z x with
     |true=>
      rw[List.filter_cons_of_pos hz,List.filter_nil,I6]
      have hb:eA bt (s.filter (eqv lt z))=some y:=by
       rw[uC o (nY o hz e)]
       exact(h.mem y).1 (by simp)
      rw[hb]
      simp only[List.mem_cons,Option.some.injEq]
      constructor
      · rintro(rfl|g)
        · rfl
        · rw[hr0 z g]at hz;cases hz
      · intro g;exact .inl g.symm
     |false=>
      rw[List.filter_cons_of_neg (by rw[hz];simp),List.filter_nil,List.append_nil,<-h.mem z]
      simp only[List.mem_cons]
      constructor
      · rintro(rfl|g)
        · rw[hw]at hz;cases hz
        · exact .inr g
      · rintro(rfl|g)
        · rw[nX o e]at hz;cases hz
        · exact .inr g
  |false=>
   have hp:ec lt bt (y::r0) x=x::y::r0:=by simp[ec,e]
   have aw:lt y x=true:=by
    cases g:lt y x with
    |true=>rfl
    |false=>simp[eqv,N6,g]at e
   have sj: ∀b∈y::r0,eqv lt b x=false:=fun b hb=>by
    rcases List.mem_cons.1 hb with rfl|hb
    · cases g:eqv lt b x with
      |false=>rfl
      |true=>rw[nX o g]at e;cases e
    · exact hr0 b hb
   have Il:s.filter (eqv lt x)=[]:=by
    rw[List.filter_eq_nil_iff]
    intro w hw hwe;obtain⟨b,hb,hbe⟩:=h.all o hw;have:=sj b hb;rw[nX o (nY o hwe hbe)]at this;cases this
   rw[hp]
   refine⟨List.pairwise_cons.2 ⟨fun b hb=> ?_,h.up⟩,fun z=> ?_⟩
   · rcases List.mem_cons.1 hb with rfl|hb
     · exact aw
     · exact lt_tr o (u1 b hb) aw
   · rw[List.filter_append]
     cases hz:eqv lt z x with
     |true=>
      rw[List.filter_cons_of_pos hz,List.filter_nil,uC o hz,Il]
      simp only[List.nil_append,eA,List.foldl_nil,Option.some.injEq]
      constructor
      · intro g
        rcases List.mem_cons.1 g with rfl|g
        · rfl
        · rw[sj z g]at hz;cases hz
      · rintro rfl;simp
     |false=>
      rw[List.filter_cons_of_neg (by rw[hz];simp),List.filter_nil,List.append_nil,<-h.mem z]
      constructor
      · intro g
        rcases List.mem_cons.1 g with rfl|g
        · rw[iS o]at hz;cases hz
        · exact g
      · exact fun g=>List.mem_cons_of_mem _ g
theorem I8: ∀(l p r:List V),kP lt (p++l)->Pz (lt:=lt) (bt:=bt) p r->Pz (lt:=lt) (bt:=bt) (p++l) (l.foldl (ec lt bt) r)
 | [],p,r,_,h=>by simpa using h
 |x::l,p,r,hs,h=>by
  have e:p++x::l=(p++[x])++l:=by simp
  rw[e]at hs⊢;exact I8 l (p++[x]) _ hs (W3 o h fun y hy=>(List.pairwise_append.1 (List.pairwise_append.1 hs).1).2.2 y hy x (by simp))
theorem PA(l:List V):(YV lt bt l).Pairwise (fun a b=>lt a b=true)/\ ∀z,z∈YV lt bt l ↔ eA bt (l.filter (eqv lt z))=some z:=by
 have h:=I8 (bt:=bt) o (bn lt l) [] [] (im o l).1 ⟨List.Pairwise.nil,fun z=>by simp[eA]⟩
 rw[List.nil_append]at h;refine⟨List.pairwise_reverse.2 h.up,fun z=> ?_⟩
 unfold YV;rw[List.mem_reverse,h.mem z,(im o l).2 z]
theorem EO{l m:List V}(h1:m.Pairwise fun a b=>lt a b=true)(h2: ∀z,z∈m ↔ eA bt (l.filter (eqv lt z))=some z):m=YV lt bt l:=by
 have key: ∀{a b:List V},(a.Pairwise fun x y=>lt x y=true)->(b.Pairwise fun x y=>lt x y=true)->(∀x,x∈a ↔ x∈b)->a=b:=by
  intro a;induction a with
  |nil=>
   intro b _ _ h;cases b with
   |nil=>rfl
   |cons y b=>have:=(h y).2 (by simp);cases this
  |cons x a ih=>
   intro b ha hb h;cases b with
   |nil=>have:=(h x).1 (by simp);cases this
   |cons y b=>
    have JG:=List.pairwise_cons.1 ha;have qi:=List.pairwise_cons.1 hb
    have N6:x=y:=by
     rcases List.mem_cons.1 ((h x).1 (by simp))with e|e
     · exact e
     · rcases List.mem_cons.1 ((h y).2 (by simp))with f|f
       · exact f.symm
       · have g:=o.asy _ _ (JG.1 y f)
         rw[qi.1 x e]at g;cases g
    subst N6
    congr 1
    refine ih JG.2 qi.2 fun z=>⟨fun hz=> ?_,fun hz=> ?_⟩
    · rcases List.mem_cons.1 ((h z).1 (List.mem_cons_of_mem _ hz))with e|e
      · subst e
        have g:=JG.1 z hz;rw[o.zx]at g;cases g
      · exact e
    · rcases List.mem_cons.1 ((h z).2 (List.mem_cons_of_mem _ hz))with e|e
      · subst e
        have g:=qi.1 z hz;rw[o.zx]at g;cases g
      · exact e
 have hs:=PA (bt:=bt) o l;exact key h1 hs.1 fun z=>by rw[h2 z,hs.2 z]
theorem mrg_len(l:List V):(YV lt bt l).length<=l.length:=by
 have: ∀(l r:List V),(l.foldl (ec lt bt) r).length<=r.length+l.length:=fun l=>by
  induction l with
  |nil=>intro r;simp
  |cons x l ih=>
   intro r;rw[List.foldl_cons]
   have h1:=ih (ec lt bt r x)
   have h2:(ec lt bt r x).length<=r.length+1:=by
    cases r with
    |nil=>simp[ec]
    |cons y r=>simp only[ec];split<;>simp
   simp only[List.length_cons];omega
 have h:=this (bn lt l) []
 rw[bY]at h;unfold YV;rw[List.length_reverse];simpa using h
end
end Go.yv
namespace Go.Proofs.YtihgnfmoafjakaaGreat
open Go.bo Go.yv
set_option linter.unusedSimpArgs false
set_option linter.unusedVariables false
def cx(x y:It):Bool:=aV x.key y.key
theorem ltB_neg{x y z:List UInt8}(h:aV x y=false)(h':aV y z=false):aV x z=false:=by
 cases g:aV x z with
 |false=>rfl
 |true=>
  cases k:aV z y with
  |true=>rw[ck g k]at h;cases h
  |false=>
   have e:y=z:=by
    rcases pN.tri y z with r|r|r
    · rw[h']at r;cases r
    · exact r
    · rw[k]at r;cases r
   subst e;rw[h]at g;cases g
theorem iF:Swo cx where
 zx x:=lt_irrefl x.key
 asy x y h:=fo h
 neg x y z h h':=ltB_neg h h'
theorem eqvI{x y:It}:eqv cx x y=(x.key==y.key):=by
 rw[Bool.eq_iff_iff,beq_iff_eq]
 simp only[eqv,cx,Bool.and_eq_true,Bool.not_eq_true']
 constructor
 · rintro⟨h1,h2⟩
   rcases pN.tri x.key y.key with r|r|r
   · rw[h1]at r;cases r
   · exact r
   · rw[h2]at r;cases r
 · intro h
   rw[h]
   exact⟨lt_irrefl _,lt_irrefl _⟩
def bt(x y:It):Bool:=decide (y.bk<x.bk)||(decide (x.bk=y.bk)&&Ao ⟨y.rep,y.bu⟩ ⟨x.rep,x.bu⟩)
def Hr(x y:It):Int:=if y.bk<x.bk then 1 else if x.bk<y.bk then-1 else fX ⟨x.rep,x.bu⟩ ⟨y.rep,y.bu⟩
theorem UF(x y:It):decide (0<Hr x y)=bt x y:=by
 rw[Bool.eq_iff_iff,decide_eq_true_iff]
 unfold Hr bt;simp only[Bool.or_eq_true,Bool.and_eq_true,decide_eq_true_eq]
 by_cases h1:y.bk<x.bk
 · simp[h1]
 · by_cases h2:x.bk<y.bk
   · rw[if_neg h1,if_pos h2]
     constructor
     · intro h;omega
     · rintro(h|⟨h,_⟩)
       · exact absurd h h1
       · omega
   · rw[if_neg h1,if_neg h2]
     have e:x.bk=y.bk:=by omega
     unfold fX;by_cases h3:(⟨x.rep,x.bu⟩:ca)=⟨y.rep,y.bu⟩
     · rw[if_pos h3]
       constructor
       · intro h;omega
       · rintro(h|⟨_,h⟩)
         · exact absurd h h1
         · rw[h3]at h
           have:=fm.1 h;omega
     · rw[if_neg h3]
       by_cases h4:Ao ⟨x.rep,x.bu⟩ ⟨y.rep,y.bu⟩=true
       · rw[if_pos h4]
         constructor
         · intro h;omega
         · rintro(h|⟨_,h⟩)
           · exact absurd h h1
           · have:=fm.1 h
             have:=fm.1 h4;simp only at*;omega
       · rw[if_neg h4]
         refine⟨fun _=> .inr ⟨e, ?_⟩,fun _=>by omega⟩
         rw[fm]at*;have hc: ¬(x.rep=y.rep/\x.bu=y.bu):=fun⟨a,b⟩=>h3 (by rw[a,b])
         simp only at*;omega
def aC(l:List It):List It:=YV cx bt (l.filter aH)
theorem eW(l:List It):(aC l).Pairwise (fun x y=>aV x.key y.key=true)/\ ∀z,z∈aC l ↔ eA bt ((l.filter aH).filter fun x=>z.key==x.key)=some z:=by
 obtain⟨h1,h2⟩:=PA (bt:=bt) iF (l.filter aH)
 refine⟨h1,fun z=> ?_⟩
 rw[show aC l=YV cx bt (l.filter aH)from rfl,h2 z]
 have:eqv cx z=fun x=>z.key==x.key:=funext fun x=>eqvI;rw[this]
theorem iq(l:List It):(aC l).length<=l.length:=Nat.le_trans (mrg_len iF _) (List.length_filter_le _ _)
theorem cy{l:List It}{x:It}(h:x∈aC l):x∈l/\aH x=true:=by
 have h:=(eW l).2 x|>.1 h
 have:=(List.mem_filter.1 (kM h)).1;exact List.mem_filter.1 this
end Go.Proofs.YtihgnfmoafjakaaGreat
namespace Go.yv
set_option linter.unusedVariables false
set_option linter.unusedSimpArgs false
section
variable{V:Type} [Inhabited V]
def nw(l:List V)(a b:Nat):Nat->List V
 |0=>l
 |n+1=>((nw l a b n).set (a+n) (l[b+n]!)).set (b+n) (l[a+n]!)
theorem EP(l:List V)(a b:Nat): ∀n,(nw l a b n).length=l.length
 |0=>rfl
 |n+1=>by simp only[nw,List.length_set];exact EP l a b n
theorem wx{l:List V}{a b:Nat}(k:Nat): ∀{n:Nat},a+n<=b->b+n<=l.length->(nw l a b n)[k]? =if a<=k/\k<a+n then l[k-a+b]? else if b<=k/\k<b+n then l[k-b+a]? else l[k]?
 |0,h,hb=>by rw[if_neg (by omega),if_neg (by omega)];rfl
 |n+1,h,hb=>by
  have ih:=wx (l:=l) (a:=a) (b:=b) k (n:=n) (by omega) (by omega)
  have hl:=EP l a b n;simp only[nw]
  rw[List.getElem?_set,List.getElem?_set,List.length_set,ih,hl]
  by_cases h1:b+n=k
  · subst h1
    rw[if_pos rfl,if_pos (by omega),if_neg (by omega),if_pos (by omega),getElem!_pos l (a+n) (by omega)]
    rw[show b+n-b+a=a+n by omega,List.getElem?_eq_getElem (by omega)]
  · rw[if_neg h1]
    by_cases h2:a+n=k
    · subst h2
      rw[if_pos rfl,if_pos (by omega),if_pos (by omega),getElem!_pos l (b+n) (by omega)]
      rw[show a+n-a+b=b+n by omega,List.getElem?_eq_getElem (by omega)]
    · rw[if_neg h2]
      by_cases h3:a<=k/\k<a+n
      · rw[if_pos h3,if_pos (by omega)]
      · rw[if_neg h3,if_neg (show¬(a<=k/\k<a+(n+1)) by omega)]
        by_cases h4:b<=k/\k<b+n
        · rw[if_pos h4,if_pos (by omega)]
        · rw[if_neg h4,if_neg (by omega)]
theorem ER(P A M B Q:List V)(h:B.length=A.length):nw (P++(A++(M++(B++Q)))) P.length (P.length+A.length+M.length) A.length=P++(B++(M++(A++Q))):=by
 apply List.ext_getElem?;intro k;rw[wx k (by omega) (by simp only[List.length_append];omega)]
 simp only[List.getElem?_append]
 repeat' split
 all_goals first|omega|rfl|(congr 1;omega)
theorem rot_gt(P U1 U2 W Q:List V)(h:W.length=U1.length):nw (P++(U1++U2++(W++Q))) P.length (P.length+(U1++U2).length) U1.length=P++W++(U2++(U1++Q)):=by
 have:=ER P U1 U2 W Q h;rw[List.length_append,<-Nat.add_assoc]
 simp only[List.append_assoc]at this⊢;exact this
theorem rot_lt(P U V1 V2 Q:List V)(h:V2.length=U.length):nw (P++(U++(V1++V2++Q))) P.length (P.length+U.length+V1.length) U.length=P++(V2++(V1++(U++Q))):=by have:=ER P U V1 V2 Q h;simp only[List.append_assoc]at this⊢;exact this
omit [Inhabited V]in
theorem swap_adj(A B:List V)(x y:V):((A++x::y::B).set (A.length+1) x).set A.length y=A++y::x::B:=by
 rw[List.set_append_right _ _ (by omega),Nat.add_sub_cancel_left,List.set_append_right _ _ (by omega),Nat.sub_self]
 rfl
omit [Inhabited V]in
theorem W4(A B:List V)(x y:V):((A++x::y::B).set A.length y).set (A.length+1) x=A++y::x::B:=by
 rw[List.set_append_right _ _ (by omega),Nat.sub_self,List.set_append_right _ _ (by omega),Nat.add_sub_cancel_left]
 rfl
end
section
variable{V:Type}
def dW(P D Z:List V)(y:V)(u:Nat):List V:=P++(D.take u++(y::(D.drop u++Z)))
theorem ES{P D Z:List V}{y:V}{u:Nat}:(dW P D Z y u).length=P.length+D.length+Z.length+1:=by
 have:=congrArg List.length (List.take_append_drop u D)
 rw[List.length_append]at this;simp only[dW,List.length_append,List.length_cons];omega
theorem LG{P D Z:List V}{y:V}{u:Nat}(h:u<D.length):dW P D Z y u=(P++D.take u)++y::D[u]::(D.drop (u+1)++Z):=by unfold dW;rw[List.drop_eq_getElem_cons h];simp only[List.append_assoc,List.cons_append]
theorem LH{P D Z:List V}{y:V}{u:Nat}(h:u<D.length):dW P D Z y (u+1)=(P++D.take u)++D[u]::y::(D.drop (u+1)++Z):=by unfold dW;rw[<-List.take_append_getElem h];simp only[List.append_assoc,List.cons_append,List.nil_append]
theorem ET{P D Z:List V}{y:V}{u:Nat}(h:u<=D.length):(dW P D Z y u)[P.length+u]? =some y:=by
 unfold dW;rw[List.getElem?_append_right (by omega),Nat.add_sub_cancel_left,List.getElem?_append_right (by rw[List.length_take];omega)]
 rw[show u-(D.take u).length=0 by rw[List.length_take];omega];rfl
theorem BL{P D:List V}{u:Nat}(h:u<D.length):(P++D.take u).length=P.length+u:=by rw[List.length_append,List.length_take];omega
theorem SF{P D Z:List V}{y:V}{u:Nat}(h:u<D.length):(dW P D Z y (u+1))[P.length+u]? =some D[u]:=by rw[LH h,<-BL h,List.getElem?_append_right (Nat.le_refl _),Nat.sub_self];rfl
theorem rowI_e{P D Z:List V}{y:V}{u:Nat}(h:u<D.length):(dW P D Z y u)[P.length+(u+1)]? =some D[u]:=by rw[LG h,<-Nat.add_assoc,<-BL h,List.getElem?_append_right (by omega),Nat.add_sub_cancel_left];rfl
theorem I9{P D Z:List V}{y:V}{u:Nat}(h:u<D.length):((dW P D Z y (u+1)).set (P.length+(u+1)) D[u]).set (P.length+u) y=dW P D Z y u:=by rw[LH h,LG h,<-Nat.add_assoc,<-BL h];exact swap_adj _ _ _ _
theorem SG{P D Z:List V}{y:V}{u:Nat}(h:u<D.length):((dW P D Z y u).set (P.length+u) D[u]).set (P.length+(u+1)) y=dW P D Z y (u+1):=by rw[LH h,LG h,<-Nat.add_assoc,<-BL h];exact W4 _ _ _ _
theorem tv{P D Z:List V}{y:V}{u:Nat}(h:u<D.length):((dW P D Z y (u+1)).set (P.length+(u+1)) D[u])[P.length+u]? =some D[u]:=by rw[List.getElem?_set_ne (by omega)];exact SF h
theorem EU{P D Z:List V}{y:V}{u:Nat}(h:u<D.length):((dW P D Z y u).set (P.length+u) D[u])[P.length+(u+1)]? =some D[u]:=by rw[List.getElem?_set_ne (by omega)];exact rowI_e h
end
section
variable{V:Type}{lt:V->V->Bool}(o:Swo lt)
include o
theorem ins_eq{S1 S2:List V}{y:V}(hs:kP lt (S1++S2))(h1: ∀x∈S1,lt y x=false)(h2: ∀x∈S2,lt y x=true):ins lt (S1++S2) y=S1++y::S2:=
 St.uniq o (ins_st o hs) (yw o hs h1 h2)
omit o in
theorem SH(l:List V)(y:V):bn lt (l++[y])=ins lt (bn lt l) y:=by unfold bn;rw[List.foldl_append];rfl
theorem LI{X Y:List V}(u v:Nat)(hX:kP lt X)(hY:kP lt Y)(h1: ∀x∈X.drop u,∀y∈Y.take v,lt y x=true)(h2: ∀x∈X.take u,∀y∈Y.drop v,lt y x=false):
 bn lt (X.take u++Y.take v)++bn lt (X.drop u++Y.drop v)=bn lt (X++Y):=by
 have:=split o (X1:=X.take u) (X2:=X.drop u) (Y1:=Y.take v) (Y2:=Y.drop v) (by rw[List.take_append_drop];exact hX) (by rw[List.take_append_drop];exact hY) h1 h2 (im o _) (im o _)
 rw[List.take_append_drop,List.take_append_drop]at this;exact rz o this
theorem pc{l:List V}(h:kP lt l):bn lt l=l:=(rz o (St.refl h)).symm
theorem nZ(l:List V):kP lt (bn lt l):=(im o l).1
omit o in
theorem kP.take{l:List V}(h:kP lt l)(n:Nat):kP lt (l.take n):=List.Pairwise.sublist (List.take_sublist _ _) h
omit o in
theorem kP.drop{l:List V}(h:kP lt l)(n:Nat):kP lt (l.drop n):=List.Pairwise.sublist (List.drop_sublist _ _) h
theorem I_(l m:List V):bn lt (bn lt l++bn lt m)=bn lt (l++m):=
 (rz o (St.comp (im o l) (im o m) (im o _)))
end
end Go.yv
namespace Go.Proofs.YtihgnfmoafjakaaGreat
open Go.bo Go.yv
set_option linter.unusedSimpArgs false
set_option linter.unusedVariables false
set_option maxRecDepth 20000
set_option maxHeartbeats 8000000
instance:Inhabited It:=⟨⟨[],0,0,0,0,false,[]⟩⟩
theorem A2:ah Tryz.prog yp Tryz.f148.ntmps (Tryz.f148.body.getD .skip)=true:=by kernel_rfl
theorem Hs(x y:It)(h:x.ok/\y.ok):ay Tryz.prog 148 [x.enc,y.enc] (· = .int .i64 (cA x.key y.key)):=by
 refine aa wj mixed Tryz.func148 rfl (Nat.le_of_ble_eq_true rfl) A2 ?_;unfold Tryz.f148;have g:=I1 (a:=x.key) (b:=y.key) ⟨h.1.1,h.2.1⟩
 simp only[It.enc]
 simp-implicitDefEqProofs (disch:=(first|omega|decide)) only[go_sem,↓reduceIte,seval,g]
def TIa:an:=yp.add 148 (entry (fun(v:It×It)=>[v.1.enc,v.2.enc]) (fun v=>v.1.ok/\v.2.ok) (fun v=> .int .i64 (cA v.1.key v.2.key)))
theorem TIa_ok:ag Tryz.prog TIa:=wj.bN Tryz.func148 (by kernel_rfl) (by kernel_rfl) fun v h=>Hs v.1 v.2 h
theorem yy(v:It×It)(h:v.1.ok/\v.2.ok):TIa.f 148 [v.1.enc,v.2.enc]=some (.int .i64 (cA v.1.key v.2.key)):=an.ao (Γ:=yp) (fun i j h=>by simpa[Prod.ext_iff,and_assoc]using h) v h
theorem EV{x y:It}(h:x.ok/\y.ok):TIa.f 148 [.agg [.str x.key,.int .i64 x.rep,.int .i64 x.bu,.int .i64 x.bk,.int .i64 x.prio,.bool x.dead,.str x.body],.agg [.str y.key,.int .i64 y.rep,.int .i64 y.bu,.int .i64 y.bk,.int .i64 y.prio,.bool y.dead,.str y.body]]=some (.int .i64 (cA x.key y.key)):=yy (x,y) h
theorem pd(l:List It)(k:Nat)(x:It):cC (l.map It.enc) k (.agg [.str x.key,.int .i64 x.rep,.int .i64 x.bu,.int .i64 x.bk,.int .i64 x.prio,.bool x.dead,.str x.body])=(l.set k x).map It.enc:=by rw[ga,List.map_set];rfl
theorem dq{l:List It}{k:Nat}{x:It}(h:l[k]? =some x):(l.map It.enc)[k]? =some (.agg [.str x.key,.int .i64 x.rep,.int .i64 x.bu,.int .i64 x.bk,.int .i64 x.prio,.bool x.dead,.str x.body]):=by rw[List.getElem?_map,h];rfl
theorem spl7(a b c d e f g a' b' c' d' e' f' g':A):eB [a,b,c,d,e,f,g] 0 [a',b',c',d',e',f',g']=[a',b',c',d',e',f',g']:=rfl
def XN:an:={TIa with fix:=fun n=>n==0,nf:=1}
theorem yz:ag Tryz.prog XN:=⟨TIa_ok.f,TIa_ok.hp⟩
@[go_sem] theorem TIs_f:XN.f=TIa.f:=rfl
@[go_sem] theorem TIs_effT:XN.Vn=false:=rfl
@[go_sem] theorem TIs_ords{n:Nat}:XN.c6 n=[]:=rfl
theorem fy:ah Tryz.prog XN Tryz.f256.ntmps (Tryz.f256.body.getD .skip)=true:=by kernel_rfl
theorem PB(l:List It)(a b n:Nat)(h:a+n<=b/\b+n<=l.length/\l.length<=1000000):dR Tryz.prog 256 [.row 0 0 7 l.length false,.int .i64 a,.int .i64 b,.int .i64 n,.fn 148 []] [.row 7 (l.map It.enc)]
 (.cD []) [.row 7 ((nw l a b n).map It.enc)] []:=by
 refine cj yz mixed Tryz.func256 rfl (Nat.le_of_ble_eq_true rfl) (fun n h _=>by simp at h;subst h;rfl) (by show _<=1;simp) (by show 1<=_;simp) fy ?_;unfold Tryz.f256;obtain⟨h1,h2,h3⟩:=h;simp-implicitDefEqProofs (disch:=(first|omega|decide)) only[go_sem,↓reduceIte,seval,List.length_map]
 refine ar [0,1,2,3] (ι:={i:Nat//i<=n}) (fun i=>[(10,.int .i64 i.1)]) (fun i=>[(0,.row 7 ((nw l a b i.1).map It.enc))]) (fun i=>n-i.1) ⟨0,by omega⟩ (by show 1<=_;simp) ?_ ?_
 · simp-implicitDefEqProofs (disch:=(first|omega|decide)) only[go_sem,↓reduceIte,seval]
   first|done|(simp[nw];done)|(exact⟨rfl,rfl⟩)|rfl
 · rintro⟨i,hi⟩
   simp only;by_cases aw:i<n
   · have ae:(i:Int)<(n:Int):=by omega
     have hA:(a:Int)+(i:Int)=((a+i:Nat):Int):=by omega
     have hB:(b:Int)+(i:Int)=((b+i:Nat):Int):=by omega
     have rA:((a+i:Nat):Int)<(l.length:Int):=by omega
     have rB:((b+i:Nat):Int)<(l.length:Int):=by omega
     have pA:(0:Int)<=((a+i:Nat):Int):=by omega
     have pB:(0:Int)<=((b+i:Nat):Int):=by omega
     have tA:((a+i:Nat):Int).toNat=a+i:=Int.toNat_natCast _;have tB:((b+i:Nat):Int).toNat=b+i:=Int.toNat_natCast _;have hc:=EP l a b i;have gx:(nw l a b i)[a+i]? =l[a+i]? :=by rw[wx _ (by omega) (by omega),if_neg (by omega),if_neg (by omega)]
     have gy:(nw l a b i)[b+i]? =l[b+i]? :=by rw[wx _ (by omega) (by omega),if_neg (by omega),if_neg (by omega)]
     have b9:nw l a b (i+1)=((nw l a b i).set (a+i) l[b+i]).set (b+i) l[a+i]:=by simp only[nw];rw[getElem!_pos l (a+i) (by omega),getElem!_pos l (b+i) (by omega)]
     rw[List.getElem?_eq_getElem (show a+i<l.length by omega)]at gx;rw[List.getElem?_eq_getElem (show b+i<l.length by omega)]at gy;generalize l[a+i]=x at*;generalize l[b+i]=y at*;generalize hnx:nw l a b (i+1)=dP at*;generalize nw l a b i=cur at*;have ex:=dq gx;have ey:=dq gy;have s1:=pd cur (a+i) y;have gy2:(cur.set (a+i) y)[b+i]? =some y:=by rw[List.getElem?_set_ne (by omega),gy]
     have ey2:=dq gy2;have s2:=pd (cur.set (a+i) y) (b+i) x;simp-implicitDefEqProofs (disch:=(first|omega|decide)) only[go_sem,↓reduceIte,seval,ae,hA,hB,rA,rB,pA,pB,tA,tB,hc,ex,ey,ey2,s1,s2,spl7,wrap_i64,List.length_map,List.length_set]
     exact⟨⟨i+1,aw⟩,⟨by simp,by show _=List.map It.enc (nw l a b (i+1));rw[hnx,b9]⟩,by show n-(i+1)<n-i;omega⟩
   · have ae: ¬(i:Int)<(n:Int):=by omega
     obtain rfl:i=n:=by omega
     simp-implicitDefEqProofs (disch:=(first|omega|decide)) only[go_sem,↓reduceIte,seval,ae,List.length_map]
abbrev SwpA:=List It×Nat×Nat×Nat
def Ht(v:SwpA):List A:=[.row 0 0 7 v.1.length false,.int .i64 v.2.1,.int .i64 v.2.2.1,.int .i64 v.2.2.2,.fn 148 []]
def iu(l:List It):List Go.bo.Obj:=[.row 7 (l.map It.enc)]
theorem wy{i j:List It}(h:iu i=iu j):i=j:=by simpa[iu]using h
def swpK(v:SwpA):Prop:=v.2.1+v.2.2.2<=v.2.2.1/\v.2.2.1+v.2.2.2<=v.1.length/\v.1.length<=1000000
def swpR(v:SwpA):A×List Go.bo.Obj×List Nat:=(.cD [],iu (nw v.1 v.2.1 v.2.2.1 v.2.2.2),[])
theorem sw_inj(i j:SwpA)(h:Ht i=Ht j)(h':iu i.1=iu j.1):i=j:=by obtain⟨l,a,b,n⟩:=i;obtain⟨l',a',b',n'⟩:=j;obtain rfl:=wy h';simp only[Ht,List.cons.injEq,A.int.injEq,true_and,and_true,Int.ofNat_inj]at h;obtain⟨rfl,rfl,rfl⟩:=h;rfl
def TIb:an:=XN.fj 256 (bC Ht (fun v=>iu v.1) swpK swpR)
theorem TIb_ok:ag Tryz.prog TIb:=yz.fj (bB Tryz.func256 (by kernel_rfl) (by kernel_rfl)) (cX fun v h=>PB v.1 v.2.1 v.2.2.1 v.2.2.2 h)
def TIr:an:={TIb with mH:=fun f=>f==256}
theorem TIr_ok:ag Tryz.prog TIr:=⟨TIb_ok.f,TIb_ok.hp⟩
@[go_sem] theorem TIr_eff{g:FuncId}:TIr.mH g=(g==256):=rfl
@[go_sem] theorem TIr_frz{g:FuncId}:TIr.pZ g=false:=rfl
@[go_sem] theorem TIr_ords{n:Nat}:TIr.c6 n=[]:=rfl
theorem LJ(l:List It)(a b n m:Nat)(hm:m=l.length)(h:a+n<=b/\b+n<=l.length/\l.length<=1000000):TIr.hp 256 [.row 0 0 7 m false,.int .i64 a,.int .i64 b,.int .i64 n,.fn 148 []] [.row 7 (l.map It.enc)]=some (.cD [],[.row 7 ((nw l a b n).map It.enc)],[]):=by subst hm;have W5:TIb.hp 256 (Ht (l,a,b,n)) (iu l)=bC Ht (fun v=>iu v.1) swpK swpR (Ht (l,a,b,n)) (iu l):=an.eC;have h0:TIr.hp 256 (Ht (l,a,b,n)) (iu l)=bC Ht (fun v=>iu v.1) swpK swpR (Ht (l,a,b,n)) (iu l):=W5;exact h0.trans (cY (FO:=fun v:SwpA=>iu v.1) sw_inj (l,a,b,n) h)
theorem fZ:ah Tryz.prog TIr Tryz.f236.ntmps (Tryz.f236.body.getD .skip)=true:=by kernel_rfl
theorem c_rotate(P U W Q:List It)(h:(P++(U++(W++Q))).length<=1000000)(hU:0<U.length)(hW:0<W.length):dR Tryz.prog 236 [.row 0 0 7 (P++(U++(W++Q))).length false,.int .i64 P.length,.int .i64 (P.length+U.length:Nat),.int .i64 (P.length+U.length+W.length:Nat),.fn 148 []] [.row 7 ((P++(U++(W++Q))).map It.enc)]
 (.cD []) [.row 7 ((P++(W++(U++Q))).map It.enc)] []:=by
 refine cj TIr_ok mixed Tryz.func236 rfl (Nat.le_of_ble_eq_true rfl) (fun n h _=>by simp at h;subst h;rfl) (by show _<=1;simp) (by show 1<=_;simp) fZ ?_;unfold Tryz.f236;have h0:=h;simp only[List.length_append]at h0;obtain⟨N,hN⟩: ∃N,(P++(U++(W++Q))).length=N:=⟨_,rfl⟩
 have Ro:=hN;simp only[List.length_append]at Ro;obtain⟨m,hm⟩: ∃m,P.length+U.length=m:=⟨_,rfl⟩
 obtain⟨R,hR⟩: ∃R,P++(W++(U++Q))=R:=⟨_,rfl⟩
 rw[hm,hR,hN]
 have e1:(m:Int)-(P.length:Int)=(U.length:Int):=by omega
 have e2:((m+W.length:Nat):Int)-(m:Int)=(W.length:Int):=by omega
 simp-implicitDefEqProofs (disch:=(first|omega|decide)) only[go_sem,↓reduceIte,seval,e1,e2,wrap_i64,List.length_map]
 refine ar [0,2,4] (ι:={p:List It×List It×List It×List It//0<p.2.1.length/\0<p.2.2.1.length/\p.1.length+p.2.1.length=m/\(p.1++(p.2.1++(p.2.2.1++p.2.2.2))).length=N/\p.1++(p.2.2.1++(p.2.1++p.2.2.2))=R}) (fun p=>[(10,.int .i64 p.1.2.1.length),(11,.int .i64 p.1.2.2.1.length)]) (fun p=>[(0,.row 7 ((p.1.1++(p.1.2.1++(p.1.2.2.1++p.1.2.2.2))).map It.enc))]) (fun p=>p.1.2.1.length+p.1.2.2.1.length) ⟨(P,U,W,Q),hU,hW,hm,hN,hR⟩ (by show 1<=_;simp) ?_ ?_
 · simp-implicitDefEqProofs (disch:=(first|omega|decide)) only[go_sem,↓reduceIte,seval]
   first|done|exact⟨rfl,rfl⟩|rfl
 · rintro⟨⟨P',U',W',Q'⟩,k1,k2,k3,k4,k5⟩
   simp only at k1 k2 k3 k4 k5⊢;have k6:=k4;simp only[List.length_append]at k6;have q1:(m:Int)-(U'.length:Int)=(P'.length:Int):=by omega
   by_cases c1:U'.length=W'.length
   · have c1':(U'.length:Int)=(W'.length:Int):=by omega
     have c1b:(((U'.length:Int)==(W'.length:Int)))=true:=by simp[c1]
     have f:=LJ (P'++(U'++(W'++Q'))) P'.length m U'.length N k4.symm ⟨by omega,by omega,by omega⟩
     have sp:=rot_gt P' U' [] W' Q' c1.symm;rw[List.append_nil,List.nil_append,k3,List.append_assoc,k5]at sp;rw[sp]at f;rw[<-c1']
     simp-implicitDefEqProofs (disch:=(first|omega|decide)) only[go_sem,↓reduceIte,seval,c1b,q1,f,wrap_i64,List.length_map,beq_self_eq_true]
   · have c1b:(((U'.length:Int)==(W'.length:Int)))=false:=by
      rw[beq_eq_false_iff_ne];omega
     by_cases c2:W'.length<U'.length
     · have c2':(W'.length:Int)<(U'.length:Int):=by omega
       have f:=LJ (P'++(U'++(W'++Q'))) P'.length m W'.length N k4.symm ⟨by omega,by omega,by omega⟩
       obtain⟨U1,U2,rfl,hu⟩: ∃U1 U2,U'=U1++U2/\U1.length=W'.length:=⟨U'.take W'.length,U'.drop W'.length,(List.take_append_drop _ _).symm,by rw[List.length_take];omega⟩
       have sp:=rot_gt P' U1 U2 W' Q' hu.symm;have lu:(U1++U2).length=U1.length+U2.length:=List.length_append;rw[k3,hu]at sp;rw[sp]at f;have q2:(((U1++U2).length:Nat):Int)-(W'.length:Int)=(U2.length:Int):=by omega
       simp-implicitDefEqProofs (disch:=(first|omega|decide)) only[go_sem,↓reduceIte,seval,c1b,c2',q1,q2,f,wrap_i64,List.length_map]
       refine⟨⟨(P'++W',U2,U1,Q'),by show 0<U2.length;omega,by show 0<U1.length;omega,by show(P'++W').length+U2.length=m;rw[List.length_append];omega,by show(P'++W'++(U2++(U1++Q'))).length=N;simp only[List.length_append];omega,by show P'++W'++(U1++(U2++Q'))=R;rw[<-k5];simp only[List.append_assoc]⟩,⟨⟨by simp,by simp;omega⟩,rfl⟩,by show U2.length+U1.length<(U1++U2).length+W'.length;omega⟩
     · have c2': ¬(W'.length:Int)<(U'.length:Int):=by omega
       have q3:(m:Int)+(W'.length:Int)-(U'.length:Int)=((m+(W'.length-U'.length):Nat):Int):=by omega
       have f:=LJ (P'++(U'++(W'++Q'))) P'.length (m+(W'.length-U'.length)) U'.length N k4.symm ⟨by omega,by omega,by omega⟩
       obtain⟨V1,V2,rfl,hv⟩: ∃V1 V2,W'=V1++V2/\V2.length=U'.length:=⟨W'.take (W'.length-U'.length),W'.drop (W'.length-U'.length),(List.take_append_drop _ _).symm,by rw[List.length_drop];omega⟩
       have sp:=rot_lt P' U' V1 V2 Q' hv;have lv:(V1++V2).length=V1.length+V2.length:=List.length_append;have ll:(V1++V2).length-U'.length=V1.length:=by omega
       rw[k3]at sp;rw[ll,sp]at f;rw[ll]at q3;have q2:(((V1++V2).length:Nat):Int)-(U'.length:Int)=(V1.length:Int):=by omega
       simp-implicitDefEqProofs (disch:=(first|omega|decide)) only[go_sem,↓reduceIte,seval,c1b,c2',q1,q2,q3,f,wrap_i64,List.length_map]
       refine⟨⟨(P',V2,V1,U'++Q'),by show 0<V2.length;omega,by show 0<V1.length;omega,by show P'.length+V2.length=m;omega,by show(P'++(V2++(V1++(U'++Q')))).length=N;simp only[List.length_append];omega,by show P'++(V1++(V2++(U'++Q')))=R;rw[<-k5];simp only[List.append_assoc]⟩,⟨⟨by simp;omega,by simp⟩,rfl⟩,by show V2.length+V1.length<U'.length+(V1++V2).length;omega⟩
theorem ssort1(S:List It):bn cx (S.take 1)++S.drop 1=S:=by
 match S with
 | []=>rfl
 | [x]=>rfl
 |x::y::S=>rfl
theorem ins_done{D:List It}{y:It}{u:Nat}(hs:kP cx D)(hu:u<=D.length)(h1:u=0\/ ∃h:u-1<D.length,cx y D[u-1]=false)(h2: ∀x∈D.drop u,cx y x=true):ins cx D y=D.take u++y::D.drop u:=by
 have:=ins_eq iF (S1:=D.take u) (S2:=D.drop u) (y:=y) (by rw[List.take_append_drop];exact hs) (fun x hx=> ?_) h2
 · rwa [List.take_append_drop]at this
 · rcases h1 with rfl|⟨h,h1⟩
   · simp at hx
   · obtain⟨i,hi,rfl⟩:=List.getElem_of_mem hx
     rw[List.length_take]at hi;rw[List.getElem_take]
     by_cases e:i=u-1
     · subst e;exact h1
     · exact iF.neg _ _ _ h1 ((List.pairwise_iff_getElem.1 hs) i (u-1) (by omega) h (by omega))
theorem EW{P D Z:List It}{y:It}:dW P D Z y D.length=P++(D++(y::Z)):=by unfold dW;rw[List.take_length,List.drop_length,List.nil_append]
theorem eN:ah Tryz.prog XN Tryz.f207.ntmps (Tryz.f207.body.getD .skip)=true:=by kernel_rfl
theorem W6(P S T:List It)(h:(P++(S++T)).length<=1000000)(hk: ∀x∈S,x.ok):dR Tryz.prog 207 [.row 0 0 7 (P++(S++T)).length false,.int .i64 P.length,.int .i64 (P.length+S.length:Nat),.fn 148 []] [.row 7 ((P++(S++T)).map It.enc)]
 (.cD []) [.row 7 ((P++(bn cx S++T)).map It.enc)] []:=by
 refine cj yz mixed Tryz.func207 rfl (Nat.le_of_ble_eq_true rfl) (fun n h _=>by simp at h;subst h;rfl) (by show _<=1;simp) (by show 1<=_;simp) eN ?_;unfold Tryz.f207;have h0:=h;simp only[List.length_append]at h0;obtain⟨N,hN⟩: ∃N,(P++(S++T)).length=N:=⟨_,rfl⟩
 have Ro:=hN;simp only[List.length_append]at Ro;rw[hN]
 simp-implicitDefEqProofs (disch:=(first|omega|decide)) only[go_sem,↓reduceIte,seval,wrap_i64,List.length_map]
 refine ar [0,1,2,3] (ι:={k:Nat//1<=k/\(k<=S.length\/k=1)}) (fun k=>[(8,.int .i64 ((P.length+k.1:Nat):Int))]) (fun k=>[(0,.row 7 ((P++(bn cx (S.take k.1)++(S.drop k.1++T))).map It.enc))]) (fun k=>S.length-k.1) ⟨1,by omega,.inr rfl⟩ (by show 1<=_;simp) ?_ ?_
 · have e:=ssort1 S
   rw[<-List.append_assoc (bn cx (S.take 1)),e]
   simp-implicitDefEqProofs (disch:=(first|omega|decide)) only[go_sem,↓reduceIte,seval]
   first|done|(simp;done)|(exact⟨by simp,rfl⟩)
 · rintro⟨k,lC,VP⟩
   simp only;by_cases aw:k<S.length
   · have ae:((P.length+k:Nat):Int)<((P.length+S.length:Nat):Int):=by omega
     obtain⟨D,hD⟩: ∃D,bn cx (S.take k)=D:=⟨_,rfl⟩
     have hDl:D.length=k:=by rw[<-hD,bY,List.length_take];omega
     have hDs:kP cx D:=hD▸nZ iF _;have hDk: ∀x∈D,x.ok:=fun x hx=>by rw[<-hD]at hx;exact hk x (List.mem_of_mem_take ((St.mem iF (im iF _) x).1 hx))
     have hyk:=hk _ (List.getElem_mem aw)
     have hsd:S.drop k=S[k]::S.drop (k+1):=List.drop_eq_getElem_cons aw;have b9:bn cx (S.take (k+1))=ins cx D S[k]:=by rw[<-List.take_append_getElem aw,SH,hD]
     rw[hD,hsd]
     generalize S[k]=y at*;obtain⟨Z,hZ⟩: ∃Z,S.drop (k+1)++T=Z:=⟨_,rfl⟩
     have hNZ:P.length+D.length+Z.length+1=N:=by rw[<-hZ,List.length_append,List.length_drop];omega
     rw[List.cons_append,hZ,<-EW]
     simp-implicitDefEqProofs (disch:=(first|omega|decide)) only[go_sem,↓reduceIte,seval,ae,wrap_i64,List.length_map]
     refine ar [0,1,2,3,8] (ι:={u:Nat//u<=D.length/\ ∀x∈D.drop u,cx y x=true}) (fun u=>[(9,.int .i64 ((P.length+u.1:Nat):Int))]) (fun u=>[(0,.row 7 ((dW P D Z y u.1).map It.enc))]) (fun u=>u.1) ⟨D.length,Nat.le_refl _,by rw[List.drop_length];simp⟩ (by show 1<=_;simp) ?_ ?_
     · simp-implicitDefEqProofs (disch:=(first|omega|decide)) only[go_sem,↓reduceIte,seval,hDl]
       try rfl
     · rintro⟨u,hu,V9⟩
       simp only;have fin: ∀h1:(u=0\/ ∃h:u-1<D.length,cx y D[u-1]=false),dW P D Z y u=P++(bn cx (S.take (k+1))++(S.drop (k+1)++T)):=fun h1=>by rw[b9,ins_done hDs (by omega) h1 V9,hZ,dW,List.append_assoc];rfl
       cases u with
       |zero=>
        have fin:=fin (.inl rfl)
        rw[fin,Nat.add_zero]
        have k1:((P.length+k:Nat):Int)+1=((P.length+(k+1):Nat):Int):=by omega
        simp-implicitDefEqProofs (disch:=(first|omega|decide)) only[go_sem,↓reduceIte,seval,k1,Int.lt_irrefl,wrap_i64,List.length_map]
        refine⟨⟨k+1,by omega,.inl (by omega)⟩,⟨by simp,rfl⟩,by show S.length-(k+1)<S.length-k;omega⟩
       |succ u=>
        have hud:u<D.length:=hu;have c0:(P.length:Int)<((P.length+(u+1):Nat):Int):=by omega
        have j1:((P.length+(u+1):Nat):Int)-1=((P.length+u:Nat):Int):=by omega
        have k1:((P.length+k:Nat):Int)+1=((P.length+(k+1):Nat):Int):=by omega
        have pj:(0:Int)<=((P.length+(u+1):Nat):Int):=by omega
        have pj1:(0:Int)<=((P.length+u:Nat):Int):=by omega
        have rj:((P.length+(u+1):Nat):Int)<(N:Int):=by omega
        have rj1:((P.length+u:Nat):Int)<(N:Int):=by omega
        have tj:((P.length+(u+1):Nat):Int).toNat=P.length+(u+1):=Int.toNat_natCast _;have tj1:((P.length+u:Nat):Int).toNat=P.length+u:=Int.toNat_natCast _;have hdk:=hDk _ (List.getElem_mem hud)
        have ln:=ES (P:=P) (D:=D) (Z:=Z) (y:=y) (u:=u+1)
        rw[hNZ]at ln;have gy:=dq (ET (P:=P) (Z:=Z) (y:=y) hu)
        have gd:=dq (SF (P:=P) (Z:=Z) (y:=y) hud)
        have gd2:=dq (tv (P:=P) (Z:=Z) (y:=y) hud)
        have s1:=pd (dW P D Z y (u+1)) (P.length+(u+1)) D[u]
        have s2:=pd ((dW P D Z y (u+1)).set (P.length+(u+1)) D[u]) (P.length+u) y;rw[I9 hud]at s2;have gc:=EV (x:=y) (y:=D[u]) ⟨hyk,hdk⟩
        have hdd:D.drop u=D[u]::D.drop (u+1):=List.drop_eq_getElem_cons hud;have fin2:cx y D[u]=false->_:=fun hh=>fin (.inr ⟨by show u<D.length;omega,hh⟩)
        have dP:cx y D[u]=true-> ∀x∈D.drop u,cx y x=true:=fun hh x hx=>by
          rw[hdd]at hx;rcases List.mem_cons.1 hx with rfl|hx
          · exact hh
          · exact V9 x hx
        have W7:cx y D[u]=aV y.key D[u].key:=rfl;rw[W7]at fin2 dP;clear fin hdd V9;generalize D[u]=d at*;cases hb:aV y.key d.key with
        |true=>
          have dP:=dP hb;generalize dW P D Z y (u+1)=r1 at*;generalize hr0:dW P D Z y u=r0 at*;simp-implicitDefEqProofs (disch:=(first|omega|decide)) only[go_sem,↓reduceIte,seval,c0,j1,k1,pj,pj1,rj,rj1,tj,tj1,ln,gy,gd,gd2,s1,s2,gc,hb,spl7,wrap_i64,List.length_map,List.length_set]
          exact⟨⟨u,by omega,dP⟩,⟨by simp,by rw[hr0]⟩,by show u<u+1;omega⟩
        |false=>
          have fin2:=fin2 hb;rw[fin2]at gy gd⊢;rw[fin2]at ln;generalize hr1:P++(bn cx (S.take (k+1))++(S.drop (k+1)++T))=r1 at*;simp-implicitDefEqProofs (disch:=(first|omega|decide)) only[go_sem,↓reduceIte,seval,c0,j1,k1,pj,pj1,rj,rj1,tj,tj1,ln,gy,gd,gc,hb,wrap_i64,List.length_map,List.length_set]
          refine⟨⟨k+1,by omega,.inl (by omega)⟩,⟨by simp,by rw[hr1]⟩,by show S.length-(k+1)<S.length-k;omega⟩
   · have ae: ¬((P.length+k:Nat):Int)<((P.length+S.length:Nat):Int):=by omega
     have e1:S.take k=S:=List.take_of_length_le (by omega)
     have e2:S.drop k=[]:=List.drop_of_length_le (by omega)
     rw[e1,e2,List.nil_append]
     simp-implicitDefEqProofs (disch:=(first|omega|decide)) only[go_sem,↓reduceIte,seval,ae,List.length_map]
def LK:an:=uA.add 166 (entry (fun(v:(Int×Int)×(Int×Int))=>[.agg [.int .i64 v.1.1,.int .i64 v.1.2],.agg [.int .i64 v.2.1,.int .i64 v.2.2]]) (fun v=>True) (fun v=> .int .i64 (fX ⟨v.1.1,v.1.2⟩ ⟨v.2.1,v.2.2⟩)))
theorem UG:ag Tryz.prog LK:=wm.bN Tryz.func166 (by kernel_rfl) (by kernel_rfl) fun v h=>nv ⟨v.1.1,v.1.2⟩ ⟨v.2.1,v.2.2⟩
@[go_sem] theorem X18a_old{g:FuncId}{xs:List A}(h:g≠166):LK.f g xs=uA.f g xs:=an.ak h
@[go_sem] theorem X18a_s:LK.pl uA:=⟨fun _=>rfl,fun _=>rfl,rfl,fun _=>rfl,rfl,fun _=>rfl,rfl⟩
theorem yA(v:(Int×Int)×(Int×Int))(h:True):LK.f 166 [.agg [.int .i64 v.1.1,.int .i64 v.1.2],.agg [.int .i64 v.2.1,.int .i64 v.2.2]]=some (.int .i64 (fX ⟨v.1.1,v.1.2⟩ ⟨v.2.1,v.2.2⟩)):=an.ao (Γ:=uA) (fun i j h=>by simpa[Prod.ext_iff,and_assoc]using h) v h
theorem x_vCmp{r c r' c':Int}:LK.f 166 [.agg [.int .i64 r,.int .i64 c],.agg [.int .i64 r',.int .i64 c']]=some (.int .i64 (fX ⟨r,c⟩ ⟨r',c'⟩)):=yA ((r,c),(r',c')) trivial
theorem PC:ah Tryz.prog LK Tryz.f130.ntmps (Tryz.f130.body.getD .skip)=true:=by kernel_rfl
theorem SI(x y:It):ay Tryz.prog 130 [x.enc,y.enc] (· = .int .i64 (Hr x y)):=by
 refine aa UG mixed Tryz.func130 rfl (Nat.le_of_ble_eq_true rfl) PC ?_;unfold Tryz.f130;have g:=x_vCmp (r:=x.rep) (c:=x.bu) (r':=y.rep) (c':=y.bu)
 simp only[It.enc,Hr]
 by_cases h1:y.bk<x.bk
 · simp-implicitDefEqProofs (disch:=(first|omega|decide)) only[go_sem,↓reduceIte,seval,h1]
 · by_cases h2:x.bk<y.bk
   · simp-implicitDefEqProofs (disch:=(first|omega|decide)) only[go_sem,↓reduceIte,seval,h1,h2]
   · simp-implicitDefEqProofs (disch:=(first|omega|decide)) only[go_sem,↓reduceIte,seval,h1,h2,g]
def Hu:an:=LK.add 130 (entry (fun(v:It×It)=>[v.1.enc,v.2.enc]) (fun v=>True) (fun v=> .int .i64 (Hr v.1 v.2)))
theorem UH:ag Tryz.prog Hu:=UG.bN Tryz.func130 (by kernel_rfl) (by kernel_rfl) fun v h=>SI v.1 v.2
@[go_sem] theorem X18b_old{g:FuncId}{xs:List A}(h:g≠130):Hu.f g xs=LK.f g xs:=an.ak h
theorem Hv(v:It×It)(h:True):Hu.f 130 [v.1.enc,v.2.enc]=some (.int .i64 (Hr v.1 v.2)):=an.ao (Γ:=LK) (fun i j h=>by simpa[Prod.ext_iff,and_assoc]using h) v h
theorem x_Cmp{x y:It}:Hu.f 130 [.agg [.str x.key,.int .i64 x.rep,.int .i64 x.bu,.int .i64 x.bk,.int .i64 x.prio,.bool x.dead,.str x.body],.agg [.str y.key,.int .i64 y.rep,.int .i64 y.bu,.int .i64 y.bk,.int .i64 y.prio,.bool y.dead,.str y.body]]=some (.int .i64 (Hr x y)):=Hv (x,y) trivial
theorem iT(l:List It)(x:It):l.map It.enc++[.agg [.str x.key,.int .i64 x.rep,.int .i64 x.bu,.int .i64 x.bk,.int .i64 x.prio,.bool x.dead,.str x.body]]=(l++[x]).map It.enc:=by rw[List.map_append];rfl
theorem UI{x:It}(h:x.ok):LA.f 69 [.agg [.str x.key,.int .i64 x.rep,.int .i64 x.bu,.int .i64 x.bk,.int .i64 x.prio,.bool x.dead,.str x.body]]=some (.bool (aH x)):=UD h
theorem jv{α:Type}{l:List α}{k:Nat}{f:α->Bool}(h:k<l.length):(l.take (k+1)).filter f=(l.take k).filter f++(if f l[k]then [l[k]]else []):=by
 rw[<-List.take_append_getElem h,List.filter_append]
 cases hf:f l[k]<;>simp[hf]
theorem SJ{α:Type}(L:List (List α))(i:Nat):((L.take i).flatten).length<=L.flatten.length:=by
 have:=congrArg (fun l:List (List α)=>l.flatten.length) (List.take_append_drop i L)
 simp only[List.flatten_append,List.length_append]at this;omega
theorem EX{α:Type}{L:List (List α)}{i:Nat}(h:i<L.length):(L.take (i+1)).flatten=(L.take i).flatten++L[i]:=by rw[<-List.take_append_getElem h,List.flatten_append];simp
theorem W8(r:List It)(x:It):(ec cx bt r x).length<=r.length+1:=by
 cases r with
 |nil=>simp[ec]
 |cons y r=>simp only[ec];split<;>simp
theorem I': ∀(l r:List It),(l.foldl (ec cx bt) r).length<=r.length+l.length
 | [],r=>by simp
 |x::l,r=>by
  rw[List.foldl_cons]
  have h1:=I' l (ec cx bt r x)
  have h2:=W8 r x;simp only[List.length_cons];omega
def Hw:an:=Hu.add 124 (entry (fun(v:(Int×Int)×(Int×Int))=>[.agg [.int .i64 v.1.1,.int .i64 v.1.2],.agg [.int .i64 v.2.1,.int .i64 v.2.2]]) (fun v=>True) (fun v=> .bool (Ao ⟨v.1.1,v.1.2⟩ ⟨v.2.1,v.2.2⟩)))
theorem UJ:ag Tryz.prog Hw:=UH.bN Tryz.func124 (by kernel_rfl) (by kernel_rfl) fun v h=>vP ⟨v.1.1,v.1.2⟩ ⟨v.2.1,v.2.2⟩
@[go_sem] theorem X18c_old{g:FuncId}{xs:List A}(h:g≠124):Hw.f g xs=Hu.f g xs:=an.ak h
@[go_sem] theorem X18c_s:Hw.pl Hu:=⟨fun _=>rfl,fun _=>rfl,rfl,fun _=>rfl,rfl,fun _=>rfl,rfl⟩
theorem A3(v:(Int×Int)×(Int×Int))(h:True):Hw.f 124 [.agg [.int .i64 v.1.1,.int .i64 v.1.2],.agg [.int .i64 v.2.1,.int .i64 v.2.2]]=some (.bool (Ao ⟨v.1.1,v.1.2⟩ ⟨v.2.1,v.2.2⟩)):=an.ao (Γ:=Hu) (fun i j h=>by simpa[Prod.ext_iff,and_assoc]using h) v h
theorem x_vLess{r c r' c':Int}:Hw.f 124 [.agg [.int .i64 r,.int .i64 c],.agg [.int .i64 r',.int .i64 c']]=some (.bool (Ao ⟨r,c⟩ ⟨r',c'⟩)):=A3 ((r,c),(r',c')) trivial
theorem EY:ah Tryz.prog Hw Tryz.f64.ntmps (Tryz.f64.body.getD .skip)=true:=by kernel_rfl
theorem Hx(x y:It):ay Tryz.prog 64 [x.enc,y.enc] (· = .bool (bt x y)):=by
 refine aa UJ mixed Tryz.func64 rfl (Nat.le_of_ble_eq_true rfl) EY ?_;unfold Tryz.f64;have g:=x_vLess (r:=y.rep) (c:=y.bu) (r':=x.rep) (c':=x.bu)
 simp only[It.enc,bt]
 cases h1:x.bk==y.bk with
 |true=>
  have nj:x.bk=y.bk:=by simpa using h1
  have h2: ¬y.bk<x.bk:=by omega
  have d2:decide (y.bk<x.bk)=false:=decide_eq_false h2;have d1:decide (x.bk=y.bk)=true:=decide_eq_true nj;rw[d1,d2,Bool.true_and,Bool.false_or]
  simp-implicitDefEqProofs (disch:=(first|omega|decide)) only[go_sem,↓reduceIte,seval,h1,g]
 |false=>
  have nj: ¬x.bk=y.bk:=by simpa using h1
  have d1:decide (x.bk=y.bk)=false:=decide_eq_false nj;rw[d1,Bool.false_and,Bool.or_false]
  simp-implicitDefEqProofs (disch:=(first|omega|decide)) only[go_sem,↓reduceIte,seval,h1]
def LM:an:=Hw.add 64 (entry (fun(v:It×It)=>[v.1.enc,v.2.enc]) (fun v=>True) (fun v=> .bool (bt v.1 v.2)))
theorem UK:ag Tryz.prog LM:=UJ.bN Tryz.func64 (by kernel_rfl) (by kernel_rfl) fun v h=>Hx v.1 v.2
@[go_sem] theorem X18d_old{g:FuncId}{xs:List A}(h:g≠64):LM.f g xs=Hw.f g xs:=an.ak h
@[go_sem] theorem X18d_s:LM.pl Hw:=⟨fun _=>rfl,fun _=>rfl,rfl,fun _=>rfl,rfl,fun _=>rfl,rfl⟩
theorem yB(v:It×It)(h:True):LM.f 64 [v.1.enc,v.2.enc]=some (.bool (bt v.1 v.2)):=an.ao (Γ:=Hw) (fun i j h=>by simpa[Prod.ext_iff,and_assoc]using h) v h
theorem UL{x y:It}:LM.f 64 [.agg [.str x.key,.int .i64 x.rep,.int .i64 x.bu,.int .i64 x.bk,.int .i64 x.prio,.bool x.dead,.str x.body],.agg [.str y.key,.int .i64 y.rep,.int .i64 y.bu,.int .i64 y.bk,.int .i64 y.prio,.bool y.dead,.str y.body]]=some (.bool (bt x y)):=yB (x,y) trivial
def n5(k:List UInt8)(all:Bool)(x:It):Bool:=aH x&&(all||x.key==k)
def EZ(l:List It)(k:List UInt8)(all:Bool):Nat->Int
 |0=> -1
 |n+1=>if n5 k all (l[n]!)&&(decide (EZ l k all n<0)||bt (l[n]!) (l[(EZ l k all n).toNat]!))then(n:Int)else EZ l k all n
theorem E4(l:List It)(k:List UInt8)(all:Bool): ∀n,n<=l.length->(EZ l k all n= -1/\eA bt ((l.take n).filter (n5 k all))=none)\/(∃j,j<n/\EZ l k all n=(j:Int)/\eA bt ((l.take n).filter (n5 k all))=some (l[j]!))
 |0,_=> .inl ⟨rfl,rfl⟩
 |n+1,h=>by
  have aw:n<l.length:=by omega
  have ih:=E4 l k all n (by omega)
  have eZ:=jv (f:=n5 k all) aw;rw[<-getElem!_pos l n aw]at eZ;simp only[EZ]
  rw[eZ]
  cases hc:n5 k all (l[n]!)with
  |false=>
   simp only[Bool.false_and,Bool.false_eq_true,if_false,List.append_nil]
   rcases ih with ih|⟨j,h1,h2,h3⟩
   · exact .inl ih
   · exact .inr ⟨j,by omega,h2,h3⟩
  |true=>
   simp only[Bool.true_and,if_true]
   rw[I6]
   rcases ih with⟨h1,h2⟩|⟨j,h1,h2,h3⟩
   · rw[h1,h2]
     exact .inr ⟨n,by omega,by simp,rfl⟩
   · rw[h2,h3]
     have h0: ¬((j:Int)<0):=by omega
     have ht:((j:Nat):Int).toNat=j:=by simp
     rw[decide_eq_false h0,Bool.false_or,ht]
     simp only[better]
     cases hb:bt (l[n]!) (l[j]!)with
     |true=>exact .inr ⟨n,by omega,by simp,by simp⟩
     |false=>exact .inr ⟨j,by omega,by simp,by simp⟩
theorem bAt_rng(l:List It)(k:List UInt8)(all:Bool)(n:Nat)(h:n<=l.length):EZ l k all n= -1\/ ∃j,j<n/\EZ l k all n=(j:Int):=by
 rcases E4 l k all n h with h|⟨j,h1,h2,_⟩
 · exact .inl h.1
 · exact .inr ⟨j,h1,h2⟩
theorem wz{x:It}(h:x.ok):EK.f 73 [.agg [.str x.key,.int .i64 x.rep,.int .i64 x.bu,.int .i64 x.bk,.int .i64 x.prio,.bool x.dead,.str x.body]]=some (.bool (aH x)):=nW x h
theorem Hy:ah Tryz.prog LM Tryz.f86.ntmps (Tryz.f86.body.getD .skip)=true:=by kernel_rfl
theorem LN(l:List It)(k:List UInt8)(all:Bool)(hl:l.length<=1000000)(hk: ∀x∈l,x.ok):ay Tryz.prog 86 [.ab (l.map It.enc),.str k,.bool all] (· = .int .i64 (EZ l k all l.length)):=by
 refine aa UK mixed Tryz.func86 rfl (Nat.le_of_ble_eq_true rfl) Hy ?_;unfold Tryz.f86;simp-implicitDefEqProofs (disch:=(first|omega|decide)) only[go_sem,↓reduceIte,seval,List.length_map]
 refine ar [0,1,2] (ι:={i:Nat//i<=l.length}) (fun i=>[(8,.int .i64 i.1),(7,.int .i64 (EZ l k all i.1))]) (fun _=>[]) (fun i=>l.length-i.1) ⟨0,by omega⟩ (Nat.zero_le _) ?_ ?_
 · simp-implicitDefEqProofs (disch:=(first|omega|decide)) only[go_sem,↓reduceIte,seval,EZ]
   try rfl
 · rintro⟨i,hi⟩
   simp only;by_cases aw:i<l.length
   · have ae:(i:Int)<(l.length:Int):=by omega
     have p1:(0:Int)<=(i:Int):=by omega
     have t1:((i:Nat):Int).toNat=i:=Int.toNat_natCast _;have e1:=dq (l:=l) (k:=i) (x:=l[i]!) (by rw[getElem!_pos l i aw,List.getElem?_eq_getElem aw])
     have ox:(l[i]!).ok:=by rw[getElem!_pos l i aw];exact hk _ (List.getElem_mem aw)
     have g1:=wz ox;have hb:EZ l k all (i+1)=if n5 k all (l[i]!)&&(decide (EZ l k all i<0)||bt (l[i]!) (l[(EZ l k all i).toNat]!))then(i:Int)else EZ l k all i:=rfl
     have hr:=bAt_rng l k all i hi;have dP: ∀v:Int,EZ l k all (i+1)=v-> ∃j:{i:Nat//i<=l.length},((i:Int)+1=(j.1:Int)/\v=EZ l k all j.1)/\l.length-j.1<l.length-i:=fun v hv=>⟨⟨i+1,aw⟩,⟨by simp,hv.symm⟩,by show l.length-(i+1)<l.length-i;omega⟩
     have e2: ∀j,j<i->(l.map It.enc)[j]? =some (.agg [.str (l[j]!).key,.int .i64 (l[j]!).rep,.int .i64 (l[j]!).bu,.int .i64 (l[j]!).bk,.int .i64 (l[j]!).prio,.bool (l[j]!).dead,.str (l[j]!).body]):=fun j hj=>dq (by rw[getElem!_pos l j (by omega),List.getElem?_eq_getElem (by omega)])
     generalize l[i]! =x at*;generalize EZ l k all i=a at*;cases hR:aH x with
     |false=>
      rw[hR]at g1;simp only[n5,hR,Bool.false_and,Bool.false_eq_true,if_false]at hb;simp-implicitDefEqProofs (disch:=(first|omega|decide)) only[go_sem,↓reduceIte,seval,ae,p1,t1,e1,g1,wrap_i64,List.length_map]
      exact dP _ hb
     |true=>
      rw[hR]at g1;cases all
      all_goals
       cases Vs:x.key==k
       all_goals
          simp only[n5,hR,Vs,Bool.or_false,Bool.false_or,Bool.or_true,Bool.true_or,Bool.false_and,Bool.true_and,Bool.false_eq_true,if_false]at hb
      · simp-implicitDefEqProofs (disch:=(first|omega|decide)) only[go_sem,↓reduceIte,seval,ae,p1,t1,e1,g1,Vs,wrap_i64,List.length_map]
        exact dP _ hb
      all_goals
       rcases hr with rfl|⟨j,hj,rfl⟩
      all_goals
       first
          |(have hm:decide ((-1:Int)<0)=true:=rfl
            simp only[hm,Bool.true_or,if_true]at hb;simp-implicitDefEqProofs (disch:=(first|omega|decide)) only[go_sem,↓reduceIte,seval,ae,p1,t1,e1,g1,Vs,wrap_i64,List.length_map]
            exact dP _ hb)
          |(have q1: ¬((j:Int)<0):=by omega
            have q2:(0:Int)<=(j:Int):=by omega
            have q3:(j:Int)<(l.length:Int):=by omega
            have q4:((j:Nat):Int).toNat=j:=Int.toNat_natCast _;have ej:=e2 j hj;simp only[decide_eq_false q1,Bool.false_or,q4]at hb;generalize l[j]! =y at*;have gb:=UL (x:=x) (y:=y)
            cases hw:bt x y
            · rw[hw]at gb
              simp only[hw,Bool.false_eq_true,if_false]at hb;simp-implicitDefEqProofs (disch:=(first|omega|decide)) only[go_sem,↓reduceIte,seval,ae,p1,t1,e1,g1,Vs,q1,q2,q3,q4,ej,gb,wrap_i64,List.length_map]
              exact dP _ hb
            · rw[hw]at gb
              simp only[hw,if_true]at hb;simp-implicitDefEqProofs (disch:=(first|omega|decide)) only[go_sem,↓reduceIte,seval,ae,p1,t1,e1,g1,Vs,q1,q2,q3,q4,ej,gb,wrap_i64,List.length_map]
              exact dP _ hb)
   · have ae: ¬(i:Int)<(l.length:Int):=by omega
     obtain rfl:i=l.length:=by omega
     simp-implicitDefEqProofs (disch:=(first|omega|decide)) only[go_sem,↓reduceIte,seval,ae,List.length_map]
def PD:an:=LM.add 86 (entry (fun(v:List It×List UInt8×Bool)=>[.ab (v.1.map It.enc),.str v.2.1,.bool v.2.2]) (fun v=>v.1.length<=1000000/\ ∀x∈v.1,x.ok) (fun v=> .int .i64 (EZ v.1 v.2.1 v.2.2 v.1.length)))
theorem X18e_ok:ag Tryz.prog PD:=UK.bN Tryz.func86 (by kernel_rfl) (by kernel_rfl) fun v h=>LN v.1 v.2.1 v.2.2 h.1 h.2
@[go_sem] theorem X18e_old{g:FuncId}{xs:List A}(h:g≠86):PD.f g xs=LM.f g xs:=an.ak h
theorem A4(v:List It×List UInt8×Bool)(h:v.1.length<=1000000/\ ∀x∈v.1,x.ok):PD.f 86 [.ab (v.1.map It.enc),.str v.2.1,.bool v.2.2]=some (.int .i64 (EZ v.1 v.2.1 v.2.2 v.1.length)):=an.ao (Γ:=LM) (fun i j h=>by simpa[Prod.ext_iff,and_assoc]using h) v h
theorem x_Best{l:List It}{k:List UInt8}{all:Bool}(h:l.length<=1000000/\ ∀x∈l,x.ok):PD.f 86 [.ab (l.map It.enc),.str k,.bool all]=some (.int .i64 (EZ l k all l.length)):=A4 (l,k,all) h
def ly(a b:List It):Bool:=decide (a=b)
def iJ(F:List ax)(l:List It):List It:=l.filter fun x=>aj F x.key
theorem sC(F:List ax)(l:List It):(iJ F l).length<=l.length:=List.length_filter_le _ _
def sT:an:=PD.add 135 (entry (fun(l:List ax)=>[.ab (l.map ax.enc)]) (fun l=>l.length<=100000/\dB l) (fun l=> .ab ((dv (aj l)).map ax.enc)))
theorem lR:ag Tryz.prog sT:=X18e_ok.bN Tryz.func135 (by kernel_rfl) (by kernel_rfl) fun l h=>rf l (Nat.le_trans h.1 (by decide)) h.2
@[go_sem] theorem X18f_old{g:FuncId}{xs:List A}(h:g≠135):sT.f g xs=PD.f g xs:=an.ak h
@[go_sem] theorem X18f_s:sT.pl PD:=⟨fun _=>rfl,fun _=>rfl,rfl,fun _=>rfl,rfl,fun _=>rfl,rfl⟩
theorem E5(l:List ax)(h:l.length<=100000/\dB l):sT.f 135 [.ab (l.map ax.enc)]=some (.ab ((dv (aj l)).map ax.enc)):=an.ao (Γ:=PD) (fun i j h=>by simpa[Prod.ext_iff,and_assoc]using h) l h
theorem x_rOf{l:List ax}(h:l.length<=100000/\dB l):sT.f 135 [.ab (l.map ax.enc)]=some (.ab ((dv (aj l)).map ax.enc)):=E5 l h
theorem SK:ah Tryz.prog sT Tryz.f82.ntmps (Tryz.f82.body.getD .skip)=true:=by kernel_rfl
theorem W9(l:List It)(F:List ax)(hl:l.length<=1000000)(hF:F.length<=100000/\dB F)(hk: ∀x∈l,x.ok):ay Tryz.prog 82 [.ab (l.map It.enc),.ab (F.map ax.enc)] (· = .ab ((iJ F l).map It.enc)):=by
 refine aa lR mixed Tryz.func82 rfl (Nat.le_of_ble_eq_true rfl) SK ?_;unfold Tryz.f82;have g0:=x_rOf hF;have tk: ∀m:List It,(m.map It.enc).take m.length=m.map It.enc:=fun m=>List.take_of_length_le (by simp)
 have gH: ∀s:List UInt8,s.length<=9223372036854775807->K0.f 70 [.ab ((dv (aj F)).map ax.enc),.str s]=some (.bool (aj F s)):=fun s hs=>by
  have:=jR (l:=dv (aj F)) (s:=s) (Nat.le_trans (rh F) hF.1) (vY _) hs
  rwa [C8 (TU F)]at this
 generalize dv (aj F)=S at*;simp-implicitDefEqProofs (disch:=(first|omega|decide)) only[go_sem,↓reduceIte,seval,g0,List.length_map]
 refine aW 5 7 rfl ?_;refine ar [1,10,11] (ι:={j:Nat//j<=l.length}) (fun j=>[(12,.int .i64 j.1),(5,.row 0 0 7 (iJ F (l.take j.1)).length false)]) (fun j=>[(0,.row 7 ((iJ F (l.take j.1)).map It.enc))]) (fun j=>l.length-j.1) ⟨0,by omega⟩ (Nat.zero_le _) ?_ ?_
 · simp-implicitDefEqProofs (disch:=(first|omega|decide)) only[go_sem,↓reduceIte,seval]
   first|done|(simp[iJ];done)|exact⟨⟨rfl,rfl⟩,rfl⟩
 · rintro⟨j,hj⟩
   simp only;by_cases pK:j<l.length
   · have k_:(j:Int)<(l.length:Int):=by omega
     have ej:=cN pK;have gr:=gH l[j].key (hk _ (List.getElem_mem pK)).1;have eZ:iJ F (l.take (j+1))=iJ F (l.take j)++(if aj F l[j].key then [l[j]]else []):=jv (f:=fun x:It=>aj F x.key) pK
     have hgl:(iJ F (l.take j)).length<=1000000:=by
      have:=sC F (l.take j)
      rw[List.length_take]at this;omega
     generalize l[j]=x at*;obtain⟨G,hG⟩: ∃G,iJ F (l.take j)=G:=⟨_,rfl⟩
     have tkG:=tk G;rw[hG]at eZ hgl⊢;cases hr:aj F x.key with
     |true=>
      rw[hr,if_pos rfl]at eZ;rw[hr]at gr;simp-implicitDefEqProofs (disch:=(first|omega|decide)) only[go_sem,↓reduceIte,seval,k_,ej,gr,tkG,wrap_i64,List.length_map]
      refine⟨⟨Nat.le_refl _,by omega⟩,⟨j+1,pK⟩,⟨⟨by simp,by rw[eZ];simp⟩,by rw[eZ,<-iT]⟩,by show l.length-(j+1)<l.length-j;omega⟩
     |false=>
      rw[hr]at eZ gr;simp only[Bool.false_eq_true,if_false,List.append_nil]at eZ;simp-implicitDefEqProofs (disch:=(first|omega|decide)) only[go_sem,↓reduceIte,seval,k_,ej,gr,wrap_i64,List.length_map]
      exact⟨⟨j+1,pK⟩,⟨⟨by simp,by rw[eZ]⟩,by rw[eZ]⟩,by show l.length-(j+1)<l.length-j;omega⟩
   · have k_: ¬(j:Int)<(l.length:Int):=by omega
     rw[List.take_of_length_le (by omega)]
     have Ja:=tk (iJ F l)
     simp-implicitDefEqProofs (disch:=(first|omega|decide)) only[go_sem,↓reduceIte,seval,k_,Ja,wrap_i64,List.length_map,Nat.le_refl]
theorem PE:ah Tryz.prog sT Tryz.f30.ntmps (Tryz.f30.body.getD .skip)=true:=by kernel_rfl
theorem SL(l:List It)(F:List ax)(hl:l.length<=1000000)(hF:F.length<=100000/\dB F)(hk: ∀x∈l,x.ok):ay Tryz.prog 30 [.ab (l.map It.enc),.ab (F.map ax.enc)] (· = .ab ((iJ F l).map It.enc)):=by
 refine aa lR mixed Tryz.func30 rfl (Nat.le_of_ble_eq_true rfl) PE ?_;unfold Tryz.f30;have tk: ∀m:List It,(m.map It.enc).take m.length=m.map It.enc:=fun m=>List.take_of_length_le (by simp)
 have gH: ∀s:List UInt8,s.length<=9223372036854775807->Ej.f 36 [.ab (F.map ax.enc),.str s]=some (.bool (aj F s)):=fun s hs=>fE (by omega) hF.2 hs;simp-implicitDefEqProofs (disch:=(first|omega|decide)) only[go_sem,↓reduceIte,seval]
 refine aW 5 7 rfl ?_;refine ar [0,1] (ι:={j:Nat//j<=l.length}) (fun j=>[(6,.int .i64 j.1),(5,.row 0 0 7 (iJ F (l.take j.1)).length false)]) (fun j=>[(0,.row 7 ((iJ F (l.take j.1)).map It.enc))]) (fun j=>l.length-j.1) ⟨0,by omega⟩ (Nat.zero_le _) ?_ ?_
 · simp-implicitDefEqProofs (disch:=(first|omega|decide)) only[go_sem,↓reduceIte,seval]
   first|done|(simp[iJ];done)|exact⟨⟨rfl,rfl⟩,rfl⟩
 · rintro⟨j,hj⟩
   simp only;by_cases pK:j<l.length
   · have k_:(j:Int)<(l.length:Int):=by omega
     have ej:=cN pK;have gr:=gH l[j].key (hk _ (List.getElem_mem pK)).1;have eZ:iJ F (l.take (j+1))=iJ F (l.take j)++(if aj F l[j].key then [l[j]]else []):=jv (f:=fun x:It=>aj F x.key) pK
     have hgl:(iJ F (l.take j)).length<=1000000:=by
      have:=sC F (l.take j)
      rw[List.length_take]at this;omega
     generalize l[j]=x at*;obtain⟨G,hG⟩: ∃G,iJ F (l.take j)=G:=⟨_,rfl⟩
     have tkG:=tk G;rw[hG]at eZ hgl⊢;cases hr:aj F x.key with
     |true=>
      rw[hr,if_pos rfl]at eZ;rw[hr]at gr;simp-implicitDefEqProofs (disch:=(first|omega|decide)) only[go_sem,↓reduceIte,seval,k_,ej,gr,tkG,wrap_i64,List.length_map]
      refine⟨⟨Nat.le_refl _,by omega⟩,⟨j+1,pK⟩,⟨⟨by simp,by rw[eZ];simp⟩,by rw[eZ,<-iT]⟩,by show l.length-(j+1)<l.length-j;omega⟩
     |false=>
      rw[hr]at eZ gr;simp only[Bool.false_eq_true,if_false,List.append_nil]at eZ;simp-implicitDefEqProofs (disch:=(first|omega|decide)) only[go_sem,↓reduceIte,seval,k_,ej,gr,wrap_i64,List.length_map]
      exact⟨⟨j+1,pK⟩,⟨⟨by simp,by rw[eZ]⟩,by rw[eZ]⟩,by show l.length-(j+1)<l.length-j;omega⟩
   · have k_: ¬(j:Int)<(l.length:Int):=by omega
     rw[List.take_of_length_le (by omega)]
     have Ja:=tk (iJ F l)
     simp-implicitDefEqProofs (disch:=(first|omega|decide)) only[go_sem,↓reduceIte,seval,k_,Ja,wrap_i64,List.length_map,Nat.le_refl]
end Go.Proofs.YtihgnfmoafjakaaGreat
namespace Go.Proofs.YtihgnfmoafjakaaGreat
open Go.bo
set_option linter.unusedSimpArgs false
set_option linter.unusedVariables false
theorem Jb{p:Pc}{x:List UInt8}:setAt [p] x=if b_ p.r x=true then p.s else []:=by unfold setAt;by_cases h:b_ p.r x=true<;>simp[h]
theorem pe{k:List Pc}{x:List UInt8}{n c:Int}:hk (setAt k x) n c=true ↔∃p∈k,b_ p.r x=true/\hk p.s n c=true:=by
 rw[WZ]
 constructor
 · rintro⟨p,hp,h⟩
   rw[Jb]at h;split at h
   · rename_i hx;exact⟨p,hp,hx,h⟩
   · simp[hk,aD,ai]at h
 · rintro⟨p,hp,hx,h⟩
   exact⟨p,hp,by rw[Jb,if_pos hx];exact h⟩
theorem rC{p:Pc}{id b:Int}(UM:bE id=true)(hb:0<=b):px p id<=b ↔∀c,hk p.s id c=true->c<=b:=by
 unfold px hk;rw[if_pos UM]
 obtain⟨h1,h2,h3,h4⟩:=Wf (ig (ai (aD p.s id)))
 have e: ∀c,ai (cJ (ai (aD p.s id))) c=ai (aD p.s id) c:=fun c=>nO (BB _) c;constructor
 · intro h c hc
   have:=h4 c (by rw[e];exact hc)
   omega
 · intro h
   by_cases hz:0<eV (cJ (ai (aD p.s id)))
   · have:=h3 hz
     rw[e]at this;exact h _ this
   · omega
structure bq(s:aI):Prop where
 id:1<=s.id/\s.id<=16
 ct:0<=s.ct/\s.ct<=1099511627776
 len:s.az.length<=4096
 fl:aP s.fl=true
 up:s.az.Pairwise fun x y=>aV x.key y.key=true
 right: ∀x∈s.az,aH x=true
 kn:aR s.kn=true
 inF: ∀x n,bE n=true-> ∀c,hk (setAt s.kn x) n c=true->aj s.fl x=true
 A5: ∀x c,hk (setAt s.kn x) s.id c=true->c<=s.ct
 apart:s.az.Pairwise fun x y=> ¬(x.rep=y.rep/\x.bu=y.bu)
 az: ∀x∈s.az,aj s.fl x.key=true/\bG s.kn x.key x.rep x.bu=true
theorem E6: ∀{l:List It} {p:Option (List UInt8)},goI p l=true ↔ (∀x∈l,aH x=true)/\l.Pairwise (fun x y=>aV x.key y.key=true)/\ ∀k,p=some k-> ∀x∈l,aV k x.key=true
 | [],p=>by simp[goI]
 |x::l,p=>by
  simp only[goI,Bool.and_eq_true,E6 (l:=l),List.pairwise_cons,List.mem_cons,forall_eq_or_imp]
  constructor
  · rintro⟨⟨h1,h2⟩,h3,h4,h5⟩
    have h6:=h5 x.key rfl;refine⟨⟨h1,h3⟩,⟨h6,h4⟩, ?_⟩
    rintro k rfl;exact⟨h2,fun y hy=>ck h2 (h6 y hy)⟩
  · rintro⟨⟨h1,h2⟩,⟨h3,h4⟩,h5⟩
    refine⟨⟨h1, ?_⟩,h2,h4, ?_⟩
    · cases p with
      |none=>rfl
      |some k=>exact(h5 k rfl).1
    · rintro k hk y hy
      obtain rfl:=Option.some.inj hk;exact h3 y hy
theorem n9{l:List It}:c_ l=true ↔ l.Pairwise fun x y=> ¬(x.rep=y.rep/\x.bu=y.bu):=by
 unfold c_;rw[List.all_eq_true,List.pairwise_iff_getElem]
 constructor
 · intro h i j hi hj xo
   have h1:=h j (List.mem_range.2 hj)
   simp only[pa,List.getElem?_eq_getElem hj,Bool.not_eq_true',List.any_eq_false,decide_eq_true_eq]at h1
   exact h1 l[i] (by
    have:l[i]=(l.take j)[i]'(by rw[List.length_take];omega):=by rw[List.getElem_take]
    rw[this];exact List.getElem_mem _)
 · intro h j hj
   have hj:=List.mem_range.1 hj;simp only[pa,List.getElem?_eq_getElem hj,Bool.not_eq_true',List.any_eq_false,decide_eq_true_eq]
   intro y hy;obtain⟨i,hi,rfl⟩:=List.getElem_of_mem hy;rw[List.length_take]at hi;rw[List.getElem_take]
   exact h i j (by omega) hj (by omega)
theorem bQ(s:aI):aU s=true ↔ bq s:=by
 unfold aU;simp only[Bool.and_eq_true,Bool.not_eq_true',decide_eq_true_eq,List.all_eq_true]
 constructor
 · rintro⟨⟨⟨⟨⟨⟨⟨⟨⟨h1,h2⟩,h3⟩,h4⟩,h5⟩,h6⟩,h7⟩,h8⟩,h9⟩,h10⟩
   simp only[EI]at h1 h2;simp at h1 h2;have UM:bE s.id=true:=bL.2 (by omega)
   have Rl:=rr.1 (by
    have e:cZ (aT (bj s.kn s.fl)) s.kn=cZ (aT (bj s.kn s.fl)) (aT (cL s.kn)):=by rw[gj h6]
    rw[e]at h7;unfold cZ at h7
    rwa [decide_eq_true_iff,Pr (kK _ _) (yo _)]at h7)
   unfold dg at h8;rw[ry]at h8;obtain⟨g1,g2,_⟩:=E6.1 h5
   exact{
    id:=by omega
    ct:=by omega
    len:=h3
    fl:=h4
    up:=g2
    right:=g1
    kn:=h6
    inF:=Rl
    A5:=fun x c hc=>by obtain⟨p,hp,_,h⟩:=pe.1 hc;exact(rC UM (by omega)).1 (h8.2 p hp) c h
    apart:=n9.1 h9
    az:=h10}
 · intro h
   have UM:bE s.id=true:=bL.2 h.id;have:=h.id;have:=h.ct;refine⟨⟨⟨⟨⟨⟨⟨⟨⟨?_, ?_⟩,h.len⟩,h.fl⟩, ?_⟩,h.kn⟩, ?_⟩, ?_⟩, ?_⟩,h.az⟩
   · simp[EI];omega
   · simp[EI];omega
   · exact E6.2 ⟨h.right,h.up,fun k hk=>by cases hk⟩
   · have e:cZ (aT (bj s.kn s.fl)) s.kn=cZ (aT (bj s.kn s.fl)) (aT (cL s.kn)):=by rw[gj h.kn]
     rw[e]
     unfold cZ;rw[decide_eq_true_iff,Pr (kK _ _) (yo _)]
     exact rr.2 h.inF
   · unfold dg
     rw[ry]
     refine⟨h.ct.1,fun p hp=>(rC UM h.ct.1).2 fun c hc=> ?_⟩
     have h1:=(dN.1 h.kn).1 p hp;unfold dS at h1;simp only[Bool.and_eq_true]at h1;exact h.A5 p.r.lo c (pe.2 ⟨p,hp,lI h1.1.1,hc⟩)
   · exact n9.2 h.apart
open Go.yv
theorem E7{key x:List UInt8}{v:ca}{n c:Int}(E9:1<=key.length/\key.length<=16)(hv:aN v=true)(hn:bE n=true):hk (setAt (cB key [v]) x) n c=true ↔ x=key/\n=v.r/\c=v.c:=by
 have h1: ∀n,bE n=true-> ∀c,hk (dG (cT [v])) n c=true ↔ n=v.r/\c=v.c:=fun n hn c=>by
  rw[DW hn c]
  unfold hk;rw[Lx,List.mem_singleton]
  constructor
  · rintro⟨e,_⟩;rw[<-e];exact⟨rfl,rfl⟩
  · rintro⟨e1,e2⟩
    have e:(⟨n,c⟩:ca)=v:=KX e1 e2;rw[e];exact⟨rfl,hv⟩
 have hr:bE v.r=true:=by unfold aN at hv;simp only[Bool.and_eq_true,decide_eq_true_eq]at hv;exact bL.2 ⟨hv.1.1.1,hv.1.1.2⟩
 have cg:dG (cT [v])≠ []:=fun e=>by
  have:=(h1 v.r hr v.c).2 ⟨rfl,rfl⟩
  rw[e]at this;simp[hk,aD,ai]at this
 have e:cB key [v]=[⟨nq key,dG (cT [v])⟩]:=by unfold cB;rw[if_pos ⟨by simpa using E9,cg⟩]
 rw[e,pe]
 constructor
 · rintro⟨p,hp,hx,h⟩
   obtain rfl:=List.mem_singleton.1 hp;rw[JZ E9.2]at hx;exact⟨by simpa using hx,(h1 n hn c).1 h⟩
 · rintro⟨rfl,h⟩
   exact⟨_,List.mem_singleton.2 rfl,by rw[JZ E9.2];simp,(h1 n hn c).2 h⟩
theorem lf{x:It}(h:aH x=true):bE x.rep=true/\(1<=x.key.length/\x.key.length<=16)/\aN ⟨x.rep,x.bu⟩=true:=by
 unfold aH at h;simp only[Bool.and_eq_true,decide_eq_true_eq]at h;have hv:=h.1.1.1.1.1.1.2;refine⟨?_,h.1.1.1.1.1.1.1,hv⟩
 unfold aN at hv;simp only[Bool.and_eq_true,decide_eq_true_eq]at hv;exact bL.2 ⟨hv.1.1.1,hv.1.1.2⟩
theorem dX{k:List Pc}{x:List UInt8}{n c:Int}(hn:bE n=true):bG k x n c=hk (setAt k x) n c:=by rw[hasP_at];unfold oS hk;rw[hn,Bool.true_and]
def dh(s:aI)(x:It):aI:=⟨s.id,s.fl,aC (x::s.az),aT (cL (s.kn++cB x.key [⟨x.rep,x.bu⟩])),s.ct+1⟩
theorem up_len{l:List It}{x:It}(hr: ∀y∈x::l,aH y=true)(hl:l.Pairwise fun a b=>aV a.key b.key=true)(hm:x.key∈l.map (·.key)):(aC (x::l)).length<=l.length:=by
 obtain⟨h1,h2⟩:=eW (x::l)
 have sub: ∀z∈aC (x::l),z.key∈l.map (·.key):=fun z hz=>by
  rcases List.mem_cons.1 (cy hz).1 with rfl|h
  · exact hm
  · exact List.mem_map.2 ⟨z,h,rfl⟩
 have nd:((aC (x::l)).map (·.key)).Nodup:=by
  unfold List.Nodup;rw[List.pairwise_map]
  exact h1.imp fun{a b} h e=>by rw[e,lt_irrefl]at h;cases h
 have key: ∀(a b:List (List UInt8)),a.Nodup->(∀z∈a,z∈b)->a.length<=b.length:=fun a=>by
  induction a with
  |nil=>intro b _ _;simp
  |cons y a ih=>
   intro b hn hs;obtain⟨n1,n2⟩:=List.nodup_cons.1 hn;have hy:=hs y (by simp)
   have:=ih (b.erase y) n2 fun z hz=>by
    have cg:z≠y:=fun e=>n1 (e▸hz)
    exact(List.mem_erase_of_ne cg).2 (hs z (List.mem_cons_of_mem _ hz))
   rw[List.length_erase_of_mem hy]at this;have:0<b.length:=List.length_pos_of_mem hy;simp only[List.length_cons];omega
 have:=key _ _ nd fun z hz=>by obtain⟨w,hw,rfl⟩:=List.mem_map.1 hz;exact sub w hw
 simpa using this
theorem W_{s:aI}{x:It}(h:bq s)(hx:aH x=true)(hr:x.rep=s.id)(hc:x.bu=s.ct+1)(hf:aj s.fl x.key=true)(hm:s.ct<1099511627776)(hl:s.az.length<4096\/x.key∈s.az.map (·.key)):bq (dh s x):=by
 obtain⟨cS,E9,hv⟩:=lf hx
 have iO: ∀y∈x::s.az,aH y=true:=fun y hy=>by
  rcases List.mem_cons.1 hy with rfl|hy
  · exact hx
  · exact h.right y hy
 have hj: ∀z n,bE n=true-> ∀c,hk (setAt (aT (cL (s.kn++cB x.key [⟨x.rep,x.bu⟩]))) z) n c=true ↔ hk (setAt s.kn z) n c=true\/(z=x.key/\n=x.rep/\c=x.bu):=fun z n hn c=>by rw[dA hn,Bool.or_eq_true,E7 E9 hv hn]
 have hct:=h.ct;obtain⟨m1,m2⟩:=eW (x::s.az)
 exact{
  id:=h.id
  ct:=by show 0<=s.ct+1/\s.ct+1<=_;omega
  len:=by
   show(aC (x::s.az)).length<=4096;rcases hl with hl|hl
   · have:=iq (x::s.az);simp only[List.length_cons]at this;omega
   · exact Nat.le_trans (up_len iO h.up hl) h.len
  fl:=h.fl
  up:=m1
  right:=fun y hy=>(cy hy).2
  kn:=fe _
  inF:=fun z n hn c hc=>by
   rcases(hj z n hn c).1 hc with g|⟨rfl,_,_⟩
   · exact h.inF z n hn c g
   · exact hf
  A5:=fun z c hc=>by
   show c<=s.ct+1;rcases(hj z s.id (bL.2 h.id) c).1 hc with g|⟨_,_,e⟩
   · have:=h.A5 z c g;omega
   · omega
  apart:=by
   show(aC (x::s.az)).Pairwise _
   have FZ: ∀y∈s.az,¬(y.rep=x.rep/\y.bu=x.bu):=fun y hy ⟨e1,e2⟩=>by
    obtain⟨Bw,_,_⟩:=lf (h.right y hy)
    have:=(h.az y hy).2;rw[dX Bw,e1,hr]at this;have:=h.A5 _ _ this;omega
   have j_: ∀y∈aC (x::s.az),y=x\/y∈s.az:=fun y hy=>List.mem_cons.1 (cy hy).1;refine List.Pairwise.imp_of_mem ?_ m1;intro a b ha hb NJ ⟨e1,e2⟩
   rcases j_ a ha with rfl|JG<;>rcases j_ b hb with rfl|qi
   · rw[lt_irrefl]at NJ;cases NJ
   · exact FZ b qi ⟨e1.symm,e2.symm⟩
   · exact FZ a JG ⟨e1,e2⟩
   · obtain⟨i,hi,rfl⟩:=List.getElem_of_mem JG
     obtain⟨j,wS,rfl⟩:=List.getElem_of_mem qi;have hp:=List.pairwise_iff_getElem.1 h.apart;rcases Nat.lt_trichotomy i j with r|r|r
     · exact hp i j hi wS r ⟨e1,e2⟩
     · subst r;rw[lt_irrefl]at NJ;cases NJ
     · exact hp j i wS hi r ⟨e1.symm,e2.symm⟩
  az:=fun y hy=>by
   show aj s.fl y.key=true/\bG (aT (cL (s.kn++cB x.key [⟨x.rep,x.bu⟩]))) y.key y.rep y.bu=true;rcases List.mem_cons.1 (cy hy).1 with rfl|xe
   · exact⟨hf,by rw[dX cS];exact(hj _ _ cS _).2 (.inr ⟨rfl,rfl,rfl⟩)⟩
   · obtain⟨Bw,_,_⟩:=lf (h.right y xe)
     obtain⟨g1,g2⟩:=h.az y xe;rw[dX Bw]at g2;exact⟨g1,by rw[dX Bw];exact(hj _ _ Bw _).2 (.inl g2)⟩}
def PF(s:aI)(l:List It)(k:List Pc):aI:=⟨s.id,s.fl,aC (s.az++l),aT (cL (s.kn++k)),s.ct⟩
theorem E_{s:aI}{l:List It}{k:List Pc}(h:bq s)(hf: ∀x∈l,aj s.fl x.key=true)(lC: ∀x n,bE n=true-> ∀c,hk (setAt k x) n c=true->aj s.fl x=true)
 (VP: ∀x c,hk (setAt k x) s.id c=true->c<=s.ct) (hl: ∀x∈l,bG s.kn x.key x.rep x.bu=true\/bG k x.key x.rep x.bu=true)
 (ha:(aC (s.az++l)).Pairwise fun x y=> ¬(x.rep=y.rep/\x.bu=y.bu)) (hn:(aC (s.az++l)).length<=4096):bq (PF s l k):=by
 have hj: ∀z n,bE n=true-> ∀c,hk (setAt (aT (cL (s.kn++k))) z) n c=true ↔ hk (setAt s.kn z) n c=true\/hk (setAt k z) n c=true:=fun z n hn c=>by rw[dA hn,Bool.or_eq_true]
 obtain⟨m1,m2⟩:=eW (s.az++l)
 exact{
  id:=h.id
  ct:=h.ct
  len:=hn
  fl:=h.fl
  up:=m1
  right:=fun y hy=>(cy hy).2
  kn:=fe _
  inF:=fun z n hn c hc=>by
   rcases(hj z n hn c).1 hc with g|g
   · exact h.inF z n hn c g
   · exact lC z n hn c g
  A5:=fun z c hc=>by
   rcases(hj z s.id (bL.2 h.id) c).1 hc with g|g
   · exact h.A5 z c g
   · exact VP z c g
  apart:=ha
  az:=fun y hy=>by
   show aj s.fl y.key=true/\bG (aT (cL (s.kn++k))) y.key y.rep y.bu=true;obtain⟨Bw,_,_⟩:=lf (cy hy).2;rw[dX Bw,hj _ _ Bw,<-dX Bw,<-dX Bw]
   rcases List.mem_append.1 (cy hy).1 with xe|xe
   · exact⟨(h.az y xe).1,.inl (h.az y xe).2⟩
   · exact⟨hf y xe,hl y xe⟩}
theorem uD(x:It):bt x x=false:=by simp[bt,Ao]
theorem bt_tr{x y z:It}(h:bt x y=true)(h':bt y z=true):bt x z=true:=by simp only[bt,Bool.or_eq_true,Bool.and_eq_true,decide_eq_true_eq,fm]at*;omega
theorem PG{l:List It}{b:It}(h:eA bt l=some b): ∀x∈l,bt x b=false:=by
 cases l with
 |nil=>cases h
 |cons y l=>
  simp only[eA,Option.some.injEq]at h
  have key: ∀(l p:List It) (y:It),(∀x∈p,bt x y=false)-> ∀x∈p++l,bt x (l.foldl (better bt) y)=false:=fun l=>by
   induction l with
   |nil=>intro p y hp x hx;exact hp x (by simpa using hx)
   |cons z l ih=>
    intro p y hp x hx;rw[List.foldl_cons]
    have e:p++z::l=(p++[z])++l:=by simp
    rw[e]at hx;refine ih (p++[z]) _ (fun w hw=> ?_) x hx;unfold better;rcases List.mem_append.1 hw with hw|hw
    · split
      · rename_i hz
        cases g:bt w z with
        |false=>rfl
        |true=>
         have:=bt_tr g hz;rw[hp w hw]at this;cases this
      · exact hp w hw
    · obtain rfl:=List.mem_singleton.1 hw
      split
      · exact uD w
      · rename_i hz;simpa using hz
  intro x hx;have:=key l [y] y (fun x hx=>by obtain rfl:=List.mem_singleton.1 hx;exact uD x) x (by simpa using hx)
  rw[h]at this;exact this
theorem Jc{l:List It}{x:It}(hx:x∈l)(hr:aH x=true): ∃y∈aC l,y.key=x.key/\bt x y=false:=by
 cases hb:eA bt ((l.filter aH).filter fun y=>x.key==y.key)with
 |none=>
  have:=yx hb;have hm:x∈(l.filter aH).filter fun y=>x.key==y.key:=List.mem_filter.2 ⟨List.mem_filter.2 ⟨hx,hr⟩,by simp⟩
  rw[this]at hm;cases hm
 |some y=>
  have hy:=(List.mem_filter.1 (kM hb)).2;have hy:x.key=y.key:=by simpa using hy
  refine⟨y,((eW l).2 y).2 (by rw[<-hy];exact hb),hy.symm,PG hb x (List.mem_filter.2 ⟨List.mem_filter.2 ⟨hx,hr⟩,by simp⟩)⟩
set_option maxRecDepth 20000
set_option maxHeartbeats 8000000
def UN:It:=⟨[],0,0,0,0,false,[]⟩
def dm(l:List It)(k:List UInt8):Option It:=l.find? fun x=>x.key==k
def PH:Option It->A
 |some x=> .cD [x.enc,.bool true]
 |none=> .cD [UN.enc,.bool false]
theorem LO:ah Tryz.prog sT Tryz.f37.ntmps (Tryz.f37.body.getD .skip)=true:=by kernel_rfl
theorem PI(s:aI)(k:List UInt8)(hl:s.az.length<=1000000):ay Tryz.prog 37 [s.enc,.str k] (· =PH (dm s.az k)):=by
 refine aa lR mixed Tryz.func37 rfl (Nat.le_of_ble_eq_true rfl) LO ?_;unfold Tryz.f37;obtain⟨id,F,I,K,ct⟩:=s;simp only[aI.enc,aI.cells]at*;simp-implicitDefEqProofs (disch:=(first|omega|decide)) only[go_sem,↓reduceIte,seval,List.length_map]
 refine ar [1,2,4,9,10] (ι:={i:Nat//i<=I.length/\dm I k=dm (I.drop i) k}) (fun i=>[(11,.int .i64 i.1)]) (fun _=>[]) (fun i=>I.length-i.1) ⟨0,by omega,rfl⟩ (Nat.zero_le _) ?_ ?_
 · simp-implicitDefEqProofs (disch:=(first|omega|decide)) only[go_sem,↓reduceIte,seval]
   try rfl
 · rintro⟨i,hi,hd⟩
   simp only;by_cases aw:i<I.length
   · have ae:(i:Int)<(I.length:Int):=by omega
     have e1:=cN aw;rw[List.drop_eq_getElem_cons aw]at hd;generalize I[i]=x at*;cases hk:x.key==k with
     |true=>
      have hg:dm I k=some x:=by rw[hd];simp[dm,hk]
      rw[hg]
      simp-implicitDefEqProofs (disch:=(first|omega|decide)) only[go_sem,↓reduceIte,seval,ae,e1,hk,wrap_i64,List.length_map]
      rfl
     |false=>
      have hg:dm I k=dm (I.drop (i+1)) k:=by rw[hd];simp[dm,hk]
      simp-implicitDefEqProofs (disch:=(first|omega|decide)) only[go_sem,↓reduceIte,seval,ae,e1,hk,wrap_i64,List.length_map]
      exact⟨⟨i+1,aw,hg⟩,by simp,by show I.length-(i+1)<I.length-i;omega⟩
   · have ae: ¬(i:Int)<(I.length:Int):=by omega
     rw[List.drop_of_length_le (by omega)]at hd;have hg:dm I k=none:=hd;rw[hg]
     simp-implicitDefEqProofs (disch:=(first|omega|decide)) only[go_sem,↓reduceIte,seval,ae,List.length_map]
     rfl
def mA(l:List It)(k:List UInt8):Int:=match l.findIdx? fun x=>x.key==k with|some i=>(i:Int)|none=> -1
theorem LP:ah Tryz.prog sT Tryz.f87.ntmps (Tryz.f87.body.getD .skip)=true:=by kernel_rfl
theorem PJ(l:List It)(hl:l.length<=4611686018427387904)(ho:mM l):ay Tryz.prog 87 [.ab (l.map It.enc)] (· = .bool (ch l)):=by
 refine aa lR mixed Tryz.func87 rfl (Nat.le_of_ble_eq_true rfl) LP ?_;unfold Tryz.f87;simp-implicitDefEqProofs (disch:=(first|omega|decide)) only[go_sem,↓reduceIte,seval,List.length_map]
 refine ar [0,5,6] (ι:={k:Nat//k<=l.length/\ch l=goI (py l k) (l.drop k)}) (fun p=>[(7,.int .i64 p.1)]) (fun _=>[]) (fun p=>l.length-p.1) ⟨0,by omega,rfl⟩ (Nat.zero_le _) ?_ ?_
 · simp-implicitDefEqProofs (disch:=(first|omega|decide)) only[go_sem,↓reduceIte,seval]
 · rintro⟨k,hk,hd⟩
   simp only;by_cases aw:k<l.length
   · have ae:(k:Int)<(l.length:Int):=by omega
     have e1:=cN aw;have sS:=ho _ (List.getElem_mem aw)
     have Qg:py l (k+1)=some l[k].key:=by simp[py,aw]
     rw[List.drop_eq_getElem_cons aw]at hd;simp only[goI]at hd;rw[<-Qg]at hd;generalize hx:l[k]=x at*;obtain⟨key,rep,bu,bk,prio,dead,body⟩:=x;have g1:=UD sS;simp only at hd e1 sS;cases hr:aH ⟨key,rep,bu,bk,prio,dead,body⟩with
     |false=>
      rw[hr]at g1 hd;rw[Bool.false_and,Bool.false_and]at hd;simp-implicitDefEqProofs (disch:=(first|omega|decide)) only[go_sem,↓reduceIte,seval,ae,e1,g1,hd,List.length_map]
     |true=>
      rw[hr]at g1 hd;cases k with
      |zero=>
       rw[show py l 0=none from rfl,Bool.true_and,Bool.true_and]at hd;have hlt0:(0:Int)<(l.length:Int):=by omega
       simp-implicitDefEqProofs (disch:=(first|omega|decide)) only[go_sem,↓reduceIte,seval,ae,hlt0,e1,g1,wrap_i64,List.length_map]
       exact⟨⟨1,aw,hd⟩,by simp,by show l.length-1<l.length-0;omega⟩
      |succ j=>
       have hj:j<l.length:=by omega
       have e2:=cN hj;have hoy:=ho _ (List.getElem_mem hj)
       have Ki:py l (j+1)=some l[j].key:=by simp[py,hj]
       rw[Ki]at hd;generalize hy:l[j]=y at*;obtain⟨Pu,Hl,LF,rank',prio',dead',body'⟩:=y;simp only at hd e2 hoy;have c0:(0:Int)<((j+1:Nat):Int):=by omega
       have c1:(((j+1:Nat):Int)-1).toNat=j:=by omega
       have c2:(0:Int)<=((j+1:Nat):Int)-1:=by omega
       have c3:((j+1:Nat):Int)-1<(l.length:Int):=by omega
       have g2:=I1 (a:=Pu) (b:=key) ⟨hoy.1,sS.1⟩
       cases hb:aV Pu key with
       |false=>
          rw[hb]at hd;rw[Bool.and_false,Bool.false_and]at hd;simp-implicitDefEqProofs (disch:=(first|omega|decide)) only[go_sem,↓reduceIte,seval,ae,e1,e2,g1,g2,hb,c0,c1,c2,c3,hd,wrap_i64,List.length_map]
       |true=>
          rw[hb]at hd;rw[Bool.and_true,Bool.true_and]at hd;simp-implicitDefEqProofs (disch:=(first|omega|decide)) only[go_sem,↓reduceIte,seval,ae,e1,e2,g1,g2,hb,c0,c1,c2,c3,wrap_i64,List.length_map]
          exact⟨⟨j+1+1,aw,hd⟩,by simp,by show l.length-(j+1+1)<l.length-(j+1);omega⟩
   · have ae: ¬(k:Int)<(l.length:Int):=by omega
     rw[List.drop_of_length_le (by omega)]at hd;have hd:ch l=true:=hd;simp-implicitDefEqProofs (disch:=(first|omega|decide)) only[go_sem,↓reduceIte,seval,ae,hd,List.length_map]
theorem Hz:ah Tryz.prog sT Tryz.f89.ntmps (Tryz.f89.body.getD .skip)=true:=by kernel_rfl
theorem LQ(k:List Pc)(id:Int)(hk:iI k):ay Tryz.prog 89 [.ab (k.map Pc.enc),.int .i64 id] (· = .int .i64 (dg k id)):=by
 refine aa lR mixed Tryz.func89 rfl (Nat.le_of_ble_eq_true rfl) Hz ?_;unfold Tryz.f89;have XE:=hk.1.1.1;have m0:dg (k.take 0) id=0:=rfl;simp-implicitDefEqProofs (disch:=(first|omega|decide)) only[go_sem,↓reduceIte,seval,List.length_map]
 refine ar [1,8,9] (ι:={i:Nat//i<=k.length}) (fun p=>[(10,.int .i64 p.1),(5,.int .i64 (dg (k.take p.1) id))]) (fun _=>[]) (fun p=>k.length-p.1) ⟨0,by omega⟩ (Nat.zero_le _) ?_ ?_
 · simp-implicitDefEqProofs (disch:=(first|omega|decide)) only[go_sem,↓reduceIte,seval,m0]
   try rfl
 · rintro⟨i,hi⟩
   simp only;by_cases aw:i<k.length
   · have ae:(i:Int)<(k.length:Int):=by omega
     have e1:=gz aw;have hm:=UE hk (List.getElem_mem aw)
     have g1:=l_Most (s:=k[i].s) (n:=id) hm.1;have e3:(if bE id=true then eV (cJ (ai (aD k[i].s id)))else 0)=px k[i] id:=rfl;rw[e3]at g1;have hs:=EL (id:=id) aw;generalize px k[i] id=m at*;obtain⟨a,ha⟩: ∃a,dg (k.take i) id=a:=⟨_,rfl⟩
     rw[ha]at hs⊢;have MW:=max_if a m;generalize k[i]=p at*;obtain⟨⟨lo,fB,op⟩,ks⟩:=p;simp only at e1 g1;simp-implicitDefEqProofs (disch:=(first|omega|decide)) only[go_sem,↓reduceIte,seval,ae,e1,g1,wrap_i64,List.length_map]
     exact⟨⟨i+1,aw⟩,⟨by simp,by rw[hs];exact MW⟩,by show k.length-(i+1)<k.length-i;omega⟩
   · have ae: ¬(i:Int)<(k.length:Int):=by omega
     rw[List.take_of_length_le (by omega)]
     simp-implicitDefEqProofs (disch:=(first|omega|decide)) only[go_sem,↓reduceIte,seval,ae,List.length_map]
def SM:an:={sT with c6:=fun n=>if n=7 then [[999999,0]]else []}
theorem X23a_ok:ag Tryz.prog SM:=⟨lR.f,lR.hp⟩
@[go_sem] theorem X23a_f:SM.f=sT.f:=rfl
@[go_sem] theorem X23a_eff{g:FuncId}:SM.mH g=false:=rfl
@[go_sem] theorem X23a_fix{n:Nat}:SM.fix n=false:=rfl
@[go_sem] theorem X23a_ords7:SM.c6 7=[[999999,0]]:=rfl
@[go_sem] theorem X23a_ords{n:Nat}(h:n≠7):SM.c6 n=[]:=if_neg h
def pC(x:It):ca:=⟨x.rep,x.bu⟩
theorem PK: ∀{s:List ca},s.Pairwise (fun x y=> ¬fX y x<0)->(aY s).Pairwise (fun a b=>Ao a b=true)
 | [],_=>by simp[aY]
 | [x],_=>by simp[aY]
 |x::y::s,h=>by
  rw[List.pairwise_cons]at h;have ih:=PK h.2;simp only[aY]
  split
  · exact ih
  · rename_i cg
    have hle: ∀a,¬fX a x<0->a≠x->Ao x a=true:=fun a h1 h2=>by
     rw[BH,fm]at h1;rw[fm]
     have hc: ¬(x.r=a.r/\x.c=a.c):=fun⟨p,q⟩=>h2 (KX p q).symm;omega
    have N6:=hle y (h.1 y (by simp)) (fun e=>cg e.symm)
    rw[List.pairwise_cons]
    refine⟨fun z hz=> ?_,ih⟩
    rw[l0]at hz;rcases List.mem_cons.1 hz with rfl|hz
    · exact N6
    · have h3:=(List.pairwise_cons.1 h.2).1 z hz
      rw[BH,fm]at h3;rw[fm]at N6⊢;omega
theorem Xa(l:List ca):(eE l).Pairwise (fun a b=>a≠b):=by
 have hp:=((dO Wz (l.filter aN)).2)
 unfold eE;exact(PK hp).imp fun{a b} h e=>by rw[e,fm]at h;omega
theorem Fa: ∀{s:List ca},s.Nodup->aY s=s
 | [],_=>rfl
 | [x],_=>rfl
 |x::y::s,h=>by
  have cg:x≠y:=fun e=>(List.nodup_cons.1 h).1 (by rw[e];simp)
  simp only[aY]
  rw[if_neg cg,Fa (List.nodup_cons.1 h).2]
theorem SN{l:List ca}(h: ∀v∈l,aN v=true):(eE l).length=l.length ↔ l.Nodup:=by
 have hf:l.filter aN=l:=List.filter_eq_self.2 h;have hp:=(dO Wz (l.filter aN)).1;rw[hf]at hp;constructor
 · intro hl
   have hs:aY (df fX l)=df fX l:=by
    refine(IV _).eq_of_length ?_;have:(eE l).length=(aY (df fX l)).length:=by unfold eE;rw[hf]
    rw[<-this,hl,hp.length_eq]
   have h2:=Xa l;unfold eE at h2;rw[hf,hs]at h2;exact hp.nodup_iff.1 h2
 · intro hn
   have h2:(df fX l).Nodup:=hp.nodup_iff.2 hn;have hs:aY (df fX l)=df fX l:=by exact Fa h2
   unfold eE;rw[hf,hs,hp.length_eq]
theorem PL(l:List It):c_ l=decide ((l.map pC).Nodup):=by
 rw[Bool.eq_iff_iff,n9,decide_eq_true_iff,List.Nodup,List.pairwise_map]
 constructor
 · intro h
   exact h.imp fun{a b} NJ e=>NJ ⟨congrArg ca.r e,congrArg ca.c e⟩
 · intro h
   exact h.imp fun{a b} NJ ⟨e1,e2⟩=>NJ (KX e1 e2)
theorem Fb:ah Tryz.prog SM Tryz.f91.ntmps (Tryz.f91.body.getD .skip)=true:=by kernel_rfl
theorem HA(l:List It)(hl:l.length<=1000000)(hr: ∀x∈l,aH x=true):ay Tryz.prog 91 [.ab (l.map It.enc)] (· = .bool (c_ l)):=by
 refine aa X23a_ok mixed Tryz.func91 rfl (Nat.le_of_ble_eq_true rfl) Fb ?_;unfold Tryz.f91;have tk: ∀m:List ca,(m.map ca.enc).take m.length=m.map ca.enc:=fun m=>List.take_of_length_le (by simp)
 simp-implicitDefEqProofs (disch:=(first|omega|decide)) only[go_sem,↓reduceIte,seval,List.length_map]
 refine aW 3 2 rfl ?_;refine ar [0,6,7] (ι:={k:Nat//k<=l.length}) (fun p=>[(8,.int .i64 p.1),(3,.row 0 0 2 p.1 false)]) (fun p=>[(0,.row 2 (((l.take p.1).map pC).map ca.enc))]) (fun p=>l.length-p.1) ⟨0,by omega⟩ (Nat.zero_le _) ?_ ?_
 · simp-implicitDefEqProofs (disch:=(first|omega|decide)) only[go_sem,↓reduceIte,seval]
   first|done|simp
 · rintro⟨k,hk⟩
   simp only;by_cases aw:k<l.length
   · have ae:(k:Int)<(l.length:Int):=by omega
     have e1:=cN aw;have eZ:((l.take (k+1)).map pC).map ca.enc=((l.take k).map pC).map ca.enc++[.agg [.int .i64 l[k].rep,.int .i64 l[k].bu]]:=by rw[<-List.take_append_getElem aw,List.map_append,List.map_append];rfl
     have rX:((l.take k).map pC).length=k:=by rw[List.length_map,List.length_take];omega
     have tkm:=tk ((l.take k).map pC)
     rw[rX]at tkm;generalize(l.take k).map pC=m at*;generalize l[k]=x at*;simp-implicitDefEqProofs (disch:=(first|omega|decide)) only[go_sem,↓reduceIte,seval,ae,e1,tkm,rX,wrap_i64,List.length_map]
     exact⟨⟨Nat.le_refl _,by omega⟩,⟨k+1,aw⟩,⟨⟨by simp,rfl⟩,eZ.symm⟩,by show l.length-(k+1)<l.length-k;omega⟩
   · have ae: ¬(k:Int)<(l.length:Int):=by omega
     obtain rfl:k=l.length:=by omega
     rw[List.take_of_length_le (Nat.le_refl _)]
     have tkm:=tk (l.map pC)
     rw[List.length_map]at tkm;have hrv: ∀v∈l.map pC,aN v=true:=fun v hv=>by obtain⟨x,hx,rfl⟩:=List.mem_map.1 hv;have:=hr x hx;exact(lf this).2.2
     have gs:=O7 (l:=l.map pC) (by rw[List.length_map];exact hl)
     have hsa:=SN hrv;rw[List.length_map]at hsa;rw[PL]
     have hvl:(l.map pC).length=l.length:=List.length_map _;generalize l.map pC=vs at*;generalize eE vs=sv at*;have iB:((sv.length:Int)==(l.length:Int))=decide vs.Nodup:=by rw[Bool.eq_iff_iff,beq_iff_eq,decide_eq_true_iff,<-hsa];omega
     simp-implicitDefEqProofs (disch:=(first|omega|decide)) only[go_sem,↓reduceIte,seval,ae,gs,tkm,hvl,iB,List.length_map,Nat.le_refl]
def SO:an:=sT.add 87 (entry (fun(l:List It)=>[.ab (l.map It.enc)]) (fun l=>l.length<=1000000/\mM l) (fun l=> .bool (ch l)))
theorem Y23a_ok:ag Tryz.prog SO:=lR.bN Tryz.func87 (by kernel_rfl) (by kernel_rfl) fun l h=>PJ l (Nat.le_trans h.1 (by decide)) h.2
@[go_sem] theorem Y23a_old{g:FuncId}{xs:List A}(h:g≠87):SO.f g xs=sT.f g xs:=an.ak h
theorem Fc(l:List It)(h:l.length<=1000000/\mM l):SO.f 87 [.ab (l.map It.enc)]=some (.bool (ch l)):=an.ao (Γ:=sT) (fun i j h=>by simpa[Prod.ext_iff,and_assoc]using h) l h
def SP:an:=SO.add 89 (entry (fun(v:List Pc×Int)=>[.ab (v.1.map Pc.enc),.int .i64 v.2]) (fun v=>iI v.1) (fun v=> .int .i64 (dg v.1 v.2)))
theorem Y23b_ok:ag Tryz.prog SP:=Y23a_ok.bN Tryz.func89 (by kernel_rfl) (by kernel_rfl) fun v h=>LQ v.1 v.2 h
@[go_sem] theorem Y23b_old{g:FuncId}{xs:List A}(h:g≠89):SP.f g xs=SO.f g xs:=an.ak h
theorem A6(v:List Pc×Int)(h:iI v.1):SP.f 89 [.ab (v.1.map Pc.enc),.int .i64 v.2]=some (.int .i64 (dg v.1 v.2)):=an.ao (Γ:=SO) (fun i j h=>by simpa[Prod.ext_iff,and_assoc]using h) v h
def SQ:an:=SP.add 91 (entry (fun(l:List It)=>[.ab (l.map It.enc)]) (fun l=>l.length<=1000000/\ ∀x∈l,aH x=true) (fun l=> .bool (c_ l)))
theorem Y23c_ok:ag Tryz.prog SQ:=Y23b_ok.bN Tryz.func91 (by kernel_rfl) (by kernel_rfl) fun l h=>HA l h.1 h.2
@[go_sem] theorem Y23c_old{g:FuncId}{xs:List A}(h:g≠91):SQ.f g xs=SP.f g xs:=an.ak h
theorem yC(l:List It)(h:l.length<=1000000/\ ∀x∈l,aH x=true):SQ.f 91 [.ab (l.map It.enc)]=some (.bool (c_ l)):=an.ao (Γ:=SP) (fun i j h=>by simpa[Prod.ext_iff,and_assoc]using h) l h
def PM:an:=SQ.add 109 (entry (fun(l:List ax)=>[.ab (l.map ax.enc)]) (fun l=>l.length<=100000/\dB l) (fun l=> .bool (aP l)))
theorem Y23d_ok:ag Tryz.prog PM:=Y23c_ok.bN Tryz.func109 (by kernel_rfl) (by kernel_rfl) fun l h=>qV l (Nat.le_trans h.1 (by decide)) h.2
@[go_sem] theorem Y23d_old{g:FuncId}{xs:List A}(h:g≠109):PM.f g xs=SQ.f g xs:=an.ak h
theorem wA(l:List ax)(h:l.length<=100000/\dB l):PM.f 109 [.ab (l.map ax.enc)]=some (.bool (aP l)):=an.ao (Γ:=SQ) (fun i j h=>by simpa[Prod.ext_iff,and_assoc]using h) l h
def LR:an:=PM.add 37 (entry (fun(v:aI×List UInt8)=>[v.1.enc,.str v.2]) (fun v=>v.1.az.length<=1000000) (fun v=>PH (dm v.1.az v.2)))
theorem UO:ag Tryz.prog LR:=Y23d_ok.bN Tryz.func37 (by kernel_rfl) (by kernel_rfl) fun v h=>PI v.1 v.2 h
@[go_sem] theorem Y23e_old{g:FuncId}{xs:List A}(h:g≠37):LR.f g xs=PM.f g xs:=an.ak h
@[go_sem] theorem Y23e_s:LR.pl PM:=⟨fun _=>rfl,fun _=>rfl,rfl,fun _=>rfl,rfl,fun _=>rfl,rfl⟩
theorem Fe(v:aI×List UInt8)(h:v.1.az.length<=1000000):LR.f 37 [v.1.enc,.str v.2]=some (PH (dm v.1.az v.2)):=an.ao (Γ:=PM) (fun i j h=>by simpa[Prod.ext_iff,and_assoc]using h) v h
theorem y_List{l:List It}(h:l.length<=1000000/\mM l):SO.f 87 [.ab (l.map It.enc)]=some (.bool (ch l)):=Fc l h
theorem y_most{k:List Pc}{id:Int}(h:iI k):SP.f 89 [.ab (k.map Pc.enc),.int .i64 id]=some (.int .i64 (dg k id)):=A6 (k,id) h
theorem UP{l:List It}(h:l.length<=1000000/\ ∀x∈l,aH x=true):SQ.f 91 [.ab (l.map It.enc)]=some (.bool (c_ l)):=yC l h
theorem y_rRight{l:List ax}(h:l.length<=100000/\dB l):PM.f 109 [.ab (l.map ax.enc)]=some (.bool (aP l)):=wA l h
theorem PN{s:aI}{k:List UInt8}(h:s.az.length<=1000000):LR.f 37 [.agg [.int .i64 s.id,.ab (s.fl.map ax.enc),.ab (s.az.map It.enc),.ab (s.kn.map Pc.enc),.int .i64 s.ct],.str k]=some (PH (dm s.az k)):=Fe (s,k) h
theorem Ff:ah Tryz.prog LR Tryz.f56.ntmps (Tryz.f56.body.getD .skip)=true:=by kernel_rfl
theorem tw(s:aI)(h:il s):ay Tryz.prog 56 [s.enc] (· = .bool (aU s)):=by
 refine aa UO mixed Tryz.func56 rfl (Nat.le_of_ble_eq_true rfl) Ff ?_;unfold Tryz.f56;obtain⟨⟨hf1,Xw⟩,⟨hi1,hi2⟩,⟨lC,VP⟩,hr⟩:=h;have g1:=y_rRight (l:=s.fl) ⟨by omega,Xw⟩
 have g2:=y_List (l:=s.az) ⟨hi1,hi2⟩
 have g3:=Lc lC.1;have g4:=ux (k:=s.kn) (l:=s.fl) lC.1 (by omega) Xw;rw[EE]at g4;have ea:cL (aT (bj s.kn s.fl))=bj s.kn s.fl:=ED (kK _ _) (uy _ _)
 have g5:aR s.kn=true->_:=fun JQ=>p_Same (a:=aT (bj s.kn s.fl)) (b:=s.kn) hr lC.1 (by rw[ea];exact hr) (by rw[gj JQ];exact lC.1)
 have g5:aR s.kn=true->Pf.f 110 [.ab ((aT (bj s.kn s.fl)).map Pc.enc),.ab (s.kn.map Pc.enc)]=some (.bool (cZ (aT (bj s.kn s.fl)) s.kn)):=fun JQ=>by
  have:=g5 JQ
  rwa [ea,gj JQ]at this
 have g6:=y_most (id:=s.id) lC;have g7:ch s.az=true->_:=fun hh=>UP (l:=s.az) ⟨hi1,(E6.1 hh).1⟩
 have g8: ∀x:List UInt8,x.length<=9223372036854775807->K0.f 70 [.ab (s.fl.map ax.enc),.str x]=some (.bool (aj s.fl x)):=fun x hx=>jR (by omega) Xw hx;have g9: ∀(x:List UInt8) (n c:Int),x.length<=9223372036854775807->AS.f 71 [.ab (s.kn.map Pc.enc),.str x,.agg [.int .i64 n,.int .i64 c]]=some (.bool (bG s.kn x n c)):=fun x n c hx=>Pn lC.1 hx;have hR:aU s=(!(decide (s.id<1)||decide (16<s.id))&& !(decide (s.ct<0)||decide (1099511627776<s.ct))&&decide (s.az.length<=4096)&&aP s.fl&&ch s.az&&aR s.kn&&cZ (aT (bj s.kn s.fl)) s.kn&&decide (dg s.kn s.id<=s.ct)&&c_ s.az&&s.az.all fun x=>aj s.fl x.key&&bG s.kn x.key x.rep x.bu):=rfl;rw[hR]
 obtain⟨id,F,I,K,ct⟩:=s;simp only[aI.enc,aI.cells]at*;clear ea hR;generalize aT (bj K F)=Q at*;generalize dg K id=m at*;by_cases c1:id<1
 · simp-implicitDefEqProofs (disch:=(first|omega|decide)) only[go_sem,↓reduceIte,seval,c1]
 · by_cases c2:16<id
   · simp-implicitDefEqProofs (disch:=(first|omega|decide)) only[go_sem,↓reduceIte,seval,c1,c2]
   · by_cases c3:ct<0
     · simp-implicitDefEqProofs (disch:=(first|omega|decide)) only[go_sem,↓reduceIte,seval,c1,c2,c3]
     · by_cases c4:1099511627776<ct
       · simp-implicitDefEqProofs (disch:=(first|omega|decide)) only[go_sem,↓reduceIte,seval,c1,c2,c3,c4]
       · cases d1:aP F with
         |false=>rw[d1]at g1;simp-implicitDefEqProofs (disch:=(first|omega|decide)) only[go_sem,↓reduceIte,seval,c1,c2,c3,c4,g1,Bool.and_false,Bool.false_and,List.length_map]
         |true=>
          rw[d1]at g1;by_cases c5:I.length<=4096
          · have MG: ¬(4096:Int)<(I.length:Int):=by omega
            cases d2:ch I with
            |false=>rw[d2]at g2;simp-implicitDefEqProofs (disch:=(first|omega|decide)) only[go_sem,↓reduceIte,seval,c1,c2,c3,c4,c5,MG,g1,g2,List.length_map]
            |true=>
             rw[d2]at g2;have g7:=g7 d2;cases d3:aR K with
             |false=>rw[d3]at g3;simp-implicitDefEqProofs (disch:=(first|omega|decide)) only[go_sem,↓reduceIte,seval,c1,c2,c3,c4,c5,MG,g1,g2,g3,List.length_map]
             |true=>
              rw[d3]at g3;have g5:=g5 d3;cases d4:cZ Q K with
              |false=>rw[d4]at g5;simp-implicitDefEqProofs (maxSteps:=600000) (disch:=(first|omega|decide)) only[go_sem,↓reduceIte,seval,c1,c2,c3,c4,c5,MG,g1,g2,g3,g4,g5,List.length_map]
              |true=>
               rw[d4]at g5;by_cases d5:m<=ct
               · have d5': ¬ct<m:=by omega
                 cases d6:c_ I with
                 |false=>rw[d6]at g7;simp-implicitDefEqProofs (maxSteps:=600000) (disch:=(first|omega|decide)) only[go_sem,↓reduceIte,seval,c1,c2,c3,c4,c5,MG,g1,g2,g3,g4,g5,g6,g7,d5,d5',List.length_map]
                 |true=>
                  rw[d6]at g7;simp-implicitDefEqProofs (maxSteps:=600000) (disch:=(first|omega|decide)) only[go_sem,↓reduceIte,seval,c1,c2,c3,c4,c5,MG,g1,g2,g3,g4,g5,g6,g7,d5,d5',List.length_map]
                  refine ar [1,72,73] (ι:={i:Nat//i<=I.length/\(I.all fun x=>aj F x.key&&bG K x.key x.rep x.bu)=((I.drop i).all fun x=>aj F x.key&&bG K x.key x.rep x.bu)}) (fun p=>[(74,.int .i64 p.1)]) (fun _=>[]) (fun p=>I.length-p.1) ⟨0,by omega,rfl⟩ (Nat.zero_le _) ?_ ?_
                  · simp-implicitDefEqProofs (disch:=(first|omega|decide)) only[go_sem,↓reduceIte,seval]
                    try rfl
                  · rintro⟨i,hi,hd⟩
                    simp only;by_cases aw:i<I.length
                    · have ae:(i:Int)<(I.length:Int):=by omega
                      have ei:=cN aw;have sS:=hi2 _ (List.getElem_mem aw)
                      rw[List.drop_eq_getElem_cons aw,List.all_cons]at hd;generalize I[i]=x at*;have g8:=g8 x.key sS.1;have g9:=g9 x.key x.rep x.bu sS.1;cases k1:aj F x.key with
                      |false=>
                       rw[k1]at g8 hd;rw[Bool.false_and,Bool.false_and]at hd;simp-implicitDefEqProofs (disch:=(first|omega|decide)) only[go_sem,↓reduceIte,seval,ae,ei,g8,hd,List.length_map]
                      |true=>
                       rw[k1]at g8 hd;cases k2:bG K x.key x.rep x.bu with
                       |false=>
                        rw[k2]at g9 hd;rw[Bool.and_false,Bool.false_and]at hd;simp-implicitDefEqProofs (disch:=(first|omega|decide)) only[go_sem,↓reduceIte,seval,ae,ei,g8,g9,hd,List.length_map]
                       |true=>
                        rw[k2]at g9 hd;rw[Bool.and_true,Bool.true_and]at hd;simp-implicitDefEqProofs (disch:=(first|omega|decide)) only[go_sem,↓reduceIte,seval,ae,ei,g8,g9,wrap_i64,List.length_map]
                        exact⟨⟨i+1,aw,hd⟩,by simp,by show I.length-(i+1)<I.length-i;omega⟩
                    · have ae: ¬(i:Int)<(I.length:Int):=by omega
                      rw[List.drop_of_length_le (by omega)]at hd;have hd:(I.all fun x=>aj F x.key&&bG K x.key x.rep x.bu)=true:=hd;simp-implicitDefEqProofs (disch:=(first|omega|decide)) only[go_sem,↓reduceIte,seval,ae,hd,List.length_map]
               · have d5':ct<m:=by omega
                 simp-implicitDefEqProofs (maxSteps:=600000) (disch:=(first|omega|decide)) only[go_sem,↓reduceIte,seval,c1,c2,c3,c4,c5,MG,g1,g2,g3,g4,g5,g6,d5,d5',List.length_map]
          · have MG:(4096:Int)<(I.length:Int):=by omega
            simp-implicitDefEqProofs (disch:=(first|omega|decide)) only[go_sem,↓reduceIte,seval,c1,c2,c3,c4,c5,MG,g1,List.length_map]
def SR:an:=LR.add 56 (entry (fun(s:aI)=>[s.enc]) (fun s=>il s) (fun s=> .bool (aU s)))
theorem BM:ag Tryz.prog SR:=UO.bN Tryz.func56 (by kernel_rfl) (by kernel_rfl) fun s h=>tw s h
@[go_sem] theorem Y23f_old{g:FuncId}{xs:List A}(h:g≠56):SR.f g xs=LR.f g xs:=an.ak h
@[go_sem] theorem Y23f_s:SR.pl LR:=⟨fun _=>rfl,fun _=>rfl,rfl,fun _=>rfl,rfl,fun _=>rfl,rfl⟩
abbrev Xb:=List It×List It×List It×List It
def sV(v:Xb):List It:=v.1++(v.2.1++(v.2.2.1++v.2.2.2))
def yD(v:Xb):List A:=[.row 0 0 7 (sV v).length false,.int .i64 v.1.length,.int .i64 (v.1.length+v.2.1.length:Nat),.int .i64 (v.1.length+v.2.1.length+v.2.2.1.length:Nat),.fn 148 []]
def rtK(v:Xb):Prop:=(sV v).length<=1000000/\0<v.2.1.length/\0<v.2.2.1.length
def rtR(v:Xb):A×List Go.bo.Obj×List Nat:=(.cD [],iu (v.1++(v.2.2.1++(v.2.1++v.2.2.2))),[])
def smK(n:Nat)(v:Xb):Prop:=rtK v/\kP cx v.2.1/\kP cx v.2.2.1/\(∀x∈v.2.1,x.ok)/\(∀x∈v.2.2.1,x.ok)/\v.2.1.length+v.2.2.1.length<n
def XO(v:Xb):A×List Go.bo.Obj×List Nat:=(.cD [],iu (v.1++(bn cx (v.2.1++v.2.2.1)++v.2.2.2)),[])
theorem SS(i j:Xb)(h:yD i=yD j)(h':iu (sV i)=iu (sV j)):i=j:=by
 obtain⟨P,U,W,Q⟩:=i;obtain⟨P',U',W',Q'⟩:=j;have e:=wy h';simp only[yD,List.cons.injEq,A.int.injEq,true_and,and_true,Int.ofNat_inj]at h;obtain⟨_,h1,h2,h3⟩:=h;simp only[sV]at e;obtain⟨p1,e1⟩:=List.append_inj e h1;obtain⟨p2,e2⟩:=List.append_inj e1 (by rw[p1]at h2;omega)
 obtain⟨p3,p4⟩:=List.append_inj e2 (by rw[p1,p2]at h3;omega)
 rw[p1,p2,p3,p4]
def TIc(n:Nat):an:=(XN.fj 236 (bC yD (fun v=>iu (sV v)) rtK rtR)).fj 208 (bC yD (fun v=>iu (sV v)) (smK n) XO)
def Qi(n:Nat):an:={TIc n with mH:=fun f=>f==236||f==208}
@[go_sem] theorem TIm_f{m:Nat}:(Qi m).f=TIa.f:=rfl
@[go_sem] theorem TIm_eff{m:Nat}{g:FuncId}:(Qi m).mH g=(g==236||g==208):=rfl
@[go_sem] theorem TIm_frz{m:Nat}{g:FuncId}:(Qi m).pZ g=false:=rfl
@[go_sem] theorem TIm_effT{m:Nat}:(Qi m).Vn=false:=rfl
@[go_sem] theorem TIm_ords{m n:Nat}:(Qi m).c6 n=[]:=rfl
theorem hp_rot{m N a b c:Nat}{P U W Q R0 R1:List It}(e0:P++(U++(W++Q))=R0)(e1:P++(W++(U++Q))=R1)(hN:R0.length=N)(hl:N<=1000000)(ha:P.length=a)(hb:a+U.length=b)(hc:b+W.length=c)(hU:0<U.length)(hW:0<W.length):(Qi m).hp 236 [.row 0 0 7 N false,.int .i64 (a:Int),.int .i64 (b:Int),.int .i64 (c:Int),.fn 148 []] [.row 7 (R0.map It.enc)]=some (.cD [],[.row 7 (R1.map It.enc)],[]):=by subst e0 e1 hN ha hb hc;have W5:(TIc m).hp 236 (yD (P,U,W,Q)) (iu (sV (P,U,W,Q)))=bC yD (fun v=>iu (sV v)) rtK rtR (yD (P,U,W,Q)) (iu (sV (P,U,W,Q))):=(an.sg (by decide)).trans an.eC;have h0:(Qi m).hp 236 (yD (P,U,W,Q)) (iu (sV (P,U,W,Q)))=bC yD (fun v=>iu (sV v)) rtK rtR (yD (P,U,W,Q)) (iu (sV (P,U,W,Q))):=W5;exact h0.trans (cY (FO:=fun v:Xb=>iu (sV v)) SS (P,U,W,Q) ⟨hl,hU,hW⟩)
theorem hp_sym{m N a b c:Nat}{P U W Q R0 R1:List It}(e0:P++(U++(W++Q))=R0)(e1:P++(bn cx (U++W)++Q)=R1)(hN:R0.length=N)(hl:N<=1000000)(ha:P.length=a)(hb:a+U.length=b)(hc:b+W.length=c)(hU:0<U.length)(hW:0<W.length)(sU:kP cx U)(sW:kP cx W)(kU: ∀x∈U,x.ok)(kW: ∀x∈W,x.ok)(hm:U.length+W.length<m):(Qi m).hp 208 [.row 0 0 7 N false,.int .i64 (a:Int),.int .i64 (b:Int),.int .i64 (c:Int),.fn 148 []] [.row 7 (R0.map It.enc)]=some (.cD [],[.row 7 (R1.map It.enc)],[]):=by subst e0 e1 hN ha hb hc;have W5:(TIc m).hp 208 (yD (P,U,W,Q)) (iu (sV (P,U,W,Q)))=bC yD (fun v=>iu (sV v)) (smK m) XO (yD (P,U,W,Q)) (iu (sV (P,U,W,Q))):=an.eC;have h0:(Qi m).hp 208 (yD (P,U,W,Q)) (iu (sV (P,U,W,Q)))=bC yD (fun v=>iu (sV v)) (smK m) XO (yD (P,U,W,Q)) (iu (sV (P,U,W,Q))):=W5;exact h0.trans (cY (FO:=fun v:Xb=>iu (sV v)) SS (P,U,W,Q) ⟨⟨hl,hU,hW⟩,sU,sW,kU,kW,hm⟩)
theorem iU:IntKind.u64.bits=64:=rfl
theorem HB{x:Int}:x.fdiv (2^(min 1 64:Nat))=x.fdiv 2:=rfl
theorem sym_cut{X Y:List It}(hX:kP cx X)(hY:kP cx Y){h s:Nat}(hs:h-Y.length<=s/\s<=h/\s<=X.length)
 (h1:s=min h X.length\/cx (Y[h-1-s]!) (X[s]!)=true) (h2:s=h-Y.length\/cx (Y[h-s]!) (X[s-1]!)=false):
 bn cx (X.take s++Y.take (h-s))++bn cx (X.drop s++Y.drop (h-s))=bn cx (X++Y):=by
 obtain⟨c1,c2⟩:=Go.yv.cut iF hX hY (u:=s) (v:=h-s) hs.2.2 (by omega) (fun hv hu=>by
  rcases h1 with h1|h1
  · omega
  · rwa [show h-s-1=h-1-s by omega]) (fun hu hv=>by
  rcases h2 with h2|h2
  · omega
  · exact h2)
 exact LI iF s (h-s) hX hY c1 c2
theorem TIm_ok{n:Nat}(ih: ∀v:Xb,smK n v->dR Tryz.prog 208 (yD v) (iu (sV v)) (XO v).1 (XO v).2.1 (XO v).2.2):ag Tryz.prog (Qi n):=by
 have h1:ag Tryz.prog (XN.fj 236 (bC yD (fun v=>iu (sV v)) rtK rtR)):=yz.fj (bB Tryz.func236 (by kernel_rfl) (by kernel_rfl)) (cX fun v h=>c_rotate v.1 v.2.1 v.2.2.1 v.2.2.2 h.1 h.2.1 h.2.2)
 have h2:ag Tryz.prog (TIc n):=h1.fj (bB Tryz.func208 (by kernel_rfl) (by kernel_rfl)) (cX ih)
 exact⟨h2.f,h2.hp⟩
theorem lo_step{Y:List It}{x:It}{c:Nat}(hY:kP cx Y)(hc:c<Y.length)(h:cx Y[c] x=true): ∀y∈Y.take (c+1),cx y x=true:=fun y hy=>by
 obtain⟨i,hi,rfl⟩:=List.getElem_of_mem hy;rw[List.length_take]at hi;rw[List.getElem_take]
 by_cases e:i=c
 · subst e;exact h
 · exact pb iF h (iF.zx x) ((List.pairwise_iff_getElem.1 hY) i c (by omega) hc (by omega))
theorem hi_step{Y:List It}{x:It}{c:Nat}(hY:kP cx Y)(hc:c<Y.length)(h:cx Y[c] x=false): ∀y∈Y.drop c,cx y x=false:=fun y hy=>by
 obtain⟨i,hi,rfl⟩:=List.getElem_of_mem hy;rw[List.length_drop]at hi;rw[List.getElem_drop]
 by_cases e:i=0
 · subst e;exact h
 · exact iF.neg _ _ _ ((List.pairwise_iff_getElem.1 hY) c (c+i) hc (by omega) (by omega)) h
theorem lo_step'{X:List It}{y:It}{c:Nat}(hX:kP cx X)(hc:c<X.length)(h:cx y X[c]=false): ∀x∈X.take (c+1),cx y x=false:=fun x hx=>by
 obtain⟨i,hi,rfl⟩:=List.getElem_of_mem hx;rw[List.length_take]at hi;rw[List.getElem_take]
 by_cases e:i=c
 · subst e;exact h
 · exact iF.neg _ _ _ h ((List.pairwise_iff_getElem.1 hX) i c (by omega) hc (by omega))
theorem hi_step'{X:List It}{y:It}{c:Nat}(hX:kP cx X)(hc:c<X.length)(h:cx y X[c]=true): ∀x∈X.drop c,cx y x=true:=fun x hx=>by
 obtain⟨i,hi,rfl⟩:=List.getElem_of_mem hx;rw[List.length_drop]at hi;rw[List.getElem_drop]
 by_cases e:i=0
 · subst e;exact h
 · exact pb iF h ((List.pairwise_iff_getElem.1 hX) c (c+i) hc (by omega) (by omega)) (iF.zx y)
theorem bX:ah Tryz.prog XN Tryz.f208.ntmps (Tryz.f208.body.getD .skip)=true:=by kernel_rfl
theorem sym_A{n:Nat}(hT:ag Tryz.prog (Qi n))(P Y Q:List It)(x:It)(h:(P++([x]++(Y++Q))).length<=1000000)(hY:kP cx Y)(kx:x.ok)(kY: ∀y∈Y,y.ok)(hY0:0<Y.length):dR Tryz.prog 208 [.row 0 0 7 (P++([x]++(Y++Q))).length false,.int .i64 P.length,.int .i64 (P.length+1:Nat),.int .i64 (P.length+1+Y.length:Nat),.fn 148 []] [.row 7 ((P++([x]++(Y++Q))).map It.enc)]
 (.cD []) [.row 7 ((P++(bn cx ([x]++Y)++Q)).map It.enc)] []:=by
 refine cj hT mixed Tryz.func208 rfl (Nat.le_of_ble_eq_true rfl) (fun n h _=>by simp at h;subst h;rfl) (by show _<=1;simp) (by show 1<=_;simp) bX ?_;unfold Tryz.f208;obtain⟨N,hN⟩: ∃N,(P++([x]++(Y++Q))).length=N:=⟨_,rfl⟩
 have Ro:=hN;simp only[List.length_append,List.length_cons,List.length_nil]at Ro;have hr0:P++([x]++(Y++Q))=dW P Y Q x 0:=rfl;have hlen: ∀u,(dW P Y Q x u).length=N:=fun u=>by rw[ES];omega
 obtain⟨RF,hRF⟩: ∃RF,P++(bn cx ([x]++Y)++Q)=RF:=⟨_,rfl⟩
 rw[hRF]
 rw[hN]at h⊢;rw[hr0]
 have e1:((P.length+1:Nat):Int)-(P.length:Int)=1:=by omega
 simp-implicitDefEqProofs (maxSteps:=600000) (disch:=(first|omega|decide)) only[go_sem,↓reduceIte,seval,e1,wrap_i64,List.length_map,beq_self_eq_true]
 refine ar [0,1,2,3,4] (ι:={q:Nat×Nat//q.1<=q.2/\q.2<=Y.length/\(∀y∈Y.take q.1,cx y x=true)/\(∀y∈Y.drop q.2,cx y x=false)}) (fun q=>[(10,.int .i64 ((P.length+1+q.1.1:Nat):Int)),(11,.int .i64 ((P.length+1+q.1.2:Nat):Int))]) (fun q=>[(0,.row 7 ((dW P Y Q x 0).map It.enc))]) (fun q=>q.1.2-q.1.1) ⟨(0,Y.length),by simp⟩ (by show 1<=_;simp) ?_ ?_
 · simp-implicitDefEqProofs (maxSteps:=600000) (disch:=(first|omega|decide)) only[go_sem,↓reduceIte,seval,Nat.add_zero]
   try rfl
 · rintro⟨⟨i,j⟩,h1,h2,h3,h4⟩
   simp only at h1 h2 h3 h4⊢;by_cases aw:i<j
   · have c0:((P.length+1+i:Nat):Int)<((P.length+1+j:Nat):Int):=by omega
     obtain⟨c,hc⟩: ∃c,(i+j)/2=c:=⟨_,rfl⟩
     have s1:((P.length+1+i:Nat):Int)+((P.length+1+j:Nat):Int)=((2*(P.length+1)+i+j:Nat):Int):=by omega
     have s2:((2*(P.length+1)+i+j:Nat):Int).fdiv 2=((P.length+(c+1):Nat):Int):=by rw[Int.fdiv_eq_ediv_of_nonneg _ (by omega)];omega
     have jV:c<Y.length:=by omega
     have gy:(dW P Y Q x 0)[P.length+(c+1)]? =some Y[c]:=by show(P++(x::(Y++Q)))[P.length+(c+1)]? =_;rw[List.getElem?_append_right (by omega),Nat.add_sub_cancel_left,List.getElem?_cons_succ,List.getElem?_append_left jV,List.getElem?_eq_getElem jV]
     have gy:=dq gy;have gx:=dq (ET (P:=P) (D:=Y) (Z:=Q) (y:=x) (u:=0) (by omega))
     rw[Nat.add_zero]at gx;have ln:=hlen 0;have gc:=EV (x:=Y[c]) (y:=x) ⟨kY _ (List.getElem_mem jV),kx⟩
     have st1:=lo_step (x:=x) hY jV;have st2:=hi_step (x:=x) hY jV;have W7:cx Y[c] x=aV Y[c].key x.key:=rfl;rw[W7]at st1 st2;have r1:((P.length+(c+1):Nat):Int)<(N:Int):=by omega
     have r2:(0:Int)<=((P.length+(c+1):Nat):Int):=by omega
     have r3:((P.length+(c+1):Nat):Int).toNat=P.length+(c+1):=Int.toNat_natCast _;have r4:(P.length:Int)<(N:Int):=by omega
     have r5:((P.length+(c+1):Nat):Int)+1=((P.length+1+(c+1):Nat):Int):=by omega
     have r6:P.length+(c+1)=P.length+1+c:=by omega
     generalize Y[c]=d at*;generalize dW P Y Q x 0=r at*;cases hb:aV d.key x.key with
     |true=>
      have st1:=st1 hb;simp-implicitDefEqProofs (maxSteps:=600000) (disch:=(first|omega|decide)) only[go_sem,↓reduceIte,seval,c0,s1,s2,gy,gx,ln,gc,hb,r1,r2,r3,r4,r5,HB,iU,wrap_u64,wrap_i64,List.length_map]
      exact⟨⟨(c+1,j),by show c+1<=j;omega,h2,st1,h4⟩,⟨by simp,rfl⟩,by show j-(c+1)<j-i;omega⟩
     |false=>
      have st2:=st2 hb;simp-implicitDefEqProofs (maxSteps:=600000) (disch:=(first|omega|decide)) only[go_sem,↓reduceIte,seval,c0,s1,s2,gy,gx,ln,gc,hb,r1,r2,r3,r4,HB,iU,wrap_u64,wrap_i64,List.length_map]
      exact⟨⟨(i,c),by show i<=c;omega,by show c<=Y.length;omega,h3,st2⟩,⟨by simp,by rw[r6]⟩,by show c-i<j-i;omega⟩
   · have c0: ¬((P.length+1+i:Nat):Int)<((P.length+1+j:Nat):Int):=by omega
     obtain rfl:i=j:=by omega
     have iB:RF=dW P Y Q x i:=by
      rw[<-hRF]
      have b9:=ins_left iF (x:=x) (Y1:=Y.take i) (Y2:=Y.drop i) (by rw[List.take_append_drop];exact hY) h3 h4;rw[List.take_append_drop]at b9;rw[show [x]++Y=x::Y from rfl,<-rz iF b9,dW,List.append_assoc];rfl
     rw[iB]
     have m1:((P.length+1+i:Nat):Int)-1=((P.length+i:Nat):Int):=by omega
     simp-implicitDefEqProofs (maxSteps:=600000) (disch:=(first|omega|decide)) only[go_sem,↓reduceIte,seval,c0,List.length_map]
     refine ar [0,10] (ι:={t:Nat//t<=i}) (fun t=>[(13,.int .i64 ((P.length+t.1:Nat):Int))]) (fun t=>[(0,.row 7 ((dW P Y Q x t.1).map It.enc))]) (fun t=>i-t.1) ⟨0,by omega⟩ (by show 1<=_;simp) ?_ ?_
     · simp-implicitDefEqProofs (maxSteps:=600000) (disch:=(first|omega|decide)) only[go_sem,↓reduceIte,seval,Nat.add_zero]
       try rfl
     · rintro⟨t,ht⟩
       simp only;by_cases htl:t<i
       · have d0:((P.length+t:Nat):Int)<((P.length+i:Nat):Int):=by omega
         have htY:t<Y.length:=by omega
         have gx:=dq (ET (P:=P) (D:=Y) (Z:=Q) (y:=x) (u:=t) (by omega))
         have gd:=dq (rowI_e (P:=P) (Z:=Q) (y:=x) (u:=t) htY)
         have gd2:=dq (EU (P:=P) (Z:=Q) (y:=x) htY)
         have w1:=pd (dW P Y Q x t) (P.length+t) Y[t]
         have w2:=pd ((dW P Y Q x t).set (P.length+t) Y[t]) (P.length+(t+1)) x;rw[SG htY]at w2;have ln:=hlen t;have q1:((P.length+t:Nat):Int)+1=((P.length+(t+1):Nat):Int):=by omega
         have q2:((P.length+(t+1):Nat):Int)<(N:Int):=by omega
         have q3:(0:Int)<=((P.length+(t+1):Nat):Int):=by omega
         have q4:((P.length+(t+1):Nat):Int).toNat=P.length+(t+1):=Int.toNat_natCast _;have q5:((P.length+t:Nat):Int)<(N:Int):=by omega
         have q6:(0:Int)<=((P.length+t:Nat):Int):=by omega
         have q7:((P.length+t:Nat):Int).toNat=P.length+t:=Int.toNat_natCast _;generalize Y[t]=d at*;generalize hn1:dW P Y Q x (t+1)=n1 at*;generalize dW P Y Q x t=n0 at*;simp-implicitDefEqProofs (maxSteps:=600000) (disch:=(first|omega|decide)) only[go_sem,↓reduceIte,seval,m1,d0,gx,gd,gd2,w1,w2,ln,q1,q2,q3,q4,q5,q6,q7,spl7,wrap_i64,List.length_map,List.length_set]
         exact⟨⟨t+1,htl⟩,⟨by simp,by rw[hn1]⟩,by show i-(t+1)<i-t;omega⟩
       · have d0: ¬((P.length+t:Nat):Int)<((P.length+i:Nat):Int):=by omega
         obtain rfl:t=i:=by omega
         simp-implicitDefEqProofs (maxSteps:=600000) (disch:=(first|omega|decide)) only[go_sem,↓reduceIte,seval,m1,d0,wrap_i64,List.length_map]
theorem sym_B{n:Nat}(hT:ag Tryz.prog (Qi n))(P X Q:List It)(y:It)(h:(P++(X++([y]++Q))).length<=1000000)(hX:kP cx X)(ky:y.ok)(kX: ∀x∈X,x.ok)(hX0:1<X.length):dR Tryz.prog 208 [.row 0 0 7 (P++(X++([y]++Q))).length false,.int .i64 P.length,.int .i64 (P.length+X.length:Nat),.int .i64 (P.length+X.length+1:Nat),.fn 148 []] [.row 7 ((P++(X++([y]++Q))).map It.enc)]
 (.cD []) [.row 7 ((P++(bn cx (X++[y])++Q)).map It.enc)] []:=by
 refine cj hT mixed Tryz.func208 rfl (Nat.le_of_ble_eq_true rfl) (fun n h _=>by simp at h;subst h;rfl) (by show _<=1;simp) (by show 1<=_;simp) bX ?_;unfold Tryz.f208;obtain⟨N,hN⟩: ∃N,(P++(X++([y]++Q))).length=N:=⟨_,rfl⟩
 have Ro:=hN;simp only[List.length_append,List.length_cons,List.length_nil]at Ro;have hr0:P++(X++([y]++Q))=dW P X Q y X.length:=EW.symm;have hlen: ∀u,(dW P X Q y u).length=N:=fun u=>by rw[ES];omega
 obtain⟨RF,hRF⟩: ∃RF,P++(bn cx (X++[y])++Q)=RF:=⟨_,rfl⟩
 rw[hRF]
 rw[hN]at h⊢;rw[hr0]
 have e1:((P.length+X.length:Nat):Int)-(P.length:Int)=(X.length:Int):=by omega
 have e1b:((X.length:Int)==1)=false:=by rw[beq_eq_false_iff_ne];omega
 have e2:((P.length+X.length+1:Nat):Int)-((P.length+X.length:Nat):Int)=1:=by omega
 simp-implicitDefEqProofs (maxSteps:=600000) (disch:=(first|omega|decide)) only[go_sem,↓reduceIte,seval,e1,e1b,e2,wrap_i64,List.length_map,beq_self_eq_true]
 refine ar [0,1,2,3,4] (ι:={q:Nat×Nat//q.1<=q.2/\q.2<=X.length/\(∀x∈X.take q.1,cx y x=false)/\(∀x∈X.drop q.2,cx y x=true)}) (fun q=>[(14,.int .i64 ((P.length+q.1.1:Nat):Int)),(15,.int .i64 ((P.length+q.1.2:Nat):Int))]) (fun q=>[(0,.row 7 ((dW P X Q y X.length).map It.enc))]) (fun q=>q.1.2-q.1.1) ⟨(0,X.length),by simp⟩ (by show 1<=_;simp) ?_ ?_
 · simp-implicitDefEqProofs (maxSteps:=600000) (disch:=(first|omega|decide)) only[go_sem,↓reduceIte,seval,Nat.add_zero]
   try rfl
 · rintro⟨⟨i,j⟩,h1,h2,h3,h4⟩
   simp only at h1 h2 h3 h4⊢;by_cases aw:i<j
   · have c0:((P.length+i:Nat):Int)<((P.length+j:Nat):Int):=by omega
     obtain⟨c,hc⟩: ∃c,(i+j)/2=c:=⟨_,rfl⟩
     have s1:((P.length+i:Nat):Int)+((P.length+j:Nat):Int)=((2*P.length+i+j:Nat):Int):=by omega
     have s2:((2*P.length+i+j:Nat):Int).fdiv 2=((P.length+c:Nat):Int):=by rw[Int.fdiv_eq_ediv_of_nonneg _ (by omega)];omega
     have jV:c<X.length:=by omega
     have gx:(dW P X Q y X.length)[P.length+c]? =some X[c]:=by rw[EW,List.getElem?_append_right (by omega),Nat.add_sub_cancel_left,List.getElem?_append_left jV,List.getElem?_eq_getElem jV]
     have gx:=dq gx;have gy:=dq (ET (P:=P) (D:=X) (Z:=Q) (y:=y) (u:=X.length) (Nat.le_refl _))
     have ln:=hlen X.length;have gc:=EV (x:=y) (y:=X[c]) ⟨ky,kX _ (List.getElem_mem jV)⟩
     have st1:=lo_step' (y:=y) hX jV;have st2:=hi_step' (y:=y) hX jV;have W7:cx y X[c]=aV y.key X[c].key:=rfl;rw[W7]at st1 st2;have r1:((P.length+c:Nat):Int)<(N:Int):=by omega
     have r2:(0:Int)<=((P.length+c:Nat):Int):=by omega
     have r3:((P.length+c:Nat):Int).toNat=P.length+c:=Int.toNat_natCast _;have r4:((P.length+X.length:Nat):Int)<(N:Int):=by omega
     have r4b:(0:Int)<=((P.length+X.length:Nat):Int):=by omega
     have r4c:((P.length+X.length:Nat):Int).toNat=P.length+X.length:=Int.toNat_natCast _;have r5:((P.length+c:Nat):Int)+1=((P.length+(c+1):Nat):Int):=by omega
     generalize X[c]=d at*;generalize dW P X Q y X.length=r at*;cases hb:aV y.key d.key with
     |false=>
      have st1:=st1 hb;simp-implicitDefEqProofs (maxSteps:=600000) (disch:=(first|omega|decide)) only[go_sem,↓reduceIte,seval,c0,s1,s2,gy,gx,ln,gc,hb,r1,r2,r3,r4,r4b,r4c,r5,HB,iU,wrap_u64,wrap_i64,List.length_map]
      exact⟨⟨(c+1,j),by show c+1<=j;omega,h2,st1,h4⟩,⟨by simp,rfl⟩,by show j-(c+1)<j-i;omega⟩
     |true=>
      have st2:=st2 hb;simp-implicitDefEqProofs (maxSteps:=600000) (disch:=(first|omega|decide)) only[go_sem,↓reduceIte,seval,c0,s1,s2,gy,gx,ln,gc,hb,r1,r2,r3,r4,r4b,r4c,HB,iU,wrap_u64,wrap_i64,List.length_map]
      exact⟨⟨(i,c),by show i<=c;omega,by show c<=X.length;omega,h3,st2⟩,⟨by simp,rfl⟩,by show c-i<j-i;omega⟩
   · have c0: ¬((P.length+i:Nat):Int)<((P.length+j:Nat):Int):=by omega
     obtain rfl:i=j:=by omega
     have iB:RF=dW P X Q y i:=by
      rw[<-hRF]
      have b9:=yw iF (y:=y) (X1:=X.take i) (X2:=X.drop i) (by rw[List.take_append_drop];exact hX) h3 h4;rw[List.take_append_drop]at b9;rw[<-rz iF b9,dW,List.append_assoc];rfl
     rw[iB]
     simp-implicitDefEqProofs (maxSteps:=600000) (disch:=(first|omega|decide)) only[go_sem,↓reduceIte,seval,c0,List.length_map]
     refine ar [0,14] (ι:={u:Nat//i<=u/\u<=X.length}) (fun u=>[(17,.int .i64 ((P.length+u.1:Nat):Int))]) (fun u=>[(0,.row 7 ((dW P X Q y u.1).map It.enc))]) (fun u=>u.1-i) ⟨X.length,h2,Nat.le_refl _⟩ (by show 1<=_;simp) ?_ ?_
     · simp-implicitDefEqProofs (maxSteps:=600000) (disch:=(first|omega|decide)) only[go_sem,↓reduceIte,seval]
       try rfl
     · rintro⟨u,hu,hu2⟩
       simp only;by_cases htl:i<u
       · have d0:((P.length+i:Nat):Int)<((P.length+u:Nat):Int):=by omega
         obtain⟨t,rfl⟩: ∃t,u=t+1:=⟨u-1,by omega⟩
         have htX:t<X.length:=by omega
         have gy:=dq (ET (P:=P) (D:=X) (Z:=Q) (y:=y) (u:=t+1) hu2)
         have gd:=dq (SF (P:=P) (Z:=Q) (y:=y) htX)
         have gd2:=dq (tv (P:=P) (Z:=Q) (y:=y) htX)
         have w1:=pd (dW P X Q y (t+1)) (P.length+(t+1)) X[t]
         have w2:=pd ((dW P X Q y (t+1)).set (P.length+(t+1)) X[t]) (P.length+t) y;rw[I9 htX]at w2;have ln:=hlen (t+1)
         have q1:((P.length+(t+1):Nat):Int)-1=((P.length+t:Nat):Int):=by omega
         have q2:((P.length+(t+1):Nat):Int)<(N:Int):=by omega
         have q3:(0:Int)<=((P.length+(t+1):Nat):Int):=by omega
         have q4:((P.length+(t+1):Nat):Int).toNat=P.length+(t+1):=Int.toNat_natCast _;have q5:((P.length+t:Nat):Int)<(N:Int):=by omega
         have q6:(0:Int)<=((P.length+t:Nat):Int):=by omega
         have q7:((P.length+t:Nat):Int).toNat=P.length+t:=Int.toNat_natCast _;generalize X[t]=d at*;generalize dW P X Q y (t+1)=n1 at*;generalize hn0:dW P X Q y t=n0 at*;simp-implicitDefEqProofs (maxSteps:=600000) (disch:=(first|omega|decide)) only[go_sem,↓reduceIte,seval,d0,gy,gd,gd2,w1,w2,ln,q1,q2,q3,q4,q5,q6,q7,spl7,wrap_i64,List.length_map,List.length_set]
         exact⟨⟨t,by omega,by omega⟩,⟨by simp,by rw[hn0]⟩,by show t-i<t+1-i;omega⟩
       · have d0: ¬((P.length+i:Nat):Int)<((P.length+u:Nat):Int):=by omega
         obtain rfl:u=i:=by omega
         simp-implicitDefEqProofs (maxSteps:=600000) (disch:=(first|omega|decide)) only[go_sem,↓reduceIte,seval,d0,wrap_i64,List.length_map]
theorem sym_C{n:Nat}(hT:ag Tryz.prog (Qi n))(P X Y Q:List It)(h:(P++(X++(Y++Q))).length<=1000000)(hX:kP cx X)(hY:kP cx Y)(kX: ∀x∈X,x.ok)(kY: ∀y∈Y,y.ok)(hX0:1<X.length)(hY0:1<Y.length)(hn:X.length+Y.length<=n):dR Tryz.prog 208 [.row 0 0 7 (P++(X++(Y++Q))).length false,.int .i64 P.length,.int .i64 (P.length+X.length:Nat),.int .i64 (P.length+X.length+Y.length:Nat),.fn 148 []] [.row 7 ((P++(X++(Y++Q))).map It.enc)]
 (.cD []) [.row 7 ((P++(bn cx (X++Y)++Q)).map It.enc)] []:=by
 refine cj hT mixed Tryz.func208 rfl (Nat.le_of_ble_eq_true rfl) (fun n h _=>by simp at h;subst h;rfl) (by show _<=1;simp) (by show 1<=_;simp) bX ?_;unfold Tryz.f208;obtain⟨N,hN⟩: ∃N,(P++(X++(Y++Q))).length=N:=⟨_,rfl⟩
 have Ro:=hN;simp only[List.length_append]at Ro;obtain⟨p,hp⟩: ∃p,P.length=p:=⟨_,rfl⟩
 obtain⟨xl,hxl⟩: ∃xl,X.length=xl:=⟨_,rfl⟩
 obtain⟨yl,hyl⟩: ∃yl,Y.length=yl:=⟨_,rfl⟩
 obtain⟨hf,hhf⟩: ∃hf,(xl+yl)/2=hf:=⟨_,rfl⟩
 obtain⟨R0,XP⟩: ∃R0,P++(X++(Y++Q))=R0:=⟨_,rfl⟩
 have gX: ∀c (hc:c<xl),R0[p+c]? =some (X[c]!):=fun c hc=>by rw[<-XP,<-hp,List.getElem?_append_right (by omega),Nat.add_sub_cancel_left,List.getElem?_append_left (by omega),List.getElem?_eq_getElem (by omega),getElem!_pos X c (by omega)]
 have gY: ∀c (hc:c<yl),R0[p+xl+c]? =some (Y[c]!):=fun c hc=>by
  rw[<-XP,<-hp,List.getElem?_append_right (by omega),List.getElem?_append_right (by omega),List.getElem?_append_left (by omega)]
  rw[show P.length+xl+c-P.length-X.length=c by omega,List.getElem?_eq_getElem (by omega),getElem!_pos Y c (by omega)]
 have oX: ∀c (hc:c<xl),(X[c]!).ok:=fun c hc=>by rw[getElem!_pos X c (by omega)];exact kX _ (List.getElem_mem _)
 have oY: ∀c (hc:c<yl),(Y[c]!).ok:=fun c hc=>by rw[getElem!_pos Y c (by omega)];exact kY _ (List.getElem_mem _)
 rw[hN]at h⊢;rw[hp,hxl,hyl,XP]
 rw[XP]at hN;rw[hp,hxl,hyl]at Ro;have e1:((p+xl:Nat):Int)-(p:Int)=(xl:Int):=by omega
 have e1b:((xl:Int)==1)=false:=by rw[beq_eq_false_iff_ne];omega
 have e2:((p+xl+yl:Nat):Int)-((p+xl:Nat):Int)=(yl:Int):=by omega
 have e2b:((yl:Int)==1)=false:=by rw[beq_eq_false_iff_ne];omega
 have s1:(p:Int)+((p+xl+yl:Nat):Int)=((2*p+xl+yl:Nat):Int):=by omega
 have s2:((2*p+xl+yl:Nat):Int).fdiv 2=((p+hf:Nat):Int):=by rw[Int.fdiv_eq_ediv_of_nonneg _ (by omega)];omega
 have s3:((p+hf:Nat):Int)+((p+xl:Nat):Int)=((2*p+hf+xl:Nat):Int):=by omega
 have s4:((2*p+hf+xl:Nat):Int)-1=((2*p+hf+xl-1:Nat):Int):=by omega
 have u6:hf-yl<=min hf xl:=by omega
 have rl0:R0.length=N:=hN
 have fin: ∀s,hf-yl<=s->s<=min hf xl->(s=hf-yl\/cx (Y[hf-s]!) (X[s-1]!)=false)->(s=min hf xl\/cx (Y[hf-1-s]!) (X[s]!)=true)->
  ∃R1 R2:List It,(¬(s<xl/\0<hf-s)->R0=R1)/\(¬(0<s/\0<hf-s)->R1=R2)/\(¬(s<xl/\hf-s<yl)->R2=P++(bn cx (X++Y)++Q))/\
   (s<xl/\0<hf-s->(Qi n).hp 236 [.row 0 0 7 N false,.int .i64 ((p+s:Nat):Int),.int .i64 ((p+xl:Nat):Int),.int .i64 ((p+xl+(hf-s):Nat):Int),.fn 148 []] [.row 7 (R0.map It.enc)]=some (.cD [],[.row 7 (R1.map It.enc)],[]))/\
   (0<s/\0<hf-s->(Qi n).hp 208 [.row 0 0 7 N false,.int .i64 (p:Int),.int .i64 ((p+s:Nat):Int),.int .i64 ((p+hf:Nat):Int),.fn 148 []] [.row 7 (R1.map It.enc)]=some (.cD [],[.row 7 (R2.map It.enc)],[]))/\
   (s<xl/\hf-s<yl->(Qi n).hp 208 [.row 0 0 7 N false,.int .i64 ((p+hf:Nat):Int),.int .i64 ((p+xl+(hf-s):Nat):Int),.int .i64 ((p+xl+yl:Nat):Int),.fn 148 []] [.row 7 (R2.map It.enc)]=some (.cD [],[.row 7 ((P++(bn cx (X++Y)++Q)).map It.enc)],[])):=by
  intro s hs1 hs2 i1 i2;have JR:=sym_cut hX hY (h:=hf) (s:=s) (by omega) (by rw[hxl];exact i2) (by rw[hyl];exact i1)
  have lX1:(X.take s).length=s:=by rw[List.length_take];omega
  have lX2:(X.drop s).length=xl-s:=by rw[List.length_drop];omega
  have lY1:(Y.take (hf-s)).length=hf-s:=by rw[List.length_take];omega
  have lY2:(Y.drop (hf-s)).length=yl-(hf-s):=by rw[List.length_drop];omega
  have eX:X.take s++X.drop s=X:=List.take_append_drop _ _;have eY:Y.take (hf-s)++Y.drop (hf-s)=Y:=List.take_append_drop _ _;have sX1:=kP.take hX s;have sX2:=kP.drop hX s;have sY1:=kP.take hY (hf-s)
  have sY2:=kP.drop hY (hf-s)
  have kX1: ∀x∈X.take s,x.ok:=fun x hx=>kX x (List.mem_of_mem_take hx)
  have kX2: ∀x∈X.drop s,x.ok:=fun x hx=>kX x (List.mem_of_mem_drop hx)
  have kY1: ∀x∈Y.take (hf-s),x.ok:=fun x hx=>kY x (List.mem_of_mem_take hx)
  have kY2: ∀x∈Y.drop (hf-s),x.ok:=fun x hx=>kY x (List.mem_of_mem_drop hx)
  rw[<-JR]
  rw[<-eX,<-eY]at XP;generalize X.take s=X1 at*;generalize X.drop s=X2 at*;generalize Y.take (hf-s)=Y1 at*;generalize Y.drop (hf-s)=Y2 at*;have hS1:(bn cx (X1++Y1)).length=hf:=by rw[bY,List.length_append];omega
  simp only[List.append_assoc]at XP;refine⟨P++(X1++(Y1++(X2++(Y2++Q)))),P++(bn cx (X1++Y1)++(X2++(Y2++Q))), ?_, ?_, ?_, ?_, ?_, ?_⟩
  · intro sj
    rw[<-XP]
    by_cases h1:s<xl
    · obtain rfl:Y1=[]:=List.length_eq_zero_iff.1 (by omega)
      simp
    · obtain rfl:X2=[]:=List.length_eq_zero_iff.1 (by omega)
      simp
  · intro sj
    have:bn cx (X1++Y1)=X1++Y1:=by
     by_cases h1:0<s
     · obtain rfl:Y1=[]:=List.length_eq_zero_iff.1 (by omega)
       rw[List.append_nil];exact pc iF sX1
     · obtain rfl:X1=[]:=List.length_eq_zero_iff.1 (by omega)
       rw[List.nil_append];exact pc iF sY1
    rw[this,List.append_assoc]
  · intro sj
    have:bn cx (X2++Y2)=X2++Y2:=by
     by_cases h1:s<xl
     · obtain rfl:Y2=[]:=List.length_eq_zero_iff.1 (by omega)
       rw[List.append_nil];exact pc iF sX2
     · obtain rfl:X2=[]:=List.length_eq_zero_iff.1 (by omega)
       rw[List.nil_append];exact pc iF sY2
    rw[this];simp only[List.append_assoc]
  · intro hyes
    exact hp_rot (m:=n) (P:=P++X1) (U:=X2) (W:=Y1) (Q:=Y2++Q) (by rw[<-XP];simp only[List.append_assoc]) (by simp only[List.append_assoc]) rl0 h (by rw[List.length_append];omega) (by omega) (by omega) (by omega) (by omega)
  · intro hyes
    exact hp_sym (P:=P) (U:=X1) (W:=Y1) (Q:=X2++(Y2++Q)) rfl rfl (by rw[<-rl0,<-XP];simp only[List.length_append];omega) h hp (by omega) (by omega) (by omega) (by omega) sX1 sY1 kX1 kY1 (by omega)
  · intro hyes
    exact hp_sym (P:=P++bn cx (X1++Y1)) (U:=X2) (W:=Y2) (Q:=Q) (by simp only[List.append_assoc]) (by simp only[List.append_assoc]) (by rw[<-rl0,<-XP];simp only[List.length_append,hS1];omega) h (by rw[List.length_append];omega) (by omega) (by omega) (by omega) (by omega) sX2 sY2 kX2 kY2 (by omega)
 generalize P++(bn cx (X++Y)++Q)=RF at*;have run:hf<xl\/ ¬hf<xl:=Decidable.em _;rcases run with hc|hc
 · have c1:((p+hf:Nat):Int)<((p+xl:Nat):Int):=by omega
   have s5:((2*p+hf+xl:Nat):Int)-((p+xl+yl:Nat):Int)=((p+(hf-yl):Nat):Int):=by omega
   have Ad:min hf xl=hf:=by omega
   simp-implicitDefEqProofs (maxSteps:=600000) (disch:=(first|omega|decide)) only[go_sem,↓reduceIte,seval,e1,e1b,e2,e2b,s1,s2,s3,s4,s5,c1,HB,iU,wrap_u64,wrap_i64,List.length_map,beq_self_eq_true]
   refine ar [0,1,2,3,4,18,19,22] (ι:={q:Nat×Nat//hf-yl<=q.1/\q.1<=q.2/\q.2<=min hf xl/\(q.1=hf-yl\/cx (Y[hf-q.1]!) (X[q.1-1]!)=false)/\(q.2=min hf xl\/cx (Y[hf-1-q.2]!) (X[q.2]!)=true)}) (fun q=>[(20,.int .i64 ((p+q.1.1:Nat):Int)),(21,.int .i64 ((p+q.1.2:Nat):Int))]) (fun q=>[(0,.row 7 (R0.map It.enc))]) (fun q=>q.1.2-q.1.1) ⟨(hf-yl,min hf xl),Nat.le_refl _,u6,Nat.le_refl _,.inl rfl,.inl rfl⟩ (by show 1<=_;simp) ?_ ?_
   · simp-implicitDefEqProofs (maxSteps:=600000) (disch:=(first|omega|decide)) only[go_sem,↓reduceIte,seval,Ad]
     try rfl
   · rintro⟨⟨s,e⟩,h1,h2,h3,i1,i2⟩
     simp only at h1 h2 h3 i1 i2⊢;by_cases aw:s<e
     · have d0:((p+s:Nat):Int)<((p+e:Nat):Int):=by omega
       obtain⟨c,hcd⟩: ∃c,(s+e)/2=c:=⟨_,rfl⟩
       have t1:((p+s:Nat):Int)+((p+e:Nat):Int)=((2*p+s+e:Nat):Int):=by omega
       have t2:((2*p+s+e:Nat):Int).fdiv 2=((p+c:Nat):Int):=by rw[Int.fdiv_eq_ediv_of_nonneg _ (by omega)];omega
       have t3:((2*p+hf+xl-1:Nat):Int)-((p+c:Nat):Int)=((p+xl+(hf-1-c):Nat):Int):=by omega
       have t4:((p+c:Nat):Int)+1=((p+(c+1):Nat):Int):=by omega
       have gx:=dq (gX c (by omega))
       have gy:=dq (gY (hf-1-c) (by omega))
       have gc:=EV (x:=Y[hf-1-c]!) (y:=X[c]!) ⟨oY _ (by omega),oX _ (by omega)⟩
       have r1:((p+c:Nat):Int)<(N:Int):=by omega
       have r2:(0:Int)<=((p+c:Nat):Int):=by omega
       have r3:((p+c:Nat):Int).toNat=p+c:=Int.toNat_natCast _;have r4:((p+xl+(hf-1-c):Nat):Int)<(N:Int):=by omega
       have r5:(0:Int)<=((p+xl+(hf-1-c):Nat):Int):=by omega
       have r6:((p+xl+(hf-1-c):Nat):Int).toNat=p+xl+(hf-1-c):=Int.toNat_natCast _;have W7:cx (Y[hf-1-c]!) (X[c]!)=aV (Y[hf-1-c]!).key (X[c]!).key:=rfl;have nx1:aV (Y[hf-1-c]!).key (X[c]!).key=false->cx (Y[hf-(c+1)]!) (X[c+1-1]!)=false:=fun hh=>by rw[show hf-(c+1)=hf-1-c by omega,show c+1-1=c by omega,W7,hh]
       have Xc:aV (Y[hf-1-c]!).key (X[c]!).key=true->cx (Y[hf-1-c]!) (X[c]!)=true:=fun hh=>by rw[W7,hh]
       clear W7 fin;generalize hdy:Y[hf-1-c]! =dy at gy gc nx1 Xc;generalize hdx:X[c]! =dx at gx gc nx1 Xc;cases hb:aV dy.key dx.key with
       |false=>
        have nx1:=nx1 hb;simp-implicitDefEqProofs (maxSteps:=600000) (disch:=(first|omega|decide)) only[go_sem,↓reduceIte,seval,d0,t1,t2,t3,t4,gx,gy,rl0,gc,hb,r1,r2,r3,r4,r5,r6,HB,iU,wrap_u64,wrap_i64,List.length_map]
        exact⟨⟨(c+1,e),by show hf-yl<=c+1;omega,by show c+1<=e;omega,h3,.inr nx1,i2⟩,⟨by simp,rfl⟩,by show e-(c+1)<e-s;omega⟩
       |true=>
        have Xc:=Xc hb;rw[<-hdy,<-hdx]at Xc;simp-implicitDefEqProofs (maxSteps:=600000) (disch:=(first|omega|decide)) only[go_sem,↓reduceIte,seval,d0,t1,t2,t3,gx,gy,rl0,gc,hb,r1,r2,r3,r4,r5,r6,HB,iU,wrap_u64,wrap_i64,List.length_map]
        exact⟨⟨(s,c),h1,by show s<=c;omega,by show c<=min hf xl;omega,i1,.inr Xc⟩,⟨by simp,rfl⟩,by show c-s<e-s;omega⟩
     · have d0: ¬((p+s:Nat):Int)<((p+e:Nat):Int):=by omega
       obtain rfl:s=e:=by omega
       obtain⟨R1,R2,E1,E2,E3,F1,F2,F3⟩:=fin s h1 h3 i1 i2;have t5:((2*p+hf+xl:Nat):Int)-((p+s:Nat):Int)=((p+xl+(hf-s):Nat):Int):=by omega
       clear fin gX gY oX oY i1 i2 XP;have lb1:s<xl\/s=xl:=by omega
       have lb2:0<hf-s\/hf-s=0:=by omega
       have lb3:0<s\/s=0:=by omega
       have lb4:hf-s<yl\/hf-s=yl:=by omega
       have K1:(((p+s:Nat):Int)<((p+xl:Nat):Int))=(s<xl):=propext ⟨fun _=>by omega,fun _=>by omega⟩
       have K2:(((p+xl:Nat):Int)<((p+xl+(hf-s):Nat):Int))=(0<hf-s):=propext ⟨fun _=>by omega,fun _=>by omega⟩
       have K3:((p:Int)<((p+s:Nat):Int))=(0<s):=propext ⟨fun _=>by omega,fun _=>by omega⟩
       have K4:(((p+s:Nat):Int)<((p+hf:Nat):Int))=(0<hf-s):=propext ⟨fun _=>by omega,fun _=>by omega⟩
       have K5:(((p+hf:Nat):Int)<((p+xl+(hf-s):Nat):Int))=(s<xl):=propext ⟨fun _=>by omega,fun _=>by omega⟩
       have K6:(((p+xl+(hf-s):Nat):Int)<((p+xl+yl:Nat):Int))=(hf-s<yl):=propext ⟨fun _=>by omega,fun _=>by omega⟩
       by_cases a1:s<xl<;>by_cases a2:0<hf-s<;>by_cases a3:0<s<;>by_cases a4:hf-s<yl
       all_goals
        first
         |(have F1:=F1 ⟨a1,a2⟩)
         |(obtain rfl:=E1 (fun h=>by first|exact a1 h.1|exact a2 h.2);clear F1;have F1:([]:List It)++[]=[]:=rfl)
       all_goals
        first
         |(have F2:=F2 ⟨a3,a2⟩)
         |(obtain rfl:=E2 (fun h=>by first|exact a3 h.1|exact a2 h.2);clear F2;have F2:([]:List It)++[]=[]:=rfl)
       all_goals
        first
         |(have F3:=F3 ⟨a1,a4⟩)
         |(obtain rfl:=E3 (fun h=>by first|exact a1 h.1|exact a4 h.2);clear F3;have F3:([]:List It)++[]=[]:=rfl)
       all_goals
        simp-implicitDefEqProofs (maxSteps:=600000) (disch:=(first|omega|decide)) only[go_sem,↓reduceIte,seval,d0,t5,K1,K2,K3,K4,K5,K6,a1,a2,a3,a4,F1,F2,F3,wrap_i64,List.length_map]
 · have c1: ¬((p+hf:Nat):Int)<((p+xl:Nat):Int):=by omega
   have Ad:min hf xl=xl:=by omega
   have hlo0:hf-yl=0:=by omega
   simp-implicitDefEqProofs (maxSteps:=600000) (disch:=(first|omega|decide)) only[go_sem,↓reduceIte,seval,e1,e1b,e2,e2b,s1,s2,s3,s4,c1,HB,iU,wrap_u64,wrap_i64,List.length_map,beq_self_eq_true]
   refine ar [0,1,2,3,4,18,19,22] (ι:={q:Nat×Nat//hf-yl<=q.1/\q.1<=q.2/\q.2<=min hf xl/\(q.1=hf-yl\/cx (Y[hf-q.1]!) (X[q.1-1]!)=false)/\(q.2=min hf xl\/cx (Y[hf-1-q.2]!) (X[q.2]!)=true)}) (fun q=>[(20,.int .i64 ((p+q.1.1:Nat):Int)),(21,.int .i64 ((p+q.1.2:Nat):Int))]) (fun q=>[(0,.row 7 (R0.map It.enc))]) (fun q=>q.1.2-q.1.1) ⟨(hf-yl,min hf xl),Nat.le_refl _,u6,Nat.le_refl _,.inl rfl,.inl rfl⟩ (by show 1<=_;simp) ?_ ?_
   · simp-implicitDefEqProofs (maxSteps:=600000) (disch:=(first|omega|decide)) only[go_sem,↓reduceIte,seval,Ad,hlo0,Nat.add_zero]
     try rfl
   · rintro⟨⟨s,e⟩,h1,h2,h3,i1,i2⟩
     simp only at h1 h2 h3 i1 i2⊢;by_cases aw:s<e
     · have d0:((p+s:Nat):Int)<((p+e:Nat):Int):=by omega
       obtain⟨c,hcd⟩: ∃c,(s+e)/2=c:=⟨_,rfl⟩
       have t1:((p+s:Nat):Int)+((p+e:Nat):Int)=((2*p+s+e:Nat):Int):=by omega
       have t2:((2*p+s+e:Nat):Int).fdiv 2=((p+c:Nat):Int):=by rw[Int.fdiv_eq_ediv_of_nonneg _ (by omega)];omega
       have t3:((2*p+hf+xl-1:Nat):Int)-((p+c:Nat):Int)=((p+xl+(hf-1-c):Nat):Int):=by omega
       have t4:((p+c:Nat):Int)+1=((p+(c+1):Nat):Int):=by omega
       have gx:=dq (gX c (by omega))
       have gy:=dq (gY (hf-1-c) (by omega))
       have gc:=EV (x:=Y[hf-1-c]!) (y:=X[c]!) ⟨oY _ (by omega),oX _ (by omega)⟩
       have r1:((p+c:Nat):Int)<(N:Int):=by omega
       have r2:(0:Int)<=((p+c:Nat):Int):=by omega
       have r3:((p+c:Nat):Int).toNat=p+c:=Int.toNat_natCast _;have r4:((p+xl+(hf-1-c):Nat):Int)<(N:Int):=by omega
       have r5:(0:Int)<=((p+xl+(hf-1-c):Nat):Int):=by omega
       have r6:((p+xl+(hf-1-c):Nat):Int).toNat=p+xl+(hf-1-c):=Int.toNat_natCast _;have W7:cx (Y[hf-1-c]!) (X[c]!)=aV (Y[hf-1-c]!).key (X[c]!).key:=rfl;have nx1:aV (Y[hf-1-c]!).key (X[c]!).key=false->cx (Y[hf-(c+1)]!) (X[c+1-1]!)=false:=fun hh=>by rw[show hf-(c+1)=hf-1-c by omega,show c+1-1=c by omega,W7,hh]
       have Xc:aV (Y[hf-1-c]!).key (X[c]!).key=true->cx (Y[hf-1-c]!) (X[c]!)=true:=fun hh=>by rw[W7,hh]
       clear W7 fin;generalize hdy:Y[hf-1-c]! =dy at gy gc nx1 Xc;generalize hdx:X[c]! =dx at gx gc nx1 Xc;cases hb:aV dy.key dx.key with
       |false=>
        have nx1:=nx1 hb;simp-implicitDefEqProofs (maxSteps:=600000) (disch:=(first|omega|decide)) only[go_sem,↓reduceIte,seval,d0,t1,t2,t3,t4,gx,gy,rl0,gc,hb,r1,r2,r3,r4,r5,r6,HB,iU,wrap_u64,wrap_i64,List.length_map]
        exact⟨⟨(c+1,e),by show hf-yl<=c+1;omega,by show c+1<=e;omega,h3,.inr nx1,i2⟩,⟨by simp,rfl⟩,by show e-(c+1)<e-s;omega⟩
       |true=>
        have Xc:=Xc hb;rw[<-hdy,<-hdx]at Xc;simp-implicitDefEqProofs (maxSteps:=600000) (disch:=(first|omega|decide)) only[go_sem,↓reduceIte,seval,d0,t1,t2,t3,gx,gy,rl0,gc,hb,r1,r2,r3,r4,r5,r6,HB,iU,wrap_u64,wrap_i64,List.length_map]
        exact⟨⟨(s,c),h1,by show s<=c;omega,by show c<=min hf xl;omega,i1,.inr Xc⟩,⟨by simp,rfl⟩,by show c-s<e-s;omega⟩
     · have d0: ¬((p+s:Nat):Int)<((p+e:Nat):Int):=by omega
       obtain rfl:s=e:=by omega
       obtain⟨R1,R2,E1,E2,E3,F1,F2,F3⟩:=fin s h1 h3 i1 i2;have t5:((2*p+hf+xl:Nat):Int)-((p+s:Nat):Int)=((p+xl+(hf-s):Nat):Int):=by omega
       clear fin gX gY oX oY i1 i2 XP;have lb1:s<xl\/s=xl:=by omega
       have lb2:0<hf-s\/hf-s=0:=by omega
       have lb3:0<s\/s=0:=by omega
       have lb4:hf-s<yl\/hf-s=yl:=by omega
       have K1:(((p+s:Nat):Int)<((p+xl:Nat):Int))=(s<xl):=propext ⟨fun _=>by omega,fun _=>by omega⟩
       have K2:(((p+xl:Nat):Int)<((p+xl+(hf-s):Nat):Int))=(0<hf-s):=propext ⟨fun _=>by omega,fun _=>by omega⟩
       have K3:((p:Int)<((p+s:Nat):Int))=(0<s):=propext ⟨fun _=>by omega,fun _=>by omega⟩
       have K4:(((p+s:Nat):Int)<((p+hf:Nat):Int))=(0<hf-s):=propext ⟨fun _=>by omega,fun _=>by omega⟩
       have K5:(((p+hf:Nat):Int)<((p+xl+(hf-s):Nat):Int))=(s<xl):=propext ⟨fun _=>by omega,fun _=>by omega⟩
       have K6:(((p+xl+(hf-s):Nat):Int)<((p+xl+yl:Nat):Int))=(hf-s<yl):=propext ⟨fun _=>by omega,fun _=>by omega⟩
       by_cases a1:s<xl<;>by_cases a2:0<hf-s<;>by_cases a3:0<s<;>by_cases a4:hf-s<yl
       all_goals
        first
         |(have F1:=F1 ⟨a1,a2⟩)
         |(obtain rfl:=E1 (fun h=>by first|exact a1 h.1|exact a2 h.2);clear F1;have F1:([]:List It)++[]=[]:=rfl)
       all_goals
        first
         |(have F2:=F2 ⟨a3,a2⟩)
         |(obtain rfl:=E2 (fun h=>by first|exact a3 h.1|exact a2 h.2);clear F2;have F2:([]:List It)++[]=[]:=rfl)
       all_goals
        first
         |(have F3:=F3 ⟨a1,a4⟩)
         |(obtain rfl:=E3 (fun h=>by first|exact a1 h.1|exact a4 h.2);clear F3;have F3:([]:List It)++[]=[]:=rfl)
       all_goals
        simp-implicitDefEqProofs (maxSteps:=600000) (disch:=(first|omega|decide)) only[go_sem,↓reduceIte,seval,d0,t5,K1,K2,K3,K4,K5,K6,a1,a2,a3,a4,F1,F2,F3,wrap_i64,List.length_map]
theorem Fg: ∀(n:Nat) (v:Xb),smK n v->dR Tryz.prog 208 (yD v) (iu (sV v)) (XO v).1 (XO v).2.1 (XO v).2.2
 |0,v,h=>absurd h.2.2.2.2.2 (by omega)
 |n+1,(P,X,Y,Q),⟨⟨k1,k2,k3⟩,k4,k5,k6,k7,k8⟩=>by
  have hT:=TIm_ok (n:=n) (Fg n)
  simp only[sV]at k1 k2 k3 k4 k5 k6 k7 k8;by_cases h1:X.length=1
  · obtain⟨x,rfl⟩:=List.length_eq_one_iff.1 h1
    exact sym_A hT P Y Q x k1 k5 (k6 x (by simp)) k7 k3
  · by_cases h2:Y.length=1
    · obtain⟨y,rfl⟩:=List.length_eq_one_iff.1 h2
      exact sym_B hT P X Q y k1 k4 (k7 y (by simp)) k6 (by omega)
    · exact sym_C hT P X Y Q k1 k4 k5 k6 k7 (by omega) (by omega) (by omega)
end Go.Proofs.YtihgnfmoafjakaaGreat
namespace Go.yv
set_option linter.unusedVariables false
set_option linter.unusedSimpArgs false
section
variable{V:Type}{lt:V->V->Bool}
inductive BN(lt:V->V->Bool)(bs:Nat):List V->List V->Prop
 |last (l:List V):l.length<=bs->BN lt bs l (bn lt l)
 |cons (B l r:List V):B.length=bs->BN lt bs l r->BN lt bs (B++l) (bn lt B++r)
theorem BN.len{bs:Nat}{l r:List V}(h:BN lt bs l r):r.length=l.length:=by
 induction h with
 |last l h=>exact bY l
 |cons B l r hB h ih=>rw[List.length_append,List.length_append,bY,ih]
theorem BN.nil{bs:Nat}{r:List V}(h:BN lt bs [] r):r=[]:=List.length_eq_zero_iff.1 h.len
theorem BN.small{bs:Nat}{l r:List V}(h:BN lt bs l r)(hl:l.length<=bs):r=bn lt l:=by
 cases h with
 |last l h=>rfl
 |cons B l r hB h=>
  rw[List.length_append]at hl;obtain rfl:l=[]:=List.length_eq_zero_iff.1 (by omega)
  rw[h.nil,List.append_nil,List.append_nil]
theorem BN.part{bs:Nat}{l r:List V}(h:BN lt bs l r)(hl:bs<=l.length): ∃B l' r',l=B++l'/\B.length=bs/\r=bn lt B++r'/\BN lt bs l' r':=by
 cases h with
 |last l h=>exact⟨l,[],[],by simp,by omega,by simp,BN.last [] (by simp)⟩
 |cons B l r hB h=>exact⟨B,l,r,rfl,hB,rfl,h⟩
end
end Go.yv
