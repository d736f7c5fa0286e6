/- What the laws of this claim rest on: the abstract executor, its soundness, and what the functions compute on pure data. No condition. -/
import Derived.Test.YtihgnfmoafjakaaGreatU1
import Derived.Laws.StructEq
import Derived.Deep.Upon
import Derived.Laws.IdiomStrings
noncomputable section
set_option linter.unusedVariables false
set_option linter.unusedSimpArgs false
namespace Go.bo
open Go.RowKit
def bV:A->Value
 | .int k n=> .int k n
 | .bool b=> .bool b
 | .str s=> .string ⟨s.toArray⟩
 |_=>undef
theorem Ju{E:Env}{c:CK}{x:A}{v:Value}(h:c.has x=true)(hr:aJ E x v):v=bV x:=by cases c<;>cases x<;>simp_all[CK.has,aJ,bV]
theorem ni{E:Env}: ∀{ks:List CK} {xs:List A} {vs:List Value},eR ks xs=true->aQ E xs vs->vs=xs.map bV
 | [],[],vs,_,h=>by simpa[aQ]using h
 |c::ks,x::xs,vs,h,hr=>by
  simp only[eR,Bool.and_eq_true]at h;simp only[aQ]at hr;obtain⟨v,lB,rfl,hx,hl⟩:=hr;rw[Ju h.1 hx,ni h.2 hl]
  rfl
 | [],_::_,_,h,_=>by simp[eR]at h
 |_::_,[],_,h,_=>by simp[eR]at h
theorem qc: ∀{ks ls:List CK} {xs:List A},eR (ks++ls) xs=true->eR ks (xs.take ks.length)=true/\eR ls (xs.drop ks.length)=true
 | [],ls,xs,h=>by simpa[eR]using h
 |c::ks,ls,[],h=>by simp[eR]at h
 |c::ks,ls,x::xs,h=>by
  simp only[List.cons_append,eR,Bool.and_eq_true]at h;have:=qc h.2;simp only[List.length_cons,List.take_succ_cons,List.drop_succ_cons,eR,Bool.and_eq_true]
  exact⟨⟨h.1,this.1⟩,this.2⟩
theorem qd: ∀{ks:List CK} {xs:List A},eR ks xs=true->ks.length=xs.length
 | [],[],_=>rfl
 |c::ks,x::xs,h=>by simp only[eR,Bool.and_eq_true]at h;simp[qd h.2]
 | [],_::_,h=>by simp[eR]at h
 |_::_,[],h=>by simp[eR]at h
theorem rV: ∀{ks:List CK} {xs ys:List A},eR ks xs=true->eR ks ys=true-> ∃b,wV xs ys=some b
 | [],[],[],_,_=>⟨true,rfl⟩
 |c::ks,x::xs,y::ys,h,h'=>by
  simp only[eR,Bool.and_eq_true]at h h';obtain⟨b,hb⟩:=rV h.2 h'.2;have h1:=h.1;have h2:=h'.1;cases c<;>cases x<;>simp[CK.has]at h1<;>cases y<;>simp[CK.has]at h2
  · subst h1;subst h2;exact⟨_,by simp only[wV,Vj,hb,if_true,Option.bind_some,Option.map_some];rfl⟩
  · exact⟨_,by simp only[wV,Vj,hb,Option.bind_some,Option.map_some];rfl⟩
  · exact⟨_,by simp only[wV,Vj,hb,Option.bind_some,Option.map_some];rfl⟩
 | [],_::_,_,h,_=>by simp[eR]at h
 | [],[],_::_,_,h=>by simp[eR]at h
 |_::_,[],_,h,_=>by simp[eR]at h
 |_::_,_::_,[],_,h=>by simp[eR]at h
theorem H7: ∀{n:Nat} {xs ys:List A} {b c:Bool},wV (xs.take n) (ys.take n)=some b->wV (xs.drop n) (ys.drop n)=some c->wV xs ys=some (b&&c)
 |0,xs,ys,b,c,h,h'=>by simp[wV]at h;subst h;simpa using h'
 |n+1,[],[],b,c,h,h'=>by simp[wV]at h h';subst h;subst h';rfl
 |n+1,x::xs,[],b,c,h,h'=>by simp[wV]at h
 |n+1,[],y::ys,b,c,h,h'=>by simp[wV]at h
 |n+1,x::xs,y::ys,b,c,h,h'=>by
  simp only[List.take_succ_cons,List.drop_succ_cons,wV]at h h'⊢;cases hx:Vj x y with
  |none=>simp[hx]at h
  |some r=>
   simp only[hx,Option.bind_some]at h⊢;cases he:wV (xs.take n) (ys.take n)with
   |none=>simp[he]at h
   |some s=>
    simp[he]at h;rw[H7 he h']
    simp[<-h,Bool.and_assoc]
theorem str_beq(x y:List UInt8):((⟨x.toArray⟩:ByteArray).toList==(⟨y.toArray⟩:ByteArray).toList)=(x==y):=by rw[ByteArray.toList_eq,ByteArray.toList_eq]
section
variable{P:Program}{w:World}
def EqAt(P:Program)(w:World)(t:TypeId)(ks:List CK)(D:Nat):Prop:=
 ∀xs ys:List A,eR ks xs=true->eR ks ys=true-> ∀b,wV xs ys=some b->
  (bF P t=some true->(Op.equalIn D t (.agg (xs.map bV).toArray) (.agg (ys.map bV).toArray)).run P w= .ok b w)/\
  (bF P t=some false-> ∀x y,xs=[x]->ys=[y]->(Op.equalIn D t (bV x) (bV y)).run P w= .ok b w)/\(bF P t≠none)/\(bF P t=some false->ks.length=1)
theorem yX(D:Nat)(rec:TypeId->Option (List CK))(hrec: ∀t ks,rec t=some ks->EqAt P w t ks D)(X Y:List A):
 ∀(fs:List Field) (off:Nat) (ks:List CK),Vk rec (ba P) fs off=some ks->eR ks (X.drop off)=true->eR ks (Y.drop off)=true->
  ∀b,wV (X.drop off) (Y.drop off)=some b->(Op.eqFields D (X.map bV).toArray (Y.map bV).toArray fs).run P w= .ok b w
 | [],off,ks,hg,hx,hy,b,hb=>by
  simp[Vk]at hg;subst hg;cases hX:X.drop off with
  |cons _ _=>simp[hX,eR]at hx
  |nil=>
   cases hY:Y.drop off with
   |cons _ _=>simp[hY,eR]at hy
   |nil=>
    rw[hX,hY]at hb;simp[wV]at hb;subst hb;simp[Op.eqFields]
 |f::fs,off,ks,hg,hx,hy,b,hb=>by
  simp only[Vk]at hg;split at hg
  · simp at hg
  · rename_i hf
    have hf1: ¬f.name= "_" :=fun e=>hf (.inl e)
    have Xw:f.offset=off:=Decidable.byContradiction fun e=>hf (.inr e)
    split at hg
    · rename_i k1 n lC hn
      split at hg
      · rename_i hkn
        cases hgo:Vk rec (ba P) fs (off+n)with
        |none=>simp[hgo]at hg
        |some k2=>
         simp[hgo]at hg;subst hg;obtain⟨hx1,hx2⟩:=qc hx;obtain⟨Bw,hy2⟩:=qc hy;rw[hkn]at hx1 hx2 Bw hy2;obtain⟨b1,Xx⟩:=rV hx1 Bw;rw[List.drop_drop]at hx2 hy2;obtain⟨b2,hb2⟩:=rV hx2 hy2;have X8:=H7 Xx (by rw[List.drop_drop,List.drop_drop];exact hb2)
         rw[hb]at X8;simp at X8;have hE:=hrec _ _ lC _ _ hx1 Bw b1 Xx;have X9:=yX D rec hrec X Y fs (off+n) k2 hgo hx2 hy2 b2 hb2;have hXn:n=1->off<X.length:=by intro h1;have:=qd hx1;rw[hkn,h1,List.length_take,List.length_drop]at this;omega
         have hYn:n=1->off<Y.length:=by intro h1;have:=qd Bw;rw[hkn,h1,List.length_take,List.length_drop]at this;omega
         have parts: ∀Z:List A,bF P f.type=some true->(part f.type (Z.map bV).toArray off).run P w= .ok (.agg (((Z.drop off).take n).map bV).toArray) w:=by
          intro Z ny;simp only[part,Sem.run_bind,ma ny,Result.andThen_ok,if_true,run_sizeOf hn,Sem.run_pure]
          congr 2
          apply Array.ext';simp[List.extract_eq_take_drop,List.map_take,List.map_drop]
         have step: ∀x y:Value,(part f.type (X.map bV).toArray off).run P w= .ok x w->(part f.type (Y.map bV).toArray off).run P w= .ok y w->(Op.equalIn D f.type x y).run P w= .ok b1 w->
          (Op.eqFields D (X.map bV).toArray (Y.map bV).toArray (f::fs)).run P w= .ok b w:=by
          intro x y h1 h2 h3;simp only[Op.eqFields,ne_eq,hf1,not_false_eq_true,if_true,Xw,Sem.run_bind,h1,h2,h3,Result.andThen_ok,Sem.run_ite,Sem.run_pure,X9,X8]
          cases b1<;>simp
         cases ny:bF P f.type with
         |none=>exact absurd ny hE.2.2.1
         |some g=>
          cases g with
          |true=>exact step _ _ (parts X ny) (parts Y ny) (hE.1 ny)
          |false=>
           have h1:=hE.2.2.2 ny;rw[hkn]at h1;have hXn':=hXn h1;have hYn':=hYn h1;rw[h1]at hE;have hX:(X.drop off).take 1=[X[off]]:=by rw[List.drop_eq_getElem_cons hXn'];rfl
           have hY:(Y.drop off).take 1=[Y[off]]:=by rw[List.drop_eq_getElem_cons hYn'];rfl
           have hp: ∀(Z:List A) (h:off<Z.length),(part f.type (Z.map bV).toArray off).run P w= .ok (bV Z[off]) w:=by intro Z h;simp[part,iW ny,h]
           exact step _ _ (hp X hXn') (hp Y hYn') (hE.2.1 ny _ _ hX hY)
      · simp at hg
    · simp at hg
theorem Cb: ∀(d:Nat) (t:TypeId) (ks:List CK),Vl P d t=some ks-> ∀D,d<=D->EqAt P w t ks D
 |0,_,_,h,_,_=>by simp[Vl]at h
 |d+1,t,ks,h,D,hD=>by
  obtain⟨D',rfl⟩: ∃D',D=D'+1:=⟨D-1,by omega⟩
  intro xs ys hx hy b hb;simp only[Vl]at h;split at h
  · rename_i hu
    simp at h;subst h;have ny:bF P t=some false:=by simp[bF,hu]
    refine⟨fun h=>by simp[ny]at h,fun _ x y Tx yY=> ?_,by simp[ny],fun _=>rfl⟩
    subst Tx;subst yY;cases x<;>simp[eR,CK.has]at hx
    cases y<;>simp[eR,CK.has]at hy
    simp[wV,Vj]at hb;rw[bV,bV,run_equalIn_bool' w D' t _ _ hu,hb]
  · rename_i k hu
    simp at h;subst h;have ny:bF P t=some false:=by simp[bF,hu]
    refine⟨fun h=>by simp[ny]at h,fun _ x y Tx yY=> ?_,by simp[ny],fun _=>rfl⟩
    subst Tx;subst yY;cases x<;>simp[eR,CK.has]at hx
    cases y<;>simp[eR,CK.has]at hy
    subst hx;subst hy;simp[wV,Vj]at hb;rw[bV,bV,run_equalIn_int w D' t _ _ _ _ hu,hb]
  · rename_i hu
    simp at h;subst h;have ny:bF P t=some false:=by simp[bF,hu]
    refine⟨fun h=>by simp[ny]at h,fun _ x y Tx yY=> ?_,by simp[ny],fun _=>rfl⟩
    subst Tx;subst yY;cases x<;>simp[eR,CK.has]at hx
    cases y<;>simp[eR,CK.has]at hy
    simp[wV,Vj]at hb;rw[bV,bV,run_equalIn_string w D' t _ _ hu,str_beq,hb]
  · rename_i fs hu
    split at h
    · simp at h
    · rename_i b9
      have ny:bF P t=some true:=by simp[bF,hu]
      refine⟨fun _=> ?_,fun h=>by simp[ny]at h,by simp[ny],fun h=>by simp[ny]at h⟩
      have hf:P.fieldsOf t=fs:=by simp[Program.fieldsOf,hu]
      rw[run_equalIn_agg w D' t _ _ (by rw[hf];exact hu) (by simpa using b9),hf]
      exact yX D' (Vl P d) (fun t ks h=>Cb d t ks h D' (by omega)) xs ys fs.toList 0 ks h (by simpa using hx) (by simpa using hy) b (by simpa using hb)
  · simp at h
theorem eO{op:BinOp}{t:TypeId}{x y:Operand}{a b:Value}(h1:a≠ .nilIface)(h2: ∀xs,a≠ .agg xs):(eqGuard op t x y a b).run P w= .ok () w:=by
 cases op<;>simp only[eqGuard]<;>first
  |rfl
  |(cases a<;>first|rfl|(exact absurd rfl h1)|(exact absurd rfl (h2 _)))
end
section
variable{P:Program}{N0:Nat->Prop}{w0:kD}{nt:Nat}{σ:St}{φ:List dj}{a:Act}{w:World}
theorem Vx(h:aO N0 w0 nt σ φ a w){d:Option Tmp}{op:UnOp}{x:Operand}{s:Nat}{t:TypeId}{p:String}{af:Array Edge}{g:Option (Nat×Bool)}{r:A}
 (hr:unA op (σ.ev x)=some r):Good P ⟨d,.unOp op s x,t,p,af,g⟩ a w N0 φ r:=by
 have hx:=h.ev x;cases hc:σ.ev x<;>simp only[hc,unA]at hr<;>try(simp at hr;done)
 · cases op<;>simp at hr
   subst hr;rw[hc]at hx;refine bR rfl (v:= .int _ _) (by rw[iX hx];rfl) ?_;simp[aJ]
 · cases op<;>simp at hr
   subst hr;rw[hc]at hx;refine bR rfl (v:= .bool _) (by rw[u4 hx];rfl) ?_;simp only[aJ]
theorem X_{op:BinOp}{k:IntKind}{m n:Int}{t:TypeId}{r:A}(ho:op≠ .shl)(xc:op≠ .shr)(hr:tC op k m n=some r):(binOp op t (.int k m) (.int k n)).run P w= .ok (bV r) w/\ ∀E:Env,aJ E r (bV r):=by
 cases op<;>simp only[tC]at hr
 case shl=>exact absurd rfl ho
 case shr=>exact absurd rfl xc
 case quo=>
  split at hr
  · simp at hr
  · rename_i h0
    obtain rfl:=Option.some.inj hr;exact⟨by simp[binOp,Op.intDiv,h0,bV],fun E=>by simp[aJ,bV]⟩
 case rem=>
  split at hr
  · simp at hr
  · rename_i h0
    obtain rfl:=Option.some.inj hr;exact⟨by simp[binOp,Op.intDiv,h0,bV],fun E=>by simp[aJ,bV]⟩
 all_goals first
  |(simp at hr;done)
  |(obtain rfl:=Option.some.inj hr;exact⟨by simp[binOp,Op.intArith,Op.intCmp,Op.intBits,bV],fun E=>by simp[aJ,bV]⟩)
  |(obtain rfl:=Option.some.inj hr;exact⟨by simp only[binOp,Op.intBits,bV];simp only[ne_eq,not_true_eq_false,if_false,Sem.run_pure],fun E=>by simp[aJ,bV]⟩)
theorem toList_mk(s:List UInt8):(⟨s.toArray⟩:ByteArray).toList=s:=by rw[ByteArray.toList_eq]
theorem Vy(s t:List UInt8):(⟨s.toArray⟩:ByteArray)++⟨t.toArray⟩=⟨(s++t).toArray⟩:=by apply ByteArray.ext;simp
theorem X'{op:BinOp}{x y:List UInt8}{t:TypeId}{r:A}(hr:binS op x y=some r):(binOp op t (.string ⟨x.toArray⟩) (.string ⟨y.toArray⟩)).run P w= .ok (bV r) w/\ ∀E:Env,aJ E r (bV r):=by
 cases op<;>simp only[binS]at hr
 case add=>
  split at hr
  · rename_i hle
    obtain rfl:=Option.some.inj hr;have: ¬(IntKind.i64.max<((x.length:Int)+y.length)):=by simp[IntKind.max,IntKind.signed,IntKind.bits];omega
    exact⟨by simp only[binOp,Op.stringOp,oB,Int.natCast_add,gt_iff_lt,this,if_false,Vy,bV,Sem.run_pure],fun E=>by simp[aJ,bV]⟩
  · simp at hr
 all_goals first
  |(simp at hr;done)
  |(obtain rfl:=Option.some.inj hr;exact⟨by simp only[binOp,Op.stringOp,toList_mk,bV,Sem.run_pure,bne],fun E=>by simp[aJ,bV]⟩)
theorem Qp(d:Nat){t e:TypeId}(hu:P.underlying t=some (.pointer e)):(Op.equalIn (d+1) t (.pointer none) (.pointer none)).run P w= .ok true w:=by simp[Op.equalIn,run_underlying hu]
theorem Cc(d:Nat){t e:TypeId}(hu:P.underlying t=some (.pointer e))(q:Addr):(Op.equalIn (d+1) t (.pointer none) (.pointer (some q))).run P w= .ok false w:=by simp[Op.equalIn,run_underlying hu]
theorem Cd(d:Nat){t e:TypeId}(hu:P.underlying t=some (.pointer e))(q:Addr):(Op.equalIn (d+1) t (.pointer (some q)) (.pointer none)).run P w= .ok false w:=by simp[Op.equalIn,run_underlying hu]
theorem qe{t:TypeId}{x y:Option Addr}{b:Bool}(h:(Op.equalIn (9999+1) t (.pointer x) (.pointer y)).run P w= .ok b w):(binOp .eql t (.pointer x) (.pointer y)).run P w= .ok (.bool b) w:=by
 have h':(Op.equal t (.pointer x) (.pointer y)).run P w= .ok b w:=h;have e:binOp .eql t (.pointer x) (.pointer y)=(do pure (.bool (<-Op.equal t (.pointer x) (.pointer y)))):=by cases x<;>cases y<;>rfl
 rw[e,Sem.run_bind,h']
 rfl
theorem qf{t:TypeId}{x y:Option Addr}{b:Bool}(h:(Op.equalIn (9999+1) t (.pointer x) (.pointer y)).run P w= .ok b w):(binOp .neq t (.pointer x) (.pointer y)).run P w= .ok (.bool (!b)) w:=by
 have h':(Op.equal t (.pointer x) (.pointer y)).run P w= .ok b w:=h;have e:binOp .neq t (.pointer x) (.pointer y)=(do pure (.bool (!(<-Op.equal t (.pointer x) (.pointer y))))):=by cases x<;>cases y<;>rfl
 rw[e,Sem.run_bind,h']
 rfl
theorem Qq{E:Env}{x:A}{v:Value}(h:aJ E x v)(hp:x.MJ=true): ∃q,v= .pointer (some q):=by
 cases x<;>simp only[A.MJ]at hp<;>try(simp at hp;done)
 all_goals simp only[aJ]at h
 · obtain⟨_,b,off,hv,_⟩:=h;exact⟨_,hv⟩
 · obtain⟨b,k,_,hv⟩:=h;exact⟨_,hv⟩
 · obtain⟨b,k,_,hv⟩:=h;exact⟨_,hv⟩
theorem Qr(h:aO N0 w0 nt σ φ a w){d:Option Tmp}{op:BinOp}{x y:Operand}{s u:Nat}{t:TypeId}{p:String}{af:Array Edge}{g:Option (Nat×Bool)}{r:A}
 (hr:fQ (pF P s) (gp P s) (jB P s) (aX P s).isSome op (σ.ev x) (σ.ev y)=some r):Good P ⟨d,.binOp op s x y u,t,p,af,g⟩ a w N0 φ r:=by
 have hx:=h.ev x;have hy:=h.ev y;have fin: ∀v:Value,(eqGuard op s x y (a.eval x) (a.eval y)).run P w= .ok () w->(binOp op s (a.eval x) (a.eval y)).run P w= .ok v w->aJ (aB N0 φ w) r v->Good P ⟨d,.binOp op s x y u,t,p,af,g⟩ a w N0 φ r:=by intro v h1 h2 h3;exact bR (s:=(do eqGuard op s x y (a.eval x) (a.eval y);binOp op s (a.eval x) (a.eval y))) rfl (by simp[h1,h2]) h3
 have nilc: ∀(q:Option Addr) (n cap:Nat) (c:Bool),a.eval x= .slice q n cap->a.eval y= .slice none 0 0->q.isNone=c->Tv (aX P s).isSome op c=some r->Good P ⟨d,.binOp op s x y u,t,p,af,g⟩ a w N0 φ r:=by
  intro q n cap c h1 h2 h3 h4;rw[h1,h2]at fin;have hg:(eqGuard op s x y (.slice q n cap) (.slice none 0 0)).run P w= .ok () w:=eO (by simp) (by simp)
  unfold Tv at h4;split at h4
  · rename_i hs
    obtain⟨e,he⟩:=Option.isSome_iff_exists.1 hs;have hu:=dI he;have hq: ∀d:Nat,(Op.equalIn (d+1) s (.slice q n cap) (.slice none 0 0)).run P w= .ok c w:=fun d=>by subst h3;cases q<;>simp[Op.equalIn,run_underlying hu]
    split at h4
    · obtain rfl:=Option.some.inj h4
      exact fin (.bool c) hg (by simp only[binOp];simp[Op.equal,Op.maxDepth,hq 9999]) (by simp only[aJ])
    · obtain rfl:=Option.some.inj h4
      exact fin (.bool !c) hg (by simp only[binOp];simp[Op.equal,Op.maxDepth,hq 9999]) (by simp only[aJ])
    · simp at h4
  · simp at h4
 unfold fQ at hr;split at hr
 · rename_i k m k' n MU Ce
   rw[MU]at hx;rw[Ce]at hy;rw[iX hx,iX hy]at fin;have hg:(eqGuard op s x y (.int k m) (.int k' n)).run P w= .ok () w:=eO (by simp) (by simp)
   split at hr
   · split at hr
     · simp at hr
     · rename_i h0
       simp at hr;subst hr;exact fin _ hg (by simp[binOp,Op.shift,h0];rfl) (by simp only[aJ])
   · split at hr
     · simp at hr
     · rename_i h0
       simp at hr;subst hr;exact fin _ hg (by simp[binOp,Op.shift,h0];rfl) (by simp only[aJ])
   · rename_i ho1 Vz
     split at hr
     · rename_i hk
       subst hk;have hh:=X_ (P:=P) (w:=w) (t:=s) ho1 Vz hr;exact fin _ hg hh.1 (hh.2 _)
     · simp at hr
 · rename_i m n MU Ce
   rw[MU]at hx;rw[Ce]at hy;rw[u4 hx,u4 hy]at fin;have hg:(eqGuard op s x y (.bool m) (.bool n)).run P w= .ok () w:=eO (by simp) (by simp)
   split at hr
   · rename_i hb
     have hu:P.underlying s=some .bool:=by
      unfold gp at hb;split at hb
      · assumption
      · simp at hb
     have he:(Op.equalIn 10000 s (.bool m) (.bool n)).run P w= .ok (m==n) w:=run_equalIn_bool' w 9999 s m n hu;split at hr<;>simp at hr<;>subst hr
     · exact fin (.bool (m==n)) hg (by simp[binOp,Op.equal,Op.maxDepth,he]) (by simp only[aJ])
     · exact fin (.bool (m !=n)) hg (by simp[binOp,Op.equal,Op.maxDepth,he,bne]) (by simp only[aJ])
   · simp at hr
 · rename_i m n MU Ce
   rw[MU]at hx;rw[Ce]at hy;rw[rU hx,rU hy]at fin;have hh:=X' (P:=P) (w:=w) (t:=s) hr;exact fin _ (eO (by simp) (by simp)) hh.1 (hh.2 _)
 · rename_i xs ys MU Ce
   rw[MU]at hx;rw[Ce]at hy;simp only[aJ]at hx hy;obtain⟨vs,hvx,hLx,_⟩:=hx;obtain⟨us,hvy,hLy,_⟩:=hy;split at hr
   · rename_i l hks
     split at hr
     · rename_i hh
       unfold pF at hks;split at hks
       · simp at hks
       · rename_i hgu
         obtain⟨b,hb⟩:=rV hh.1 hh.2;have hs:=Cb (P:=P) (w:=w) 10 s l hks 10000 (by omega) xs ys hh.1 hh.2 b hb;have e1:=ni hh.1 hLx;have e2:=ni hh.2 hLy;subst e1;subst e2;rw[hvx,hvy]at fin;have hg:(eqGuard op s x y (.agg (xs.map bV).toArray) (.agg (ys.map bV).toArray)).run P w= .ok () w:=run_eqGuard_agg w op s x y _ _ (by have:=fun h=>hgu (.inl h);simpa using this)
         cases ny:bF P s with
         |none=>exact absurd ny hs.2.2.1
         |some bb=>
          cases bb with
          |true=>
           have he:=hs.1 ny;split at hr
           · rw[hb]at hr
             obtain rfl:=Option.some.inj hr;exact fin (.bool b) hg (by rw[run_eql_struct,he];rfl) (by simp only[aJ])
           · rw[hb]at hr
             obtain rfl:=Option.some.inj hr;exact fin (.bool !b) hg (by rw[run_neq_struct,he];rfl) (by simp only[aJ])
           · simp at hr
          |false=>exact absurd (fun h=>hgu (.inr h)) (by simp[ny])
     · simp at hr
   · simp at hr
 · rename_i y' MU
   rw[MU]at hx;simp only[aJ]at hx;rw[hx]at fin;have hg: ∀z,(eqGuard op s x y (.pointer none) z).run P w= .ok () w:=fun z=>eO (by simp) (by simp)
   split at hr
   · rename_i hp
     obtain⟨e,hu⟩:=MS hp;have hnn:=Qp (w:=w) 9999 hu;split at hr
     · split at hr
       · rename_i Ce
         obtain rfl:=Option.some.inj hr;rw[Ce]at hy;simp only[aJ]at hy;rw[hy]at fin;exact fin (.bool true) (hg _) (qe hnn) (by simp only[aJ])
       · split at hr
         · rename_i hip
           obtain rfl:=Option.some.inj hr;obtain⟨q,hq⟩:=Qq hy hip;rw[hq]at fin;exact fin (.bool false) (hg _) (qe (Cc 9999 hu q)) (by simp only[aJ])
         · simp at hr
     · split at hr
       · rename_i Ce
         obtain rfl:=Option.some.inj hr;rw[Ce]at hy;simp only[aJ]at hy;rw[hy]at fin;exact fin (.bool false) (hg _) (qf hnn) (by simp only[aJ])
       · split at hr
         · rename_i hip
           obtain rfl:=Option.some.inj hr;obtain⟨q,hq⟩:=Qq hy hip;rw[hq]at fin;exact fin (.bool true) (hg _) (qf (Cc 9999 hu q)) (by simp only[aJ])
         · simp at hr
     · simp at hr
   · simp at hr
 · rename_i x' Ce cg
   rw[Ce]at hy;simp only[aJ]at hy;rw[hy]at fin;split at hr
   · rename_i hp
     simp only[Bool.and_eq_true]at hp;obtain⟨e,hu⟩:=MS hp.1;obtain⟨q,hq⟩:=Qq hx hp.2;rw[hq]at fin;have hg:(eqGuard op s x y (.pointer (some q)) (.pointer none)).run P w= .ok () w:=eO (by simp) (by simp)
     split at hr
     · obtain rfl:=Option.some.inj hr
       exact fin (.bool false) hg (qe (Cd 9999 hu q)) (by simp only[aJ])
     · obtain rfl:=Option.some.inj hr
       exact fin (.bool true) hg (qf (Cd 9999 hu q)) (by simp only[aJ])
     · simp at hr
   · simp at hr
 · rename_i c MU Ce
   rw[MU]at hx;rw[Ce]at hy;simp only[aJ]at hx hy;obtain⟨q,cap,hv,hq⟩:=hx;exact nilc q 0 cap c hv hy hq hr
 · rename_i e es MU Ce
   rw[MU]at hx;rw[Ce]at hy;simp only[aJ]at hx hy;obtain⟨_,q,cap,hv,_,hm⟩:=hx;obtain⟨b,off,hq,_⟩:=hm (by simp)
   exact nilc q _ cap false hv hy (by rw[hq];rfl) hr
 · simp at hr
end
end Go.bo
namespace Go.bo
open Go.RowKit
theorem aJ.pure_mono{E E':Env}(hw:E'.w=E.w)(hN: ∀b,¬E.N b-> ¬E'.N b){x:A}{v:Value}(hx:x.pure=true)(h:aJ E x v):aJ E' x v:=by refine aJ.mono (K:=fun _=>False) ⟨by rw[hw];exact Nat.le_refl _,fun b _ hn=>⟨hN b hn,by rw[hw]⟩,fun _ _ hk=>hk.elim,fun _ _ _ _ _ _ hk=>hk.elim⟩ x v h fun n hn=> ?_;rw[A.mN n x hx]at hn;cases hn
theorem eJ.pure_mono{E E':Env}(hw:E'.w=E.w)(hN: ∀b,¬E.N b-> ¬E'.N b){k b off:Nat}{es:List A}(hp:A.pure.a_ es=true)(h:eJ E k b off es):eJ E' k b off es:=
 dd.2 fun i e he=>by
  obtain⟨hl,hm⟩:=dd.1 h i e he;refine⟨hl,bg.2 fun j y hy=> ?_⟩
  obtain⟨v,hv,h1,hr⟩:=bg.1 hm j y hy;exact⟨v,by rw[hw];exact hv,h1,aJ.pure_mono hw hN (aM (me (aM hp he)) hy) hr⟩
theorem gn.pure_mono{E E':Env}(hw:E'.w=E.w)(hN: ∀b,¬E.N b-> ¬E'.N b){b off:Nat}{cs:List A}(hp:A.pure.a_ cs=true)(h:gn E b off cs):gn E' b off cs:=
 bg.2 fun j y hy=>by obtain⟨v,hv,h1,hr⟩:=bg.1 h j y hy;exact⟨v,by rw[hw];exact hv,h1,aJ.pure_mono hw hN (aM hp hy) hr⟩
theorem aQ.pure_mono{E E':Env}(hw:E'.w=E.w)(hN: ∀b,¬E.N b-> ¬E'.N b){cs:List A}{vs:List Value}(hp:A.pure.a_ cs=true)(h:aQ E cs vs):aQ E' cs vs:=by obtain⟨h1,h2⟩:=bf.1 h;exact bf.2 ⟨h1,fun i x v hx hv=>aJ.pure_mono hw hN (aM hp hx) (h2 i x v hx hv)⟩
theorem xd{E:Env}{k b off:Nat}{es:List A}(h:eJ E k b off es)(cg:es≠ []):cd es=k:=by
 cases es with
 |nil=>exact absurd rfl cg
 |cons e es=>exact(nC.1 h).1.1
structure Ya(N0:Nat->Prop)(φ:List dj)(w:World)(x:A)(N':Nat->Prop):Prop where
 le: ∀b,N' b->(aB N0 φ w).N b
 own:x.pure=true\/ ∀(n b k:Nat),φ[n]? =some (dj.loc b k)-> ¬N' b
section
variable{P:Program}{N0:Nat->Prop}{w0:kD}{nt:Nat}{σ:St}{φ:List dj}{a:Act}{w:World}
theorem FW(h:aO N0 w0 nt σ φ a w){n off k len:Nat}{c:Bool}{y:A}{v:Value}(hv:gO σ.H n off k len=some y)(hr:aJ (aB N0 φ w) (.row n off k len c) v)
 {N':Nat->Prop} (hle: ∀b,N' b->(aB N0 φ w).N b) (MV: ∀(n b k:Nat),φ[n]? =some (dj.loc b k)-> ¬N' b):aJ ⟨N',[],w⟩ y v/\y.pure=true:=by
 unfold gO at hv;split at hv
 · rename_i k' es ho
   split at hv
   · rename_i hc
     obtain⟨rfl,hlen⟩:=hc;obtain rfl:=Option.some.inj hv;refine⟨?_,by simp[A.pure]⟩
     have hl:((es.drop off).take len).length=len:=by simp;omega
     simp only[aJ]at hr⊢;rcases hr with⟨o,fA,hf,rfl,_,q,hv⟩|⟨b,cap,c',e',fr,fA,hv,rQ,_,hb,_⟩
     · refine⟨by simp[A.pure.a_],q,0,by simpa using hv,by simp,fun cg=>absurd (by simp) cg⟩
     · have fC:=h.c7 n _ _ ho fA
       simp only[aL]at fC;obtain⟨_,hp,_,hE⟩:=fC;have Xy:=nD (n:=len) (w7 (n:=off) hE)
       have tb:=mc (n:=len) (mb (n:=off) hp)
       refine⟨tb,_,cap,by rw[hl];exact hv,by rw[hl];exact rQ,fun cg=>⟨b,off*k',rfl,(h.own n b k' fA).2,MV n b k' fA, ?_⟩⟩
       have:=eJ.pure_mono (E:=aB N0 φ w) (E':=⟨N',[],w⟩) rfl (fun b hn hb=>hn (hle b hb)) tb Xy;rw[xd this cg]
       simpa using this
   · simp at hv
 · simp at hv
theorem qg(h:aO N0 w0 nt σ φ a w){x y:A}{v:Value}(hv:j4 σ.H x=some y)(hr:aJ (aB N0 φ w) x v)
 {N':Nat->Prop} (hs:Ya N0 φ w x N'):aJ ⟨N',[],w⟩ y v/\y.pure=true:=by
 have hN: ∀b,¬(aB N0 φ w).N b-> ¬N' b:=fun b hn hb=>hn (hs.le b hb)
 cases x<;>simp only[j4]at hv<;>try(simp at hv;done)
 case row n off k len c=>
  refine FW h hv hr hs.le ?_;rcases hs.own with hp|ho
  · simp[A.pure]at hp
  · exact ho
 case bT=>
  obtain rfl:=Option.some.inj hv;simp only[aJ]at hr;exact⟨by simp only[aJ];exact⟨rfl,none,0,by simpa using hr,Nat.le_refl _,fun cg=>absurd rfl cg⟩,by simp[A.pure]⟩
 case emp c=>
  obtain rfl:=Option.some.inj hv;simp only[aJ]at hr;obtain⟨q,cap,hq,_⟩:=hr;exact⟨by simp only[aJ];exact⟨rfl,q,cap,by simpa using hq,Nat.zero_le _,fun cg=>absurd rfl cg⟩,by simp[A.pure]⟩
 case clip es=>
  obtain rfl:=Option.some.inj hv;have Cf:=aJ.pure_mono (E:=aB N0 φ w) (E':=⟨N',[],w⟩) rfl hN (by simp[A.pure]) hr;simp only[aJ]at Cf;obtain⟨hp,q,hq,hm⟩:=Cf;exact⟨by simp only[aJ];exact⟨hp,q,_,hq,Nat.le_refl _,hm⟩,by simp[A.pure]⟩
 all_goals
  obtain rfl:=Option.some.inj hv;exact⟨aJ.pure_mono (E:=aB N0 φ w) (E':=⟨N',[],w⟩) rfl hN (by simp[A.pure]) hr,by simp[A.pure]⟩
theorem tI{H:List Obj}: ∀{xs ys:List A},eK H xs=some ys->xs.length=ys.length/\ ∀(i:Nat) (x y:A),xs[i]? =some x->ys[i]? =some y->j4 H x=some y
 | [],ys,h=>by simp[eK]at h;subst h;exact⟨rfl,fun i x y hx=>by simp at hx⟩
 |x::xs,ys,h=>by
  simp only[eK]at h;cases hx:j4 H x with
  |none=>simp[hx]at h
  |some y=>
   simp only[hx,Option.bind_some]at h;cases hl:eK H xs with
   |none=>simp[hl]at h
   |some ys'=>
    simp[hl]at h;subst h;obtain⟨h1,h2⟩:=tI hl;refine⟨by simp[h1],fun i x' y' Qo xe=> ?_⟩
    cases i with
    |zero=>simp at Qo xe;subst Qo;subst xe;exact hx
    |succ i=>exact h2 i x' y' (by simpa using Qo) (by simpa using xe)
theorem Cg{H:List Obj}: ∀{xs ys:List A},iY H xs=some ys->xs.length=ys.length/\ ∀(i:Nat) (x y:A),xs[i]? =some x->ys[i]? =some y->l6 H x=some y
 | [],ys,h=>by simp[iY]at h;subst h;exact⟨rfl,fun i x y hx=>by simp at hx⟩
 |x::xs,ys,h=>by
  simp only[iY]at h;cases hx:l6 H x with
  |none=>simp[hx]at h
  |some y=>
   simp only[hx,Option.bind_some]at h;cases hl:iY H xs with
   |none=>simp[hl]at h
   |some ys'=>
    simp[hl]at h;subst h;obtain⟨h1,h2⟩:=Cg hl;refine⟨by simp[h1],fun i x' y' Qo xe=> ?_⟩
    cases i with
    |zero=>simp at Qo xe;subst Qo;subst xe;exact hx
    |succ i=>exact h2 i x' y' (by simpa using Qo) (by simpa using xe)
theorem xf{H:List Obj}: ∀{xs ys:List A},iG H xs=some ys->xs.length=ys.length/\ ∀(i:Nat) (x y:A),xs[i]? =some x->ys[i]? =some y->view H x=some y
 | [],ys,h=>by simp[iG]at h;subst h;exact⟨rfl,fun i x y hx=>by simp at hx⟩
 |x::xs,ys,h=>by
  simp only[iG]at h;cases hx:view H x with
  |none=>simp[hx]at h
  |some y=>
   simp only[hx,Option.bind_some]at h;cases hl:iG H xs with
   |none=>simp[hl]at h
   |some ys'=>
    simp[hl]at h;subst h;obtain⟨h1,h2⟩:=xf hl;refine⟨by simp[h1],fun i x' y' Qo xe=> ?_⟩
    cases i with
    |zero=>simp at Qo xe;subst Qo;subst xe;exact hx
    |succ i=>exact h2 i x' y' (by simpa using Qo) (by simpa using xe)
theorem H8{N':Nat->Prop}{x:A}{cs:List A}(hs:Ya N0 φ w x N')(hx:x.pure=true->A.pure.a_ cs=true){i:Nat}{c:A}(hc:cs[i]? =some c):Ya N0 φ w c N':=
 ⟨hs.le,hs.own.imp (fun hp=>aM (hx hp) hc) id⟩
theorem yZ(h:aO N0 w0 nt σ φ a w){x y:A}{v:Value}(hv:l6 σ.H x=some y)(hr:aJ (aB N0 φ w) x v)
 {N':Nat->Prop} (hs:Ya N0 φ w x N'):aJ ⟨N',[],w⟩ y v/\y.pure=true:=by
 have hN: ∀b,¬(aB N0 φ w).N b-> ¬N' b:=fun b hn hb=>hn (hs.le b hb)
 cases x
 case ref n off=>
  have MV: ∀(n b k:Nat),φ[n]? =some (dj.loc b k)-> ¬N' b:=by
   rcases hs.own with hp|ho
   · simp[A.pure]at hp
   · exact ho
  simp only[l6]at hv;split at hv
  · rename_i cs ho
    cases hl:eK σ.H (cs.drop off)with
    |none=>simp[hl]at hv
    |some ys=>
     simp[hl]at hv;subst hv;simp only[aJ]at hr;obtain⟨b,k,fA,hv⟩:=hr;have fC:=h.c7 n _ _ ho fA;simp only[aL]at fC;have hm:=jl (n:=off) fC.2;rw[Nat.zero_add]at hm;obtain⟨h1,h2⟩:=tI hl
     have key: ∀(i:Nat) (c:A),ys[i]? =some c->(∃u,w.cell? ⟨b,off+i,none⟩=some u/\u.oneCell'=true/\aJ ⟨N',[],w⟩ c u)/\c.pure=true:=by
      intro i c hc;have hi:i<(cs.drop off).length:=by rw[h1];exact(List.getElem?_eq_some_iff.1 hc).1
      obtain⟨u,hu,da,cS⟩:=bg.1 hm i _ (List.getElem?_eq_getElem hi)
      have:=qg h (h2 i _ c (List.getElem?_eq_getElem hi) hc) cS (N':=N') ⟨hs.le,.inr MV⟩
      exact⟨⟨u,hu,da,this.1⟩,this.2⟩
     refine⟨?_,by simp[A.pure]⟩
     simp only[aJ]
     exact⟨de fun i c hc=>(key i c hc).2,b,off,hv,(h.own n b k fA).2,MV n b k fA,bg.2 fun i c hc=>(key i c hc).1⟩
  · simp at hv
 case h_ n i off=>
  have MV: ∀(n b k:Nat),φ[n]? =some (dj.loc b k)-> ¬N' b:=by
   rcases hs.own with hp|ho
   · simp[A.pure]at hp
   · exact ho
  simp only[l6]at hv;split at hv
  · rename_i k' es ho
    cases hi:es[i]? with
    |none=>simp[hi]at hv
    |some e=>
     simp[hi]at hv;subst hv;simp only[aJ]at hr;obtain⟨b,k,fA,hv⟩:=hr;have fC:=h.c7 n _ _ ho fA;simp only[aL]at fC;obtain⟨rfl,hp,_,hE⟩:=fC;obtain⟨_,hm⟩:=dd.1 hE i e hi;have jz:=jl (n:=off) hm;rw[Nat.zero_add]at jz;have Qc:=mb (n:=off) (me (aM hp hi))
     refine⟨?_,by simp[A.pure]⟩
     simp only[aJ]
     exact⟨Qc,b,i*k'+off,hv,(h.own n b k' fA).2,MV n b k' fA,gn.pure_mono (E:=aB N0 φ w) (E':=⟨N',[],w⟩) rfl hN Qc jz⟩
  · simp at hv
 case agg cs=>
  simp only[l6]at hv;cases hl:eK σ.H cs with
  |none=>simp[hl]at hv
  |some ys=>
   simp[hl]at hv;subst hv;simp only[aJ]at hr⊢;obtain⟨vs,hv,hL,da⟩:=hr;obtain⟨h1,h2⟩:=tI hl;obtain⟨g1,g2⟩:=bf.1 hL
   have key: ∀(i:Nat) (c:A) (u:Value),ys[i]? =some c->vs[i]? =some u->aJ ⟨N',[],w⟩ c u/\c.pure=true:=by
    intro i c u hc hu;have hi:i<cs.length:=by rw[h1];exact(List.getElem?_eq_some_iff.1 hc).1
    exact qg h (h2 i _ c (List.getElem?_eq_getElem hi) hc) (g2 i _ u (List.getElem?_eq_getElem hi) hu) (H8 hs (fun hp=>by simpa only[A.pure]using hp) (List.getElem?_eq_getElem hi))
   refine⟨⟨vs,hv,bf.2 ⟨by rw[<-h1,g1],fun i c u hc hu=>(key i c u hc hu).1⟩,da⟩, ?_⟩
   simp only[A.pure]
   refine de fun i c hc=> ?_;have hi:i<vs.length:=by rw[<-g1,h1];exact(List.getElem?_eq_some_iff.1 hc).1
   exact(key i c _ hc (List.getElem?_eq_getElem hi)).2
 all_goals
  simp only[l6]at hv;exact qg h hv hr hs
theorem mf(h:aO N0 w0 nt σ φ a w){x y:A}{v:Value}(hv:view σ.H x=some y)(hr:aJ (aB N0 φ w) x v)
 {N':Nat->Prop} (hs:Ya N0 φ w x N'):aJ ⟨N',[],w⟩ y v/\y.pure=true:=by
 cases x
 case fn f cs=>
  simp only[view]at hv;cases hl:iY σ.H cs with
  |none=>simp[hl]at hv
  |some ys=>
   simp[hl]at hv;subst hv;simp only[aJ]at hr⊢;obtain⟨vs,hv,hL⟩:=hr;obtain⟨h1,h2⟩:=Cg hl;obtain⟨g1,g2⟩:=bf.1 hL
   have key: ∀(i:Nat) (c:A) (u:Value),ys[i]? =some c->vs[i]? =some u->aJ ⟨N',[],w⟩ c u/\c.pure=true:=by
    intro i c u hc hu;have hi:i<cs.length:=by rw[h1];exact(List.getElem?_eq_some_iff.1 hc).1
    exact yZ h (h2 i _ c (List.getElem?_eq_getElem hi) hc) (g2 i _ u (List.getElem?_eq_getElem hi) hu) (H8 hs (fun hp=>by simpa only[A.pure]using hp) (List.getElem?_eq_getElem hi))
   refine⟨⟨vs,hv,bf.2 ⟨by rw[<-h1,g1],fun i c u hc hu=>(key i c u hc hu).1⟩⟩, ?_⟩
   simp only[A.pure]
   refine de fun i c hc=> ?_;have hi:i<vs.length:=by rw[<-g1,h1];exact(List.getElem?_eq_some_iff.1 hc).1
   exact(key i c _ hc (List.getElem?_eq_getElem hi)).2
 all_goals
  simp only[view]at hv;exact yZ h hv hr hs
theorem y8(h:aO N0 w0 nt σ φ a w){xs ys:List A}{vs:List Value}(hv:iG σ.H xs=some ys)(hr:aQ (aB N0 φ w) xs vs)
 {N':Nat->Prop} (hle: ∀b,N' b->(aB N0 φ w).N b) (MV:A.pure.a_ xs=true\/ ∀(n b k:Nat),φ[n]? =some (dj.loc b k)-> ¬N' b):aQ ⟨N',[],w⟩ ys vs/\A.pure.a_ ys=true:=by
 obtain⟨h1,h2⟩:=xf hv;obtain⟨g1,g2⟩:=bf.1 hr
 have key: ∀(i:Nat) (c:A) (u:Value),ys[i]? =some c->vs[i]? =some u->aJ ⟨N',[],w⟩ c u/\c.pure=true:=by
  intro i c u hc hu;have hi:i<xs.length:=by rw[h1];exact(List.getElem?_eq_some_iff.1 hc).1
  exact mf h (h2 i _ c (List.getElem?_eq_getElem hi) hc) (g2 i _ u (List.getElem?_eq_getElem hi) hu) ⟨hle,MV.imp (fun hp=>aM hp (List.getElem?_eq_getElem hi)) id⟩
 refine⟨bf.2 ⟨by rw[<-h1,g1],fun i c u hc hu=>(key i c u hc hu).1⟩,de fun i c hc=> ?_⟩
 have hi:i<vs.length:=by rw[<-g1,h1];exact(List.getElem?_eq_some_iff.1 hc).1
 exact(key i c _ hc (List.getElem?_eq_getElem hi)).2
theorem oC(h:aO N0 w0 nt σ φ a w): ∀(n b k:Nat),φ[n]? =some (dj.loc b k)-> ¬N0 b:=
 fun n b k hb hn=>(h.own n b k hb).1.elim (fun h1=>Nat.lt_irrefl _ (Nat.lt_of_lt_of_le (h.n0 b hn).1 h1)) (h.n0 b hn).2
end
end Go.bo
namespace Go.bo
open Go.RowKit
section
variable{P:Program}{N0:Nat->Prop}{w0:kD}{nt:Nat}{σ:St}{φ:List dj}{a:Act}{w:World}
theorem Qs{t:TypeId}(h:(bF P t).isSome=true): ∃d,P.underlying t=some d:=by
 cases hu:P.underlying t with
 |some d=>exact⟨d,rfl⟩
 |none=>simp[bF,hu]at h
theorem Ch{E:Env}{b:Nat}: ∀{es:List A} {s:List UInt8} {off:Nat},fP es=some s->eJ E 1 b off es-> ∃ns:List Int,E.w.rangeAt b off (ns.map (Value.int .u8))/\ns.length=es.length/\ns.map (fun n=>UInt8.ofNat n.toNat)=s
 | [],s,off,h,_=>by simp[fP]at h;subst h;exact⟨[],fun j v hv=>by simp at hv,rfl,rfl⟩
 |x::xs,s,off,h,hE=>by
  simp only[fP]at h;cases hx:uW x with
  |none=>simp[hx]at h
  |some c=>
   simp only[hx,Option.bind_some]at h;cases hl:fP xs with
   |none=>simp[hl]at h
   |some s'=>
    simp[hl]at h;subst h;obtain⟨⟨h1,hm⟩,Xy⟩:=nC.1 hE;obtain⟨ns,hr,hlen,hns⟩:=Ch hl Xy;unfold uW at hx;split at hx
    · rename_i n
      simp at hx;subst hx;simp only[A.cells]at hm;obtain⟨v,hv,_,cS⟩:=MP.1 hm;rw[iX cS]at hv;refine⟨n::ns,fun j u hu=> ?_,by simp[hlen],by simp[hns]⟩
      cases j with
      |zero=>simp at hu;subst hu;simpa using hv
      |succ j=>
       have:=hr j u (by simpa using hu)
       rwa [show off+1+j=off+(j+1) by omega]at this
    · simp at hx
theorem y9: ∀(ns:List Int) (l:List UInt8),ns.foldl (fun(r:ByteArray) n=>r.push (UInt8.ofNat n.toNat)) ⟨l.toArray⟩=⟨(l++ns.map fun n=>UInt8.ofNat n.toNat).toArray⟩
 | [],l=>by simp
 |n::ns,l=>by
  have e:(⟨l.toArray⟩:ByteArray).push (UInt8.ofNat n.toNat)=⟨(l++[UInt8.ofNat n.toNat]).toArray⟩:=by apply ByteArray.ext;simp[ByteArray.push]
  rw[List.foldl_cons,e,y9 ns]
  simp
theorem u5(h:aO N0 w0 nt σ φ a w){d:Option Tmp}{src dst:Nat}{x:Operand}{t:TypeId}{p:String}{af:Array Edge}{g:Option (Nat×Bool)}{r:A}
 (hr:nz P src dst σ.H (σ.ev x)=some r):Good P ⟨d,.convert src dst x,t,p,af,g⟩ a w N0 φ r:=by
 have hx:=h.ev x
 have b2s: ∀v,σ.ev x=v->l7 (uY P src dst) (view σ.H v)=some r->(∃q l c,a.eval x= .slice q l c)->Good P ⟨d,.convert src dst x,t,p,af,g⟩ a w N0 φ r:=by
  intro v hv hr pW;subst hv;unfold l7 at hr;split at hr
  · rename_i hb
    split at hr
    · rename_i es Ci
      cases FX:fP es with
      |none=>simp[FX]at hr
      |some s=>
       simp[FX]at hr;subst hr;have hvw:=(mf h Ci hx (N':=N0) ⟨fun b hb=> .inl hb,.inr (oC h)⟩).1;simp only[aJ]at hvw;obtain⟨_,q,cap,fI,_,hm⟩:=hvw;unfold uY at hb;simp only[Bool.and_eq_true]at hb;obtain⟨Xx,hb2⟩:=hb;cases he:aX P src with
       |none=>simp[he]at Xx
       |some e=>
        simp[he]at Xx;have hu:=dI he;have hue:=B_ Xx;have hud:=jH hb2
        have hconv:(convert src dst (a.eval x)).run P w=(Conv.bytesToString (a.eval x)).run P w:=by
         rw[fI]
         simp[convert,run_underlying hu,run_underlying hue,run_underlying hud]
        refine bR rfl (v:= .string ⟨s.toArray⟩) ?_ (by simp only[aJ])
        rw[hconv,fI]
        by_cases cg:es=[]
        · subst cg
          simp[fP]at FX;subst FX;cases q with
          |none=>simp[Conv.bytesToString];rfl
          |some q=>
           have:=run_bytesToString (P:=P) w q 0 cap [] (by simpa using run_loadCells_list (P:=P) w q [] (by simp))
           simp only[List.foldl_nil]at this;exact this
        · obtain⟨b,off,rfl,hb,hnb,hE⟩:=hm cg
          have b9:cd es=1:=by
           cases es with
           |nil=>exact absurd rfl cg
           |cons e es=>
            simp only[fP]at FX;cases e<;>simp_all[uW,cd,A.cells]
          rw[b9]at hE;obtain⟨ns,hr,hlen,hns⟩:=Ch FX hE
          have hl:(loadCells ⟨b,off,none⟩ es.length).run P w= .ok (ns.map (Value.int .u8)).toArray w:=by
           have:=run_loadCells_list (P:=P) w ⟨b,off,none⟩ (ns.map (Value.int .u8)) (fun j v hv=>by rw[Addr.add_mid];exact hr j v hv)
           rwa [List.length_map,hlen]at this
          rw[run_bytesToString w _ _ _ ns hl]
          have:=y9 ns []
          rw[show(ByteArray.empty:ByteArray)=⟨([]:List UInt8).toArray⟩from rfl,this,List.nil_append,hns]
    · simp at hr
  · simp at hr
 cases hc:σ.ev x<;>simp only[hc,nz]at hr
 case int k n=>
  split at hr
  · rename_i k' hk
    split at hr
    · rename_i ny
      obtain rfl:=Option.some.inj hr;rw[hc]at hx;obtain⟨ds,hds⟩:=Qs ny;refine bR rfl (v:= .int k' (k'.wrap n)) ?_ (by simp only[aJ])
      rw[iX hx]
      simp[convert,run_underlying hds,run_underlying (B_ hk),Conv.intToInt]
    · simp at hr
  · simp at hr
 case str s=>
  split at hr
  · rename_i hb
    simp only[Bool.and_eq_true]at hb;obtain rfl:=Option.some.inj hr;rw[hc]at hx;refine bR rfl (v:=a.eval x) ?_ hx;rw[rU hx]
    simp[convert,run_underlying (jH hb.1),run_underlying (jH hb.2)]
  · simp at hr
 case ab es=>
  rw[hc]at hx;simp only[aJ]at hx;obtain⟨_,q,cap,hv,_⟩:=hx;exact b2s _ hc hr ⟨_,_,_,hv⟩
 case clip es=>
  rw[hc]at hx;simp only[aJ]at hx;obtain⟨_,q,hv,_⟩:=hx;exact b2s _ hc hr ⟨_,_,_,hv⟩
 case bT=>
  rw[hc]at hx;simp only[aJ]at hx;exact b2s _ hc hr ⟨_,_,_,hx⟩
 case row n off k len c=>
  rw[hc]at hx;simp only[aJ]at hx;rcases hx with⟨_,_,_,_,_,q,hv⟩|⟨b,cap,_,_,_,_,hv,_⟩
  · exact b2s _ hc hr ⟨_,_,_,hv⟩
  · exact b2s _ hc hr ⟨_,_,_,hv⟩
 all_goals simp at hr
theorem Qt(h:aO N0 w0 nt σ φ a w){d:Option Tmp}{s f:Nat}{x:Operand}{t:TypeId}{p:String}{af:Array Edge}{g:Option (Nat×Bool)}{r:A}
 (hr:Ql P (fieldInfo P s f) (σ.ev x)=some r):Good P ⟨d,.field s x f,t,p,af,g⟩ a w N0 φ r:=by
 unfold Ql at hr;split at hr
 · rename_i o ft cs hf hc
   have hx:=h.ev x;rw[hc]at hx;simp only[aJ]at hx;obtain⟨vs,hv,hL,da⟩:=hx;obtain⟨fs,fx,n,hu,uT,rfl,rfl,hn,hn0⟩:=oA hf
   have Yb:(Instr.field s (a.eval x) f).run P w=(part fx.type vs.toArray fx.offset).run P w:=by
    rw[hv]
    simp[Instr.field,run_underlying hu,uT,asAgg]
   unfold j0 at hr;split at hr
   · rename_i ny
     rw[hn]at hr;simp only at hr;split at hr
     · rename_i hle
       obtain rfl:=Option.some.inj hr;refine bR rfl (v:= .agg ((vs.drop fx.offset).take n).toArray) ?_ ?_
       · rw[Yb]
         simp only[part,Sem.run_bind,ma ny,Result.andThen_ok,if_true,run_sizeOf hn,Sem.run_pure]
         congr 2
         apply Array.ext';simp[List.extract_eq_take_drop]
       · simp only[aJ]
         exact⟨_,rfl,w9 (w_ hL),fun u hu=>da u (List.mem_of_mem_drop (List.mem_of_mem_take hu))⟩
     · simp at hr
   · rename_i ny
     cases hd:cs.drop fx.offset with
     |nil=>simp[hd]at hr
     |cons y ys=>
      simp[hd]at hr;subst hr;obtain⟨g1,g2⟩:=bf.1 hL
      have aw:fx.offset<cs.length:=by
       rcases Nat.lt_or_ge fx.offset cs.length with h|h
       · exact h
       · rw[List.drop_eq_nil_of_le h]at hd;cases hd
      have hy:cs[fx.offset]? =some y:=by
       have e:=(List.drop_eq_getElem_cons aw).symm.trans hd;injection e with e1 e2
       rw[List.getElem?_eq_getElem aw,e1]
      have ae:fx.offset<vs.length:=by omega
      refine bR rfl (v:=vs[fx.offset]) ?_ (g2 _ _ _ hy (List.getElem?_eq_getElem ae))
      rw[Yb]
      simp[part,iW ny,ae]
   · simp at hr
 · simp at hr
theorem Qu(h:aO N0 w0 nt σ φ a w){d:Option Tmp}{s:Nat}{x y:Operand}{t:TypeId}{p:String}{af:Array Edge}{g:Option (Nat×Bool)}{r:A}
 (hr:wY P s (σ.ev x) (σ.ev y)=some r):Good P ⟨d,.index s x y,t,p,af,g⟩ a w N0 φ r:=by
 have hx:=h.ev x;have hy:=h.ev y;unfold wY at hr;split at hr
 · rename_i k i str Ce MU
   rw[MU]at hx;rw[Ce]at hy;split at hr
   · rename_i hc
     cases hi:str[i.toNat]? with
     |none=>simp[hi]at hr
     |some c=>
      simp[hi]at hr;subst hr;have aw:i.toNat<str.length:=(List.getElem?_eq_some_iff.1 hi).1;have Qd:str[i.toNat]=c:=by rw[List.getElem?_eq_getElem aw]at hi;simpa using hi
      refine bR rfl (v:= .int .u8 c.toNat) ?_ (by simp only[iM,aJ])
      rw[rU hx,iX hy,run_index_string w s _ k i (jH hc.1),dif_pos ⟨hc.2,by rw[oB];omega⟩]
      congr 2
      rw[<-Qd]
      rfl
   · simp at hr
 · rename_i k i cs Ce MU
   rw[MU]at hx;rw[Ce]at hy;simp only[aJ]at hx;obtain⟨vs,hv,hL,da⟩:=hx;split at hr
   · rename_i n e hn
     split at hr
     · rename_i kk hk
       split at hr
       · rename_i hc
         have VA:(Instr.index s (a.eval x) (a.eval y)).run P w=(part e vs.toArray (i.toNat*kk)).run P w:=by
          rw[hv,iX hy]
          simp[Instr.index,asIntOf,run_underlying (u3 hn),hc,run_sizeOf hk]
         generalize hoff:i.toNat*kk=o at hr VA;unfold j0 at hr;split at hr
         · rename_i ny
           rw[hk]at hr;simp only at hr;split at hr
           · rename_i hle
             obtain rfl:=Option.some.inj hr;refine bR rfl (v:= .agg ((vs.drop o).take kk).toArray) ?_ ?_
             · rw[VA]
               simp only[part,Sem.run_bind,ma ny,Result.andThen_ok,if_true,run_sizeOf hk,Sem.run_pure]
               congr 2
               apply Array.ext';simp[List.extract_eq_take_drop]
             · simp only[aJ]
               exact⟨_,rfl,w9 (w_ hL),fun u hu=>da u (List.mem_of_mem_drop (List.mem_of_mem_take hu))⟩
           · simp at hr
         · rename_i ny
           cases hd:cs.drop o with
           |nil=>simp[hd]at hr
           |cons z zs=>
            simp[hd]at hr;subst hr;obtain⟨g1,g2⟩:=bf.1 hL
            have aw:o<cs.length:=by
             rcases Nat.lt_or_ge o cs.length with h|h
             · exact h
             · rw[List.drop_eq_nil_of_le h]at hd;cases hd
            have hz:cs[o]? =some z:=by
             have e:=(List.drop_eq_getElem_cons aw).symm.trans hd;injection e with e1 e2
             rw[List.getElem?_eq_getElem aw,e1]
            have ae:o<vs.length:=by omega
            refine bR rfl (v:=vs[o]) ?_ (g2 _ _ _ hz (List.getElem?_eq_getElem ae))
            rw[VA]
            simp[part,iW ny,ae]
         · simp at hr
       · simp at hr
     · simp at hr
   · simp at hr
 · simp at hr
theorem Cj(h:aO N0 w0 nt σ φ a w){d:Option Tmp}{s:Nat}{x y:Operand}{t:TypeId}{p:String}{af:Array Edge}{g:Option (Nat×Bool)}{r:A}
 (hr:l9 P s (σ.ev x) (σ.ev y)=some r):Good P ⟨d,.indexAddr s x y,t,p,af,g⟩ a w N0 φ r:=by
 have hx:=h.ev x;have hy:=h.ev y;unfold l9 at hr;split at hr
 · rename_i kd i Ce
   rw[Ce]at hy;split at hr
   · rename_i e he
     split at hr
     · rename_i k hk
       have run: ∀b off len cap,a.eval x= .slice (some ⟨b,off,none⟩) len cap->0<=i->i<len->(Instr.indexAt s (a.eval x) (a.eval y)).run P w= .ok (.pointer (some ⟨b,off+i.toNat*k,none⟩)) w:=by
        intro b off len cap hv h0 h1;rw[hv,iX hy]
        simp[Instr.indexAt,asIntOf,run_underlying (dI he),h0,h1,run_sizeOf hk,Addr.add_mid]
       have data: ∀(es:List A) (cap:Nat) (q:Option Addr),a.eval x= .slice q es.length cap->A.pure.a_ es=true->
        (es≠ []-> ∃b off,q=some ⟨b,off,none⟩/\b<(aB N0 φ w).w.heap.size/\ ¬(aB N0 φ w).N b/\eJ (aB N0 φ w) (cd es) b off es)->Vm k i es=some r->Good P ⟨d,.indexAddr s x y,t,p,af,g⟩ a w N0 φ r:=by
        intro es cap q hv hp hm hr;unfold Vm dm at hr;split at hr
        · rename_i h0
          cases hi:es[i.toNat]? with
          |none=>simp[hi]at hr
          |some z=>
           simp only[hi,Option.bind_some]at hr;split at hr
           · rename_i hkz
             obtain rfl:=Option.some.inj hr;have aw:=(List.getElem?_eq_some_iff.1 hi).1;obtain⟨b,off,rfl,hb,hnb,hE⟩:=hm (by rintro rfl;simp at aw)
             obtain⟨hl,hmm⟩:=dd.1 hE _ _ hi;rw[<-hkz]at hl;rw[<-hl]at hmm;refine bR rfl (run b off _ cap hv h0 (by omega)) ?_;simp only[aJ]
             exact⟨me (aM hp hi),b,_,rfl,hb,hnb,hmm⟩
           · simp at hr
        · simp at hr
       cases hc:σ.ev x<;>simp only[hc,l8]at hr<;>try(simp at hr;done)
       · rw[hc]at hx
         simp only[aJ]at hx;obtain⟨hp,q,cap,hv,_,hm⟩:=hx;exact data _ cap q hv hp hm hr
       · rw[hc]at hx
         simp only[aJ]at hx;obtain⟨hp,q,hv,hm⟩:=hx;exact data _ _ q hv hp hm hr
       · rename_i n off k' len c
         rw[hc]at hx;split at hr
         · rename_i dD
           obtain⟨rfl,h0,h1⟩:=dD;obtain rfl:=Option.some.inj hr;simp only[aJ]at hx;rcases hx with⟨_,_,_,rfl,_⟩|⟨b,cap,_,_,_,fA,hv,_⟩
           · omega
           · refine bR rfl (run b _ _ cap hv h0 h1) ?_
             simp only[aJ]
             exact⟨b,k,fA,by rw[Nat.add_mul,Nat.add_zero]⟩
         · simp at hr
     · simp at hr
   · split at hr
     · rename_i n e hn
       split at hr
       · rename_i k hk
         have run: ∀b off,a.eval x= .pointer (some ⟨b,off,none⟩)->0<=i->i<n->(Instr.indexAt s (a.eval x) (a.eval y)).run P w= .ok (.pointer (some ⟨b,off+i.toNat*k,none⟩)) w:=by
          intro b off hv h0 h1;rw[hv,iX hy]
          simp[Instr.indexAt,asIntOf,run_underlying (u3 hn),Instr.sureAddr,h0,h1,run_sizeOf hk,Addr.add_mid]
         cases hc:σ.ev x<;>simp only[hc,oe]at hr<;>try(simp at hr;done)
         · rename_i cs
           rw[hc]at hx;simp only[aJ]at hx;obtain⟨hp,b,off,hv,hb,hnb,hm⟩:=hx;split at hr
           · rename_i dD
             obtain rfl:=Option.some.inj hr;refine bR rfl (run b off hv dD.1 dD.2) ?_;simp only[aJ]
             exact⟨mb hp,b,_,rfl,hb,hnb,jl hm⟩
           · simp at hr
         · rename_i m off
           rw[hc]at hx;simp only[aJ]at hx;obtain⟨b,kk,fA,hv⟩:=hx;split at hr
           · rename_i dD
             obtain rfl:=Option.some.inj hr;refine bR rfl (run b off hv dD.1 dD.2) ?_;simp only[aJ]
             exact⟨b,kk,fA,rfl⟩
           · simp at hr
       · simp at hr
     · simp at hr
 · simp at hr
end
end Go.bo
namespace Go.bo
open Go.RowKit
section
variable{P:Program}{N0:Nat->Prop}{w0:kD}{nt:Nat}{σ:St}{φ:List dj}{a:Act}{w:World}
theorem Ck(h:aO N0 w0 nt σ φ a w){o:Option Operand}(ho:(σ.bd o).ok=true):(o=none/\σ.bd o= .none)\/ ∃k n,o.map a.eval=some (.int k n)/\σ.bd o= .some n:=by
 cases o with
 |none=>exact .inl ⟨rfl,rfl⟩
 |some x=>
  right;simp only[St.bd]at ho⊢;cases hx:σ.ev x<;>simp only[hx,XQ,Bd.ok]at ho<;>try(simp at ho;done)
  rename_i k n;have:=h.ev x;rw[hx]at this;exact⟨k,n,by simp[iX this],rfl⟩
theorem run_sliceBound{k:IntKind}{n:Int}{y:Nat}{c:BoundsCode}(h0:0<=n)(h1:n<=y):(Instr.sliceBound (.int k n) y c).run P w= .ok n.toNat w:=by simp[Instr.sliceBound,asIntOf,h0,h1]
theorem qh(h:aO N0 w0 nt σ φ a w){lo hi:Option Operand}(u6:(σ.bd lo).ok=true)(Yc:(σ.bd hi).ok=true){isS:Bool}{len cap:Nat}(rQ:len<=cap)
 (h0:0<=(σ.bd lo).get 0) (h1:(σ.bd lo).get 0<=(σ.bd hi).get len) (h2:(σ.bd hi).get len<=len):
 (Instr.sliceBounds isS len cap (lo.map a.eval) (hi.map a.eval) none).run P w= .ok (((σ.bd lo).get 0).toNat,((σ.bd hi).get len).toNat,cap) w:=by
 rcases Ck h u6 with⟨rfl,e1⟩|⟨k,n,e1,e2⟩<;>rcases Ck h Yc with⟨rfl,e3⟩|⟨k',n',e3,e4⟩
 · simp[Instr.sliceBounds,e1,Bd.get]
 · rw[e4]at h1 h2⊢
   rw[e1]at h1⊢;simp only[Bd.get]at h1 h2⊢;have:=run_sliceBound (P:=P) (w:=w) (k:=k') (n:=n') (y:=cap) (c:=if isS then .sliceAcap else .sliceAlen) (by omega) (by omega)
   simp[Instr.sliceBounds,e3,this]
 · rw[e2]at h0 h1⊢
   simp only[Bd.get]at h0 h1⊢;rw[e3]at h1⊢;simp only at h1⊢;have:=run_sliceBound (P:=P) (w:=w) (k:=k) (n:=n) (y:=len) (c:= .sliceB) h0 (by omega)
   simp[Instr.sliceBounds,e1,this]
 · rw[e2]at h0 h1⊢
   rw[e4]at h1 h2⊢;simp only[Bd.get]at h0 h1 h2⊢;have t1:=run_sliceBound (P:=P) (w:=w) (k:=k') (n:=n') (y:=cap) (c:=if isS then .sliceAcap else .sliceAlen) (by omega) (by omega)
   have t2:=run_sliceBound (P:=P) (w:=w) (k:=k) (n:=n) (y:=n'.toNat) (c:= .sliceB) h0 (by omega)
   simp[Instr.sliceBounds,e1,e3,t1,t2]
theorem y_(h:aO N0 w0 nt σ φ a w){lo hi mx:Option Operand}(u6:(σ.bd lo).ok=true){m:Int}(Yc:σ.bd hi= .some m)(MW:σ.bd mx= .some m){isS:Bool}{len cap:Nat}(rQ:len<=cap)
 (h0:0<=(σ.bd lo).get 0) (h1:(σ.bd lo).get 0<=m) (h2:m<=len):
 (Instr.sliceBounds isS len cap (lo.map a.eval) (hi.map a.eval) (mx.map a.eval)).run P w= .ok (((σ.bd lo).get 0).toNat,m.toNat,m.toNat) w:=by
 rcases Ck h (o:=hi) (by rw[Yc];rfl)with⟨rfl,e3⟩|⟨k',n',e3,e4⟩
 · rw[e3]at Yc;cases Yc
 rcases Ck h (o:=mx) (by rw[MW];rfl)with⟨rfl,e5⟩|⟨FP,n'',e5,e6⟩
 · rw[e5]at MW;cases MW
 have ka:n'=m:=by rw[e4]at Yc;injection Yc
 have hn'':n''=m:=by rw[e6]at MW;injection MW
 rw[ka]at e3;rw[hn'']at e5;have t1:=fun c=>run_sliceBound (P:=P) (w:=w) (k:=FP) (n:=m) (y:=cap) (c:=c) (by omega) (by omega)
 have t2:=fun c=>run_sliceBound (P:=P) (w:=w) (k:=k') (n:=m) (y:=m.toNat) (c:=c) (by omega) (by omega)
 rcases Ck h u6 with⟨rfl,e1⟩|⟨k,n,e1,e2⟩
 · simp[Instr.sliceBounds,e1,e3,e5,Bd.get,t1,t2]
 · rw[e2]at h0 h1⊢
   simp only[Bd.get]at h0 h1⊢;have t3:=fun c=>run_sliceBound (P:=P) (w:=w) (k:=k) (n:=n) (y:=m.toNat) (c:=c) h0 (by omega)
   simp[Instr.sliceBounds,e1,e3,e5,t1,t2,t3]
theorem extract_mk(s:List UInt8)(l h:Nat):(⟨s.toArray⟩:ByteArray).extract l h=⟨((s.take h).drop l).toArray⟩:=by apply ByteArray.ext;simp[ByteArray.data_extract,List.extract_eq_take_drop,List.drop_take]
theorem MX{t:TypeId}(ht:(fi P t).isNone=true){d:TypeDesc}(hu:P.underlying t=some d){x:Value}{lo hi mx:Option Value}:(Instr.sliceAt t x lo hi mx).run P w=(Instr.slice t x lo hi mx).run P w:=by
 unfold Instr.sliceAt;rw[Sem.run_bind,run_underlying hu,Result.andThen_ok]
 cases d<;>first|rfl|(simp[fi,hu]at ht)
theorem Qv(h:aO N0 w0 nt σ φ a w){d:Option Tmp}{s:Nat}{x:Operand}{lo hi mx:Option Operand}{t:TypeId}{p:String}{af:Array Edge}{g:Option (Nat×Bool)}{r:A}
 (ht:(fi P s).isNone=true) (u6:(σ.bd lo).ok=true) (Yc:(σ.bd hi).ok=true)
 (hr:tD (fO P s) (tE P s) (σ.ev x) (σ.bd lo) (σ.bd hi) (σ.bd mx)=some r):Good P ⟨d,.slice s x lo hi mx,t,p,af,g⟩ a w N0 φ r:=by
 have hx:=h.ev x
 have nomx:σ.bd mx= .none->mx=none:=by
  cases mx with
  |none=>intro _;rfl
  |some m=>intro hm;simp only[St.bd]at hm;cases he:σ.ev m<;>simp[he,XQ]at hm
 have fin: ∀{d':TypeDesc} {v:Value},P.underlying s=some d'->(Instr.slice s (a.eval x) (lo.map a.eval) (hi.map a.eval) (mx.map a.eval)).run P w= .ok v w->aJ (aB N0 φ w) r v->Good P ⟨d,.slice s x lo hi mx,t,p,af,g⟩ a w N0 φ r:=by intro d' v hu hv cS;exact bR rfl (by rw[MX ht hu];exact hv) cS
 have elems: ∀(k:Nat) (es:List A) (q:Option Addr) (cap:Nat),tE P s=some k->a.eval x= .slice q es.length cap->es.length<=cap->A.pure.a_ es=true->
  (es≠ []-> ∃b off,q=some ⟨b,off,none⟩/\b<(aB N0 φ w).w.heap.size/\ ¬(aB N0 φ w).N b/\eJ (aB N0 φ w) (cd es) b off es)->
  wW k es (σ.bd lo) (σ.bd hi) (σ.bd mx)=some r->Good P ⟨d,.slice s x lo hi mx,t,p,af,g⟩ a w N0 φ r:=by
  intro k es q cap hk hv rQ hp hm hr;unfold tE at hk;cases he:aX P s with
  |none=>simp[he]at hk
  |some e=>
   simp only[he]at hk;have hu:=dI he
   have core: ∀l hh:Nat,l<=hh->hh<=es.length->lj k es=true-> ∀c':Nat,hh<=c'->c'<=cap->
    A.pure.a_ ((es.take hh).drop l)=true/\((es.take hh).drop l).length=hh-l/\
    ((es.take hh).drop l≠ []-> ∃b off,(if c'=l then q else q.map (·.add (l*k)))=some ⟨b,off,none⟩/\b<(aB N0 φ w).w.heap.size/\ ¬(aB N0 φ w).N b/\eJ (aB N0 φ w) (cd ((es.take hh).drop l)) b off ((es.take hh).drop l)):=by
    intro l hh hl hhl b9 c' wQ Qd;refine⟨mb (mc hp),by simp;omega,fun cg=> ?_⟩
    have Ci:es≠ []:=by rintro rfl;simp at cg
    have aw:l<hh:=by
     rcases Nat.lt_or_ge l hh with aw|VB
     · exact aw
     · exfalso;apply cg;apply List.drop_eq_nil_of_le;simp;omega
    obtain⟨b,off,rfl,hb,hnb,hE⟩:=hm Ci
    have FY:cd es=k:=by
     unfold lj at b9;cases es with
     |nil=>exact absurd rfl Ci
     |cons z zs=>simpa using b9
    rw[FY]at hE;have Xy:=w7 (n:=l) (nD (n:=hh) hE)
    refine⟨b,off+l*k, ?_,hb,hnb,by rw[xd Xy cg];exact Xy⟩
    rw[if_neg (by omega)]
    simp[Addr.add_mid]
   unfold wW at hr;split at hr
   · rename_i MW
     split at hr
     · rename_i hc
       obtain⟨b9,h0,h1,h2⟩:=hc;obtain rfl:=Option.some.inj hr;have hb:=qh (P:=P) h u6 Yc (isS:=true) rQ h0 h1 h2;have Yd:=nomx MW;subst Yd;obtain⟨c1,c2,c3⟩:=core ((σ.bd lo).get 0).toNat ((σ.bd hi).get es.length).toNat (by omega) (by omega) b9 cap (by omega) (Nat.le_refl _)
       refine fin hu (v:= .slice (if cap=((σ.bd lo).get 0).toNat then q else q.map (·.add (((σ.bd lo).get 0).toNat*k))) (((σ.bd hi).get es.length).toNat-((σ.bd lo).get 0).toNat) (cap-((σ.bd lo).get 0).toNat)) ?_ ?_
       · rw[hv]
         simp only[Option.map_none]
         simp only[Instr.slice,Sem.run_bind,run_underlying hu,Result.andThen_ok,hb,run_sizeOf hk,Sem.run_pure]
       · simp only[aJ]
         exact⟨c1,_,_,by rw[c2],by rw[c2];omega,c3⟩
     · simp at hr
   · rename_i m MW
     split at hr
     · rename_i hc
       obtain⟨b9,h0,h1,h2,h3,h4⟩:=hc
       have Ye:σ.bd hi= .some m:=by
        cases hb:σ.bd hi with
        |some n=>rw[hb]at h3;simp only[Bd.get]at h3;rw[h3]
        |none=>simp[hb,Bd.ok3]at h4
        |bad=>simp[hb,Bd.ok3]at h4
       have hg:(σ.bd hi).get es.length=m:=by rw[Ye];rfl
       rw[hg]at h1 h2 hr;obtain rfl:=Option.some.inj hr;have hb:=y_ (P:=P) h u6 Ye MW (isS:=true) rQ h0 h1 h2;obtain⟨c1,c2,c3⟩:=core ((σ.bd lo).get 0).toNat m.toNat (by omega) (by omega) b9 m.toNat (by omega) (by omega)
       refine fin hu (v:= .slice (if m.toNat=((σ.bd lo).get 0).toNat then q else q.map (·.add (((σ.bd lo).get 0).toNat*k))) (m.toNat-((σ.bd lo).get 0).toNat) (m.toNat-((σ.bd lo).get 0).toNat)) ?_ ?_
       · rw[hv]
         simp only[Instr.slice,Sem.run_bind,run_underlying hu,Result.andThen_ok,hb,run_sizeOf hk,Sem.run_pure]
       · simp only[aJ]
         exact⟨c1,_,by rw[c2],c3⟩
     · simp at hr
   · simp at hr
 cases hc:σ.ev x<;>simp only[hc,tD]at hr<;>try(simp at hr;done)
 · rename_i str
   rw[hc]at hx;split at hr
   · rename_i b9
     unfold Jl at hr;split at hr
     · rename_i MW
       split at hr
       · rename_i dD
         obtain⟨h0,h1,h2⟩:=dD;obtain rfl:=Option.some.inj hr;have Yd:=nomx MW;subst Yd;have hb:=qh (P:=P) h u6 Yc (isS:=false) (len:=str.length) (cap:=str.length) (Nat.le_refl _) h0 h1 h2;refine fin (jH b9) (v:= .string (ByteArray.extract ⟨str.toArray⟩ ((σ.bd lo).get 0).toNat ((σ.bd hi).get str.length).toNat)) ?_ ?_
         · rw[rU hx]
           simp only[Option.map_none,Instr.slice,Sem.run_bind,run_underlying (jH b9),Result.andThen_ok,oB,hb,Sem.run_pure,Option.isSome_none,Bool.false_eq_true,if_false]
         · simp only[aJ,extract_mk]
       · simp at hr
     · simp at hr
   · simp at hr
 · rename_i es
   rw[hc]at hx;simp only[aJ]at hx;obtain⟨hp,q,cap,hv,rQ,hm⟩:=hx;split at hr
   · rename_i k hk
     exact elems k es q cap hk hv rQ hp hm hr
   · simp at hr
 · rename_i es
   rw[hc]at hx;simp only[aJ]at hx;obtain⟨hp,q,hv,hm⟩:=hx;split at hr
   · rename_i k hk
     exact elems k es q _ hk hv (Nat.le_refl _) hp hm hr
   · simp at hr
 · rename_i n off k' len c
   rw[hc]at hx;split at hr
   · rename_i k hk
     split at hr
     · rename_i Vs
       subst Vs;unfold tE at hk;cases he:aX P s with
       |none=>simp[he]at hk
       |some e=>
        simp only[he]at hk;have hu:=dI he;simp only[aJ]at hx
        have val: ∃(q:Option Addr) (cap:Nat),a.eval x= .slice q len cap/\len<=cap/\
         ∀l hh c':Nat,l<=hh->hh<=len->hh<=c'->c'<=cap-> ∀cl:Bool,(cl=true->c'=hh)->
          aJ (aB N0 φ w) (.row n (off+l) k (hh-l) cl) (.slice (if c'=l then q else q.map (·.add (l*k))) (hh-l) (c'-l)):=by
         rcases hx with⟨o,fA,hf,rfl,hoff,q,hv⟩|⟨b,cap,cc,ee,fr,fA,hv,rQ,_,hblk,lT⟩
         · refine⟨q,0,hv,Nat.le_refl _,fun l hh c' hl hhl wQ Qd cl jV=> ?_⟩
           have e1:l=0:=by omega
           have e2:hh=0:=by omega
           have e3:c'=0:=by omega
           subst e1;subst e2;subst e3;simp only[aJ]
           exact .inl ⟨o,fA,hf,by simp,by simpa using hoff,q,by simp⟩
         · refine⟨_,cap,hv,rQ,fun l hh c' hl hhl wQ Qd cl jV=> ?_⟩
           simp only[aJ]
           by_cases hcl0:c'=l
           · left
             have:hh=l:=by omega
             refine⟨_,fA,by simp,by omega,by simp,some ⟨b,off*k,none⟩, ?_⟩
             rw[if_pos hcl0,show hh-l=0 by omega,show c'-l=0 by omega]
           · right
             refine⟨b,c'-l,cc,ee,fr,fA, ?_,by omega,fun hq=>by have:=jV hq;omega,hblk, ?_⟩
             · rw[if_neg hcl0]
               simp[Addr.add_mid,Nat.add_mul]
             · have:l*k+k*(c'-l)<=k*cap:=by
                rw[Nat.mul_comm l k,<-Nat.mul_add]
                exact Nat.mul_le_mul_left k (by omega)
               rw[Nat.add_mul]
               omega
        obtain⟨q,cap,hv,rQ,fI⟩:=val;unfold Jm at hr;split at hr
        · rename_i MW
          split at hr
          · rename_i dD
            obtain⟨h0,h1,h2⟩:=dD;obtain rfl:=Option.some.inj hr;have Yd:=nomx MW;subst Yd;have hb:=qh (P:=P) h u6 Yc (isS:=true) rQ h0 h1 h2;have:=fI ((σ.bd lo).get 0).toNat ((σ.bd hi).get len).toNat cap (by omega) (by omega) (by omega) (Nat.le_refl _) false (by simp)
            refine fin hu ?_ (by rw[show((σ.bd hi).get len-(σ.bd lo).get 0).toNat=((σ.bd hi).get len).toNat-((σ.bd lo).get 0).toNat by omega];exact this)
            rw[hv]
            simp only[Option.map_none]
            simp only[Instr.slice,Sem.run_bind,run_underlying hu,Result.andThen_ok,hb,run_sizeOf hk,Sem.run_pure]
          · simp at hr
        · rename_i m MW
          split at hr
          · rename_i dD
            obtain⟨h0,h1,h2,h3,h4⟩:=dD
            have Ye:σ.bd hi= .some m:=by
             cases hb:σ.bd hi with
             |some n=>rw[hb]at h3;simp only[Bd.get]at h3;rw[h3]
             |none=>simp[hb,Bd.ok3]at h4
             |bad=>simp[hb,Bd.ok3]at h4
            have hg:(σ.bd hi).get len=m:=by rw[Ye];rfl
            rw[hg]at h1 h2 hr;obtain rfl:=Option.some.inj hr;have hb:=y_ (P:=P) h u6 Ye MW (isS:=true) rQ h0 h1 h2;have:=fI ((σ.bd lo).get 0).toNat m.toNat m.toNat (by omega) (by omega) (by omega) (by omega) true (fun _=>rfl)
            refine fin hu ?_ (by rw[show(m-(σ.bd lo).get 0).toNat=m.toNat-((σ.bd lo).get 0).toNat by omega];exact this)
            rw[hv]
            simp only[Instr.slice,Sem.run_bind,run_underlying hu,Result.andThen_ok,hb,run_sizeOf hk,Sem.run_pure]
          · simp at hr
        · simp at hr
     · simp at hr
   · simp at hr
/-! ### Literals -/
theorem H9: ∀(vs:List Value) (off j:Nat) (cs:List Value),off+j+vs.length<=cs.length->
 (vs.zipIdx j).foldl (fun(cs:Array Value) (p:Value×Nat)=>cs.setIfInBounds (off+p.2) p.1) cs.toArray=(cs.take (off+j)++vs++cs.drop (off+j+vs.length)).toArray
 | [],off,j,cs,_=>by simp
 |v::vs,off,j,cs,h=>by
  simp only[List.zipIdx_cons,List.foldl_cons]
  have e:cs.toArray.setIfInBounds (off+j) v=(cs.set (off+j) v).toArray:=by simp
  rw[e,H9 vs off (j+1) (cs.set (off+j) v) (by simp at h⊢;omega)]
  congr 1
  have aw:off+j<cs.length:=by simp at h;omega
  rw[show off+(j+1)=off+j+1 by omega]
  rw[List.take_succ_eq_append_getElem (by simpa using aw)]
  simp only[List.getElem_set_self,List.length_cons,List.append_assoc,List.cons_append,List.nil_append]
  rw[List.take_set_of_le (Nat.le_refl _),List.drop_set_of_lt (by omega)]
  rw[show off+j+1+vs.length=off+j+(vs.length+1) by omega]
theorem Cl{place:Nat->Option (Nat×Nat)}{i off size:Nat}{v:Value}{cs:List Value}{rest:List (Nat×Value)}(hp:place i=some (off,size))(hs:v.cells.size=size)(hl:off+size<=cs.length):
 Instr.fill place cs.toArray ((i,v)::rest)=Instr.fill place (cs.take off++v.cells.toList++cs.drop (off+size)).toArray rest:=by
 simp only[Instr.fill,hp]
 rw[if_neg (by simp[hs];omega)]
 congr 1
 have e:=H9 v.cells.toList off 0 cs (by simp[hs];omega)
 simp only[Nat.add_zero]at e;rw[show v.cells.toList.length=size by simpa using hs]at e;rw[<-e,<-Array.foldl_toList]
 simp
theorem za{E:Env}{size:Option Nat}{off:Nat}{x:A}{v:Value}{zs H_:List A}{vs:List Value}(hx:aJ E x v)(hz:aQ E zs vs)(h1: ∀u∈vs,u.oneCell'=true)(h:uX size off x zs=some H_):
 ∃n,size=some n/\v.cells.size=n/\off+n<=vs.length/\aQ E H_ (vs.take off++v.cells.toList++vs.drop (off+n))/\ ∀u∈vs.take off++v.cells.toList++vs.drop (off+n),u.oneCell'=true:=by
 unfold uX at h;split at h
 · rename_i n
   split at h
   · rename_i hc
     obtain⟨c1,c2,c3⟩:=hc;obtain rfl:=Option.some.inj h;obtain⟨r1,r2,r3⟩:=jn hx c3;have hlen:=(bf.1 hz).1;refine⟨n,rfl,by rw[r3,c1],by omega,jm (jm (w9 hz) r1) (w_ hz),fun u hu=> ?_⟩
     simp only[List.mem_append]at hu;rcases hu with(hu|hu)|hu
     · exact h1 u (List.mem_of_mem_take hu)
     · exact r2 u hu
     · exact h1 u (List.mem_of_mem_drop hu)
   · simp at h
 · simp at h
theorem zb(h:aO N0 w0 nt σ φ a w){t:TypeId}{fs:Array Field}{place:Nat->Option (Nat×Nat)}(hu:P.underlying t=some (.struct fs))
 (Jv: ∀i f n,fs[i]? =some f->ba P f.type=some n->place i=some (f.offset,n)):
 ∀(ps:List (Nat×Operand)) (zs H_:List A) (vs:List Value),aQ (aB N0 φ w) zs vs->(∀u∈vs,u.oneCell'=true)->kB P t σ ps zs=some H_->
  ∃lB,Instr.fill place vs.toArray (ps.map fun p=>(p.1,a.eval p.2))=some lB.toArray/\aQ (aB N0 φ w) H_ lB/\ ∀u∈lB,u.oneCell'=true
 | [],zs,H_,vs,hz,h1,hf=>by simp[kB]at hf;subst hf;exact⟨vs,rfl,hz,h1⟩
 |(i,x)::ps,zs,H_,vs,hz,h1,hf=>by
  simp only[kB]at hf;split at hf
  · rename_i o ft hfi
    cases hc:uX (ba P ft) o (σ.ev x) zs with
    |none=>simp[hc]at hf
    |some zs1=>
     simp only[hc,Option.bind_some]at hf;obtain⟨n,hn,hv,hl,hz',nj⟩:=za (h.ev x) hz h1 hc;obtain⟨fs',fx,n',hu',uT,rfl,rfl,ka,_⟩:=oA hfi;rw[hu]at hu';obtain rfl:fs=fs':=by injection hu' with e;injection e
     obtain⟨lB,hr,hz'',h1''⟩:=zb h hu Jv ps zs1 H_ _ hz' nj hf;refine⟨lB, ?_,hz'',h1''⟩
     rw[List.map_cons,Cl (Jv i fx n uT hn) hv hl]
     exact hr
  · simp at hf
theorem zc(h:aO N0 w0 nt σ φ a w){e n:Nat}(hn:ba P e=some n):
 ∀(ps:List (Nat×Operand)) (zs H_:List A) (vs:List Value),aQ (aB N0 φ w) zs vs->(∀u∈vs,u.oneCell'=true)->kC P e σ ps zs=some H_->
  ∃lB,Instr.fill (fun i=>some (i*n,n)) vs.toArray (ps.map fun p=>(p.1,a.eval p.2))=some lB.toArray/\aQ (aB N0 φ w) H_ lB/\ ∀u∈lB,u.oneCell'=true
 | [],zs,H_,vs,hz,h1,hf=>by simp[kC]at hf;subst hf;exact⟨vs,rfl,hz,h1⟩
 |(i,x)::ps,zs,H_,vs,hz,h1,hf=>by
  simp only[kC,hn]at hf;cases hc:uX (some n) (i*n) (σ.ev x) zs with
  |none=>simp[hc]at hf
  |some zs1=>
   simp only[hc,Option.bind_some]at hf;obtain⟨n',ka,hv,hl,hz',nj⟩:=za (h.ev x) hz h1 hc;obtain rfl:=Option.some.inj ka;obtain⟨lB,hr,hz'',h1''⟩:=zc h hn ps zs1 H_ _ hz' nj hf;refine⟨lB, ?_,hz'',h1''⟩
   rw[List.map_cons,Cl rfl hv hl]
   exact hr
theorem u7{t:TypeId}{z:A}(h:dQ P t=some z): ∃v,(zeroValue t).run P w= .ok v w/\(∀E:Env,aJ E z v):=by
 unfold dQ at h;cases hi:P.info? t with
 |none=>simp[hi]at h
 |some i=>
  simp only[hi,Option.bind_some]at h;cases hz:i.zero with
  |none=>simp[hz]at h
  |some v=>
   simp[hz]at h;subst h;exact⟨v,by simp[zeroValue,typeInfo,hi,hz],fun E=>Js E v⟩
theorem zd: ∀{fs:List Field},(fs.all fun f=>(ba P f.type).isSome)=true->
 ∃ys:List (Nat×Nat),(fs.mapM (fun f=>(do pure (f.offset,<-sizeOf f.type):Sem (Nat×Nat)))).run P w= .ok ys w/\ ∀(i:Nat) (f:Field) (n:Nat),fs[i]? =some f->ba P f.type=some n->ys[i]? =some (f.offset,n)
 | [],_=>⟨[],by simp,fun i f n hf=>by simp at hf⟩
 |f::fs,h=>by
  simp only[List.all_cons,Bool.and_eq_true]at h;obtain⟨n,hn⟩:=Option.isSome_iff_exists.1 h.1;obtain⟨ys,yY,hpl⟩:=zd h.2;refine⟨(f.offset,n)::ys, ?_,fun i f' n' MY ka=> ?_⟩
  · simp only[List.mapM_cons,Sem.run_bind,run_sizeOf hn,Result.andThen_ok,Sem.run_pure,yY]
  · cases i with
    |zero=>simp at MY;subst MY;rw[hn]at ka;simp at ka;subst ka;rfl
    |succ i=>exact hpl i f' n' (by simpa using MY) ka
theorem run_places{fs:Array Field}(h:(fs.toList.all fun f=>(ba P f.type).isSome)=true):
 ∃ys:Array (Nat×Nat),(fs.mapM (fun f=>(do pure (f.offset,<-sizeOf f.type):Sem (Nat×Nat)))).run P w= .ok ys w/\ ∀(i:Nat) (f:Field) (n:Nat),fs[i]? =some f->ba P f.type=some n->ys[i]? =some (f.offset,n):=by
 obtain⟨ys,yY,hpl⟩:=zd (w:=w) h;refine⟨ys.toArray, ?_,fun i f n hf hn=>by simpa using hpl i f n (by simpa using hf) hn⟩
 rw[Array.mapM_eq_mapM_toList,Sem.run_map,yY]
 rfl
theorem Qw(h:aO N0 w0 nt σ φ a w){d:Option Tmp}{s:Nat}{ps:Array (Nat×Operand)}{t:TypeId}{p:String}{af:Array Edge}{g:Option (Nat×Bool)}{r:A}
 (hr:pX P s σ ps.toList=some r):Good P ⟨d,.build s ps,t,p,af,g⟩ a w N0 φ r:=by
 unfold pX at hr;split at hr
 · rename_i zs hz
   obtain⟨z,hzr,Cm⟩:=u7 (w:=w) hz;have hzv:=Cm (aB N0 φ w)
   simp only[aJ]at hzv;obtain⟨vs,rfl,hL,da⟩:=hzv;split at hr
   · rename_i n e hn
     split at hr
     · rename_i lT
       obtain⟨k,hk⟩:=Option.isSome_iff_exists.1 lT;cases hf:kC P e σ ps.toList zs with
       |none=>simp[hf]at hr
       |some H_=>
        simp[hf]at hr;subst hr;have hu:=u3 hn;obtain⟨lB,Cn,hL',Yf⟩:=zc h hk ps.toList zs H_ vs hL da hf;refine bR rfl (v:= .agg lB.toArray) ?_ (by simp only[aJ];exact⟨lB,rfl,hL',Yf⟩)
        simp only[Instr.build,Sem.run_bind,hzr,Result.andThen_ok,run_underlying hu,run_sizeOf hk,Value.cells]
        rw[show(ps.map fun x=>(x.1,a.eval x.2)).toList=ps.toList.map fun p=>(p.1,a.eval p.2) by simp,Cn]
        rfl
     · simp at hr
   · rename_i hn
     split at hr
     · rename_i iO
       cases hf:kB P s σ ps.toList zs with
       |none=>simp[hf]at hr
       |some H_=>
        simp[hf]at hr;subst hr;unfold iN at iO;split at iO
        · rename_i fs hu
          obtain⟨ys,yY,Jv⟩:=run_places (w:=w) iO;obtain⟨lB,Cn,hL',Yf⟩:=zb h hu Jv ps.toList zs H_ vs hL da hf;refine bR rfl (v:= .agg lB.toArray) ?_ (by simp only[aJ];exact⟨lB,rfl,hL',Yf⟩)
          simp only[Instr.build,Sem.run_bind,hzr,Result.andThen_ok,run_underlying hu,Value.cells,yY]
          rw[show(ps.map fun x=>(x.1,a.eval x.2)).toList=ps.toList.map fun p=>(p.1,a.eval p.2) by simp,Cn]
          rfl
        · simp at iO
     · simp at hr
 · simp at hr
end
end Go.bo
namespace Go.bo
open Go.RowKit
theorem Ia{E:Env}{x:A}{v:Value}(h:aJ E x v):aJ E (jj x) v:=by
 cases x<;>simp only[jj]<;>try exact h
 · simp only[aJ]at h⊢
   obtain⟨hp,a,hv,hm⟩:=h;exact⟨hp,a,_,hv,Nat.le_refl _,hm⟩
 · simp only[aJ]at h⊢
   exact⟨rfl,none,0,by simpa using h,Nat.le_refl _,fun cg=>absurd rfl cg⟩
 · simp only[aJ]at h⊢
   obtain⟨a,cap,hv,_⟩:=h;exact⟨rfl,a,cap,by simpa using hv,Nat.zero_le _,fun cg=>absurd rfl cg⟩
theorem oD{E:Env}{cs:List A}{vs:List Value}(h:aQ E cs vs):aQ E (cs.map jj) vs:=by
 obtain⟨h1,h2⟩:=bf.1 h;refine bf.2 ⟨by simpa using h1,fun i x v hx hv=> ?_⟩
 rw[List.getElem?_map]at hx;cases hc:cs[i]? with
 |none=>simp[hc]at hx
 |some c=>simp[hc]at hx;subst hx;exact Ia (h2 i c v hc hv)
theorem ic(x:A):x.norm.cells=x.cells.map jj:=by cases x<;>simp[A.norm,jj,A.cells]
theorem Co{x:A}(h:x.pure=true):(jj x).pure=true:=by cases x<;>simp_all[jj,A.pure]
theorem z8{cs:List A}(h:A.pure.a_ cs=true):A.pure.a_ (cs.map jj)=true:=
 de fun i e he=>by
  rw[List.getElem?_map]at he;cases hc:cs[i]? with
  |none=>simp[hc]at he
  |some c=>simp[hc]at he;subst he;exact Co (aM h hc)
theorem lU{x:A}(h:x.pure=true):x.norm.pure=true:=by
 cases x
 case agg cs=>
  simp only[A.norm,A.pure]at h⊢;exact z8 h
 all_goals
  simp only[A.norm]
  exact Co h
def aG(E:Env)(k:Nat):List A->List Value->Prop
 | [],vs=>vs=[]
 |e::es,vs=>e.cells.length=k/\k<=vs.length/\aQ E e.cells (vs.take k)/\aG E k es (vs.drop k)
theorem aG.length{E:Env}{k:Nat}: ∀{es:List A} {vs:List Value},aG E k es vs->vs.length=es.length*k
 | [],vs,h=>by simp only[aG]at h;subst h;simp
 |e::es,vs,h=>by
  simp only[aG]at h;have:=aG.length h.2.2.2;simp only[List.length_drop]at this;have:=h.2.1;simp only[List.length_cons,Nat.add_mul,Nat.one_mul]
  omega
theorem aG.append{E:Env}{k:Nat}: ∀{es fs:List A} {vs us:List Value},aG E k es vs->aG E k fs us->aG E k (es++fs) (vs++us)
 | [],fs,vs,us,h,h'=>by simp only[aG]at h;subst h;simpa using h'
 |e::es,fs,vs,us,h,h'=>by
  simp only[aG]at h;obtain⟨h1,h2,h3,h4⟩:=h;simp only[List.cons_append,aG]
  refine⟨h1,by simp;omega, ?_, ?_⟩
  · rw[List.take_append_of_le_length h2];exact h3
  · rw[List.drop_append_of_le_length h2];exact aG.append h4 h'
theorem aG.take{E:Env}{k:Nat}: ∀{n:Nat} {es:List A} {vs:List Value},aG E k es vs->aG E k (es.take n) (vs.take (n*k))
 |0,es,vs,_=>by simp[aG]
 |n+1,[],vs,h=>by simp only[aG]at h;subst h;simp[aG]
 |n+1,e::es,vs,h=>by
  simp only[aG]at h;obtain⟨h1,h2,h3,h4⟩:=h;simp only[List.take_succ_cons,aG]
  have hk:k<=(n+1)*k:=by rw[Nat.add_mul,Nat.one_mul];omega
  refine⟨h1,by simp;omega, ?_, ?_⟩
  · rw[List.take_take,Nat.min_eq_left hk];exact h3
  · rw[List.drop_take,show(n+1)*k-k=n*k by rw[Nat.add_mul,Nat.one_mul];omega];exact aG.take h4
theorem aG.set{E:Env}{k:Nat}{x:A}{xv:List Value}(hx:x.cells.length=k)(hL:aQ E x.cells xv): ∀{i:Nat} {es:List A} {vs:List Value},i<es.length->aG E k es vs->
 aG E k (es.set i x) (vs.take (i*k)++xv++vs.drop (i*k+k))
 |0,e::es,vs,_,h=>by
  simp only[aG]at h;obtain⟨h1,h2,h3,h4⟩:=h;have hxl:xv.length=k:=by rw[<-(bf.1 hL).1,hx]
  simp only[List.set_cons_zero,aG,Nat.zero_mul,List.take_zero,List.nil_append,Nat.zero_add]
  refine⟨hx,by simp;omega, ?_, ?_⟩
  · rw[List.take_append_of_le_length (by omega),List.take_of_length_le (by omega)];exact hL
  · rw[List.drop_append_of_le_length (by omega),List.drop_of_length_le (by omega),List.nil_append];exact h4
 |i+1,e::es,vs,hi,h=>by
  simp only[aG]at h;obtain⟨h1,h2,h3,h4⟩:=h;have ih:=aG.set hx hL (i:=i) (by simpa using hi) h4;have hk:(i+1)*k=k+i*k:=by rw[Nat.add_mul,Nat.one_mul];omega
  have hlen:=aG.length h4
  have hle:i*k+k<=(vs.drop k).length:=by
   rw[hlen]
   have:i+1<=es.length:=by have:i<es.length:=by simpa using hi
                           omega
   calc i*k+k=(i+1)*k:=by rw[Nat.add_mul,Nat.one_mul]
    _<=es.length*k:=Nat.mul_le_mul_right k this
  simp only[List.length_drop]at hle;simp only[List.set_cons_succ,aG]
  refine⟨h1,by simp;omega, ?_, ?_⟩
  · rw[List.append_assoc,List.take_append_of_le_length (by simp;omega),List.take_take,Nat.min_eq_left (by omega)];exact h3
  · rw[List.append_assoc,List.drop_append_of_le_length (by simp;omega),List.drop_take,hk,show k+i*k-k=i*k by omega]
    rw[List.drop_drop]at ih;rw[show k+i*k+k=k+(i*k+k) by omega,<-List.append_assoc]
    exact ih
theorem aG.replicate{E:Env}{k:Nat}{x:A}{xv:List Value}(hx:x.cells.length=k)(hL:aQ E x.cells xv): ∀n:Nat,aG E k (List.replicate n x) (List.replicate n xv).flatten
 |0=>by simp[aG]
 |n+1=>by
  have hxl:xv.length=k:=by rw[<-(bf.1 hL).1,hx]
  simp only[List.replicate_succ,List.flatten_cons,aG]
  refine⟨hx,by simp;omega, ?_, ?_⟩
  · rw[List.take_append_of_le_length (by omega),List.take_of_length_le (by omega)];exact hL
  · rw[List.drop_append_of_le_length (by omega),List.drop_of_length_le (by omega),List.nil_append];exact aG.replicate hx hL n
theorem aG.mem{E:Env}{k b:Nat}: ∀{es:List A} {vs:List Value} {off:Nat},aG E k es vs->E.w.rangeAt b off vs->(∀u∈vs,u.oneCell'=true)->eJ E k b off es
 | [],vs,off,_,_,_=>by simp[eJ]
 |e::es,vs,off,h,hr,da=>by
  simp only[aG]at h;obtain⟨h1,h2,h3,h4⟩:=h;refine nC.2 ⟨⟨h1,oz (vs:=vs.take k) ?_ h3 fun u hu=>da u (List.mem_of_mem_take hu)⟩,aG.mem h4 ?_ fun u hu=>da u (List.mem_of_mem_drop hu)⟩
  · intro j v hv
    rw[List.getElem?_take]at hv;split at hv
    · exact hr j v hv
    · simp at hv
  · intro j v hv
    rw[List.getElem?_drop]at hv;have:=hr (k+j) v hv
    rwa [show off+(k+j)=off+k+j by omega]at this
theorem aG.Cp{E:Env}{k b:Nat}: ∀{es:List A} {off:Nat},eJ E k b off es-> ∃vs,aG E k es vs/\E.w.rangeAt b off vs/\ ∀u∈vs,u.oneCell'=true
 | [],off,_=>⟨[],by simp[aG],fun j v h=>by simp at h,by simp⟩
 |e::es,off,h=>by
  obtain⟨⟨h1,hm⟩,hE⟩:=nC.1 h;obtain⟨us,Yg,hu2,hu3⟩:=rT hm;obtain⟨vs,Yh,hv2,hv3⟩:=aG.Cp hE;have hl:us.length=k:=by rw[<-(bf.1 hu2).1,h1]
  refine⟨us++vs, ?_, ?_, ?_⟩
  · simp only[aG]
    refine⟨h1,by simp;omega, ?_, ?_⟩
    · rw[List.take_append_of_le_length (by omega),List.take_of_length_le (by omega)];exact hu2
    · rw[List.drop_append_of_le_length (by omega),List.drop_of_length_le (by omega),List.nil_append];exact Yh
  · intro j v hv
    rw[List.getElem?_append]at hv;split at hv
    · exact Yg j v hv
    · rename_i hj
      have:=hv2 (j-us.length) v hv
      rwa [show off+k+(j-us.length)=off+j by omega]at this
  · intro u hu
    rcases List.mem_append.1 hu with hu|hu
    · exact hu3 u hu
    · exact hv3 u hu
theorem aG.mono{E E':Env}(hr: ∀x v,x.pure=true->aJ E x v->aJ E' x v){k:Nat}: ∀{es:List A} {vs:List Value},A.pure.a_ es=true->aG E k es vs->aG E' k es vs
 | [],vs,_,h=>by simpa only[aG]using h
 |e::es,vs,hp,h=>by simp only[A.pure.a_,Bool.and_eq_true]at hp;simp only[aG]at h⊢;obtain⟨h1,h2,h3,h4⟩:=h;obtain⟨g1,g2⟩:=bf.1 h3;exact⟨h1,h2,bf.2 ⟨g1,fun i x v hx hv=>hr x v (aM (me hp.1) hx) (g2 i x v hx hv)⟩,aG.mono hr hp.2 h4⟩
theorem MZ{z:Array Value}: ∀n:Nat,(List.range (n*z.size)).map (fun i=>z[i % z.size]!)=(List.replicate n z.toList).flatten
 |0=>by simp
 |n+1=>by
  rw[Nat.add_mul,Nat.one_mul,Nat.add_comm,List.range_add,List.map_append,List.map_map,List.replicate_succ,List.flatten_cons,<-MZ n]
  congr 1
  · apply List.ext_getElem?
    intro i;rw[List.getElem?_map]
    by_cases hi:i<z.size
    · simp[hi,Nat.mod_eq_of_lt hi]
    · simp[hi]
  · apply List.map_congr_left
    intro i _;simp
section
variable{P:Program}{N0:Nat->Prop}{w0:kD}{nt:Nat}{σ:St}{φ:List dj}{a:Act}{w:World}
theorem u9{n:Nat}{p:dj}(hn:n<φ.length)(m:Nat):(φ.set n p)[m]? =if n=m then some p else φ[m]? :=by
 rw[List.getElem?_set]
 split
 · rename_i e;subst e;simp
 · rfl
theorem aO.Jw(h:aO N0 w0 nt σ φ a w){n b k:Nat}{w':World}(bI:φ[n]? =some .free)(g:eL w w')(hb:w.heap.size<=b):
 Ext (fun _=>True) (aB N0 φ w) (aB N0 (φ.set n (.loc b k)) w'):=by
 have fS:=u9 (φ:=φ) (n:=n) (p:=dj.loc b k) (List.getElem?_eq_some_iff.1 bI).1
 exact{
  size:=g.size
  MI:=fun c hc Yi=>⟨by
   rintro(h0|⟨m,k',hm⟩)
   · exact Yi (.inl h0)
   · rw[fS]at hm
     split at hm
     · simp at hm
       have:c<w.heap.size:=hc;omega
     · exact Yi (.inr ⟨m,k',hm⟩),g.block c hc⟩
  refs:=fun m p _ hm hp=>by
   show(φ.set n (dj.loc b k))[m]? =some p;rw[fS]
   split
   · rename_i e;subst e
     have:φ[n]? =some p:=hm;rw[bI]at this;simp at this;exact absurd this.symm hp
   · exact hm
  own:=fun m c k' cc e fr _ hm hc=>⟨cc,fr,by show w'.heap[c]? =_;rw[g.block c (h.own m c k' hm).2];exact hc,rfl⟩}
theorem aO.newObj(h:aO N0 w0 nt σ φ a w){n b k:Nat}{o:Obj}{w':World}(bI:φ[n]? =some .free)(g:eL w w')(hb:w.heap.size<=b)(qi:b<w'.heap.size)
 (ho:aL (aB N0 (φ.set n (.loc b k)) w') o (.loc b k)):aO N0 w0 nt (σ.dc n o) (φ.set n (.loc b k)) a w':=by
 have fS:=u9 (φ:=φ) (n:=n) (p:=dj.loc b k) (List.getElem?_eq_some_iff.1 bI).1;have dL:=h.Jw (k:=k) bI g hb
 exact{
  cW:=fun d=>aJ.mono dL _ _ (h.cW d) (fun _ _=>trivial)
  size:=h.size
  defers:=h.defers
  len:=by simp[St.dc,dU,h.len]
  c7:=fun m o' p hm hp=>by
   rw[fS]at hp;simp only[St.dc]at hm;rw[dU,bH,List.getElem?_set]at hm;split at hp
   · rename_i e
     subst e;simp at hp;subst hp;rw[if_pos rfl]at hm;split at hm
     · simp at hm;subst hm;exact ho
     · simp at hm
   · rename_i e
     rw[if_neg e]at hm;exact aL.mono dL (h.c7 m o' p (by rw[bH];exact hm) hp) (fun c k' hc cc ee fr hh=>by subst hc;show w'.heap[c]? =_;rw[g.block c (h.own m c k' hp).2];exact hh) (fun _ _ _ _=>trivial)
  own:=fun m c k' hm=>by
   rw[fS]at hm;split at hm
   · simp at hm
     obtain⟨rfl,rfl⟩:=hm;exact⟨.inl (Nat.le_trans h.below.size hb),qi⟩
   · exact⟨(h.own m c k' hm).1,Nat.lt_of_lt_of_le (h.own m c k' hm).2 g.size⟩
  inj:=fun m m' c k' FP hm jz=>by
   rw[fS]at hm jz;split at hm<;>split at jz
   · rename_i e1 e2;rw[<-e1,<-e2]
   · simp at hm
     have:=(h.own m' c FP jz).2;omega
   · simp at jz
     have:=(h.own m c k' hm).2;omega
   · exact h.inj m m' c k' FP hm jz
  n0:=h.n0
  lD:=fun m q hf hm hq=>by
   have:=h.lD m q hf hm hq;rw[fS]
   split
   · rename_i e;subst e;rw[bI]at this;exact absurd (Option.some.inj this).symm hq
   · exact this
  below:=g.below h.below}
theorem fa{b:Nat}: ∀(vs:List Value) (off:Nat) (w:World),(w.setCells b off vs).heap.size=w.heap.size/\(∀c,c≠b->(w.setCells b off vs).heap[c]? =w.heap[c]?)/\
 (w.setCells b off vs).os=w.os/\(w.setCells b off vs).tape=w.tape/\(w.setCells b off vs).output=w.output/\(w.setCells b off vs).drawn=w.drawn/\
 (∀cc e fr,w.heap[b]? =some (.cells cc e fr)-> ∃M0,(w.setCells b off vs).heap[b]? =some (.cells M0 e fr)/\M0.size=cc.size)
 | [],off,w=>⟨rfl,fun _ _=>rfl,rfl,rfl,rfl,rfl,fun cc e fr h=>⟨cc,h,rfl⟩⟩
 |v::vs,off,w=>by
  obtain⟨h1,h2,h3,h4,h5,h5',h6⟩:=fa (b:=b) vs (off+1) (w.setCell ⟨b,off,none⟩ v)
  simp only[World.setCells]
  refine⟨by rw[h1];simp,fun c hc=>by rw[h2 c hc];exact Below.heap_setCell _ _ _ _ hc,by rw[h3];rfl,by rw[h4];rfl,by rw[h5];rfl,by rw[h5'];rfl,fun cc e fr Qd=> ?_⟩
  obtain⟨M0,wQ,Qk⟩:=h6 (cc.setIfInBounds off v) e fr (by
   simp only[World.setCell,Array.getElem?_modify,if_true,Qd,Option.map_some]
   simp)
  exact⟨M0,wQ,by rw[Qk];simp⟩
theorem aO.nF(_h:aO N0 w0 nt σ φ a w){n b k:Nat}(off:Nat)(vs:List Value)(hn:φ[n]? =some (.loc b k)):Ext (fun _=>True) (aB N0 φ w) (aB N0 φ (w.setCells b off vs)):=by
 obtain⟨h1,h2,h3,h4,h5,h5',h6⟩:=fa (b:=b) vs off w
 exact{
  size:=by show w.heap.size<=(w.setCells b off vs).heap.size;rw[h1];exact Nat.le_refl _
  MI:=fun c hc Yi=>⟨Yi,h2 c (fun e=>Yi (.inr ⟨n,k,by rw[e];exact hn⟩))⟩
  refs:=fun m p _ hm _=>hm
  own:=fun m c k' cc e fr _ hm hc=>by
   by_cases hcb:c=b
   · subst hcb
     obtain⟨M0,wQ,Qk⟩:=h6 cc e fr hc;exact⟨M0,fr,wQ,Qk⟩
   · exact⟨cc,fr,by show(w.setCells b off vs).heap[c]? =_;rw[h2 c hcb];exact hc,rfl⟩}
theorem aO.write(h:aO N0 w0 nt σ φ a w){n b k:Nat}{o:Obj}{off:Nat}{vs:List Value}(hn:φ[n]? =some (.loc b k))
 (ho:aL (aB N0 φ (w.setCells b off vs)) o (.loc b k)):aO N0 w0 nt (σ.dc n o) φ a (w.setCells b off vs):=by
 obtain⟨h1,h2,h3,h4,h5,h5',h6⟩:=fa (b:=b) vs off w;have dL:=h.nF off vs hn
 exact{
  cW:=fun d=>aJ.mono dL _ _ (h.cW d) (fun _ _=>trivial)
  size:=h.size
  defers:=h.defers
  len:=by simp[St.dc,dU,h.len]
  c7:=fun m o' p hm hp=>by
   simp only[St.dc]at hm;rw[dU,bH,List.getElem?_set]at hm;split at hm
   · rename_i e
     subst e;split at hm
     · simp at hm;subst hm
       rw[hn]at hp;simp at hp;subst hp;exact ho
     · simp at hm
   · rename_i e
     refine aL.mono dL (h.c7 m o' p (by rw[bH];exact hm) hp) (fun c k' hc cc ee fr hh=> ?_) (fun _ _ _ _=>trivial)
     subst hc;have hcb:c≠b:=fun e'=>e (h.inj n m b k k' hn (by rw[<-e'];exact hp))
     show(w.setCells b off vs).heap[c]? =_;rw[h2 c hcb];exact hh
  own:=fun m c k' hm=>⟨(h.own m c k' hm).1,by rw[h1];exact(h.own m c k' hm).2⟩
  inj:=h.inj
  n0:=h.n0
  lD:=h.lD
  below:={
   os:=h3.trans h.below.os
   tape:=h4.trans h.below.tape
   output:=h5.trans h.below.output
   drawn:=by rw[h5'];exact h.below.drawn
   size:=by rw[h1];exact h.below.size
   block:=fun c hc hM=>by
    rw[h2 c (fun e=>by
     subst e;rcases(h.own n c k hn).1 with h'|h'
     · omega
     · exact hM h')]
    exact h.below.block c hc hM
   shape:=fun c cc e fr Qd=>by
    obtain⟨c',Qj,g1,g2⟩:=h.below.shape c cc e fr Qd;by_cases hcb:c=b
    · subst hcb
      obtain⟨M0,wQ,Qk⟩:=h6 c' e Qj g1;exact⟨M0,Qj,wQ,Qk.trans g2⟩
    · exact⟨c',Qj,by rw[h2 c hcb];exact g1,g2⟩}}
end
end Go.bo
namespace Go.bo
open Go.RowKit
section
variable{P:Program}{N0:Nat->Prop}{w0:kD}{nt:Nat}{σ:St}{φ:List dj}{a:Act}{w:World}
theorem heap_alloc_new(w:World)(o:Go.Obj):(w.alloc o).heap[w.heap.size]? =some o:=by show(w.heap.push o)[w.heap.size]? =some o;simp
theorem rangeAt_alloc{w:World}{vs:List Value}{e:TypeId}{fr:Nat×Nat}{c:Array Value}(h: ∀(j:Nat) (v:Value),vs[j]? =some v->c[j]? =some v):(w.alloc (.cells c e fr)).rangeAt w.heap.size 0 vs:=fun j v hv=>by
 have:=h j v hv;simp only[World.cell?,heap_alloc_new,Nat.zero_add]
 simpa using this
theorem M1{k:Nat}{E:Env}: ∀{es:List A} {vs:List Value},aG E k es vs->es≠ []->cd es=k
 | [],_,_,h=>absurd rfl h
 |e::es,vs,h,_=>by simp only[aG]at h;exact h.1
theorem ze(h:aO N0 w0 nt σ φ a w){k:Nat}: ∀(ps:List (Nat×Operand)) (es z_:List A) (vs:List Value),aG (aB N0 φ w) k es vs->(∀u∈vs,u.oneCell'=true)->A.pure.a_ es=true->jk k σ ps es=some z_->
 ∃lB,Instr.fill (fun i=>some (i*k,k)) vs.toArray (ps.map fun p=>(p.1,a.eval p.2))=some lB.toArray/\aG (aB N0 φ w) k z_ lB/\(∀u∈lB,u.oneCell'=true)/\A.pure.a_ z_=true
 | [],es,z_,vs,hr,h1,hp,hf=>by simp[jk]at hf;subst hf;exact⟨vs,rfl,hr,h1,hp⟩
 |(i,x)::ps,es,z_,vs,hr,h1,hp,hf=>by
  simp only[jk]at hf;split at hf
  · rename_i hc
    obtain⟨c1,c2,c3,c4⟩:=hc;have hx:=h.ev x;obtain⟨r1,r2,r3⟩:=jn hx c3;have hv:(a.eval x).cells.size=k:=by rw[r3,c1]
    have hn:(σ.ev x).norm.cells.length=k:=by rw[ic,List.length_map,c1]
    have hL:aQ (aB N0 φ w) (σ.ev x).norm.cells (a.eval x).cells.toList:=by rw[ic];exact oD r1
    have hlen:=hr.length
    have hle:i*k+k<=vs.length:=by
     rw[hlen]
     calc i*k+k=(i+1)*k:=by rw[Nat.add_mul,Nat.one_mul]
      _<=es.length*k:=Nat.mul_le_mul_right k c2
    have fS:=aG.set hn hL c2 hr;rw[ga]at hf
    obtain⟨lB,Cn,Cf,nj,tb⟩:=ze h ps _ z_ _ fS (fun u hu=>by
     simp only[List.mem_append]at hu;rcases hu with(hu|hu)|hu
     · exact h1 u (List.mem_of_mem_take hu)
     · exact r2 u hu
     · exact h1 u (List.mem_of_mem_drop hu)) (de fun j e he=>by
       rw[List.getElem?_set]at he;split at he
       · first
           |(simp at he;subst he;exact lU c4)
           |(split at he
             · simp at he;subst he;exact lU c4
             · simp at he)
       · exact aM hp he) hf
    refine⟨lB, ?_,Cf,nj,tb⟩
    rw[List.map_cons,Cl rfl hv hle]
    exact Cn
  · simp at hf
theorem z'(h:aO N0 w0 nt σ φ a w){d:Option Tmp}{s len:Nat}{ps:Array (Nat×Operand)}{t:TypeId}{p:String}{af:Array Edge}{g:Option (Nat×Bool)}{r:A}
 (hr:fD P s len σ ps.toList=some r):Good P ⟨d,.buildSlice s len ps,t,p,af,g⟩ a w N0 φ r:=by
 unfold fD at hr;split at hr
 · rename_i e he
   split at hr
   · rename_i k z hk hz
     split at hr
     · rename_i hc
       obtain⟨lT,xg,hpz,hvz,hcz⟩:=hc;cases hf:jk k σ ps.toList (List.replicate len z.norm)with
       |none=>simp[hf]at hr
       |some es=>
        simp[hf]at hr;subst hr;obtain⟨zv,hzr,Cm⟩:=u7 (w:=w) hz;obtain⟨r1,r2,r3⟩:=jn (Cm (aB N0 φ w)) hvz;have hzk:zv.cells.size=k:=by rw[r3,hcz]
        have hr0:aG (aB N0 φ w) k (List.replicate len z.norm) (List.replicate len zv.cells.toList).flatten:=
         aG.replicate (by rw[ic,List.length_map,hcz]) (by rw[ic];exact oD r1) len
        obtain⟨vs,Cn,hrow,da,hpure⟩:=ze h ps.toList _ es _ hr0 (fun u hu=>by
         obtain⟨l,hl,hul⟩:=List.mem_flatten.1 hu;rw[List.eq_of_mem_replicate hl]at hul
         exact r2 u hul) (de fun i x hx=>by
          have:=List.eq_of_mem_replicate (List.mem_of_getElem? hx)
          subst this;exact lU hpz) hf
        have hlen:es.length=len:=by
         have: ∀(ps:List (Nat×Operand)) (es z_:List A),jk k σ ps es=some z_->z_.length=es.length:=by
          intro ps;induction ps with
          |nil=>intro es z_ h;simp[jk]at h;rw[h]
          |cons q qs ih=>
           intro es z_ h;obtain⟨i,x⟩:=q;simp only[jk]at h;split at h
           · have:=ih _ _ h;rw[this,ga,List.length_set]
           · simp at h
         have:=this _ _ _ hf;simpa using this
        let w':=w.alloc (.cells vs.toArray e)
        have hg:eL w w':=eL.alloc w _;refine⟨.slice (some ⟨w.heap.size,0,none⟩) len len,w', ?_,hg, ?_⟩
        · have hnt: ¬(len*k>2^24):=by omega
          refine yW (P:=P) ?_;simp only[Instr.buildSlice,Sem.run_bind,run_underlying (dI he),Result.andThen_ok,run_sizeOf hk,if_neg hnt]
          have hmap:(Array.map (fun x=>(x.fst,a.eval x.snd)) ps).toList=ps.toList.map fun p=>(p.1,a.eval p.2):=by simp
          rw[hmap]
          have last: ∀cells:Array Value,cells=(List.replicate len zv.cells.toList).flatten.toArray->
           (match Instr.fill (fun i=>some (i*k,k)) cells (ps.toList.map fun p=>(p.1,a.eval p.2))with
            |some cells=>(do
             let VC<-newRow e cells
             pure (Value.slice (some VC) len len))
            |_=>stuck "buildSlice: a part of the wrong size" :Sem Value).run P w= .ok (.slice (some ⟨w.heap.size,0,none⟩) len len) w':=by
           rintro cells rfl;rw[Cn]
           simp only[newRow,Sem.run_bind,run_newObj,Sem.run_pure,Result.andThen_ok]
           rfl
          split
          · rename_i h0
            simp only[Sem.run_bind,Sem.run_pure,Result.andThen_ok]
            refine last _ ?_;rw[h0]
            rcases Nat.mul_eq_zero.1 h0 with h0|h0
            · subst h0;simp
            · exact absurd h0 xg
          · simp only[Sem.run_bind,hzr,Sem.run_pure,Result.andThen_ok]
            refine last _ ?_;apply Array.ext';simp only[Array.toList_map,Array.toList_range]
            have:=MZ (z:=zv.cells) len;rw[hzk]at this;rw[hzk]
            exact this
        · simp only[aJ]
          refine⟨hpure,some ⟨w.heap.size,0,none⟩,by rw[hlen],fun cg=>⟨w.heap.size,0,rfl,by simp[w',aB], ?_, ?_⟩⟩
          · rintro(h0|⟨n,kk,hn⟩)
            · have:=(h.n0 _ h0).1
              have:=h.below.size;omega
            · have:=(h.own n _ kk hn).2
              omega
          · have hrow':aG (aB N0 φ w') k es vs:=aG.mono (fun x v hx hr=>h.X0 hg hr) hpure hrow
            rw[M1 hrow' cg]
            exact aG.mem hrow' (rangeAt_alloc (fun j v hv=>by simpa using hv)) da
     · simp at hr
   · simp at hr
 · simp at hr
theorem M3(h:aO N0 w0 nt σ φ a w){d:Option Tmp}{op:Op}{t:TypeId}{p:String}{af:Array Edge}{g:Option (Nat×Bool)}{r:A}
 (hr:pk P σ op=some r):Good P ⟨d,op,t,p,af,g⟩ a w N0 φ r:=by
 unfold pk at hr;split at hr
 · obtain rfl:=Option.some.inj hr;exact Vu h
 · obtain rfl:=Option.some.inj hr;exact MT h
 · exact Vv h hr
 · exact Qw h hr
 · exact z' h hr
 · exact Vw h hr
 · exact FU h hr
 · exact Qr h hr
 · exact Vx h hr
 · exact u5 h hr
 · exact FV h hr
 · split at hr
   · rename_i hc
     exact Qv h hc.1 hc.2.1 hc.2.2 hr
   · simp at hr
 · exact Ca h hr
 · exact Qt h hr
 · exact Cj h hr
 · exact Qu h hr
 · exact Jt h hr
 · exact X4 h hr
 · exact X6 h hr
 · exact X7 h hr
 · simp at hr
def po(P:Program)(o:Oper)(a:Act)(w:World)(N0:Nat->Prop)(w0:kD)(nt:Nat)(φ:List dj)(n:Nat)(eF:St):Prop:=
 ∃v w' eT,((Go.execOp a.eval o).run P w= .ok (.value v) w'\/((Go.execOp a.eval o).run P w= .ok .skip w'/\v=undef))/\aO N0 w0 nt eF eT (a.put o.dst v) w'/\ ∀m,m≠n->φ[m]? =some .free->eT[m]? =some .free
theorem tc(h:aO N0 w0 nt σ φ a w){o:Oper}(hd: ∀t,o.dst=some t->t<nt){x:A}(hg:Good P o a w N0 φ x){n:Nat}:po P o a w N0 w0 nt φ n (σ.put o.dst x):=by obtain⟨v,w',hr,Yj,cS⟩:=hg;exact⟨v,w',φ,.inl hr,(h.Vt Yj).put hd cS,fun _ _ h=>h⟩
theorem qj(c:Array Value):nE c (0,0):=fun j _ h=>by simp at h
theorem Ib(h:aO N0 w0 nt σ φ a w){o:Oper}(hd: ∀t,o.dst=some t->t<nt){n:Nat}(bI:φ[n]? =some .free){x:A}{v:Value}{e:TypeId}{eF:St}(hx:aJ (aB N0 φ w) x v)
 (gZ:(Go.execOp a.eval o).run P w= .ok (.value (.pointer (some ⟨w.heap.size,0,none⟩))) (w.alloc (.cells v.cells e)))
 (hr:wZ σ n o.dst x=some eF):po P o a w N0 w0 nt φ n eF:=by
 unfold wZ at hr;split at hr
 · rename_i hv
   obtain rfl:=Option.some.inj hr;obtain⟨r1,r2,r3⟩:=jn hx hv;have hn:n<φ.length:=(List.getElem?_eq_some_iff.1 bI).1
   have FZ:=h.newObj (k:=0) (o:= .box x.cells) (w':=w.alloc (.cells v.cells e)) bI (eL.alloc w _) (Nat.le_refl w.heap.size) (by simp) (by
    simp only[aL]
    refine⟨⟨v.cells,e,(0,0),heap_alloc_new w _,qj _⟩,oz (vs:=v.cells.toList) (rangeAt_alloc fun j u hu=>by simpa using hu) ?_ r2⟩
    obtain⟨g1,g2⟩:=bf.1 r1;refine bf.2 ⟨g1,fun i y u hy hu=> ?_⟩
    have dL:=h.Jw (k:=0) bI (eL.alloc w (.cells v.cells e)) (Nat.le_refl _)
    exact aJ.mono dL y u (g2 i y u hy hu) (fun _ _=>trivial))
   refine⟨_,_,_,.inl gZ,FZ.put hd ?_,fun m hm hf=>by rw[List.getElem?_set_ne (Ne.symm hm)];exact hf⟩
   simp only[aJ]
   exact⟨w.heap.size,0,by show(φ.set n _)[n]? =_;simp[hn],rfl⟩
 · simp at hr
end
end Go.bo
namespace Go.bo
open Go.RowKit
section
variable{P:Program}{N0:Nat->Prop}{w0:kD}{nt:Nat}{σ:St}{φ:List dj}{a:Act}{w:World}
theorem M4(h:aO N0 w0 nt σ φ a w){d:Option Tmp}{e:TypeId}{x:Operand}{t:TypeId}{p:String}{af:Array Edge}{g:Option (Nat×Bool)}(hd: ∀t,d=some t->t<nt){n:Nat}(bI:φ[n]? =some .free){eF:St}
 (hr:wZ σ n d (σ.ev x)=some eF):po P ⟨d,.box e x,t,p,af,g⟩ a w N0 w0 nt φ n eF:=
 Ib (o:=⟨d,.box e x,t,p,af,g⟩) h hd bI (h.ev x) (yW (by simp[Instr.box,newVar,newRow];rfl)) hr
theorem M5(h:aO N0 w0 nt σ φ a w){d:Option Tmp}{e:TypeId}{t:TypeId}{p:String}{af:Array Edge}{g:Option (Nat×Bool)}(hd: ∀t,d=some t->t<nt){n:Nat}(bI:φ[n]? =some .free){eF:St}
 (hr:om σ n d (dQ P e)=some eF):po P ⟨d,.alloc e,t,p,af,g⟩ a w N0 w0 nt φ n eF:=by
 cases hz:dQ P e with
 |none=>simp[hz,om]at hr
 |some z=>
  rw[hz]at hr;simp only[om]at hr;obtain⟨zv,hzr,Cm⟩:=u7 (w:=w) hz;refine Ib (o:=⟨d,.alloc e,t,p,af,g⟩) (e:=e) h hd bI (Cm _) (yW ?_) hr;simp only[Instr.alloc,Sem.run_bind,hzr,Result.andThen_ok,newVar,newRow,run_newObj,Sem.run_pure]
  rfl
theorem zf{t:TypeId}{v:Value}{b off:Nat}(lT:ba P t=some v.cells.size)(ht:w.there b off v.cells.size)(h1: ∀u∈v.cells.toList,u.oneCell'=true):
 (Instr.storeAt t (.pointer (some ⟨b,off,none⟩)) v).run P w= .ok () (w.setCells b off v.cells.toList):=by
 have:=run_storeCells_cells (P:=P) b off v.cells.toList 0 w (fun j hj=>by simpa using(ht j (by simpa using hj)).1) (fun j hj=>by simpa using(ht j (by simpa using hj)).2) h1;simp only[Nat.add_zero]at this;simp[Instr.storeAt,Instr.sureAddr,storeVar,run_sizeOf lT,this]
theorem qk{b off n:Nat}{c:Array Value}{e:TypeId}{fr:Nat×Nat}(hb:w.heap[b]? =some (.cells c e fr))(hf:nE c fr)(hl:off+n<=c.size):w.there b off n:=fun j hj=>by
 have aw:off+j<c.size:=by omega
 refine⟨by simp[World.cell?,hb,aw], ?_⟩
 simp only[World.frozen?,hb]
 have:=hf (off+j) aw;simpa using this
theorem ku{b off:Nat}{vs:List Value}(ht:w.there b off vs.length)(o:Nat):(w.setCells b off vs).cell? ⟨b,o,none⟩=if off<=o/\o<off+vs.length then vs[o-off]? else w.cell? ⟨b,o,none⟩:=by
 split
 · rename_i hc
   have:=World.cell?_setCells_in b vs off w (fun j hj=>(ht j hj).1) (o-off) (by omega)
   rw[show off+(o-off)=o by omega]at this;rw[this,List.getElem?_eq_getElem (by omega)]
 · rename_i hc
   exact World.cell?_setCells_out b vs off w ⟨b,o,none⟩ (fun _ _=>by show o<off\/off+vs.length<=o;omega)
theorem zg{E E':Env}(dL: ∀x v,aJ E x v->aJ E' x v){b off:Nat}{vs:List Value}{cs ys:List A}{base:Nat}(hw:E'.w=E.w.setCells b (base+off) vs)(ht:E.w.there b (base+off) vs.length)(hm:gn E b base cs)(hL:aQ E ys vs)(da: ∀u∈vs,u.oneCell'=true)
 (hle:off+ys.length<=cs.length):gn E' b base (eB cs off ys):=by
 obtain⟨g1,g2⟩:=bf.1 hL;refine bg.2 fun i x hx=> ?_;rw[hw,ku ht]
 unfold eB at hx;by_cases h1:i<off
 · rw[List.append_assoc,List.getElem?_append_left (by simp;omega),List.getElem?_take,if_pos h1]at hx
   rw[if_neg (by omega)]
   obtain⟨v,hv,h2,hr⟩:=bg.1 hm i x hx;exact⟨v,hv,h2,dL x v hr⟩
 · by_cases h2:i<off+ys.length
   · rw[List.append_assoc,List.getElem?_append_right (by simp;omega),List.getElem?_append_left (by simp;omega)]at hx
     have hlen:(cs.take off).length=off:=by simp;omega
     rw[hlen]at hx;rw[if_pos (by omega)]
     have aw:i-off<vs.length:=by omega
     refine⟨vs[i-off], ?_,da _ (List.getElem_mem _),dL _ _ (g2 (i-off) x _ hx (List.getElem?_eq_getElem aw))⟩
     rw[show base+i-(base+off)=i-off by omega,List.getElem?_eq_getElem aw]
   · rw[List.getElem?_append_right (by simp;omega),List.getElem?_drop]at hx
     have hlen:(cs.take off++ys).length=off+ys.length:=by simp;omega
     rw[hlen,show off+ys.length+(i-(off+ys.length))=i by omega]at hx;rw[if_neg (by omega)]
     obtain⟨v,hv,h3,hr⟩:=bg.1 hm i x hx;exact⟨v,hv,h3,dL x v hr⟩
theorem Cq{E:Env}{b base:Nat}{c:Array Value}{e:TypeId}{fr:Nat×Nat}{cs:List A}(hb:E.w.heap[b]? =some (.cells c e fr))(hm:gn E b base cs):base+cs.length<=c.size\/cs=[]:=by
 cases Bv:cs with
 |nil=>exact .inr rfl
 |cons y ys=>
  left;have aw:cs.length-1<cs.length:=by rw[Bv];simp
  obtain⟨v,hv,_⟩:=bg.1 hm (cs.length-1) _ (List.getElem?_eq_getElem aw)
  simp only[World.cell?,hb]at hv
  have:base+(cs.length-1)<c.size:=by
   rcases Nat.lt_or_ge (base+(cs.length-1)) c.size with h|h
   · exact h
   · simp[Array.getElem?_eq_none h]at hv
  rw[<-Bv]
  omega
theorem M6(h:aO N0 w0 nt σ φ a w){d:Option Tmp}{s:TypeId}{x y:Operand}{t:TypeId}{p:String}{af:Array Edge}{g:Option (Nat×Bool)}(hd: ∀t,d=some t->t<nt){n:Nat}{eF:St}
 (hr:oo σ d (ba P s) (σ.ev x) (σ.ev y)=some eF):po P ⟨d,.store s x y,t,p,af,g⟩ a w N0 w0 nt φ n eF:=by
 have hx:=h.ev x;have hy:=h.ev y;cases hc:σ.ev x<;>simp only[hc,oo]at hr<;>try(simp at hr;done)
 · rename_i n off
   rw[hc]at hx;simp only[aJ]at hx;obtain⟨b,k,fA,hv⟩:=hx;split at hr
   · rename_i cs ho
     split at hr
     · rename_i dD
       obtain⟨c1,c2,c3⟩:=dD;obtain rfl:=Option.some.inj hr;obtain⟨r1,r2,r3⟩:=jn hy c3;have fC:=h.c7 n _ _ ho fA;simp only[aL]at fC;obtain⟨⟨c,e,fr,hb,hf⟩,hm⟩:=fC
       have lT:cs.length<=c.size:=by
        rcases Cq hb hm with h|h
        · omega
        · subst h;simp
       have ht:w.there b off (a.eval y).cells.size:=qk hb hf (by omega)
       have ht':w.there b (0+off) (a.eval y).cells.toList.length:=by simpa using ht
       obtain⟨M0,ql,hss'⟩:=(fa (b:=b) (a.eval y).cells.toList off w).2.2.2.2.2.2 c e fr hb;have dL:=h.nF off (a.eval y).cells.toList fA
       have hw:=h.write (o:= .box (eB cs off (σ.ev y).cells)) (off:=off) (vs:=(a.eval y).cells.toList) fA (by
        simp only[aL]
        exact⟨⟨M0,e,fr,ql,fun j hj=>hf j (by omega)⟩,zg (fun x v hr=>aJ.mono dL x v hr (fun _ _=>trivial)) (by simp[aB]) ht' hm r1 r2 c2⟩)
       refine⟨undef,_,φ,.inr ⟨?_,rfl⟩,hw.put hd (xa _),fun _ _ h=>h⟩
       refine run_u (s:=Instr.storeAt s (a.eval x) (a.eval y)) ?_;rw[hv]
       exact zf (by rw[r3];exact c1) ht r2
     · simp at hr
   · simp at hr
 · rename_i n i off
   rw[hc]at hx;simp only[aJ]at hx;obtain⟨b,k,fA,hv⟩:=hx;split at hr
   · rename_i k' es ho
     cases hi:es[i]? with
     |none=>simp[hi]at hr
     |some e=>
      simp only[hi,Option.bind_some]at hr;split at hr
      · rename_i dD
        obtain⟨c1,c2,c0,c3,c4⟩:=dD;obtain rfl:=Option.some.inj hr;obtain⟨r1,r2,r3⟩:=jn hy c3;have fC:=h.c7 n _ _ ho fA;simp only[aL]at fC;obtain⟨rfl,hp,⟨c,ee,fr,hb,hf⟩,hE⟩:=fC;obtain⟨hlen,hm⟩:=dd.1 hE i e hi;rw[Nat.zero_add]at hm
        have lT:i*k'+e.cells.length<=c.size:=by
         rcases Cq hb hm with h|h
         · exact h
         · exfalso
           have h':(σ.ev y).cells.length<=e.cells.length:=by omega
           rw[h]at h';exact c0 (by simpa using h')
        have qi:w.heap[b]? =some (.cells c ee fr):=hb;have ht:w.there b (i*k'+off) (a.eval y).cells.size:=qk qi hf (by omega)
        have ht':w.there b (i*k'+off) (a.eval y).cells.toList.length:=by simpa using ht
        obtain⟨M0,ql,hss'⟩:=(fa (b:=b) (a.eval y).cells.toList (i*k'+off) w).2.2.2.2.2.2 c ee fr hb;have dL:=h.nF (i*k'+off) (a.eval y).cells.toList fA;have r1':aQ (aB N0 φ w) (σ.ev y).norm.cells (a.eval y).cells.toList:=by rw[ic];exact oD r1
        have Yk:(σ.ev y).norm.cells.length=(σ.ev y).cells.length:=by rw[ic,List.length_map]
        have Qc:=aM hp hi
        have hse:(l_ e off (σ.ev y)).cells=eB e.cells off (σ.ev y).norm.cells/\(l_ e off (σ.ev y)).pure=true:=by
         cases e
         case agg cs=>
          simp only[l_,A.cells,true_and,A.pure]
          refine de fun j z hz=> ?_;unfold eB at hz;have j_:=List.mem_of_getElem? hz;simp only[List.mem_append]at j_;have hpcs:A.pure.a_ cs=true:=by simpa only[A.pure]using Qc
          have hpy:=me (lU c4)
          rcases j_ with(jz|jz)|jz
          · obtain⟨q,hq⟩:=List.getElem?_of_mem (List.mem_of_mem_take jz);exact aM hpcs hq
          · obtain⟨q,hq⟩:=List.getElem?_of_mem jz;exact aM hpy hq
          · obtain⟨q,hq⟩:=List.getElem?_of_mem (List.mem_of_mem_drop jz);exact aM hpcs hq
         all_goals
          refine⟨?_,lU c4⟩
          have c2':off+(σ.ev y).cells.length<=1:=c2;have e0:off=0:=by omega
          have e1:(σ.ev y).norm.cells.length=1:=by omega
          subst e0;show(σ.ev y).norm.cells=List.take 0 _++(σ.ev y).norm.cells++List.drop (0+(σ.ev y).norm.cells.length) [_]
          rw[List.drop_of_length_le (by simp;omega)]
          simp
        have hw:=h.write (o:= .row k' (cC es i (l_ e off (σ.ev y)))) (off:=i*k'+off) (vs:=(a.eval y).cells.toList) fA (by
         simp only[aL]
         refine⟨trivial, ?_,⟨M0,ee,fr,ql,fun j hj=>hf j (by omega)⟩, ?_⟩
         · rw[ga]
           refine de fun j z hz=> ?_;rw[List.getElem?_set]at hz;split at hz
           · first
              |(simp at hz;subst hz;exact hse.2)
              |(split at hz
                · simp at hz;subst hz;exact hse.2
                · simp at hz)
           · exact aM hp hz
         · rw[ga]
           refine dd.2 fun j z hz=> ?_;rw[List.getElem?_set]at hz;by_cases VD:i=j
           · subst VD
             have hz':z=l_ e off (σ.ev y):=by have aw:=(List.getElem?_eq_some_iff.1 hi).1;simp[aw]at hz;exact hz.symm
             subst hz';rw[hse.1,Nat.zero_add]
             refine⟨by unfold eB;simp;omega, ?_⟩
             exact zg (fun x v hr=>aJ.mono dL x v hr (fun _ _=>trivial)) rfl ht' hm r1' r2 (by omega)
           · rw[if_neg VD]at hz
             obtain⟨hl,hmm⟩:=dd.1 hE j z hz;refine⟨hl,bg.2 fun q u hu=> ?_⟩
             obtain⟨v,xb,h1,VE⟩:=bg.1 hmm q u hu;refine⟨v, ?_,h1,aJ.mono dL u v VE (fun _ _=>trivial)⟩
             show(w.setCells b (i*k'+off) (a.eval y).cells.toList).cell? _=_;have hq:q<k':=by rw[<-hl];exact(List.getElem?_eq_some_iff.1 hu).1
             have hlen':(a.eval y).cells.toList.length=(σ.ev y).cells.length:=by simpa using r3
             rw[ku ht',if_neg]
             · exact xb
             · rintro⟨q1,q2⟩
               rw[hlen']at q2;rcases Nat.lt_or_gt_of_ne VD with aw|hgt
               · have:(i+1)*k'<=j*k':=Nat.mul_le_mul_right k' aw
                 rw[Nat.add_mul,Nat.one_mul]at this;omega
               · have:(j+1)*k'<=i*k':=Nat.mul_le_mul_right k' hgt
                 rw[Nat.add_mul,Nat.one_mul]at this;omega)
        refine⟨undef,_,φ,.inr ⟨?_,rfl⟩,hw.put hd (xa _),fun _ _ h=>h⟩
        refine run_u (s:=Instr.storeAt s (a.eval x) (a.eval y)) ?_;rw[hv]
        exact zf (by rw[r3];exact c1) ht r2
      · simp at hr
   · simp at hr
end
end Go.bo
namespace Go.bo
open Go.RowKit
section
variable{P:Program}{N0:Nat->Prop}{w0:kD}{nt:Nat}{σ:St}{φ:List dj}{a:Act}{w:World}
theorem nG(n:Nat): ∀(s:List (Nat×A)) (d:Nat),look (s.map fun p=>(p.1,eo n p.2)) d=eo n (look s d)
 | [],d=>by simp[look,eo,A.mem]
 |(i,v)::s,d=>by
  simp only[List.map_cons,look]
  split
  · rfl
  · exact nG n s d
theorem Cr(n:Nat)(x:A):(eo n x).mem n=false:=by
 unfold eo;split
 · rfl
 · rename_i h;simpa using h
theorem Ic{E:Env}{n:Nat}{x:A}{v:Value}(h:aJ E x v):aJ E (eo n x) v:=by
 unfold eo;split
 · simp only[aJ]
 · exact h
theorem Cs(n:Nat): ∀cs:List A,A.mem.gm n (cs.map (eo n))=false
 | []=>rfl
 |c::cs=>by simp[A.mem.gm,Cr,Cs n cs]
theorem Ct(f:Obj->Obj)(H:List Obj)(n:Nat):cn (H.map f) n=(cn H n).map f:=by simp[bH,List.getElem?_map]
def Clear(σ:St)(n:Nat):Prop:=(∀d,(look σ.s d).mem n=false)/\ ∀(m:Nat) (cs:List A),cn σ.H m=some (.box cs)->A.mem.gm n cs=false
theorem aO.fR(h:aO N0 w0 nt σ φ a w)(n:Nat):aO N0 w0 nt (σ.fR n) φ a w:=by
 exact{h with
  cW:=fun d=>by
   show aJ _ (look (σ.s.map fun p=>(p.1,eo n p.2)) d) _;rw[nG]
   exact Ic (h.cW d)
  len:=by simp[St.fR,h.len]
  c7:=fun m o p ho hp=>by
   simp only[St.fR]at ho;rw[Ct]at ho;cases hm:cn σ.H m with
   |none=>simp[hm]at ho
   |some o'=>
    simp[hm]at ho;subst ho;have fC:=h.c7 m o' p hm hp;cases o' with
    |row k es=>exact fC
    |box cs=>
     cases p with
     |loc b k=>
      simp only[og,aL]at fC⊢;refine⟨fC.1,bg.2 fun i x hx=> ?_⟩
      rw[List.getElem?_map]at hx;cases hc:cs[i]? with
      |none=>simp[hc]at hx
      |some c=>
       simp[hc]at hx;subst hx;obtain⟨v,hv,h1,hr⟩:=bg.1 fC.2 i c hc;exact⟨v,hv,h1,Ic hr⟩
     |nil=>simp[aL]at fC
     |free=>simp[aL]at fC
  size:=h.size
  defers:=h.defers}
theorem zh(σ:St)(n:Nat):Clear (σ.fR n) n:=by
 refine⟨fun d=> ?_,fun m cs hm=> ?_⟩
 · show(look (σ.s.map fun p=>(p.1,eo n p.2)) d).mem n=false
   rw[nG];exact Cr n _
 · simp only[St.fR]at hm
   rw[Ct]at hm;cases ho:cn σ.H m with
   |none=>simp[ho]at hm
   |some o=>
    simp[ho]at hm;cases o with
    |row k es=>simp[og]at hm
    |box ds=>simp[og]at hm;subst hm;exact Cs n ds
theorem aO.rehome(h:aO N0 w0 nt σ φ a w){n:Nat}(uT:w0.fix n=false)(jV:Clear σ n)(hn:n<φ.length){p:dj}{o:Obj}{w':World}(g:eL w w')
 (hp: ∀b k,p=dj.loc b k->w.heap.size<=b/\b<w'.heap.size)
 (ho: ∀dL:Ext (fun m=>m≠n) (aB N0 φ w) (aB N0 (φ.set n p) w'),aL (aB N0 (φ.set n p) w') o p):aO N0 w0 nt (σ.dc n o) (φ.set n p) a w'/\Ext (fun m=>m≠n) (aB N0 φ w) (aB N0 (φ.set n p) w'):=by
 have fS:=u9 (φ:=φ) (n:=n) (p:=p) hn
 have dL:Ext (fun m=>m≠n) (aB N0 φ w) (aB N0 (φ.set n p) w'):={
  size:=g.size
  MI:=fun c hc Yi=>⟨by
   rintro(h0|⟨m,k',hm⟩)
   · exact Yi (.inl h0)
   · rw[fS]at hm
     split at hm
     · simp at hm
       have:=(hp c k' hm).1;have:c<w.heap.size:=hc;omega
     · exact Yi (.inr ⟨m,k',hm⟩),g.block c hc⟩
  refs:=fun m q hmn hm _=>by show(φ.set n p)[m]? =some q;rw[fS,if_neg (fun e=>hmn e.symm)];exact hm
  own:=fun m c k' cc e fr _ hm hc=>⟨cc,fr,by show w'.heap[c]? =_;rw[g.block c (h.own m c k' hm).2];exact hc,rfl⟩}
 refine⟨{
  cW:=fun d=>aJ.mono dL _ _ (h.cW d) (fun m hm e=>by subst e;have jz:A.mem m (look σ.s d)=true:=hm;rw[jV.1 d]at jz;cases jz)
  size:=h.size
  defers:=h.defers
  len:=by simp[St.dc,dU,h.len]
  c7:=fun m o' q hm hq=>by
   rw[fS]at hq;simp only[St.dc]at hm;rw[dU,bH,List.getElem?_set]at hm;split at hq
   · rename_i e
     subst e;simp at hq;subst hq;rw[if_pos rfl]at hm;split at hm
     · simp at hm;subst hm;exact ho dL
     · simp at hm
   · rename_i e
     rw[if_neg e]at hm;have jz:cn σ.H m=some o':=by rw[bH];exact hm
     exact aL.mono dL (h.c7 m o' q jz hq) (fun c k' hc cc ee fr hh=>by subst hc;show w'.heap[c]? =_;rw[g.block c (h.own m c k' hq).2];exact hh) (fun cs Bv m' hm'' e'=>by subst Bv;subst e';rw[jV.2 m cs jz]at hm'';cases hm'')
  own:=fun m c k' hm=>by
   rw[fS]at hm;split at hm
   · simp at hm
     have:=hp c k' hm;exact⟨.inl (Nat.le_trans h.below.size this.1),this.2⟩
   · exact⟨(h.own m c k' hm).1,Nat.lt_of_lt_of_le (h.own m c k' hm).2 g.size⟩
  inj:=fun m m' c k' FP hm jz=>by
   rw[fS]at hm jz;split at hm<;>split at jz
   · rename_i e1 e2;rw[<-e1,<-e2]
   · simp at hm
     have:=(hp c k' hm).1;have:=(h.own m' c FP jz).2;omega
   · simp at jz
     have:=(hp c FP jz).1;have:=(h.own m c k' hm).2;omega
   · exact h.inj m m' c k' FP hm jz
  n0:=h.n0
  lD:=fun m q hf hm hq=>by
   rw[fS,if_neg (fun e=>by subst e;rw[uT]at hf;cases hf)]
   exact h.lD m q hf hm hq
  below:=g.below h.below},dL⟩
end
end Go.bo
namespace Go.bo
open Go.RowKit
section
variable{P:Program}{N0:Nat->Prop}{w0:kD}{nt:Nat}{σ:St}{φ:List dj}{a:Act}{w:World}
theorem nH{E:Env}{tx e':TypeId}(hk:P.underlying tx=some (.slice e')){es:List A}{k:Nat}{q:Option Addr}{cap:Nat}
 (hr:es≠ []-> ∃b off,q=some ⟨b,off,none⟩/\eJ E k b off es): ∃news,Src P k tx (.slice q es.length cap) es.length news E.w/\aG E k es news:=by
 cases Ci:es with
 |nil=>
  refine⟨[], ?_,by simp[aG]⟩
  cases q with
  |none=>exact Src.ofNil E.w hk cap
  |some q=>exact Src.ofSlice E.w hk q 0 cap [] (by simp) (by simp) (by simp)
 |cons y ys=>
  rw[<-Ci]
  obtain⟨b,off,rfl,hE⟩:=hr (by rw[Ci];simp)
  obtain⟨vs,h1,h2,h3⟩:=aG.Cp hE;refine⟨vs,Src.ofSlice E.w hk ⟨b,off,none⟩ es.length cap vs h1.length (fun j u hu=> ?_) h3,h1⟩
  rw[Addr.add_lit]
  exact h2 j u hu
theorem xh(E:Env): ∀s:List UInt8,aG E 1 (dC s) (s.map fun b=>Value.int .u8 b.toNat)
 | []=>by simp[dC,aG]
 |c::s=>by
  simp only[dC,List.map_cons,aG]
  refine⟨rfl,by simp, ?_, ?_⟩
  · simp[iM,A.cells,aQ,aJ]
  · simpa[dC]using xh E s
theorem tJ: ∀s:List UInt8,A.pure.a_ (dC s)=true
 | []=>rfl
 |c::s=>by simp only[dC,List.map_cons,A.pure.a_,iM,A.pure,Bool.true_and];exact tJ s
theorem VF(h:aO N0 w0 nt σ φ a w){e tx k:Nat}{x:Operand}{src:List A}(hs:zY P σ e tx k (σ.ev x)=some src):
 ∃news,Src P k tx (a.eval x) src.length news w/\aG (aB N0 φ w) k src news/\A.pure.a_ src=true:=by
 have hx:=h.ev x
 have Ty: ∀{es:List A},lj k es=true->es≠ []->cd es=k:=fun{es} h1 h2=>by
  unfold lj at h1;cases es with
  |nil=>exact absurd rfl h2
  |cons y ys=>simpa using h1
 have pW: ∀{t:TypeId},(aX P t).isSome=true-> ∃e',P.underlying t=some (.slice e'):=fun{t} ht=>by
  cases hq:aX P t with
  |none=>simp[hq]at ht
  |some e'=>exact⟨e',dI hq⟩
 cases hc:σ.ev x<;>simp only[hc,zY]at hs<;>try(simp at hs;done)
 case str s=>
  split at hs
  · rename_i dD
    obtain⟨_,rfl,ht⟩:=dD;obtain rfl:=Option.some.inj hs;rw[hc]at hx;simp only[aJ]at hx;rw[hx]
    have:=Src.ofString (P:=P) w (jH ht) ⟨s.toArray⟩
    refine⟨byteCells ⟨s.toArray⟩, ?_, ?_,tJ s⟩
    · simpa[dC,oB]using this
    · simpa[byteCells]using xh (aB N0 φ w) s
  · simp at hs
 case ab es=>
  split at hs
  · rename_i dD
    obtain rfl:=Option.some.inj hs;obtain⟨e',wR⟩:=pW dD.2;rw[hc]at hx;simp only[aJ]at hx;obtain⟨hp,q,cap,hv,rQ,hl⟩:=hx;rw[hv]
    obtain⟨news,h1,h2⟩:=nH (E:=aB N0 φ w) (k:=k) (q:=q) (cap:=cap) wR (es:=es) (fun cg=>by obtain⟨b,off,h1,_,_,h2⟩:=hl cg;rw[Ty dD.1 cg]at h2;exact⟨b,off,h1,h2⟩)
    exact⟨news,h1,h2,hp⟩
  · simp at hs
 case clip es=>
  split at hs
  · rename_i dD
    obtain rfl:=Option.some.inj hs;obtain⟨e',wR⟩:=pW dD.2;rw[hc]at hx;simp only[aJ]at hx;obtain⟨hp,q,hv,hl⟩:=hx;rw[hv]
    obtain⟨news,h1,h2⟩:=nH (E:=aB N0 φ w) (k:=k) (q:=q) (cap:=es.length) wR (es:=es) (fun cg=>by obtain⟨b,off,h1,_,_,h2⟩:=hl cg;rw[Ty dD.1 cg]at h2;exact⟨b,off,h1,h2⟩)
    exact⟨news,h1,h2,hp⟩
  · simp at hs
 case bT=>
  split at hs
  · rename_i dD
    obtain rfl:=Option.some.inj hs;obtain⟨e',wR⟩:=pW dD;rw[hc]at hx;simp only[aJ]at hx;rw[hx]
    exact⟨[],Src.ofNil w wR 0,by simp[aG],rfl⟩
  · simp at hs
 case emp c=>
  split at hs
  · rename_i dD
    obtain rfl:=Option.some.inj hs;obtain⟨e',wR⟩:=pW dD;rw[hc]at hx;simp only[aJ]at hx;obtain⟨q,cap,hv,_⟩:=hx;rw[hv]
    obtain⟨news,h1,h2⟩:=nH (E:=aB N0 φ w) (k:=k) (q:=q) (cap:=cap) wR (es:=[]) (fun cg=>absurd rfl cg)
    exact⟨news,h1,h2,rfl⟩
  · simp at hs
 case row n off k' len cl=>
  split at hs
  · rename_i dD
    obtain⟨rfl,ht⟩:=dD;obtain⟨e',wR⟩:=pW ht;unfold gO at hs;split at hs
    · rename_i es td
      obtain rfl:=Option.some.inj hs;split at td
      · rename_i FP fs ho
        split at td
        · rename_i hlen
          obtain⟨rfl,hlen⟩:=hlen;simp only[Option.some.injEq,A.ab.injEq]at td;subst td;rw[hc]at hx;have hl:((fs.drop off).take len).length=len:=by simp;omega
          simp only[aJ]at hx;rcases hx with⟨o,fA,hf,rfl,_,q,hv⟩|⟨b,cap,c',e'',fr,fA,hv,rQ,_,hb,_⟩
          · rw[hv]
            obtain⟨news,h1,h2⟩:=nH (E:=aB N0 φ w) (k:=FP) (q:=q) (cap:=0) wR (es:=[]) (fun cg=>absurd rfl cg)
            exact⟨news,by simpa[aB]using h1,by simpa using h2,by simp[A.pure.a_]⟩
          · have fC:=h.c7 n _ _ ho fA
            simp only[aL]at fC;obtain⟨_,hp,_,hE⟩:=fC;have Xy:=nD (n:=len) (w7 (n:=off) hE)
            have tb:=mc (n:=len) (mb (n:=off) hp)
            rw[hv]
            obtain⟨news,h1,h2⟩:=nH (E:=aB N0 φ w) (k:=FP) (q:=some ⟨b,off*FP,none⟩) (cap:=cap) wR (es:=(fs.drop off).take len) (fun _=>⟨b,_,rfl,by simpa using Xy⟩)
            rw[hl]at h1;exact⟨news,by rw[hl];exact h1,h2,tb⟩
        · simp at td
      · simp at td
    · simp at hs
  · simp at hs
theorem Ie{E':Env}{B k:Nat}{e:TypeId}{vs:List Value}{zs:Array Value}{es:List A}(hB:E'.w.heap[B]? =some (.cells (vs.toArray++zs) e (0,0)))
 (hr:aG E' k es vs) (da: ∀u∈vs,u.oneCell'=true) (hp:A.pure.a_ es=true):aL E' (.row k es) (.loc B k):=by
 simp only[aL]
 refine⟨trivial,hp,⟨_,e,(0,0),hB,qj _⟩,aG.mem hr (fun j u hu=> ?_) da⟩
 have aw:=(List.getElem?_eq_some_iff.1 hu).1;simp only[World.cell?,hB,Nat.zero_add]
 have:=Array.getElem?_append_left (xs:=vs.toArray) (ys:=zs) (i:=j) (by simpa using aw)
 simp only[this]
 simpa using hu
structure Tz(P:Program)(t e:TypeId)(k:Nat)(i:TypeInfo)(z:Value):Prop where
 ty:P.underlying t=some (.slice e)
 info:P.info? e=some i
 size:i.size=k
 zero:i.zero=some z
 cells:z.cells.size=k
 pos:k≠0
 bytes:i.bytes≠0
theorem app_ty{t e:TypeId}{k:Nat}(he:aX P t=some e)(hk:ba P e=some k)(h0:k≠0)(hb:fk P e≠0)(hz:jC P e k=true): ∃i z,Tz P t e k i z/\i.bytes=fk P e:=by
 have hty:=dI he;unfold ba at hk;cases hi:P.info? e with
 |none=>simp[hi]at hk
 |some i=>
  simp[hi]at hk;unfold jC at hz;cases hzz:dQ P e with
  |none=>simp[hzz]at hz
  |some zz=>
   rw[hzz]at hz;simp only[Bool.and_eq_true,beq_iff_eq]at hz;have hz0:=hzz;unfold dQ at hz0;simp only[hi,Option.bind_some]at hz0;cases hiz:i.zero with
   |none=>simp[hiz]at hz0
   |some z=>
    simp[hiz]at hz0;have cS:=Js (aB (fun _=>False) [] (default:World)) z;rw[hz0]at cS;obtain⟨_,_,h3⟩:=jn cS hz.1;have X8:i.bytes=fk P e:=by simp[fk,Program.bytesOf,hi]
    exact⟨i,z,⟨hty,hi,hk,hiz,by rw[h3];exact hz.2,h0,by rw[X8];exact hb⟩,X8⟩
theorem kE{d:Option Tmp}{b x:Operand}{t tx ty:TypeId}{p:String}{af:Array Edge}{g:Option (Nat×Bool)}{v:Value}{w':World}
 (h:(Builtin.append_ #[t,tx] ty #[a.eval b,a.eval x]).run P w= .ok v w'):
 (Go.execOp a.eval ⟨d,.call ⟨.builtin .append,⟨[b,x]⟩,⟨[t,tx]⟩⟩,ty,p,af,g⟩).run P w= .ok (.value v) w':=by
 obtain⟨cs,Bv⟩:=qa (P:=P) (a:=a) (w:=w) (b:= .append) (xs:=[b,x]) (us:=⟨[t,tx]⟩) (d:=d) (t:=ty) (p:=p) (af:=af) (g:=g)
 rw[Bv]
 exact yW (s:=Builtin.append_ #[t,tx] ty #[a.eval b,a.eval x]) h
end
end Go.bo
namespace Go.bo
open Go.RowKit
section
variable{P:Program}{N0:Nat->Prop}{w0:kD}{nt:Nat}{σ:St}{φ:List dj}{a:Act}{w:World}
theorem Yl{k cap:Nat}{q:Option Addr}:(Builtin.firstCells k 0 (.slice q 0 cap)).run P w= .ok (#[]:Array Value) w:=by
 cases q with
 |none=>exact run_firstCells_none w k 0 0 cap
 |some q=>
  have:=run_firstCells_some (P:=P) w k 0 q 0 cap [] (by simp) (by simp)
  simpa using this
theorem M7{k len cap b off:Nat}{vs:List Value}(hl:vs.length=len*k)(hr:w.rangeAt b off vs):(Builtin.firstCells k len (.slice (some ⟨b,off,none⟩) len cap)).run P w= .ok vs.toArray w:=
 run_firstCells_some w k len ⟨b,off,none⟩ len cap vs hl (fun j v hv=>by rw[Addr.add_lit];exact hr j v hv)
theorem M8{t e k tx ty:Nat}{i:TypeInfo}{z:Value}(hT:Tz P t e k i z){q:Option Addr}{u_ Aa n:Nat}{olds news:List Value}{x:Value}
 (hold:(Builtin.firstCells k u_ (.slice q u_ Aa)).run P w.drew= .ok olds.toArray w.drew) (u6:olds.length=u_*k) (hs:Src P k tx x n news w)
 (hg:Aa<u_+n) (FX:(u_+n)*i.bytes<=140737488355328):
 ∃w' c zs,(Builtin.append_ #[t,tx] ty #[.slice q u_ Aa,x]).run P w= .ok (.slice (some ⟨w.heap.size,0,none⟩) (u_+n) c) w'/\eL w w'/\w.heap.size<w'.heap.size/\u_+n<=c/\
  w'.heap[w.heap.size]? =some (.cells ((olds++news).toArray++zs) e (0,0))/\k*c<=((olds++news).toArray++zs).size:=by
 obtain⟨h1,h2,rfl,h4,h5,h6,h7⟩:=hT;have Xx:1<=i.bytes:=by omega
 have h63:u_+n<=140737488355328:=Nat.le_trans (Nat.le_mul_of_pos_right _ Xx) FX;have VB:=grownCap_ge w (u_+n) Aa e;refine⟨_,grownCap w (u_+n) Aa e,Builtin.zeroCells z.cells (grownCap w (u_+n) Aa e-(u_+n)),run_append_grow_src (P:=P) w t tx ty e i z h1 h2 h4 q u_ Aa olds hold x n news hs hg (by omega) (growslice_fits hg FX), ?_, ?_,VB, ?_, ?_⟩
 · exact(eL.drew w).trans (eL.alloc _ _)
 · simp
 · exact heap_alloc_new w.drew _
 · have Yk:=hs.newsLen
   simp only[Array.size_append,List.size_toArray,List.length_append,u6,Yk,size_zeroCells,h5]
   rw[<-Nat.add_mul,<-Nat.add_mul,Nat.mul_comm]
   exact Nat.mul_le_mul_right _ (by omega)
theorem aO.ext_nil(_h:aO N0 w0 nt σ φ a w){n:Nat}(bI:φ[n]? =some .free):Ext (fun _=>True) (aB N0 φ w) (aB N0 (φ.set n .nil) w):=by
 have fS:=u9 (φ:=φ) (n:=n) (p:=dj.nil) (List.getElem?_eq_some_iff.1 bI).1
 exact{
  size:=Nat.le_refl _
  MI:=fun c hc Yi=>⟨by
   rintro(h0|⟨m,k',hm⟩)
   · exact Yi (.inl h0)
   · rw[fS]at hm
     split at hm
     · simp at hm
     · exact Yi (.inr ⟨m,k',hm⟩),rfl⟩
  refs:=fun m p _ hm hp=>by
   show(φ.set n dj.nil)[m]? =some p;rw[fS]
   split
   · rename_i e;subst e
     have:φ[n]? =some p:=hm;rw[bI]at this;simp at this;exact absurd this.symm hp
   · exact hm
  own:=fun m c k' cc e fr _ hm hc=>⟨cc,fr,hc,rfl⟩}
theorem aO.Ym(h:aO N0 w0 nt σ φ a w){n k:Nat}(bI:φ[n]? =some .free):aO N0 w0 nt (σ.dc n (.row k [])) (φ.set n .nil) a w:=by
 have fS:=u9 (φ:=φ) (n:=n) (p:=dj.nil) (List.getElem?_eq_some_iff.1 bI).1;have dL:=h.ext_nil bI
 exact{
  cW:=fun d=>aJ.mono dL _ _ (h.cW d) (fun _ _=>trivial)
  size:=h.size
  defers:=h.defers
  len:=by simp[St.dc,dU,h.len]
  c7:=fun m o' p hm hp=>by
   rw[fS]at hp;simp only[St.dc]at hm;rw[dU,bH,List.getElem?_set]at hm;split at hp
   · rename_i e
     subst e;simp at hp;subst hp;rw[if_pos rfl]at hm;split at hm
     · simp at hm;subst hm;simp[aL]
     · simp at hm
   · rename_i e
     rw[if_neg e]at hm;exact aL.mono dL (h.c7 m o' p (by rw[bH];exact hm) hp) (fun c k' hc cc ee fr hh=>hh) (fun _ _ _ _=>trivial)
  own:=fun m c k' hm=>by
   rw[fS]at hm;split at hm
   · simp at hm
   · exact h.own m c k' hm
  inj:=fun m m' c k' FP hm jz=>by
   rw[fS]at hm jz;split at hm<;>split at jz
   · simp at hm
   · simp at hm
   · simp at jz
   · exact h.inj m m' c k' FP hm jz
  n0:=h.n0
  lD:=fun m q hf hm hq=>by
   have:=h.lD m q hf hm hq;rw[fS]
   split
   · rename_i e;subst e;rw[bI]at this;exact absurd (Option.some.inj this).symm hq
   · exact this
  below:=h.below}
theorem aO.setObj(h:aO N0 w0 nt σ φ a w){n:Nat}{o:Obj}(ho: ∀p,φ[n]? =some p->aL (aB N0 φ w) o p):aO N0 w0 nt (σ.dc n o) φ a w:=
 {h with
  cW:=h.cW
  len:=by simp[St.dc,dU,h.len]
  c7:=fun m o' p hm hp=>by
   simp only[St.dc]at hm;rw[dU,bH,List.getElem?_set]at hm;split at hm
   · rename_i e
     subst e;split at hm
     · simp at hm;subst hm;exact ho p hp
     · simp at hm
   · exact h.c7 m o' p (by rw[bH];exact hm) hp}
theorem Bx(h:aO N0 w0 nt σ φ a w){d:Option Tmp}{b x:Operand}{t tx ty:TypeId}{p:String}{af:Array Edge}{g:Option (Nat×Bool)}(hd: ∀t,d=some t->t<nt){n:Nat}(bI:φ[n]? =some .free)
 {e k:Nat} {i:TypeInfo} {z:Value} (hT:Tz P t e k i z) {q:Option Addr} {es src:List A} {news:List Value} (hbv:a.eval b= .slice q es.length es.length)
 (Ci:es≠ []-> ∃B off,q=some ⟨B,off,none⟩/\eJ (aB N0 φ w) k B off es) (Qc:A.pure.a_ es=true) (hc:es=[]\/src≠ [])
 (hs:Src P k tx (a.eval x) src.length news w) (hn:aG (aB N0 φ w) k src news) (VG:A.pure.a_ src=true) (FX:(es.length+src.length)*i.bytes<=140737488355328):
 po P ⟨d,.call ⟨.builtin .append,⟨[b,x]⟩,⟨[t,tx]⟩⟩,ty,p,af,g⟩ a w N0 w0 nt φ n ((σ.dc n (.row k (es++src))).put d (.row n 0 k (es.length+src.length) false)):=by
 have aw:n<φ.length:=(List.getElem?_eq_some_iff.1 bI).1;by_cases Ab:src=[]
 · have hes0:es=[]:=by
    rcases hc with h|h
    · exact h
    · exact absurd Ab h
   subst hes0;subst Ab;have hn0:news=[]:=by simpa only[aG]using hn
   subst hn0;have gZ:=run_append_nothing (P:=P) w t tx ty e i hT.ty hT.info q 0 0 (Nat.le_refl 0) (a.eval x) (by rw[hT.size];exact hs)
   refine⟨.slice q 0 0,w,φ.set n .nil,.inl ?_, ?_⟩
   · have:=hbv
     simp only[List.length_nil]at this;rw[<-this]at gZ;rw[<-this]
     exact kE gZ
   · refine⟨(h.Ym bI).put hd ?_,fun m hm hf=>by rw[List.getElem?_set_ne (Ne.symm hm)];exact hf⟩
     simp only[aJ]
     exact .inl ⟨.nil,by show(φ.set n _)[n]? =_;simp[aw],by simp,by simp,fun _=>trivial,q,by simp⟩
 · have hold: ∃olds,(Builtin.firstCells k es.length (.slice q es.length es.length)).run P w.drew= .ok olds.toArray w.drew/\aG (aB N0 φ w) k es olds/\ ∀u∈olds,u.oneCell'=true:=by
    by_cases he:es=[]
    · subst he
      exact⟨[],Yl,by simp[aG],by simp⟩
    · obtain⟨B,off,rfl,hE⟩:=Ci he
      obtain⟨vs,h1,h2,h3⟩:=aG.Cp hE;exact⟨vs,M7 h1.length (fun j v hv=>by have:=h2 j v hv;simpa[aB]using this),h1,h3⟩
   obtain⟨olds,hf,hro,hoo⟩:=hold
   have pW:0<src.length:=by
    cases src with
    |nil=>exact absurd rfl Ab
    |cons=>simp
   obtain⟨w',c,zs,gZ,g,lT,hle,hB,Bv⟩:=M8 (ty:=ty) hT hf hro.length hs (by omega) FX
   have FZ:=h.newObj (k:=k) (o:= .row k (es++src)) bI g (Nat.le_refl _) lT (by
    have dL:=h.Jw (k:=k) bI g (Nat.le_refl _)
    refine Ie (E':=aB N0 (φ.set n (.loc w.heap.size k)) w') hB ?_ ?_ ?_
    · refine aG.mono (E:=aB N0 φ w) (fun x v hx hr=>aJ.mono dL x v hr (fun _ _=>trivial)) ?_ (hro.append hn)
      exact de fun j y hy=>by
       rcases List.mem_append.1 (List.mem_of_getElem? hy)with hm|hm
       · obtain⟨r,hr⟩:=List.getElem?_of_mem hm;exact aM Qc hr
       · obtain⟨r,hr⟩:=List.getElem?_of_mem hm;exact aM VG hr
    · intro u hu
      rcases List.mem_append.1 hu with hu|hu
      · exact hoo u hu
      · exact hs.one u hu
    · exact de fun j y hy=>by
       rcases List.mem_append.1 (List.mem_of_getElem? hy)with hm|hm
       · obtain⟨r,hr⟩:=List.getElem?_of_mem hm;exact aM Qc hr
       · obtain⟨r,hr⟩:=List.getElem?_of_mem hm;exact aM VG hr)
   refine⟨_,w',_,.inl (kE (by rw[hbv];exact gZ)),FZ.put hd ?_,fun m hm hf=>by rw[List.getElem?_set_ne (Ne.symm hm)];exact hf⟩
   simp only[aJ]
   exact .inr ⟨w.heap.size,c,_,e,(0,0),by show(φ.set n _)[n]? =_;simp[aw],by simp,hle,by simp,hB,by simpa using Bv⟩
theorem app_old{n:Nat}(uT:w0.fix n=false)(h:aO N0 w0 nt σ φ a w){d:Option Tmp}{b x:Operand}{t tx ty:TypeId}{p:String}{af:Array Edge}{g:Option (Nat×Bool)}(hd: ∀t,d=some t->t<nt){nm:Nat}
 {e k:Nat} {i:TypeInfo} {z:Value} (hT:Tz P t e k i z) {len:Nat} {es src:List A} {news:List Value} (hbr:aJ (aB N0 φ w) (.row n 0 k len false) (a.eval b))
 (ho:cn σ.H n=some (.row k es)) (hlen:len<=es.length)
 (hs:Src P k tx (a.eval x) src.length news w) (hn:aG (aB N0 φ w) k src news) (VG:A.pure.a_ src=true) (FX:(len+src.length)*i.bytes<=140737488355328):
 po P ⟨d,.call ⟨.builtin .append,⟨[b,x]⟩,⟨[t,tx]⟩⟩,ty,p,af,g⟩ a w N0 w0 nt φ nm (((σ.fR n).dc n (.row k (es.take len++src))).put d (.row n 0 k (len+src.length) false)):=by
 have h':=h.fR n;have jV:=zh σ n
 have hnlen:n<φ.length:=by
  rw[h.len]
  rw[bH]at ho;exact(List.getElem?_eq_some_iff.1 ho).1
 have grow:φ[n]? ≠some .free-> ∀(q:Option Addr) (Aa:Nat) (olds:List Value),a.eval b= .slice q len Aa->(Builtin.firstCells k len (.slice q len Aa)).run P w.drew= .ok olds.toArray w.drew->
  aG (aB N0 φ w) k (es.take len) olds->(∀u∈olds,u.oneCell'=true)->A.pure.a_ (es.take len)=true->Aa<len+src.length->
  po P ⟨d,.call ⟨.builtin .append,⟨[b,x]⟩,⟨[t,tx]⟩⟩,ty,p,af,g⟩ a w N0 w0 nt φ nm (((σ.fR n).dc n (.row k (es.take len++src))).put d (.row n 0 k (len+src.length) false)):=by
  intro My q Aa olds hbv hf hro hoo Qc hg;have ae:(es.take len).length=len:=by simp;omega
  obtain⟨w',c,zs,gZ,g,lT,hle,hB,Bv⟩:=M8 (ty:=ty) hT hf (by rw[hro.length,ae]) hs hg FX
  have Mz:A.pure.a_ (es.take len++src)=true:=de fun j y hy=>by
   rcases List.mem_append.1 (List.mem_of_getElem? hy)with hm|hm
   · obtain⟨r,hr⟩:=List.getElem?_of_mem hm;exact aM Qc hr
   · obtain⟨r,hr⟩:=List.getElem?_of_mem hm;exact aM VG hr
  obtain⟨FZ,_⟩:=h'.rehome uT jV hnlen (p:= .loc w.heap.size k) (o:= .row k (es.take len++src)) g (fun B K e'=>by
   simp only[dj.loc.injEq]at e';obtain⟨rfl,rfl⟩:=e';exact⟨Nat.le_refl _,lT⟩) (fun dL=>by
   refine Ie (E':=aB N0 (φ.set n (.loc w.heap.size k)) w') hB ?_ ?_ Mz
   · exact aG.mono (E:=aB N0 φ w) (fun x v hx hr=>aJ.mono dL x v hr (fun m hm=>by rw[A.mN m x hx]at hm;cases hm)) Mz (hro.append hn)
   · intro u hu
     rcases List.mem_append.1 hu with hu|hu
     · exact hoo u hu
     · exact hs.one u hu)
  refine⟨_,w',_,.inl (kE (by rw[hbv];exact gZ)),FZ.put hd ?_,fun m hm hf=>by rw[List.getElem?_set_ne (fun e=>My (by rw[e];exact hf))];exact hf⟩
  simp only[aJ]
  exact .inr ⟨w.heap.size,c,_,e,(0,0),by show(φ.set n _)[n]? =_;simp[hnlen],by simp,hle,by simp,hB,by simpa using Bv⟩
 simp only[aJ]at hbr;rcases hbr with⟨o,fA,hf,rfl,_,q,hv⟩|⟨B,cap,c',e',fr,fA,hv,rQ,_,hb,F4⟩
 · by_cases Ab:src=[]
   · subst Ab
     have hn0:news=[]:=by simpa only[aG]using hn
     subst hn0;have gZ:=run_append_nothing (P:=P) w t tx ty e i hT.ty hT.info q 0 0 (Nat.le_refl 0) (a.eval x) (by rw[hT.size];exact hs)
     refine⟨.slice q 0 0,w,φ,.inl (kE (by rw[hv];exact gZ)), ?_⟩
     refine⟨(h'.setObj (fun p hp=> ?_)).put hd ?_,fun _ _ h=>h⟩
     · have fC:=h.c7 n _ _ ho hp
       cases p with
       |nil=>simp[aL]
       |free=>
        have Jx:φ[n]? =some o:=fA;rw[Jx]at hp;simp at hp;exact absurd hp hf
       |loc B FP=>
        simp only[aL]at fC⊢;exact⟨fC.1,by simp[A.pure.a_],fC.2.2.1,by simp[eJ]⟩
     · simp only[aJ]
       exact .inl ⟨o,fA,hf,by simp,fun _=>trivial,q,by simp⟩
   · refine grow (fun e=>hf (by have Jx:φ[n]? =some o:=fA;rw[Jx]at e;simpa using e)) q 0 [] hv Yl (by simp[aG]) (by simp) (by simp[A.pure.a_]) ?_
     cases src with
     |nil=>exact absurd rfl Ab
     |cons=>simp
 · have fC:=h.c7 n _ _ ho fA
   simp only[aL]at fC;obtain⟨_,hp,⟨cc,ee,ffr,Qd,MA⟩,hE⟩:=fC;have qi:w.heap[B]? =some (.cells c' e' fr):=hb;have ql:w.heap[B]? =some (.cells cc ee ffr):=Qd;rw[qi]at ql;simp only[Option.some.injEq,Go.Obj.cells.injEq]at ql;obtain⟨rfl,rfl,rfl⟩:=ql;have Xy:=nD (n:=len) hE;have tb:=mc (n:=len) hp;obtain⟨olds,h1,h2,h3⟩:=aG.Cp Xy;have ae:(es.take len).length=len:=by simp;omega
   have h1l:olds.length=len*k:=by rw[h1.length,ae]
   rw[Nat.zero_mul]at hv F4;by_cases Yn:len+src.length<=cap
   · have Yk:=hs.newsLen
     have hmul:len*k+src.length*k<=k*cap:=by
      rw[<-Nat.add_mul,Nat.mul_comm k cap]
      exact Nat.mul_le_mul_right _ Yn
     have ht:w.there B (0+len*k) news.length:=qk qi MA (by omega)
     have gZ:=run_append_room_src (P:=P) w t tx ty e i hT.ty hT.info B 0 len cap (a.eval x) src.length news (by rw[hT.size];exact hs) Yn
      (fun j hj=>by rw[hT.size];exact(ht j hj).1) (fun j hj=>by rw[hT.size];exact(ht j hj).2)
     rw[hT.size]at gZ;obtain⟨cc'',TA,hss''⟩:=(fa (b:=B) news (0+len*k) w).2.2.2.2.2.2 c' e' fr qi;have dL:=h.nF (0+len*k) news fA
     have hw:=h'.write (o:= .row k (es.take len++src)) (off:=0+len*k) (vs:=news) fA (by
      simp only[aL]
      have Mz:A.pure.a_ (es.take len++src)=true:=de fun j y hy=>by
       rcases List.mem_append.1 (List.mem_of_getElem? hy)with hm|hm
       · obtain⟨r,hr⟩:=List.getElem?_of_mem hm;exact aM tb hr
       · obtain⟨r,hr⟩:=List.getElem?_of_mem hm;exact aM VG hr
      refine⟨trivial,Mz,⟨cc'',e',fr,TA,fun j hj=>MA j (by omega)⟩, ?_⟩
      refine aG.mem (vs:=olds++news) (aG.mono (E:=aB N0 φ w) (fun x v hx hr=>aJ.mono dL x v hr (fun _ _=>trivial)) Mz (h1.append hn)) ?_ ?_
      · intro j u hu
        show(w.setCells B (0+len*k) news).cell? ⟨B,0+j,none⟩=some u;rw[ku ht]
        rw[List.getElem?_append]at hu;split at hu
        · rename_i hj
          rw[if_neg (by omega)]
          exact h2 j u hu
        · rename_i hj
          have:=(List.getElem?_eq_some_iff.1 hu).1;rw[if_pos (by omega),show 0+j-(0+len*k)=j-olds.length by omega]
          exact hu
      · intro u hu
        rcases List.mem_append.1 hu with hu|hu
        · exact h3 u hu
        · exact hs.one u hu)
     refine⟨_,_,φ,.inl (kE (by rw[hv];exact gZ)),hw.put hd ?_,fun _ _ h=>h⟩
     simp only[aJ]
     exact .inr ⟨B,cap,cc'',e',fr,fA,by simp,Yn,by simp,TA,by rw[hss''];simpa using F4⟩
   · exact grow (fun e=>by have Jx:φ[n]? =some (.loc B k):=fA;rw[Jx]at e;simp at e) _ cap olds hv (M7 h1l (fun j v hv=>by have:=h2 j v hv;simpa[aB]using this)) h1 h3 tb (by omega)
theorem Jy(h:aO N0 w0 nt σ φ a w){d:Option Tmp}{b x:Operand}{t tx ty:TypeId}{p:String}{af:Array Edge}{g:Option (Nat×Bool)}(hd: ∀t,d=some t->t<nt){n:Nat}(bI:φ[n]? =some .free)
 {eF:St} {fx:Nat->Bool} (uT:w0.fix=fx) (hr:rR P fx σ n d t tx (σ.ev b) (σ.ev x)=some eF):po P ⟨d,.call ⟨.builtin .append,⟨[b,x]⟩,⟨[t,tx]⟩⟩,ty,p,af,g⟩ a w N0 w0 nt φ n eF:=by
 unfold rR at hr;split at hr
 · rename_i e he
   split at hr
   · rename_i k hk
     split at hr
     · simp at hr
     · rename_i hc
       have hz:jC P e k=true:=by
        cases hzz:jC P e k with
        |true=>rfl
        |false=>exact absurd (.inr (.inr hzz)) hc
       obtain⟨i,z,hT,X8⟩:=app_ty he hk (fun e'=>hc (.inl e')) (fun e'=>hc (.inr (.inl e'))) hz;cases Ab:zY P σ e tx k (σ.ev x)with
       |none=>simp[Ab]at hr
       |some src=>
        simp only[Ab,Option.bind_some]at hr;obtain⟨news,hs,hn,VG⟩:=VF h Ab;have hb:=h.ev b;rw[<-X8]at hr
        have Ty: ∀{es:List A},lj k es=true->es≠ []->cd es=k:=fun{es} h1 h2=>by
         unfold lj at h1;cases es with
         |nil=>exact absurd rfl h2
         |cons y ys=>simpa using h1
        cases Ac:σ.ev b<;>rw[Ac]at hb<;>simp only[Ac,oh]at hr<;>try(simp at hr;done)
        case bT=>
         split at hr
         · rename_i FX
           obtain rfl:=Option.some.inj hr;simp only[aJ]at hb;have:=Bx h (p:=p) (af:=af) (g:=g) (ty:=ty) hd bI hT (q:=none) (es:=[]) (src:=src) hb (fun cg=>absurd rfl cg) rfl (.inl rfl) hs hn VG (by simpa using FX)
           simpa using this
         · simp at hr
        case clip es=>
         split at hr
         · rename_i dD
           obtain⟨b9,Jz,FX⟩:=dD;obtain rfl:=Option.some.inj hr;simp only[aJ]at hb;obtain⟨Qc,q,hv,hl⟩:=hb;exact Bx h (p:=p) (af:=af) (g:=g) (ty:=ty) hd bI hT (q:=q) (es:=es) (src:=src) hv (fun cg=>by obtain⟨B,off,e1,_,_,e2⟩:=hl cg;rw[Ty b9 cg]at e2;exact⟨B,off,e1,e2⟩) Qc Jz hs hn VG FX
         · simp at hr
        case row m off k' len cl=>
         cases off with
         |succ off=>simp at hr
         |zero=>
          simp only at hr;split at hr
          · rename_i FP es ho
            split at hr
            · rename_i dD
              obtain⟨rfl,rfl,hlen,FX⟩:=dD;split at hr
              · rename_i jV
                subst jV;split at hr
                · simp at hr
                · rename_i cg
                  obtain rfl:=Option.some.inj hr;have ae:(es.take len).length=len:=by simp;omega
                  simp only[aJ]at hb;rcases hb with⟨o,fA,hf,rfl,_,q,hv⟩|⟨B,cap,c',e',fr,fA,hv,rQ,jV,hb,F4⟩
                  · have:=Bx h (p:=p) (af:=af) (g:=g) (ty:=ty) hd bI hT (q:=q) (es:=[]) (src:=src) hv (fun cg=>absurd rfl cg) rfl (.inl rfl) hs hn VG (by simpa using FX)
                    simpa using this
                  · have fC:=h.c7 m _ _ ho fA
                    simp only[aL]at fC;obtain⟨_,hp,_,hE⟩:=fC;have hcap:=jV trivial;subst hcap;have Xy:=nD (n:=cap) hE;have tb:=mc (n:=cap) hp;have:=Bx h (p:=p) (af:=af) (g:=g) (ty:=ty) hd bI hT (q:=some ⟨B,0,none⟩) (es:=es.take cap) (src:=src) (by rw[ae,hv];simp) (fun _=>⟨B,0,rfl,Xy⟩) tb (.inr cg) hs hn VG (by rw[ae];exact FX)
                    rw[ae]at this;exact this
              · rename_i jV
                have hcl':cl=false:=by simpa using jV
                subst hcl';split at hr
                · simp at hr
                · rename_i My
                  obtain rfl:=Option.some.inj hr;exact app_old (by rw[uT];simpa using My) h hd hT hb ho hlen hs hn VG FX
            · simp at hr
          · simp at hr
   · simp at hr
 · simp at hr
end
end Go.bo
namespace Go.bo
open Go.RowKit
section
variable{P:Program}{N0:Nat->Prop}{w0:kD}{nt:Nat}{σ:St}{φ:List dj}{a:Act}{w:World}
theorem Qx(h:aO N0 w0 nt σ φ a w){d:Option Tmp}{src dst:TypeId}{x:Operand}{t:TypeId}{p:String}{af:Array Edge}{g:Option (Nat×Bool)}(hd: ∀t,d=some t->t<nt){n:Nat}
 (bI:uZ P src dst=true->φ[n]? =some .free) {eF:St} (hr:yV P σ n d src dst (σ.ev x)=some eF):po P ⟨d,.convert src dst x,t,p,af,g⟩ a w N0 w0 nt φ n eF:=by
 unfold yV at hr;split at hr
 · rename_i hb
   have bI:=bI hb;have hx:=h.ev x;split at hr
   · rename_i s hs
     obtain rfl:=Option.some.inj hr;rw[hs]at hx;simp only[aJ]at hx;unfold uZ at hb;simp only[Bool.and_eq_true]at hb;obtain⟨Xx,hb2⟩:=hb;cases he:aX P dst with
     |none=>simp[he]at hb2
     |some e=>
      simp[he]at hb2;have aw:n<φ.length:=(List.getElem?_eq_some_iff.1 bI).1;have gZ:=run_bytes_of_string (P:=P) w src dst e ⟨s.toArray⟩ (jH Xx) (dI he) (B_ hb2)
      have VB:=grownCap_ge w (⟨s.toArray⟩:ByteArray).size 0 e;generalize hc:grownCap w (⟨s.toArray⟩:ByteArray).size 0 e=c at gZ VB;rw[oB]at VB
      have lT:(bytesRow ⟨s.toArray⟩ c).size=c:=by
       simp[bytesRow,oB]
       omega
      rw[lT]at gZ;have g:eL w (w.drew.alloc (.cells (bytesRow ⟨s.toArray⟩ c) e (c,c+1))):=(eL.drew w).trans (eL.alloc _ _)
      have hB:(w.drew.alloc (.cells (bytesRow ⟨s.toArray⟩ c) e (c,c+1))).heap[w.heap.size]? =some (.cells (bytesRow ⟨s.toArray⟩ c) e (c,c+1)):=heap_alloc_new w.drew _
      have FZ:=h.newObj (k:=1) (o:= .row 1 (dC s)) bI g (Nat.le_refl _) (by simp) (by
       simp only[aL]
       refine⟨trivial,tJ s,⟨_,e,_,hB,fun j hj hh=>by rw[lT]at hj;omega⟩,aG.mem (xh _ s) (fun j u hu=> ?_) ?_⟩
       · show(w.drew.alloc (.cells (bytesRow ⟨s.toArray⟩ c) e (c,c+1))).cell? ⟨w.heap.size,0+j,none⟩=some u
         have pK:j<s.length:=by have:=(List.getElem?_eq_some_iff.1 hu).1;simpa using this
         have zi:=bytesRow_at ⟨s.toArray⟩ c j (by simpa using pK)
         have:u= .int .u8 (s[j].toNat:Int):=by rw[List.getElem?_map,List.getElem?_eq_getElem pK]at hu;simpa using hu.symm
         subst this;simp only[World.cell?,hB,Nat.zero_add]
         simpa using zi
       · intro u hu
         obtain⟨_,_,rfl⟩:=List.mem_map.1 hu;rfl)
      refine⟨.slice (some ⟨w.heap.size,0,none⟩) s.length c,_,_,.inl (yW (s:=convert src dst (a.eval x)) ?_),FZ.put hd ?_,fun m hm hf=>by rw[List.getElem?_set_ne (Ne.symm hm)];exact hf⟩
      · rw[hx];exact gZ
      · simp only[aJ]
        exact .inr ⟨w.heap.size,c,_,e,_,by show(φ.set n _)[n]? =_;simp[aw],by simp,VB,by simp,hB,by rw[lT];omega⟩
   · simp at hr
 · cases hc:nz P src dst σ.H (σ.ev x)with
   |none=>simp[hc]at hr
   |some r=>
    simp[hc]at hr;subst hr;exact tc h hd (o:=⟨d,.convert src dst x,t,p,af,g⟩) (u5 h hc)
end
end Go.bo
namespace Go.bo
open Go.RowKit
theorem aG.drop{E:Env}{k:Nat}: ∀{n:Nat} {es:List A} {vs:List Value},aG E k es vs->aG E k (es.drop n) (vs.drop (n*k))
 |0,es,vs,h=>by simpa using h
 |n+1,[],vs,h=>by simp only[aG]at h;subst h;simp[aG]
 |n+1,e::es,vs,h=>by
  simp only[aG]at h;obtain⟨_,_,_,h4⟩:=h;rw[List.drop_succ_cons,show(n+1)*k=k+n*k by rw[Nat.add_mul,Nat.one_mul];omega,<-List.drop_drop]
  exact aG.drop h4
theorem Cu{z:Array Value}{n:Nat}:(Builtin.zeroCells z n).toList=(List.replicate n z.toList).flatten:=by
 unfold Builtin.zeroCells;apply List.ext_getElem?;intro j;by_cases hz:z.size=0
 · have hz':z= #[]:=by simpa using hz
   subst hz';simp
 · have hz0:0<z.size:=by omega
   simp only[Array.toList_map,Array.toList_range]
   rw[List.getElem?_map]
   by_cases hj:j<n*z.size
   · have hq:j/z.size<n:=(Nat.div_lt_iff_lt_mul hz0).2 hj
     have hr:j % z.size<z.size:=Nat.mod_lt _ hz0;rw[List.getElem?_range hj]
     simp only[Option.map_some]
     have key: ∀(m:Nat) (j:Nat),j<m*z.size->(List.replicate m z.toList).flatten[j]? =some (z[j % z.size]!):=by
      intro m;induction m with
      |zero=>intro j hj;omega
      |succ m ih=>
       intro j hj;rw[List.replicate_succ,List.flatten_cons]
       by_cases h:j<z.size
       · rw[List.getElem?_append_left (by simpa using h),Nat.mod_eq_of_lt h,getElem!_pos z j h];simp[h]
       · rw[List.getElem?_append_right (by simpa using h),Nat.mod_eq_sub_mod (by omega),Array.length_toList]
         exact ih _ (by rw[Nat.add_mul,Nat.one_mul]at hj;omega)
     rw[key n j hj]
   · rw[List.getElem?_eq_none (by simpa using hj),List.getElem?_eq_none (by
      rw[List.length_flatten,List.map_replicate,List.sum_replicate_nat];simpa using hj)]
     rfl
section
variable{P:Program}{N0:Nat->Prop}{w0:kD}{nt:Nat}{σ:St}{φ:List dj}{a:Act}{w:World}
theorem M9(h:aO N0 w0 nt σ φ a w){d:Option Tmp}{x:Operand}{t ty:TypeId}{p:String}{af:Array Edge}{g:Option (Nat×Bool)}(hd: ∀t,d=some t->t<nt){nm:Nat}
 {eF:St} (hr:w3 P σ d t (σ.ev x)=some eF):po P ⟨d,.call ⟨.builtin .clear,⟨[x]⟩,⟨[t]⟩⟩,ty,p,af,g⟩ a w N0 w0 nt φ nm eF:=by
 have hx:=h.ev x;unfold w3 at hr;split at hr
 · rename_i n off k len cl Ac
   rw[Ac]at hx;split at hr
   case h_2=>simp at hr
   rename_i e he;split at hr
   case h_2=>simp at hr
   rename_i k' es ho;split at hr
   · rename_i zz hz
     split at hr
     · rename_i hc
       obtain⟨rfl,hzl,xg,hzv,hzp,hle⟩:=hc;obtain rfl:=Option.some.inj hr;have hty:=dI he;obtain⟨zv,hzr,Cm⟩:=u7 (w:=w) hz;have cS:=Cm (aB N0 φ w)
       obtain⟨r1,r2,r3⟩:=jn cS hzv
       have qm: ∀{v:Value} {w':World},(Builtin.clear_ #[t] ty #[a.eval x]).run P w= .ok v w'->(Go.execOp a.eval ⟨d,.call ⟨.builtin .clear,⟨[x]⟩,⟨[t]⟩⟩,ty,p,af,g⟩).run P w= .ok (.value v) w':=fun{v w'} gZ=>by
        obtain⟨cs,Bv⟩:=qa (P:=P) (a:=a) (w:=w) (b:= .clear) (xs:=[x]) (us:=⟨[t]⟩) (d:=d) (t:=ty) (p:=p) (af:=af) (g:=g)
        rw[Bv]
        exact yW (s:=Builtin.clear_ #[t] ty #[a.eval x]) gZ
       simp only[aJ]at hx;have same:(es.take off++List.replicate 0 zz.norm++es.drop (off+0))=es:=by simp
       rcases hx with⟨o,fA,hf,rfl,_,q,hv⟩|⟨b,cap,c',e',fr,fA,hv,rQ,_,hb,F4⟩
       · refine⟨.tuple #[],w,φ,.inl (qm ?_), ?_⟩
         · rw[hv]
           cases q<;>simp[Builtin.clear_,run_underlying hty]
         · rw[same]
           refine⟨(h.setObj (fun p hp=>h.c7 n _ p ho hp)).put hd ?_,fun _ _ h=>h⟩
           simp[aJ,aQ]
       · have fC:=h.c7 n _ _ ho fA
         simp only[aL]at fC;obtain⟨_,hp,⟨cc,ee,ffr,Qd,MA⟩,hE⟩:=fC;by_cases hl0:len=0
         · subst hl0
           refine⟨.tuple #[],w,φ,.inl (qm ?_), ?_⟩
           · rw[hv]
             simp[Builtin.clear_,run_underlying hty]
           · rw[same]
             refine⟨(h.setObj (fun p hp=>h.c7 n _ p ho hp)).put hd ?_,fun _ _ h=>h⟩
             simp[aJ,aQ]
         · have ql:w.heap[b]? =some (.cells cc ee ffr):=Qd
           have qi:w.heap[b]? =some (.cells c' e' fr):=hb;rw[qi]at ql;simp only[Option.some.injEq,Go.Obj.cells.injEq]at ql;obtain⟨rfl,rfl,rfl⟩:=ql;obtain⟨vs,g1,g2,g3⟩:=aG.Cp hE;have hzc:zv.cells.size=k':=by rw[r3];exact hzl
           have Yk:(List.replicate len zv.cells.toList).flatten.length=len*k':=by rw[List.length_flatten,List.map_replicate,List.sum_replicate_nat,Array.length_toList,hzc]
           have hmul:off*k'+len*k'<=c'.size:=by
            have h1:len*k'<=k'*cap:=by rw[Nat.mul_comm k' cap];exact Nat.mul_le_mul_right _ rQ
            omega
           have ht:w.there b (off*k') (List.replicate len zv.cells.toList).flatten.length:=qk qi MA (by rw[Yk];exact hmul)
           have da: ∀u∈(List.replicate len zv.cells.toList).flatten,u.oneCell'=true:=fun u hu=>by obtain⟨ys,yY,hu⟩:=List.mem_flatten.1 hu;obtain⟨_,rfl⟩:=List.mem_replicate.1 yY;exact r2 u hu
           have b9:=run_storeCells_cells (P:=P) b (off*k') (List.replicate len zv.cells.toList).flatten 0 w (fun j hj=>by rw[Nat.add_zero];exact(ht j hj).1) (fun j hj=>by rw[Nat.add_zero];exact(ht j hj).2) da;rw[Nat.add_zero]at b9;obtain⟨cc'',TA,hss''⟩:=(fa (b:=b) (List.replicate len zv.cells.toList).flatten (off*k') w).2.2.2.2.2.2 c' e' fr qi;have dL:=h.nF (off*k') (List.replicate len zv.cells.toList).flatten fA
           have hzn:aG (aB N0 φ w) k' (List.replicate len zz.norm) (List.replicate len zv.cells.toList).flatten:=
            aG.replicate (by rw[ic,List.length_map,hzl]) (by rw[ic];exact oD r1) len
           have hvl:=g1.length;have hpz:A.pure.a_ (List.replicate len zz.norm)=true:=de fun j y hy=>by have:=List.mem_of_getElem? hy;obtain⟨_,rfl⟩:=List.mem_replicate.1 this;exact lU hzp
           have Mz:A.pure.a_ (es.take off++List.replicate len zz.norm++es.drop (off+len))=true:=de fun j y hy=>by
            rcases List.mem_append.1 (List.mem_of_getElem? hy)with hm|hm
            · rcases List.mem_append.1 hm with hm|hm
              · obtain⟨r,hr⟩:=List.getElem?_of_mem (List.mem_of_mem_take hm);exact aM hp hr
              · obtain⟨r,hr⟩:=List.getElem?_of_mem hm;exact aM hpz hr
            · obtain⟨r,hr⟩:=List.getElem?_of_mem (List.mem_of_mem_drop hm);exact aM hp hr
           have hw:=h.write (o:= .row k' (es.take off++List.replicate len zz.norm++es.drop (off+len))) (off:=off*k') (vs:=(List.replicate len zv.cells.toList).flatten) fA (by
            simp only[aL]
            refine⟨trivial,Mz,⟨cc'',e',fr,TA,fun j hj=>MA j (by omega)⟩, ?_⟩
            have iy:=((g1.take (n:=off)).append hzn).append (g1.drop (n:=off+len))
            refine aG.mem (vs:=vs.take (off*k')++(List.replicate len zv.cells.toList).flatten++vs.drop ((off+len)*k')) (aG.mono (E:=aB N0 φ w) (fun x v hx hr=>aJ.mono dL x v hr (fun _ _=>trivial)) Mz iy) ?_ ?_
            · intro j u hu
              show(w.setCells b (off*k') _).cell? ⟨b,0+j,none⟩=some u
              have hlen1:(vs.take (off*k')).length=off*k':=by
               rw[List.length_take,hvl]
               have:off*k'<=es.length*k':=Nat.mul_le_mul_right _ (by omega)
               omega
              rw[ku ht,Nat.zero_add]
              rw[List.append_assoc,List.getElem?_append,hlen1]at hu;split at hu
              · rename_i hj
                rw[if_neg (by omega)]
                rw[List.getElem?_take]at hu;rw[if_pos hj]at hu;have:=g2 j u hu;simpa[aB]using this
              · rename_i hj
                rw[List.getElem?_append,Yk]at hu;split at hu
                · rename_i hj2
                  rw[if_pos (by rw[Yk];omega)]
                  exact hu
                · rename_i hj2
                  rw[if_neg (by rw[Yk];omega)]
                  rw[List.getElem?_drop]at hu;have e3:(off+len)*k'+(j-off*k'-len*k')=j:=by rw[Nat.add_mul];omega
                  rw[e3]at hu;have:=g2 j u hu;simpa[aB]using this
            · intro u hu
              rcases List.mem_append.1 hu with hu|hu
              · rcases List.mem_append.1 hu with hu|hu
                · exact g3 u (List.mem_of_mem_take hu)
                · exact da u hu
              · exact g3 u (List.mem_of_mem_drop hu))
           refine⟨.tuple #[],_,φ,.inl (qm ?_),hw.put hd (by simp[aJ,aQ]),fun _ _ h=>h⟩
           rw[hv]
           obtain⟨len',rfl⟩: ∃m,len=m+1:=⟨len-1,by omega⟩
           have e0:(#[t]:Array TypeId)[0]? =some t:=rfl;have e1:(#[Value.slice (some ⟨b,off*k',none⟩) (len'+1) cap]:Array Value)[0]? =some (Value.slice (some ⟨b,off*k',none⟩) (len'+1) cap):=rfl;simp only[Builtin.clear_,e0,e1,Sem.run_bind,run_underlying hty,Result.andThen_ok,hzr,Cu,b9,Sem.run_pure]
     · simp at hr
   · simp at hr
 · simp at hr
end
end Go.bo
