/- What the laws of this claim rest on: the abstract executor, its soundness, and what the functions compute on pure data. No condition. -/
import Derived.Test.YtfnohjheonlnmaaGreatU1
import Derived.Laws.StructEq
import Derived.Deep.Upon
import Derived.Laws.IdiomStrings
noncomputable section
set_option linter.unusedVariables false
set_option linter.unusedSimpArgs false
namespace Go.dF
open Go.RowKit
def eE:A->Value
 | .int k n=> .int k n
 | .bool b=> .bool b
 | .str s=> .string ⟨s.toArray⟩
 |_=>undef
theorem OD{E:Env}{c:CK}{x:A}{v:Value}(h:c.has x=true)(hr:bU E x v):v=eE x:=by cases c<;>cases x<;>simp_all[CK.has,bU,eE]
theorem sV{E:Env}: ∀{ks:List CK} {xs:List A} {vs:List Value},eW ks xs=true->cH E xs vs->vs=xs.map eE
 | [],[],vs,_,h=>by simpa[cH]using h
 |c::ks,x::xs,vs,h,hr=>by
  simp only[eW,ak]at h;simp only[cH]at hr;obtain⟨v,qC,rfl,hx,hl⟩:=hr;rw[OD h.1 hx,sV h.2 hl]
  rfl
 | [],_::_,_,h,_=>by simp[eW]at h
 |_::_,[],_,h,_=>by simp[eW]at h
theorem vG: ∀{ks ls:List CK} {xs:List A},eW (ks++ls) xs=true->eW ks (xs.take ks.length)=true/\eW ls (xs.drop ks.length)=true
 | [],ls,xs,h=>by simpa[eW]using h
 |c::ks,ls,[],h=>by simp[eW]at h
 |c::ks,ls,x::xs,h=>by
  simp only[bF,eW,ak]at h;have:=vG h.2;simp only[aG,jh,k9,eW,ak]
  exact⟨⟨h.1,this.1⟩,this.2⟩
theorem vH: ∀{ks:List CK} {xs:List A},eW ks xs=true->ks.length=xs.length
 | [],[],_=>rfl
 |c::ks,x::xs,h=>by simp only[eW,ak]at h;simp[vH h.2]
 | [],_::_,h=>by simp[eW]at h
 |_::_,[],h=>by simp[eW]at h
theorem xr: ∀{ks:List CK} {xs ys:List A},eW ks xs=true->eW ks ys=true-> ∃b,BP xs ys=some b
 | [],[],[],_,_=>⟨true,rfl⟩
 |c::ks,x::xs,y::ys,h,h'=>by
  simp only[eW,ak]at h h';obtain⟨b,hb⟩:=xr h.2 h'.2;have h1:=h.1;have h2:=h'.1;cases c<;>cases x<;>simp[CK.has]at h1<;>cases y<;>simp[CK.has]at h2
  · subst h1;subst h2;exact⟨_,by simp only[BP,eqA,hb,if_true,aY,dT];rfl⟩
  · exact⟨_,by simp only[BP,eqA,hb,aY,dT];rfl⟩
  · exact⟨_,by simp only[BP,eqA,hb,aY,dT];rfl⟩
 | [],_::_,_,h,_=>by simp[eW]at h
 | [],[],_::_,_,h=>by simp[eW]at h
 |_::_,[],_,h,_=>by simp[eW]at h
 |_::_,_::_,[],_,h=>by simp[eW]at h
theorem M7: ∀{n:Nat} {xs ys:List A} {b c:Bool},BP (xs.take n) (ys.take n)=some b->BP (xs.drop n) (ys.drop n)=some c->BP xs ys=some (b&&c)
 |0,xs,ys,b,c,h,h'=>by simp[BP]at h;subst h;simpa using h'
 |n+1,[],[],b,c,h,h'=>by simp[BP]at h h';subst h;subst h';rfl
 |n+1,x::xs,[],b,c,h,h'=>by simp[BP]at h
 |n+1,[],y::ys,b,c,h,h'=>by simp[BP]at h
 |n+1,x::xs,y::ys,b,c,h,h'=>by
  simp only[jh,k9,BP]at h h'⊢;cases hx:eqA x y with
  |none=>simp[hx]at h
  |some r=>
   simp only[hx,aY]at h⊢;cases he:BP (xs.take n) (ys.take n)with
   |none=>simp[he]at h
   |some s=>
    simp[he]at h;rw[M7 he h']
    simp[<-h,eI]
theorem str_beq(x y:List UInt8):((⟨x.toArray⟩:ByteArray).toList==(⟨y.toArray⟩:ByteArray).toList)=(x==y):=by rw[ByteArray.toList_eq,ByteArray.toList_eq]
section
variable{P:Program}{w:World}
def EqAt(P:Program)(w:World)(t:TypeId)(ks:List CK)(D:Nat):Prop:=
 ∀xs ys:List A,eW ks xs=true->eW ks ys=true-> ∀b,BP xs ys=some b->
  (dS P t=some true->(Op.equalIn D t (.agg (xs.map eE).toArray) (.agg (ys.map eE).toArray)).run P w= .ok b w)/\
  (dS P t=some false-> ∀x y,xs=[x]->ys=[y]->(Op.equalIn D t (eE x) (eE y)).run P w= .ok b w)/\(dS P t≠none)/\(dS P t=some false->ks.length=1)
theorem DE(D:Nat)(rec:TypeId->Option (List CK))(hrec: ∀t ks,rec t=some ks->EqAt P w t ks D)(X Y:List A):
 ∀(fs:List Field) (off:Nat) (ks:List CK),ckGo rec (cW P) fs off=some ks->eW ks (X.drop off)=true->eW ks (Y.drop off)=true->
  ∀b,BP (X.drop off) (Y.drop off)=some b->(Op.eqFields D (X.map eE).toArray (Y.map eE).toArray fs).run P w= .ok b w
 | [],off,ks,hg,hx,hy,b,hb=>by
  simp[ckGo]at hg;subst hg;cases hX:X.drop off with
  |cons _ _=>simp[hX,eW]at hx
  |nil=>
   cases hY:Y.drop off with
   |cons _ _=>simp[hY,eW]at hy
   |nil=>
    rw[hX,hY]at hb;simp[BP]at hb;subst hb;simp[Op.eqFields]
 |f::fs,off,ks,hg,hx,hy,b,hb=>by
  simp only[ckGo]at hg;split at hg
  · simp at hg
  · rename_i hf
    have hf1: ¬f.name= "_" :=fun e=>hf (.inl e)
    have hf2:f.offset=off:=Decidable.byContradiction fun e=>hf (.inr e)
    split at hg
    · rename_i k1 n qD hn
      split at hg
      · rename_i hkn
        cases hgo:ckGo rec (cW P) fs (off+n)with
        |none=>simp[hgo]at hg
        |some k2=>
         simp[hgo]at hg;subst hg;obtain⟨hx1,hx2⟩:=vG hx;obtain⟨Ga,hy2⟩:=vG hy;rw[hkn]at hx1 hx2 Ga hy2;obtain⟨b1,hb1⟩:=xr hx1 Ga;rw[eJ]at hx2 hy2;obtain⟨b2,hb2⟩:=xr hx2 hy2;have hbb:=M7 hb1 (by rw[eJ,eJ];exact hb2)
         rw[hb]at hbb;simp at hbb;have hE:=hrec _ _ qD _ _ hx1 Ga b1 hb1;have hrest:=DE D rec hrec X Y fs (off+n) k2 hgo hx2 hy2 b2 hb2;have hXn:n=1->off<X.length:=by intro h1;have:=vH hx1;rw[hkn,h1,aK,cj]at this;omega
         have hYn:n=1->off<Y.length:=by intro h1;have:=vH Ga;rw[hkn,h1,aK,cj]at this;omega
         have parts: ∀Z:List A,dS P f.type=some true->(part f.type (Z.map eE).toArray off).run P w= .ok (.agg (((Z.drop off).take n).map eE).toArray) w:=by
          intro Z tg;simp only[part,Sem.run_bind,rH tg,Result.andThen_ok,if_true,run_sizeOf hn,Sem.run_pure]
          congr 2
          apply np;simp[iV,iw,kF]
         have step: ∀x y:Value,(part f.type (X.map eE).toArray off).run P w= .ok x w->(part f.type (Y.map eE).toArray off).run P w= .ok y w->(Op.equalIn D f.type x y).run P w= .ok b1 w->
          (Op.eqFields D (X.map eE).toArray (Y.map eE).toArray (f::fs)).run P w= .ok b w:=by
          intro x y h1 h2 h3;simp only[Op.eqFields,ne_eq,hf1,not_false_eq_true,if_true,hf2,Sem.run_bind,h1,h2,h3,Result.andThen_ok,Sem.run_ite,Sem.run_pure,hrest,hbb]
          cases b1<;>simp
         cases tg:dS P f.type with
         |none=>exact absurd tg hE.2.2.1
         |some g=>
          cases g with
          |true=>exact step _ _ (parts X tg) (parts Y tg) (hE.1 tg)
          |false=>
           have h1:=hE.2.2.2 tg;rw[hkn]at h1;have hXn':=hXn h1;have hYn':=hYn h1;rw[h1]at hE;have hX:(X.drop off).take 1=[X[off]]:=by rw[ax hXn'];rfl
           have hY:(Y.drop off).take 1=[Y[off]]:=by rw[ax hYn'];rfl
           have hp: ∀(Z:List A) (h:off<Z.length),(part f.type (Z.map eE).toArray off).run P w= .ok (eE Z[off]) w:=by intro Z h;simp[part,nB tg,h]
           exact step _ _ (hp X hXn') (hp Y hYn') (hE.2.1 tg _ _ hX hY)
      · simp at hg
    · simp at hg
theorem GR: ∀(d:Nat) (t:TypeId) (ks:List CK),ckOf P d t=some ks-> ∀D,d<=D->EqAt P w t ks D
 |0,_,_,h,_,_=>by simp[ckOf]at h
 |d+1,t,ks,h,D,hD=>by
  obtain⟨D',rfl⟩: ∃D',D=D'+1:=⟨D-1,by omega⟩
  intro xs ys hx hy b hb;simp only[ckOf]at h;split at h
  · rename_i hu
    simp at h;subst h;have tg:dS P t=some false:=by simp[dS,hu]
    refine⟨fun h=>by simp[tg]at h,fun _ x y Y5 DF=> ?_,by simp[tg],fun _=>rfl⟩
    subst Y5;subst DF;cases x<;>simp[eW,CK.has]at hx
    cases y<;>simp[eW,CK.has]at hy
    simp[BP,eqA]at hb;rw[eE,eE,run_equalIn_bool' w D' t _ _ hu,hb]
  · rename_i k hu
    simp at h;subst h;have tg:dS P t=some false:=by simp[dS,hu]
    refine⟨fun h=>by simp[tg]at h,fun _ x y Y5 DF=> ?_,by simp[tg],fun _=>rfl⟩
    subst Y5;subst DF;cases x<;>simp[eW,CK.has]at hx
    cases y<;>simp[eW,CK.has]at hy
    subst hx;subst hy;simp[BP,eqA]at hb;rw[eE,eE,run_equalIn_int w D' t _ _ _ _ hu,hb]
  · rename_i hu
    simp at h;subst h;have tg:dS P t=some false:=by simp[dS,hu]
    refine⟨fun h=>by simp[tg]at h,fun _ x y Y5 DF=> ?_,by simp[tg],fun _=>rfl⟩
    subst Y5;subst DF;cases x<;>simp[eW,CK.has]at hx
    cases y<;>simp[eW,CK.has]at hy
    simp[BP,eqA]at hb;rw[eE,eE,run_equalIn_string w D' t _ _ hu,str_beq,hb]
  · rename_i fs hu
    split at h
    · simp at h
    · rename_i eO
      have tg:dS P t=some true:=by simp[dS,hu]
      refine⟨fun _=> ?_,fun h=>by simp[tg]at h,by simp[tg],fun h=>by simp[tg]at h⟩
      have hf:P.fieldsOf t=fs:=by simp[Program.fieldsOf,hu]
      rw[run_equalIn_agg w D' t _ _ (by rw[hf];exact hu) (by simpa using eO),hf]
      exact DE D' (ckOf P d) (fun t ks h=>GR d t ks h D' (by omega)) xs ys fs.toList 0 ks h (by simpa using hx) (by simpa using hy) b (by simpa using hb)
  · simp at h
theorem jW{op:BinOp}{t:TypeId}{x y:Operand}{a b:Value}(h1:a≠ .nilIface)(h2: ∀xs,a≠ .agg xs):(eqGuard op t x y a b).run P w= .ok () w:=by
 cases op<;>simp only[eqGuard]<;>first
  |rfl
  |(cases a<;>first|rfl|(exact absurd rfl h1)|(exact absurd rfl (h2 _)))
end
section
variable{P:Program}{N0:Nat->Prop}{w0:pU}{nt:Nat}{σ:St}{φ:List ia}{a:Act}{w:World}
theorem good_unOp(h:cn N0 w0 nt σ φ a w){d:Option Tmp}{op:UnOp}{x:Operand}{s:Nat}{t:TypeId}{p:String}{af:Array Edge}{g:Option (Nat×Bool)}{r:A}
 (hr:unA op (σ.ev x)=some r):Good P ⟨d,.unOp op s x,t,p,af,g⟩ a w N0 φ r:=by
 have hx:=h.ev x;cases hc:σ.ev x<;>simp only[hc,unA]at hr<;>try(simp at hr;done)
 · cases op<;>simp at hr
   subst hr;rw[hc]at hx;refine en rfl (v:= .int _ _) (by rw[nC hx];rfl) ?_;simp[bU]
 · cases op<;>simp at hr
   subst hr;rw[hc]at hx;refine en rfl (v:= .bool _) (by rw[Ai hx];rfl) ?_;simp only[bU]
theorem run_binI{op:BinOp}{k:IntKind}{m n:Int}{t:TypeId}{r:A}(ho:op≠ .shl)(B5:op≠ .shr)(hr:yM op k m n=some r):(binOp op t (.int k m) (.int k n)).run P w= .ok (eE r) w/\ ∀E:Env,bU E r (eE r):=by
 cases op<;>simp only[yM]at hr
 case shl=>exact absurd rfl ho
 case shr=>exact absurd rfl B5
 case quo=>
  split at hr
  · simp at hr
  · rename_i h0
    obtain rfl:=an hr;exact⟨by simp[binOp,Op.intDiv,h0,eE],fun E=>by simp[bU,eE]⟩
 case rem=>
  split at hr
  · simp at hr
  · rename_i h0
    obtain rfl:=an hr;exact⟨by simp[binOp,Op.intDiv,h0,eE],fun E=>by simp[bU,eE]⟩
 all_goals first
  |(simp at hr;done)
  |(obtain rfl:=an hr;exact⟨by simp[binOp,Op.intArith,Op.intCmp,Op.intBits,eE],fun E=>by simp[bU,eE]⟩)
  |(obtain rfl:=an hr;exact⟨by simp only[binOp,Op.intBits,eE];simp only[ne_eq,not_true_eq_false,if_false,Sem.run_pure],fun E=>by simp[bU,eE]⟩)
theorem toList_mk(s:List UInt8):(⟨s.toArray⟩:ByteArray).toList=s:=by rw[ByteArray.toList_eq]
theorem append_mk(s t:List UInt8):(⟨s.toArray⟩:ByteArray)++⟨t.toArray⟩=⟨(s++t).toArray⟩:=by apply tw;simp
theorem run_binS{op:BinOp}{x y:List UInt8}{t:TypeId}{r:A}(hr:binS op x y=some r):(binOp op t (.string ⟨x.toArray⟩) (.string ⟨y.toArray⟩)).run P w= .ok (eE r) w/\ ∀E:Env,bU E r (eE r):=by
 cases op<;>simp only[binS]at hr
 case add=>
  split at hr
  · rename_i hle
    obtain rfl:=an hr;have: ¬(IntKind.i64.max<((x.length:Int)+y.length)):=by simp[IntKind.max,IntKind.signed,IntKind.bits];omega
    exact⟨by simp only[binOp,Op.stringOp,um,Int.natCast_add,gt_iff_lt,this,if_false,append_mk,eE,Sem.run_pure],fun E=>by simp[bU,eE]⟩
  · simp at hr
 all_goals first
  |(simp at hr;done)
  |(obtain rfl:=an hr;exact⟨by simp only[binOp,Op.stringOp,toList_mk,eE,Sem.run_pure,bne],fun E=>by simp[bU,eE]⟩)
theorem VW(d:Nat){t e:TypeId}(hu:P.underlying t=some (.pointer e)):(Op.equalIn (d+1) t (.pointer none) (.pointer none)).run P w= .ok true w:=by simp[Op.equalIn,run_underlying hu]
theorem GS(d:Nat){t e:TypeId}(hu:P.underlying t=some (.pointer e))(q:Addr):(Op.equalIn (d+1) t (.pointer none) (.pointer (some q))).run P w= .ok false w:=by simp[Op.equalIn,run_underlying hu]
theorem GU(d:Nat){t e:TypeId}(hu:P.underlying t=some (.pointer e))(q:Addr):(Op.equalIn (d+1) t (.pointer (some q)) (.pointer none)).run P w= .ok false w:=by simp[Op.equalIn,run_underlying hu]
theorem vI{t:TypeId}{x y:Option Addr}{b:Bool}(h:(Op.equalIn (9999+1) t (.pointer x) (.pointer y)).run P w= .ok b w):(binOp .eql t (.pointer x) (.pointer y)).run P w= .ok (.bool b) w:=by
 have h':(Op.equal t (.pointer x) (.pointer y)).run P w= .ok b w:=h;have e:binOp .eql t (.pointer x) (.pointer y)=(do pure (.bool (<-Op.equal t (.pointer x) (.pointer y)))):=by cases x<;>cases y<;>rfl
 rw[e,Sem.run_bind,h']
 rfl
theorem vJ{t:TypeId}{x y:Option Addr}{b:Bool}(h:(Op.equalIn (9999+1) t (.pointer x) (.pointer y)).run P w= .ok b w):(binOp .neq t (.pointer x) (.pointer y)).run P w= .ok (.bool (!b)) w:=by
 have h':(Op.equal t (.pointer x) (.pointer y)).run P w= .ok b w:=h;have e:binOp .neq t (.pointer x) (.pointer y)=(do pure (.bool (!(<-Op.equal t (.pointer x) (.pointer y))))):=by cases x<;>cases y<;>rfl
 rw[e,Sem.run_bind,h']
 rfl
theorem VX{E:Env}{x:A}{v:Value}(h:bU E x v)(hp:x.RZ=true): ∃q,v= .pointer (some q):=by
 cases x<;>simp only[A.RZ]at hp<;>try(simp at hp;done)
 all_goals simp only[bU]at h
 · obtain⟨_,b,off,hv,_⟩:=h;exact⟨_,hv⟩
 · obtain⟨b,k,_,hv⟩:=h;exact⟨_,hv⟩
 · obtain⟨b,k,_,hv⟩:=h;exact⟨_,hv⟩
theorem VY(h:cn N0 w0 nt σ φ a w){d:Option Tmp}{op:BinOp}{x y:Operand}{s u:Nat}{t:TypeId}{p:String}{af:Array Edge}{g:Option (Nat×Bool)}{r:A}
 (hr:lZ (vl P s) (lY P s) (ow P s) (cP P s).isSome op (σ.ev x) (σ.ev y)=some r):Good P ⟨d,.binOp op s x y u,t,p,af,g⟩ a w N0 φ r:=by
 have hx:=h.ev x;have hy:=h.ev y;have fin: ∀v:Value,(eqGuard op s x y (a.eval x) (a.eval y)).run P w= .ok () w->(binOp op s (a.eval x) (a.eval y)).run P w= .ok v w->bU (bB N0 φ w) r v->Good P ⟨d,.binOp op s x y u,t,p,af,g⟩ a w N0 φ r:=by intro v h1 h2 h3;exact en (s:=(do eqGuard op s x y (a.eval x) (a.eval y);binOp op s (a.eval x) (a.eval y))) rfl (by simp[h1,h2]) h3
 have nilc: ∀(q:Option Addr) (n cap:Nat) (c:Bool),a.eval x= .slice q n cap->a.eval y= .slice none 0 0->q.isNone=c->Y3 (cP P s).isSome op c=some r->Good P ⟨d,.binOp op s x y u,t,p,af,g⟩ a w N0 φ r:=by
  intro q n cap c h1 h2 h3 h4;rw[h1,h2]at fin;have hg:(eqGuard op s x y (.slice q n cap) (.slice none 0 0)).run P w= .ok () w:=jW (by simp) (by simp)
  unfold Y3 at h4;split at h4
  · rename_i hs
    obtain⟨e,he⟩:=dM.1 hs;have hu:=iS he;have hq: ∀d:Nat,(Op.equalIn (d+1) s (.slice q n cap) (.slice none 0 0)).run P w= .ok c w:=fun d=>by subst h3;cases q<;>simp[Op.equalIn,run_underlying hu]
    split at h4
    · obtain rfl:=an h4
      exact fin (.bool c) hg (by simp only[binOp];simp[Op.equal,Op.maxDepth,hq 9999]) (by simp only[bU])
    · obtain rfl:=an h4
      exact fin (.bool !c) hg (by simp only[binOp];simp[Op.equal,Op.maxDepth,hq 9999]) (by simp only[bU])
    · simp at h4
  · simp at h4
 unfold lZ at hr;split at hr
 · rename_i k m k' n Sd GV
   rw[Sd]at hx;rw[GV]at hy;rw[nC hx,nC hy]at fin;have hg:(eqGuard op s x y (.int k m) (.int k' n)).run P w= .ok () w:=jW (by simp) (by simp)
   split at hr
   · split at hr
     · simp at hr
     · rename_i h0
       simp at hr;subst hr;exact fin _ hg (by simp[binOp,Op.shift,h0];rfl) (by simp only[bU])
   · split at hr
     · simp at hr
     · rename_i h0
       simp at hr;subst hr;exact fin _ hg (by simp[binOp,Op.shift,h0];rfl) (by simp only[bU])
   · rename_i ho1 ho2
     split at hr
     · rename_i hk
       subst hk;have hh:=run_binI (P:=P) (w:=w) (t:=s) ho1 ho2 hr;exact fin _ hg hh.1 (hh.2 _)
     · simp at hr
 · rename_i m n Sd GV
   rw[Sd]at hx;rw[GV]at hy;rw[Ai hx,Ai hy]at fin;have hg:(eqGuard op s x y (.bool m) (.bool n)).run P w= .ok () w:=jW (by simp) (by simp)
   split at hr
   · rename_i hb
     have hu:P.underlying s=some .bool:=by
      unfold lY at hb;split at hb
      · assumption
      · simp at hb
     have he:(Op.equalIn 10000 s (.bool m) (.bool n)).run P w= .ok (m==n) w:=run_equalIn_bool' w 9999 s m n hu;split at hr<;>simp at hr<;>subst hr
     · exact fin (.bool (m==n)) hg (by simp[binOp,Op.equal,Op.maxDepth,he]) (by simp only[bU])
     · exact fin (.bool (m !=n)) hg (by simp[binOp,Op.equal,Op.maxDepth,he,bne]) (by simp only[bU])
   · simp at hr
 · rename_i m n Sd GV
   rw[Sd]at hx;rw[GV]at hy;rw[xq hx,xq hy]at fin;have hh:=run_binS (P:=P) (w:=w) (t:=s) hr;exact fin _ (jW (by simp) (by simp)) hh.1 (hh.2 _)
 · rename_i xs ys Sd GV
   rw[Sd]at hx;rw[GV]at hy;simp only[bU]at hx hy;obtain⟨vs,hvx,hLx,_⟩:=hx;obtain⟨us,hvy,hLy,_⟩:=hy;split at hr
   · rename_i l hks
     split at hr
     · rename_i hh
       unfold vl at hks;split at hks
       · simp at hks
       · rename_i hgu
         obtain⟨b,hb⟩:=xr hh.1 hh.2;have hs:=GR (P:=P) (w:=w) 10 s l hks 10000 (by omega) xs ys hh.1 hh.2 b hb;have e1:=sV hh.1 hLx;have e2:=sV hh.2 hLy;subst e1;subst e2;rw[hvx,hvy]at fin;have hg:(eqGuard op s x y (.agg (xs.map eE).toArray) (.agg (ys.map eE).toArray)).run P w= .ok () w:=run_eqGuard_agg w op s x y _ _ (by have:=fun h=>hgu (.inl h);simpa using this)
         cases tg:dS P s with
         |none=>exact absurd tg hs.2.2.1
         |some bb=>
          cases bb with
          |true=>
           have he:=hs.1 tg;split at hr
           · rw[hb]at hr
             obtain rfl:=an hr;exact fin (.bool b) hg (by rw[run_eql_struct,he];rfl) (by simp only[bU])
           · rw[hb]at hr
             obtain rfl:=an hr;exact fin (.bool !b) hg (by rw[run_neq_struct,he];rfl) (by simp only[bU])
           · simp at hr
          |false=>exact absurd (fun h=>hgu (.inr h)) (by simp[tg])
     · simp at hr
   · simp at hr
 · rename_i y' Sd
   rw[Sd]at hx;simp only[bU]at hx;rw[hx]at fin;have hg: ∀z,(eqGuard op s x y (.pointer none) z).run P w= .ok () w:=fun z=>jW (by simp) (by simp)
   split at hr
   · rename_i hp
     obtain⟨e,hu⟩:=Sb hp;have hnn:=VW (w:=w) 9999 hu;split at hr
     · split at hr
       · rename_i GV
         obtain rfl:=an hr;rw[GV]at hy;simp only[bU]at hy;rw[hy]at fin;exact fin (.bool true) (hg _) (vI hnn) (by simp only[bU])
       · split at hr
         · rename_i hip
           obtain rfl:=an hr;obtain⟨q,hq⟩:=VX hy hip;rw[hq]at fin;exact fin (.bool false) (hg _) (vI (GS 9999 hu q)) (by simp only[bU])
         · simp at hr
     · split at hr
       · rename_i GV
         obtain rfl:=an hr;rw[GV]at hy;simp only[bU]at hy;rw[hy]at fin;exact fin (.bool false) (hg _) (vJ hnn) (by simp only[bU])
       · split at hr
         · rename_i hip
           obtain rfl:=an hr;obtain⟨q,hq⟩:=VX hy hip;rw[hq]at fin;exact fin (.bool true) (hg _) (vJ (GS 9999 hu q)) (by simp only[bU])
         · simp at hr
     · simp at hr
   · simp at hr
 · rename_i x' GV eH
   rw[GV]at hy;simp only[bU]at hy;rw[hy]at fin;split at hr
   · rename_i hp
     simp only[ak]at hp;obtain⟨e,hu⟩:=Sb hp.1;obtain⟨q,hq⟩:=VX hx hp.2;rw[hq]at fin;have hg:(eqGuard op s x y (.pointer (some q)) (.pointer none)).run P w= .ok () w:=jW (by simp) (by simp)
     split at hr
     · obtain rfl:=an hr
       exact fin (.bool false) hg (vI (GU 9999 hu q)) (by simp only[bU])
     · obtain rfl:=an hr
       exact fin (.bool true) hg (vJ (GU 9999 hu q)) (by simp only[bU])
     · simp at hr
   · simp at hr
 · rename_i c Sd GV
   rw[Sd]at hx;rw[GV]at hy;simp only[bU]at hx hy;obtain⟨q,cap,hv,hq⟩:=hx;exact nilc q 0 cap c hv hy hq hr
 · rename_i e es Sd GV
   rw[Sd]at hx;rw[GV]at hy;simp only[bU]at hx hy;obtain⟨_,q,cap,hv,_,hm⟩:=hx;obtain⟨b,off,hq,_⟩:=hm (by simp)
   exact nilc q _ cap false hv hy (by rw[hq];rfl) hr
 · simp at hr
end
end Go.dF
namespace Go.dF
open Go.RowKit
theorem bU.pure_mono{E E':Env}(hw:E'.w=E.w)(hN: ∀b,¬E.N b-> ¬E'.N b){x:A}{v:Value}(hx:x.pure=true)(h:bU E x v):bU E' x v:=by refine bU.mono (K:=fun _=>False) ⟨by rw[hw];exact ai _,fun b _ hn=>⟨hN b hn,by rw[hw]⟩,fun _ _ hk=>hk.elim,fun _ _ _ _ _ _ hk=>hk.elim⟩ x v h fun n hn=> ?_;rw[A.su n x hx]at hn;cases hn
theorem jR.pure_mono{E E':Env}(hw:E'.w=E.w)(hN: ∀b,¬E.N b-> ¬E'.N b){k b off:Nat}{es:List A}(hp:A.pure.cX es=true)(h:jR E k b off es):jR E' k b off es:=
 gO.2 fun i e he=>by
  obtain⟨hl,hm⟩:=gO.1 h i e he;refine⟨hl,dc.2 fun j y hy=> ?_⟩
  obtain⟨v,hv,h1,hr⟩:=dc.1 hm j y hy;exact⟨v,by rw[hw];exact hv,h1,bU.pure_mono hw hN (cd (rK (cd hp he)) hy) hr⟩
theorem lX.pure_mono{E E':Env}(hw:E'.w=E.w)(hN: ∀b,¬E.N b-> ¬E'.N b){b off:Nat}{cs:List A}(hp:A.pure.cX cs=true)(h:lX E b off cs):lX E' b off cs:=
 dc.2 fun j y hy=>by obtain⟨v,hv,h1,hr⟩:=dc.1 h j y hy;exact⟨v,by rw[hw];exact hv,h1,bU.pure_mono hw hN (cd hp hy) hr⟩
theorem cH.pure_mono{E E':Env}(hw:E'.w=E.w)(hN: ∀b,¬E.N b-> ¬E'.N b){cs:List A}{vs:List Value}(hp:A.pure.cX cs=true)(h:cH E cs vs):cH E' cs vs:=by obtain⟨h1,h2⟩:=db.1 h;exact db.2 ⟨h1,fun i x v hx hv=>bU.pure_mono hw hN (cd hp hx) (h2 i x v hx hv)⟩
theorem B6{E:Env}{k b off:Nat}{es:List A}(h:jR E k b off es)(eH:es≠ []):eV es=k:=by
 cases es with
 |nil=>exact absurd rfl eH
 |cons e es=>exact(tt.1 h).1.1
structure Sees(N0:Nat->Prop)(φ:List ia)(w:World)(x:A)(N':Nat->Prop):Prop where
 le: ∀b,N' b->(bB N0 φ w).N b
 own:x.pure=true\/ ∀(n b k:Nat),φ[n]? =some (ia.loc b k)-> ¬N' b
section
variable{P:Program}{N0:Nat->Prop}{w0:pU}{nt:Nat}{σ:St}{φ:List ia}{a:Act}{w:World}
theorem KF(h:cn N0 w0 nt σ φ a w){n off k len:Nat}{c:Bool}{y:A}{v:Value}(hv:mb σ.H n off k len=some y)(hr:bU (bB N0 φ w) (.row n off k len c) v)
 {N':Nat->Prop} (hle: ∀b,N' b->(bB N0 φ w).N b) (Se: ∀(n b k:Nat),φ[n]? =some (ia.loc b k)-> ¬N' b):bU ⟨N',[],w⟩ y v/\y.pure=true:=by
 unfold mb at hv;split at hv
 · rename_i k' es ho
   split at hv
   · rename_i hc
     obtain⟨rfl,hlen⟩:=hc;obtain rfl:=an hv;refine⟨?_,by simp[A.pure]⟩
     have hl:((es.drop off).take len).length=len:=by simp;omega
     simp only[bU]at hr⊢;rcases hr with⟨o,kP,hf,rfl,_,q,hv⟩|⟨b,cap,c',e',fr,kP,hv,xj,_,hb,_⟩
     · refine⟨by simp[A.pure.cX],q,0,by simpa using hv,by simp,fun eH=>absurd (by simp) eH⟩
     · have kQ:=h.gp n _ _ ho kP
       simp only[cb]at kQ;obtain⟨_,hp,_,hE⟩:=kQ;have hE':=tu (n:=len) (BX (n:=off) hE)
       have yu:=rJ (n:=len) (rI (n:=off) hp)
       refine⟨yu,_,cap,by rw[hl];exact hv,by rw[hl];exact xj,fun eH=>⟨b,off*k',rfl,(h.own n b k' kP).2,Se n b k' kP, ?_⟩⟩
       have:=jR.pure_mono (E:=bB N0 φ w) (E':=⟨N',[],w⟩) rfl (fun b hn hb=>hn (hle b hb)) yu hE';rw[B6 this eH]
       simpa using this
   · simp at hv
 · simp at hv
theorem vK(h:cn N0 w0 nt σ φ a w){x y:A}{v:Value}(hv:pd σ.H x=some y)(hr:bU (bB N0 φ w) x v)
 {N':Nat->Prop} (hs:Sees N0 φ w x N'):bU ⟨N',[],w⟩ y v/\y.pure=true:=by
 have hN: ∀b,¬(bB N0 φ w).N b-> ¬N' b:=fun b hn hb=>hn (hs.le b hb)
 cases x<;>simp only[pd]at hv<;>try(simp at hv;done)
 case row n off k len c=>
  refine KF h hv hr hs.le ?_;rcases hs.own with hp|ho
  · simp[A.pure]at hp
  · exact ho
 case d_=>
  obtain rfl:=an hv;simp only[bU]at hr;exact⟨by simp only[bU];exact⟨rfl,none,0,by simpa using hr,ai _,fun eH=>absurd rfl eH⟩,by simp[A.pure]⟩
 case emp c=>
  obtain rfl:=an hv;simp only[bU]at hr;obtain⟨q,cap,hq,_⟩:=hr;exact⟨by simp only[bU];exact⟨rfl,q,cap,by simpa using hq,aw _,fun eH=>absurd rfl eH⟩,by simp[A.pure]⟩
 case clip es=>
  obtain rfl:=an hv;have GW:=bU.pure_mono (E:=bB N0 φ w) (E':=⟨N',[],w⟩) rfl hN (by simp[A.pure]) hr;simp only[bU]at GW;obtain⟨hp,q,hq,hm⟩:=GW;exact⟨by simp only[bU];exact⟨hp,q,_,hq,ai _,hm⟩,by simp[A.pure]⟩
 all_goals
  obtain rfl:=an hv;exact⟨bU.pure_mono (E:=bB N0 φ w) (E':=⟨N',[],w⟩) rfl hN (by simp[A.pure]) hr,by simp[A.pure]⟩
theorem yS{H:List Obj}: ∀{xs ys:List A},jS H xs=some ys->xs.length=ys.length/\ ∀(i:Nat) (x y:A),xs[i]? =some x->ys[i]? =some y->pd H x=some y
 | [],ys,h=>by simp[jS]at h;subst h;exact⟨rfl,fun i x y hx=>by simp at hx⟩
 |x::xs,ys,h=>by
  simp only[jS]at h;cases hx:pd H x with
  |none=>simp[hx]at h
  |some y=>
   simp only[hx,aY]at h;cases hl:jS H xs with
   |none=>simp[hl]at h
   |some ys'=>
    simp[hl]at h;subst h;obtain⟨h1,h2⟩:=yS hl;refine⟨by simp[h1],fun i x' y' OB Aj=> ?_⟩
    cases i with
    |zero=>simp at OB Aj;subst OB;subst Aj;exact hx
    |succ i=>exact h2 i x' y' (by simpa using OB) (by simpa using Aj)
theorem GX{H:List Obj}: ∀{xs ys:List A},nE H xs=some ys->xs.length=ys.length/\ ∀(i:Nat) (x y:A),xs[i]? =some x->ys[i]? =some y->ry H x=some y
 | [],ys,h=>by simp[nE]at h;subst h;exact⟨rfl,fun i x y hx=>by simp at hx⟩
 |x::xs,ys,h=>by
  simp only[nE]at h;cases hx:ry H x with
  |none=>simp[hx]at h
  |some y=>
   simp only[hx,aY]at h;cases hl:nE H xs with
   |none=>simp[hl]at h
   |some ys'=>
    simp[hl]at h;subst h;obtain⟨h1,h2⟩:=GX hl;refine⟨by simp[h1],fun i x' y' OB Aj=> ?_⟩
    cases i with
    |zero=>simp at OB Aj;subst OB;subst Aj;exact hx
    |succ i=>exact h2 i x' y' (by simpa using OB) (by simpa using Aj)
theorem B7{H:List Obj}: ∀{xs ys:List A},mX H xs=some ys->xs.length=ys.length/\ ∀(i:Nat) (x y:A),xs[i]? =some x->ys[i]? =some y->view H x=some y
 | [],ys,h=>by simp[mX]at h;subst h;exact⟨rfl,fun i x y hx=>by simp at hx⟩
 |x::xs,ys,h=>by
  simp only[mX]at h;cases hx:view H x with
  |none=>simp[hx]at h
  |some y=>
   simp only[hx,aY]at h;cases hl:mX H xs with
   |none=>simp[hl]at h
   |some ys'=>
    simp[hl]at h;subst h;obtain⟨h1,h2⟩:=B7 hl;refine⟨by simp[h1],fun i x' y' OB Aj=> ?_⟩
    cases i with
    |zero=>simp at OB Aj;subst OB;subst Aj;exact hx
    |succ i=>exact h2 i x' y' (by simpa using OB) (by simpa using Aj)
theorem M8{N':Nat->Prop}{x:A}{cs:List A}(hs:Sees N0 φ w x N')(hx:x.pure=true->A.pure.cX cs=true){i:Nat}{c:A}(hc:cs[i]? =some c):Sees N0 φ w c N':=
 ⟨hs.le,hs.own.imp (fun hp=>cd (hx hp) hc) id⟩
theorem DG(h:cn N0 w0 nt σ φ a w){x y:A}{v:Value}(hv:ry σ.H x=some y)(hr:bU (bB N0 φ w) x v)
 {N':Nat->Prop} (hs:Sees N0 φ w x N'):bU ⟨N',[],w⟩ y v/\y.pure=true:=by
 have hN: ∀b,¬(bB N0 φ w).N b-> ¬N' b:=fun b hn hb=>hn (hs.le b hb)
 cases x
 case ref n off=>
  have Se: ∀(n b k:Nat),φ[n]? =some (ia.loc b k)-> ¬N' b:=by
   rcases hs.own with hp|ho
   · simp[A.pure]at hp
   · exact ho
  simp only[ry]at hv;split at hv
  · rename_i cs ho
    cases hl:jS σ.H (cs.drop off)with
    |none=>simp[hl]at hv
    |some ys=>
     simp[hl]at hv;subst hv;simp only[bU]at hr;obtain⟨b,k,kP,hv⟩:=hr;have kQ:=h.gp n _ _ ho kP;simp only[cb]at kQ;have hm:=nS (n:=off) kQ.2;rw[bY]at hm;obtain⟨h1,h2⟩:=yS hl
     have key: ∀(i:Nat) (c:A),ys[i]? =some c->(∃u,w.cell? ⟨b,off+i,none⟩=some u/\u.oneCell'=true/\bU ⟨N',[],w⟩ c u)/\c.pure=true:=by
      intro i c hc;have hi:i<(cs.drop off).length:=by rw[h1];exact(aA.1 hc).1
      obtain⟨u,hu,gw,fY⟩:=dc.1 hm i _ (ae hi)
      have:=vK h (h2 i _ c (ae hi) hc) fY (N':=N') ⟨hs.le,.inr Se⟩
      exact⟨⟨u,hu,gw,this.1⟩,this.2⟩
     refine⟨?_,by simp[A.pure]⟩
     simp only[bU]
     exact⟨gQ fun i c hc=>(key i c hc).2,b,off,hv,(h.own n b k kP).2,Se n b k kP,dc.2 fun i c hc=>(key i c hc).1⟩
  · simp at hv
 case mu n i off=>
  have Se: ∀(n b k:Nat),φ[n]? =some (ia.loc b k)-> ¬N' b:=by
   rcases hs.own with hp|ho
   · simp[A.pure]at hp
   · exact ho
  simp only[ry]at hv;split at hv
  · rename_i k' es ho
    cases hi:es[i]? with
    |none=>simp[hi]at hv
    |some e=>
     simp[hi]at hv;subst hv;simp only[bU]at hr;obtain⟨b,k,kP,hv⟩:=hr;have kQ:=h.gp n _ _ ho kP;simp only[cb]at kQ;obtain⟨rfl,hp,_,hE⟩:=kQ;obtain⟨_,hm⟩:=gO.1 hE i e hi;have oo:=nS (n:=off) hm;rw[bY]at oo;have VH:=rI (n:=off) (rK (cd hp hi))
     refine⟨?_,by simp[A.pure]⟩
     simp only[bU]
     exact⟨VH,b,i*k'+off,hv,(h.own n b k' kP).2,Se n b k' kP,lX.pure_mono (E:=bB N0 φ w) (E':=⟨N',[],w⟩) rfl hN VH oo⟩
  · simp at hv
 case agg cs=>
  simp only[ry]at hv;cases hl:jS σ.H cs with
  |none=>simp[hl]at hv
  |some ys=>
   simp[hl]at hv;subst hv;simp only[bU]at hr⊢;obtain⟨vs,hv,hL,gw⟩:=hr;obtain⟨h1,h2⟩:=yS hl;obtain⟨g1,g2⟩:=db.1 hL
   have key: ∀(i:Nat) (c:A) (u:Value),ys[i]? =some c->vs[i]? =some u->bU ⟨N',[],w⟩ c u/\c.pure=true:=by
    intro i c u hc hu;have hi:i<cs.length:=by rw[h1];exact(aA.1 hc).1
    exact vK h (h2 i _ c (ae hi) hc) (g2 i _ u (ae hi) hu) (M8 hs (fun hp=>by simpa only[A.pure]using hp) (ae hi))
   refine⟨⟨vs,hv,db.2 ⟨by rw[<-h1,g1],fun i c u hc hu=>(key i c u hc hu).1⟩,gw⟩, ?_⟩
   simp only[A.pure]
   refine gQ fun i c hc=> ?_;have hi:i<vs.length:=by rw[<-g1,h1];exact(aA.1 hc).1
   exact(key i c _ hc (ae hi)).2
 all_goals
  simp only[ry]at hv;exact vK h hv hr hs
theorem rL(h:cn N0 w0 nt σ φ a w){x y:A}{v:Value}(hv:view σ.H x=some y)(hr:bU (bB N0 φ w) x v)
 {N':Nat->Prop} (hs:Sees N0 φ w x N'):bU ⟨N',[],w⟩ y v/\y.pure=true:=by
 cases x
 case fn f cs=>
  simp only[view]at hv;cases hl:nE σ.H cs with
  |none=>simp[hl]at hv
  |some ys=>
   simp[hl]at hv;subst hv;simp only[bU]at hr⊢;obtain⟨vs,hv,hL⟩:=hr;obtain⟨h1,h2⟩:=GX hl;obtain⟨g1,g2⟩:=db.1 hL
   have key: ∀(i:Nat) (c:A) (u:Value),ys[i]? =some c->vs[i]? =some u->bU ⟨N',[],w⟩ c u/\c.pure=true:=by
    intro i c u hc hu;have hi:i<cs.length:=by rw[h1];exact(aA.1 hc).1
    exact DG h (h2 i _ c (ae hi) hc) (g2 i _ u (ae hi) hu) (M8 hs (fun hp=>by simpa only[A.pure]using hp) (ae hi))
   refine⟨⟨vs,hv,db.2 ⟨by rw[<-h1,g1],fun i c u hc hu=>(key i c u hc hu).1⟩⟩, ?_⟩
   simp only[A.pure]
   refine gQ fun i c hc=> ?_;have hi:i<vs.length:=by rw[<-g1,h1];exact(aA.1 hc).1
   exact(key i c _ hc (ae hi)).2
 all_goals
  simp only[view]at hv;exact DG h hv hr hs
theorem DH(h:cn N0 w0 nt σ φ a w){xs ys:List A}{vs:List Value}(hv:mX σ.H xs=some ys)(hr:cH (bB N0 φ w) xs vs)
 {N':Nat->Prop} (hle: ∀b,N' b->(bB N0 φ w).N b) (Se:A.pure.cX xs=true\/ ∀(n b k:Nat),φ[n]? =some (ia.loc b k)-> ¬N' b):cH ⟨N',[],w⟩ ys vs/\A.pure.cX ys=true:=by
 obtain⟨h1,h2⟩:=B7 hv;obtain⟨g1,g2⟩:=db.1 hr
 have key: ∀(i:Nat) (c:A) (u:Value),ys[i]? =some c->vs[i]? =some u->bU ⟨N',[],w⟩ c u/\c.pure=true:=by
  intro i c u hc hu;have hi:i<xs.length:=by rw[h1];exact(aA.1 hc).1
  exact rL h (h2 i _ c (ae hi) hc) (g2 i _ u (ae hi) hu) ⟨hle,Se.imp (fun hp=>cd hp (ae hi)) id⟩
 refine⟨db.2 ⟨by rw[<-h1,g1],fun i c u hc hu=>(key i c u hc hu).1⟩,gQ fun i c hc=> ?_⟩
 have hi:i<vs.length:=by rw[<-g1,h1];exact(aA.1 hc).1
 exact(key i c _ hc (ae hi)).2
theorem uo(h:cn N0 w0 nt σ φ a w): ∀(n b k:Nat),φ[n]? =some (ia.loc b k)-> ¬N0 b:=
 fun n b k hb hn=>(h.own n b k hb).1.elim (fun h1=>Nat.lt_irrefl _ (cG (h.n0 b hn).1 h1)) (h.n0 b hn).2
end
end Go.dF
namespace Go.dF
open Go.RowKit
section
variable{P:Program}{N0:Nat->Prop}{w0:pU}{nt:Nat}{σ:St}{φ:List ia}{a:Act}{w:World}
theorem VZ{t:TypeId}(h:(dS P t).isSome=true): ∃d,P.underlying t=some d:=by
 cases hu:P.underlying t with
 |some d=>exact⟨d,rfl⟩
 |none=>simp[dS,hu]at h
theorem GY{E:Env}{b:Nat}: ∀{es:List A} {s:List UInt8} {off:Nat},lB es=some s->jR E 1 b off es-> ∃ns:List Int,E.w.rangeAt b off (ns.map (Value.int .u8))/\ns.length=es.length/\ns.map (fun n=>UInt8.ofNat n.toNat)=s
 | [],s,off,h,_=>by simp[lB]at h;subst h;exact⟨[],fun j v hv=>by simp at hv,rfl,rfl⟩
 |x::xs,s,off,h,hE=>by
  simp only[lB]at h;cases hx:Ac x with
  |none=>simp[hx]at h
  |some c=>
   simp only[hx,aY]at h;cases hl:lB xs with
   |none=>simp[hl]at h
   |some s'=>
    simp[hl]at h;subst h;obtain⟨⟨h1,hm⟩,hE'⟩:=tt.1 hE;obtain⟨ns,hr,hlen,hns⟩:=GY hl hE';unfold Ac at hx;split at hx
    · rename_i n
      simp at hx;subst hx;simp only[A.cells]at hm;obtain⟨v,hv,_,fY⟩:=R9.1 hm;rw[nC fY]at hv;refine⟨n::ns,fun j u hu=> ?_,by simp[hlen],by simp[hns]⟩
      cases j with
      |zero=>simp at hu;subst hu;simpa using hv
      |succ j=>
       have:=hr j u (by simpa using hu)
       rwa [show off+1+j=off+(j+1) by omega]at this
    · simp at hx
theorem DI: ∀(ns:List Int) (l:List UInt8),ns.foldl (fun(r:ByteArray) n=>r.push (UInt8.ofNat n.toNat)) ⟨l.toArray⟩=⟨(l++ns.map fun n=>UInt8.ofNat n.toNat).toArray⟩
 | [],l=>by simp
 |n::ns,l=>by
  have e:(⟨l.toArray⟩:ByteArray).push (UInt8.ofNat n.toNat)=⟨(l++[UInt8.ofNat n.toNat]).toArray⟩:=by apply tw;simp[ByteArray.push]
  rw[cg,e,DI ns]
  simp
theorem Ak(h:cn N0 w0 nt σ φ a w){d:Option Tmp}{src dst:Nat}{x:Operand}{t:TypeId}{p:String}{af:Array Edge}{g:Option (Nat×Bool)}{r:A}
 (hr:tn P src dst σ.H (σ.ev x)=some r):Good P ⟨d,.convert src dst x,t,p,af,g⟩ a w N0 φ r:=by
 have hx:=h.ev x
 have b2s: ∀v,σ.ev x=v->rz (Ae P src dst) (view σ.H v)=some r->(∃q l c,a.eval x= .slice q l c)->Good P ⟨d,.convert src dst x,t,p,af,g⟩ a w N0 φ r:=by
  intro v hv hr vz;subst hv;unfold rz at hr;split at hr
  · rename_i hb
    split at hr
    · rename_i es GZ
      cases KG:lB es with
      |none=>simp[KG]at hr
      |some s=>
       simp[KG]at hr;subst hr;have hvw:=(rL h GZ hx (N':=N0) ⟨fun b hb=> .inl hb,.inr (uo h)⟩).1;simp only[bU]at hvw;obtain⟨_,q,cap,mO,_,hm⟩:=hvw;unfold Ae at hb;simp only[ak]at hb;obtain⟨hb1,hb2⟩:=hb;cases he:cP P src with
       |none=>simp[he]at hb1
       |some e=>
        simp[he]at hb1;have hu:=iS he;have hue:=GP hb1;have hud:=oE hb2
        have hconv:(convert src dst (a.eval x)).run P w=(Conv.bytesToString (a.eval x)).run P w:=by
         rw[mO]
         simp[convert,run_underlying hu,run_underlying hue,run_underlying hud]
        refine en rfl (v:= .string ⟨s.toArray⟩) ?_ (by simp only[bU])
        rw[hconv,mO]
        by_cases eH:es=[]
        · subst eH
          simp[lB]at KG;subst KG;cases q with
          |none=>simp[Conv.bytesToString];rfl
          |some q=>
           have:=run_bytesToString (P:=P) w q 0 cap [] (by simpa using run_loadCells_list (P:=P) w q [] (by simp))
           simp only[oF]at this;exact this
        · obtain⟨b,off,rfl,hb,hnb,hE⟩:=hm eH
          have eO:eV es=1:=by
           cases es with
           |nil=>exact absurd rfl eH
           |cons e es=>
            simp only[lB]at KG;cases e<;>simp_all[Ac,eV,A.cells]
          rw[eO]at hE;obtain⟨ns,hr,hlen,hns⟩:=GY KG hE
          have hl:(loadCells ⟨b,off,none⟩ es.length).run P w= .ok (ns.map (Value.int .u8)).toArray w:=by
           have:=run_loadCells_list (P:=P) w ⟨b,off,none⟩ (ns.map (Value.int .u8)) (fun j v hv=>by rw[Addr.add_mid];exact hr j v hv)
           rwa [aa,hlen]at this
          rw[run_bytesToString w _ _ _ ns hl]
          have:=DI ns []
          rw[show(ByteArray.empty:ByteArray)=⟨([]:List UInt8).toArray⟩from rfl,this,bx,hns]
    · simp at hr
  · simp at hr
 cases hc:σ.ev x<;>simp only[hc,tn]at hr
 case int k n=>
  split at hr
  · rename_i k' hk
    split at hr
    · rename_i tg
      obtain rfl:=an hr;rw[hc]at hx;obtain⟨ds,hds⟩:=VZ tg;refine en rfl (v:= .int k' (k'.wrap n)) ?_ (by simp only[bU])
      rw[nC hx]
      simp[convert,run_underlying hds,run_underlying (GP hk),Conv.intToInt]
    · simp at hr
  · simp at hr
 case str s=>
  split at hr
  · rename_i hb
    simp only[ak]at hb;obtain rfl:=an hr;rw[hc]at hx;refine en rfl (v:=a.eval x) ?_ hx;rw[xq hx]
    simp[convert,run_underlying (oE hb.1),run_underlying (oE hb.2)]
  · simp at hr
 case ay es=>
  rw[hc]at hx;simp only[bU]at hx;obtain⟨_,q,cap,hv,_⟩:=hx;exact b2s _ hc hr ⟨_,_,_,hv⟩
 case clip es=>
  rw[hc]at hx;simp only[bU]at hx;obtain⟨_,q,hv,_⟩:=hx;exact b2s _ hc hr ⟨_,_,_,hv⟩
 case d_=>
  rw[hc]at hx;simp only[bU]at hx;exact b2s _ hc hr ⟨_,_,_,hx⟩
 case row n off k len c=>
  rw[hc]at hx;simp only[bU]at hx;rcases hx with⟨_,_,_,_,_,q,hv⟩|⟨b,cap,_,_,_,_,hv,_⟩
  · exact b2s _ hc hr ⟨_,_,_,hv⟩
  · exact b2s _ hc hr ⟨_,_,_,hv⟩
 all_goals simp at hr
theorem V0(h:cn N0 w0 nt σ φ a w){d:Option Tmp}{s f:Nat}{x:Operand}{t:TypeId}{p:String}{af:Array Edge}{g:Option (Nat×Bool)}{r:A}
 (hr:VS P (fieldInfo P s f) (σ.ev x)=some r):Good P ⟨d,.field s x f,t,p,af,g⟩ a w N0 φ r:=by
 unfold VS at hr;split at hr
 · rename_i o ft cs hf hc
   have hx:=h.ev x;rw[hc]at hx;simp only[bU]at hx;obtain⟨vs,hv,hL,gw⟩:=hx;obtain⟨fs,fx,n,hu,z_,rfl,rfl,hn,hn0⟩:=uk hf
   have hfield:(Instr.field s (a.eval x) f).run P w=(part fx.type vs.toArray fx.offset).run P w:=by
    rw[hv]
    simp[Instr.field,run_underlying hu,z_,asAgg]
   unfold pc at hr;split at hr
   · rename_i tg
     rw[hn]at hr;simp only at hr;split at hr
     · rename_i hle
       obtain rfl:=an hr;refine en rfl (v:= .agg ((vs.drop fx.offset).take n).toArray) ?_ ?_
       · rw[hfield]
         simp only[part,Sem.run_bind,rH tg,Result.andThen_ok,if_true,run_sizeOf hn,Sem.run_pure]
         congr 2
         apply np;simp[iV]
       · simp only[bU]
         exact⟨_,rfl,BY (BZ hL),fun u hu=>gw u (dj (b_ hu))⟩
     · simp at hr
   · rename_i tg
     cases hd:cs.drop fx.offset with
     |nil=>simp[hd]at hr
     |cons y ys=>
      simp[hd]at hr;subst hr;obtain⟨g1,g2⟩:=db.1 hL
      have bo:fx.offset<cs.length:=by
       rcases fT fx.offset cs.length with h|h
       · exact h
       · rw[mY h]at hd;cases hd
      have hy:cs[fx.offset]? =some y:=by
       have e:=(ax bo).symm.trans hd;injection e with e1 e2
       rw[ae bo,e1]
      have aH:fx.offset<vs.length:=by omega
      refine en rfl (v:=vs[fx.offset]) ?_ (g2 _ _ _ hy (ae aH))
      rw[hfield]
      simp[part,nB tg,aH]
   · simp at hr
 · simp at hr
theorem V3(h:cn N0 w0 nt σ φ a w){d:Option Tmp}{s:Nat}{x y:Operand}{t:TypeId}{p:String}{af:Array Edge}{g:Option (Nat×Bool)}{r:A}
 (hr:BS P s (σ.ev x) (σ.ev y)=some r):Good P ⟨d,.index s x y,t,p,af,g⟩ a w N0 φ r:=by
 have hx:=h.ev x;have hy:=h.ev y;unfold BS at hr;split at hr
 · rename_i k i str GV Sd
   rw[Sd]at hx;rw[GV]at hy;split at hr
   · rename_i hc
     cases hi:str[i.toNat]? with
     |none=>simp[hi]at hr
     |some c=>
      simp[hi]at hr;subst hr;have bo:i.toNat<str.length:=(aA.1 hi).1;have VI:str[i.toNat]=c:=by rw[ae bo]at hi;simpa using hi
      refine en rfl (v:= .int .u8 c.toNat) ?_ (by simp only[nk,bU])
      rw[xq hx,nC hy,run_index_string w s _ k i (oE hc.1),dif_pos ⟨hc.2,by rw[um];omega⟩]
      congr 2
      rw[<-VI]
      rfl
   · simp at hr
 · rename_i k i cs GV Sd
   rw[Sd]at hx;rw[GV]at hy;simp only[bU]at hx;obtain⟨vs,hv,hL,gw⟩:=hx;split at hr
   · rename_i n e hn
     split at hr
     · rename_i kk hk
       split at hr
       · rename_i hc
         have hidx:(Instr.index s (a.eval x) (a.eval y)).run P w=(part e vs.toArray (i.toNat*kk)).run P w:=by
          rw[hv,nC hy]
          simp[Instr.index,asIntOf,run_underlying (Ah hn),hc,run_sizeOf hk]
         generalize hoff:i.toNat*kk=o at hr hidx;unfold pc at hr;split at hr
         · rename_i tg
           rw[hk]at hr;simp only at hr;split at hr
           · rename_i hle
             obtain rfl:=an hr;refine en rfl (v:= .agg ((vs.drop o).take kk).toArray) ?_ ?_
             · rw[hidx]
               simp only[part,Sem.run_bind,rH tg,Result.andThen_ok,if_true,run_sizeOf hk,Sem.run_pure]
               congr 2
               apply np;simp[iV]
             · simp only[bU]
               exact⟨_,rfl,BY (BZ hL),fun u hu=>gw u (dj (b_ hu))⟩
           · simp at hr
         · rename_i tg
           cases hd:cs.drop o with
           |nil=>simp[hd]at hr
           |cons z zs=>
            simp[hd]at hr;subst hr;obtain⟨g1,g2⟩:=db.1 hL
            have bo:o<cs.length:=by
             rcases fT o cs.length with h|h
             · exact h
             · rw[mY h]at hd;cases hd
            have hz:cs[o]? =some z:=by
             have e:=(ax bo).symm.trans hd;injection e with e1 e2
             rw[ae bo,e1]
            have aH:o<vs.length:=by omega
            refine en rfl (v:=vs[o]) ?_ (g2 _ _ _ hz (ae aH))
            rw[hidx]
            simp[part,nB tg,aH]
         · simp at hr
       · simp at hr
     · simp at hr
   · simp at hr
 · simp at hr
theorem G0(h:cn N0 w0 nt σ φ a w){d:Option Tmp}{s:Nat}{x y:Operand}{t:TypeId}{p:String}{af:Array Edge}{g:Option (Nat×Bool)}{r:A}
 (hr:rD P s (σ.ev x) (σ.ev y)=some r):Good P ⟨d,.indexAddr s x y,t,p,af,g⟩ a w N0 φ r:=by
 have hx:=h.ev x;have hy:=h.ev y;unfold rD at hr;split at hr
 · rename_i kd i GV
   rw[GV]at hy;split at hr
   · rename_i e he
     split at hr
     · rename_i k hk
       have run: ∀b off len cap,a.eval x= .slice (some ⟨b,off,none⟩) len cap->0<=i->i<len->(Instr.indexAt s (a.eval x) (a.eval y)).run P w= .ok (.pointer (some ⟨b,off+i.toNat*k,none⟩)) w:=by
        intro b off len cap hv h0 h1;rw[hv,nC hy]
        simp[Instr.indexAt,asIntOf,run_underlying (iS he),h0,h1,run_sizeOf hk,Addr.add_mid]
       have data: ∀(es:List A) (cap:Nat) (q:Option Addr),a.eval x= .slice q es.length cap->A.pure.cX es=true->
        (es≠ []-> ∃b off,q=some ⟨b,off,none⟩/\b<(bB N0 φ w).w.heap.size/\ ¬(bB N0 φ w).N b/\jR (bB N0 φ w) (eV es) b off es)->getE k i es=some r->Good P ⟨d,.indexAddr s x y,t,p,af,g⟩ a w N0 φ r:=by
        intro es cap q hv hp hm hr;unfold getE iu at hr;split at hr
        · rename_i h0
          cases hi:es[i.toNat]? with
          |none=>simp[hi]at hr
          |some z=>
           simp only[hi,aY]at hr;split at hr
           · rename_i hkz
             obtain rfl:=an hr;have bo:=(aA.1 hi).1;obtain⟨b,off,rfl,hb,hnb,hE⟩:=hm (by rintro rfl;simp at bo)
             obtain⟨hl,hmm⟩:=gO.1 hE _ _ hi;rw[<-hkz]at hl;rw[<-hl]at hmm;refine en rfl (run b off _ cap hv h0 (by omega)) ?_;simp only[bU]
             exact⟨rK (cd hp hi),b,_,rfl,hb,hnb,hmm⟩
           · simp at hr
        · simp at hr
       cases hc:σ.ev x<;>simp only[hc,rC]at hr<;>try(simp at hr;done)
       · rw[hc]at hx
         simp only[bU]at hx;obtain⟨hp,q,cap,hv,_,hm⟩:=hx;exact data _ cap q hv hp hm hr
       · rw[hc]at hx
         simp only[bU]at hx;obtain⟨hp,q,hv,hm⟩:=hx;exact data _ _ q hv hp hm hr
       · rename_i n off k' len c
         rw[hc]at hx;split at hr
         · rename_i iI
           obtain⟨rfl,h0,h1⟩:=iI;obtain rfl:=an hr;simp only[bU]at hx;rcases hx with⟨_,_,_,rfl,_⟩|⟨b,cap,_,_,_,kP,hv,_⟩
           · omega
           · refine en rfl (run b _ _ cap hv h0 h1) ?_
             simp only[bU]
             exact⟨b,k,kP,by rw[cJ,dh]⟩
         · simp at hr
     · simp at hr
   · split at hr
     · rename_i n e hn
       split at hr
       · rename_i k hk
         have run: ∀b off,a.eval x= .pointer (some ⟨b,off,none⟩)->0<=i->i<n->(Instr.indexAt s (a.eval x) (a.eval y)).run P w= .ok (.pointer (some ⟨b,off+i.toNat*k,none⟩)) w:=by
          intro b off hv h0 h1;rw[hv,nC hy]
          simp[Instr.indexAt,asIntOf,run_underlying (Ah hn),Instr.sureAddr,h0,h1,run_sizeOf hk,Addr.add_mid]
         cases hc:σ.ev x<;>simp only[hc,ua]at hr<;>try(simp at hr;done)
         · rename_i cs
           rw[hc]at hx;simp only[bU]at hx;obtain⟨hp,b,off,hv,hb,hnb,hm⟩:=hx;split at hr
           · rename_i iI
             obtain rfl:=an hr;refine en rfl (run b off hv iI.1 iI.2) ?_;simp only[bU]
             exact⟨rI hp,b,_,rfl,hb,hnb,nS hm⟩
           · simp at hr
         · rename_i m off
           rw[hc]at hx;simp only[bU]at hx;obtain⟨b,kk,kP,hv⟩:=hx;split at hr
           · rename_i iI
             obtain rfl:=an hr;refine en rfl (run b off hv iI.1 iI.2) ?_;simp only[bU]
             exact⟨b,kk,kP,rfl⟩
           · simp at hr
       · simp at hr
     · simp at hr
 · simp at hr
end
end Go.dF
namespace Go.dF
open Go.RowKit
section
variable{P:Program}{N0:Nat->Prop}{w0:pU}{nt:Nat}{σ:St}{φ:List ia}{a:Act}{w:World}
theorem G1(h:cn N0 w0 nt σ φ a w){o:Option Operand}(ho:(σ.bd o).ok=true):(o=none/\σ.bd o= .none)\/ ∃k n,o.map a.eval=some (.int k n)/\σ.bd o= .some n:=by
 cases o with
 |none=>exact .inl ⟨rfl,rfl⟩
 |some x=>
  right;simp only[St.bd]at ho⊢;cases hx:σ.ev x<;>simp only[hx,bdOf,Bd.ok]at ho<;>try(simp at ho;done)
  rename_i k n;have:=h.ev x;rw[hx]at this;exact⟨k,n,by simp[nC this],rfl⟩
theorem run_sliceBound{k:IntKind}{n:Int}{y:Nat}{c:BoundsCode}(h0:0<=n)(h1:n<=y):(Instr.sliceBound (.int k n) y c).run P w= .ok n.toNat w:=by simp[Instr.sliceBound,asIntOf,h0,h1]
theorem vL(h:cn N0 w0 nt σ φ a w){lo hi:Option Operand}(vM:(σ.bd lo).ok=true)(hhi:(σ.bd hi).ok=true){isS:Bool}{len cap:Nat}(xj:len<=cap)
 (h0:0<=(σ.bd lo).get 0) (h1:(σ.bd lo).get 0<=(σ.bd hi).get len) (h2:(σ.bd hi).get len<=len):
 (Instr.sliceBounds isS len cap (lo.map a.eval) (hi.map a.eval) none).run P w= .ok (((σ.bd lo).get 0).toNat,((σ.bd hi).get len).toNat,cap) w:=by
 rcases G1 h vM with⟨rfl,e1⟩|⟨k,n,e1,e2⟩<;>rcases G1 h hhi with⟨rfl,e3⟩|⟨k',n',e3,e4⟩
 · simp[Instr.sliceBounds,e1,Bd.get]
 · rw[e4]at h1 h2⊢
   rw[e1]at h1⊢;simp only[Bd.get]at h1 h2⊢;have:=run_sliceBound (P:=P) (w:=w) (k:=k') (n:=n') (y:=cap) (c:=if isS then .sliceAcap else .sliceAlen) (by omega) (by omega)
   simp[Instr.sliceBounds,e3,this]
 · rw[e2]at h0 h1⊢
   simp only[Bd.get]at h0 h1⊢;rw[e3]at h1⊢;simp only at h1⊢;have:=run_sliceBound (P:=P) (w:=w) (k:=k) (n:=n) (y:=len) (c:= .sliceB) h0 (by omega)
   simp[Instr.sliceBounds,e1,this]
 · rw[e2]at h0 h1⊢
   rw[e4]at h1 h2⊢;simp only[Bd.get]at h0 h1 h2⊢;have t1:=run_sliceBound (P:=P) (w:=w) (k:=k') (n:=n') (y:=cap) (c:=if isS then .sliceAcap else .sliceAlen) (by omega) (by omega)
   have t2:=run_sliceBound (P:=P) (w:=w) (k:=k) (n:=n) (y:=n'.toNat) (c:= .sliceB) h0 (by omega)
   simp[Instr.sliceBounds,e1,e3,t1,t2]
theorem DJ(h:cn N0 w0 nt σ φ a w){lo hi mx:Option Operand}(vM:(σ.bd lo).ok=true){m:Int}(hhi:σ.bd hi= .some m)(Sf:σ.bd mx= .some m){isS:Bool}{len cap:Nat}(xj:len<=cap)
 (h0:0<=(σ.bd lo).get 0) (h1:(σ.bd lo).get 0<=m) (h2:m<=len):
 (Instr.sliceBounds isS len cap (lo.map a.eval) (hi.map a.eval) (mx.map a.eval)).run P w= .ok (((σ.bd lo).get 0).toNat,m.toNat,m.toNat) w:=by
 rcases G1 h (o:=hi) (by rw[hhi];rfl)with⟨rfl,e3⟩|⟨k',n',e3,e4⟩
 · rw[e3]at hhi;cases hhi
 rcases G1 h (o:=mx) (by rw[Sf];rfl)with⟨rfl,e5⟩|⟨Ky,n'',e5,e6⟩
 · rw[e5]at Sf;cases Sf
 have pz:n'=m:=by rw[e4]at hhi;injection hhi
 have hn'':n''=m:=by rw[e6]at Sf;injection Sf
 rw[pz]at e3;rw[hn'']at e5;have t1:=fun c=>run_sliceBound (P:=P) (w:=w) (k:=Ky) (n:=m) (y:=cap) (c:=c) (by omega) (by omega)
 have t2:=fun c=>run_sliceBound (P:=P) (w:=w) (k:=k') (n:=m) (y:=m.toNat) (c:=c) (by omega) (by omega)
 rcases G1 h vM with⟨rfl,e1⟩|⟨k,n,e1,e2⟩
 · simp[Instr.sliceBounds,e1,e3,e5,Bd.get,t1,t2]
 · rw[e2]at h0 h1⊢
   simp only[Bd.get]at h0 h1⊢;have t3:=fun c=>run_sliceBound (P:=P) (w:=w) (k:=k) (n:=n) (y:=m.toNat) (c:=c) h0 (by omega)
   simp[Instr.sliceBounds,e1,e3,e5,t1,t2,t3]
theorem extract_mk(s:List UInt8)(l h:Nat):(⟨s.toArray⟩:ByteArray).extract l h=⟨((s.take h).drop l).toArray⟩:=by apply tw;simp[ByteArray.data_extract,iV,sy]
theorem Sg{t:TypeId}(ht:(jQ P t).isNone=true){d:TypeDesc}(hu:P.underlying t=some d){x:Value}{lo hi mx:Option Value}:(Instr.sliceAt t x lo hi mx).run P w=(Instr.slice t x lo hi mx).run P w:=by
 unfold Instr.sliceAt;rw[Sem.run_bind,run_underlying hu,Result.andThen_ok]
 cases d<;>first|rfl|(simp[jQ,hu]at ht)
theorem V4(h:cn N0 w0 nt σ φ a w){d:Option Tmp}{s:Nat}{x:Operand}{lo hi mx:Option Operand}{t:TypeId}{p:String}{af:Array Edge}{g:Option (Nat×Bool)}{r:A}
 (ht:(jQ P s).isNone=true) (vM:(σ.bd lo).ok=true) (hhi:(σ.bd hi).ok=true)
 (hr:yN (lA P s) (yO P s) (σ.ev x) (σ.bd lo) (σ.bd hi) (σ.bd mx)=some r):Good P ⟨d,.slice s x lo hi mx,t,p,af,g⟩ a w N0 φ r:=by
 have hx:=h.ev x
 have nomx:σ.bd mx= .none->mx=none:=by
  cases mx with
  |none=>intro _;rfl
  |some m=>intro hm;simp only[St.bd]at hm;cases he:σ.ev m<;>simp[he,bdOf]at hm
 have fin: ∀{d':TypeDesc} {v:Value},P.underlying s=some d'->(Instr.slice s (a.eval x) (lo.map a.eval) (hi.map a.eval) (mx.map a.eval)).run P w= .ok v w->bU (bB N0 φ w) r v->Good P ⟨d,.slice s x lo hi mx,t,p,af,g⟩ a w N0 φ r:=by intro d' v hu hv fY;exact en rfl (by rw[Sg ht hu];exact hv) fY
 have elems: ∀(k:Nat) (es:List A) (q:Option Addr) (cap:Nat),yO P s=some k->a.eval x= .slice q es.length cap->es.length<=cap->A.pure.cX es=true->
  (es≠ []-> ∃b off,q=some ⟨b,off,none⟩/\b<(bB N0 φ w).w.heap.size/\ ¬(bB N0 φ w).N b/\jR (bB N0 φ w) (eV es) b off es)->
  BQ k es (σ.bd lo) (σ.bd hi) (σ.bd mx)=some r->Good P ⟨d,.slice s x lo hi mx,t,p,af,g⟩ a w N0 φ r:=by
  intro k es q cap hk hv xj hp hm hr;unfold yO at hk;cases he:cP P s with
  |none=>simp[he]at hk
  |some e=>
   simp only[he]at hk;have hu:=iS he
   have core: ∀l hh:Nat,l<=hh->hh<=es.length->qo k es=true-> ∀c':Nat,hh<=c'->c'<=cap->
    A.pure.cX ((es.take hh).drop l)=true/\((es.take hh).drop l).length=hh-l/\
    ((es.take hh).drop l≠ []-> ∃b off,(if c'=l then q else q.map (·.add (l*k)))=some ⟨b,off,none⟩/\b<(bB N0 φ w).w.heap.size/\ ¬(bB N0 φ w).N b/\jR (bB N0 φ w) (eV ((es.take hh).drop l)) b off ((es.take hh).drop l)):=by
    intro l hh hl hhl eO c' BK VI;refine⟨rI (rJ hp),by simp;omega,fun eH=> ?_⟩
    have GZ:es≠ []:=by rintro rfl;simp at eH
    have bo:l<hh:=by
     rcases fT l hh with bo|hge
     · exact bo
     · exfalso;apply eH;apply mY;simp;omega
    obtain⟨b,off,rfl,hb,hnb,hE⟩:=hm GZ
    have M9:eV es=k:=by
     unfold qo at eO;cases es with
     |nil=>exact absurd rfl GZ
     |cons z zs=>simpa using eO
    rw[M9]at hE;have hE':=BX (n:=l) (tu (n:=hh) hE)
    refine⟨b,off+l*k, ?_,hb,hnb,by rw[B6 hE' eH];exact hE'⟩
    rw[if_neg (by omega)]
    simp[Addr.add_mid]
   unfold BQ at hr;split at hr
   · rename_i Sf
     split at hr
     · rename_i hc
       obtain⟨eO,h0,h1,h2⟩:=hc;obtain rfl:=an hr;have hb:=vL (P:=P) h vM hhi (isS:=true) xj h0 h1 h2;have hmx':=nomx Sf;subst hmx';obtain⟨c1,c2,c3⟩:=core ((σ.bd lo).get 0).toNat ((σ.bd hi).get es.length).toNat (by omega) (by omega) eO cap (by omega) (ai _)
       refine fin hu (v:= .slice (if cap=((σ.bd lo).get 0).toNat then q else q.map (·.add (((σ.bd lo).get 0).toNat*k))) (((σ.bd hi).get es.length).toNat-((σ.bd lo).get 0).toNat) (cap-((σ.bd lo).get 0).toNat)) ?_ ?_
       · rw[hv]
         simp only[eQ]
         simp only[Instr.slice,Sem.run_bind,run_underlying hu,Result.andThen_ok,hb,run_sizeOf hk,Sem.run_pure]
       · simp only[bU]
         exact⟨c1,_,_,by rw[c2],by rw[c2];omega,c3⟩
     · simp at hr
   · rename_i m Sf
     split at hr
     · rename_i hc
       obtain⟨eO,h0,h1,h2,h3,h4⟩:=hc
       have hhi':σ.bd hi= .some m:=by
        cases hb:σ.bd hi with
        |some n=>rw[hb]at h3;simp only[Bd.get]at h3;rw[h3]
        |none=>simp[hb,Bd.ok3]at h4
        |bad=>simp[hb,Bd.ok3]at h4
       have hg:(σ.bd hi).get es.length=m:=by rw[hhi'];rfl
       rw[hg]at h1 h2 hr;obtain rfl:=an hr;have hb:=DJ (P:=P) h vM hhi' Sf (isS:=true) xj h0 h1 h2;obtain⟨c1,c2,c3⟩:=core ((σ.bd lo).get 0).toNat m.toNat (by omega) (by omega) eO m.toNat (by omega) (by omega)
       refine fin hu (v:= .slice (if m.toNat=((σ.bd lo).get 0).toNat then q else q.map (·.add (((σ.bd lo).get 0).toNat*k))) (m.toNat-((σ.bd lo).get 0).toNat) (m.toNat-((σ.bd lo).get 0).toNat)) ?_ ?_
       · rw[hv]
         simp only[Instr.slice,Sem.run_bind,run_underlying hu,Result.andThen_ok,hb,run_sizeOf hk,Sem.run_pure]
       · simp only[bU]
         exact⟨c1,_,by rw[c2],c3⟩
     · simp at hr
   · simp at hr
 cases hc:σ.ev x<;>simp only[hc,yN]at hr<;>try(simp at hr;done)
 · rename_i str
   rw[hc]at hx;split at hr
   · rename_i eO
     unfold Ou at hr;split at hr
     · rename_i Sf
       split at hr
       · rename_i iI
         obtain⟨h0,h1,h2⟩:=iI;obtain rfl:=an hr;have hmx':=nomx Sf;subst hmx';have hb:=vL (P:=P) h vM hhi (isS:=false) (len:=str.length) (cap:=str.length) (ai _) h0 h1 h2;refine fin (oE eO) (v:= .string (ByteArray.extract ⟨str.toArray⟩ ((σ.bd lo).get 0).toNat ((σ.bd hi).get str.length).toNat)) ?_ ?_
         · rw[xq hx]
           simp only[eQ,Instr.slice,Sem.run_bind,run_underlying (oE eO),Result.andThen_ok,um,hb,Sem.run_pure,Option.isSome_none,az,if_false]
         · simp only[bU,extract_mk]
       · simp at hr
     · simp at hr
   · simp at hr
 · rename_i es
   rw[hc]at hx;simp only[bU]at hx;obtain⟨hp,q,cap,hv,xj,hm⟩:=hx;split at hr
   · rename_i k hk
     exact elems k es q cap hk hv xj hp hm hr
   · simp at hr
 · rename_i es
   rw[hc]at hx;simp only[bU]at hx;obtain⟨hp,q,hv,hm⟩:=hx;split at hr
   · rename_i k hk
     exact elems k es q _ hk hv (ai _) hp hm hr
   · simp at hr
 · rename_i n off k' len c
   rw[hc]at hx;split at hr
   · rename_i k hk
     split at hr
     · rename_i hkk
       subst hkk;unfold yO at hk;cases he:cP P s with
       |none=>simp[he]at hk
       |some e=>
        simp only[he]at hk;have hu:=iS he;simp only[bU]at hx
        have val: ∃(q:Option Addr) (cap:Nat),a.eval x= .slice q len cap/\len<=cap/\
         ∀l hh c':Nat,l<=hh->hh<=len->hh<=c'->c'<=cap-> ∀cl:Bool,(cl=true->c'=hh)->
          bU (bB N0 φ w) (.row n (off+l) k (hh-l) cl) (.slice (if c'=l then q else q.map (·.add (l*k))) (hh-l) (c'-l)):=by
         rcases hx with⟨o,kP,hf,rfl,hoff,q,hv⟩|⟨b,cap,cc,ee,fr,kP,hv,xj,_,hblk,qY⟩
         · refine⟨q,0,hv,ai _,fun l hh c' hl hhl BK VI cl o6=> ?_⟩
           have e1:l=0:=by omega
           have e2:hh=0:=by omega
           have e3:c'=0:=by omega
           subst e1;subst e2;subst e3;simp only[bU]
           exact .inl ⟨o,kP,hf,by simp,by simpa using hoff,q,by simp⟩
         · refine⟨_,cap,hv,xj,fun l hh c' hl hhl BK VI cl o6=> ?_⟩
           simp only[bU]
           by_cases hcl0:c'=l
           · left
             have:hh=l:=by omega
             refine⟨_,kP,by simp,by omega,by simp,some ⟨b,off*k,none⟩, ?_⟩
             rw[if_pos hcl0,show hh-l=0 by omega,show c'-l=0 by omega]
           · right
             refine⟨b,c'-l,cc,ee,fr,kP, ?_,by omega,fun hq=>by have:=o6 hq;omega,hblk, ?_⟩
             · rw[if_neg hcl0]
               simp[Addr.add_mid,cJ]
             · have:l*k+k*(c'-l)<=k*cap:=by
                rw[lE l k,<-Nat.mul_add]
                exact uq k (by omega)
               rw[cJ]
               omega
        obtain⟨q,cap,hv,xj,mO⟩:=val;unfold Ov at hr;split at hr
        · rename_i Sf
          split at hr
          · rename_i iI
            obtain⟨h0,h1,h2⟩:=iI;obtain rfl:=an hr;have hmx':=nomx Sf;subst hmx';have hb:=vL (P:=P) h vM hhi (isS:=true) xj h0 h1 h2;have:=mO ((σ.bd lo).get 0).toNat ((σ.bd hi).get len).toNat cap (by omega) (by omega) (by omega) (ai _) false (by simp)
            refine fin hu ?_ (by rw[show((σ.bd hi).get len-(σ.bd lo).get 0).toNat=((σ.bd hi).get len).toNat-((σ.bd lo).get 0).toNat by omega];exact this)
            rw[hv]
            simp only[eQ]
            simp only[Instr.slice,Sem.run_bind,run_underlying hu,Result.andThen_ok,hb,run_sizeOf hk,Sem.run_pure]
          · simp at hr
        · rename_i m Sf
          split at hr
          · rename_i iI
            obtain⟨h0,h1,h2,h3,h4⟩:=iI
            have hhi':σ.bd hi= .some m:=by
             cases hb:σ.bd hi with
             |some n=>rw[hb]at h3;simp only[Bd.get]at h3;rw[h3]
             |none=>simp[hb,Bd.ok3]at h4
             |bad=>simp[hb,Bd.ok3]at h4
            have hg:(σ.bd hi).get len=m:=by rw[hhi'];rfl
            rw[hg]at h1 h2 hr;obtain rfl:=an hr;have hb:=DJ (P:=P) h vM hhi' Sf (isS:=true) xj h0 h1 h2;have:=mO ((σ.bd lo).get 0).toNat m.toNat m.toNat (by omega) (by omega) (by omega) (by omega) true (fun _=>rfl)
            refine fin hu ?_ (by rw[show(m-(σ.bd lo).get 0).toNat=m.toNat-((σ.bd lo).get 0).toNat by omega];exact this)
            rw[hv]
            simp only[Instr.slice,Sem.run_bind,run_underlying hu,Result.andThen_ok,hb,run_sizeOf hk,Sem.run_pure]
          · simp at hr
        · simp at hr
     · simp at hr
   · simp at hr
/-! ### Literals -/
theorem M_: ∀(vs:List Value) (off j:Nat) (cs:List Value),off+j+vs.length<=cs.length->
 (vs.zipIdx j).foldl (fun(cs:Array Value) (p:Value×Nat)=>cs.setIfInBounds (off+p.2) p.1) cs.toArray=(cs.take (off+j)++vs++cs.drop (off+j+vs.length)).toArray
 | [],off,j,cs,_=>by simp
 |v::vs,off,j,cs,h=>by
  simp only[List.zipIdx_cons,cg]
  have e:cs.toArray.setIfInBounds (off+j) v=(cs.set (off+j) v).toArray:=by simp
  rw[e,M_ vs off (j+1) (cs.set (off+j) v) (by simp at h⊢;omega)]
  congr 1
  have bo:off+j<cs.length:=by simp at h;omega
  rw[show off+(j+1)=off+j+1 by omega]
  rw[List.take_succ_eq_append_getElem (by simpa using bo)]
  simp only[List.getElem_set_self,aG,ba,bF,bx]
  rw[oG (ai _),oH (by omega)]
  rw[show off+j+1+vs.length=off+j+(vs.length+1) by omega]
theorem G2{place:Nat->Option (Nat×Nat)}{i off size:Nat}{v:Value}{cs:List Value}{rest:List (Nat×Value)}(hp:place i=some (off,size))(hs:v.cells.size=size)(hl:off+size<=cs.length):
 Instr.fill place cs.toArray ((i,v)::rest)=Instr.fill place (cs.take off++v.cells.toList++cs.drop (off+size)).toArray rest:=by
 simp only[Instr.fill,hp]
 rw[if_neg (by simp[hs];omega)]
 congr 1
 have e:=M_ v.cells.toList off 0 cs (by simp[hs];omega)
 simp only[dh]at e;rw[show v.cells.toList.length=size by simpa using hs]at e;rw[<-e,<-Array.foldl_toList]
 simp
theorem DK{E:Env}{size:Option Nat}{off:Nat}{x:A}{v:Value}{zs M':List A}{vs:List Value}(hx:bU E x v)(hz:cH E zs vs)(h1: ∀u∈vs,u.oneCell'=true)(h:Ad size off x zs=some M'):
 ∃n,size=some n/\v.cells.size=n/\off+n<=vs.length/\cH E M' (vs.take off++v.cells.toList++vs.drop (off+n))/\ ∀u∈vs.take off++v.cells.toList++vs.drop (off+n),u.oneCell'=true:=by
 unfold Ad at h;split at h
 · rename_i n
   split at h
   · rename_i hc
     obtain⟨c1,c2,c3⟩:=hc;obtain rfl:=an h;obtain⟨r1,r2,r3⟩:=nU hx c3;have hlen:=(db.1 hz).1;refine⟨n,rfl,by rw[r3,c1],by omega,nT (nT (BY hz) r1) (BZ hz),fun u hu=> ?_⟩
     simp only[aJ]at hu;rcases hu with(hu|hu)|hu
     · exact h1 u (b_ hu)
     · exact r2 u hu
     · exact h1 u (dj hu)
   · simp at h
 · simp at h
theorem DL(h:cn N0 w0 nt σ φ a w){t:TypeId}{fs:Array Field}{place:Nat->Option (Nat×Nat)}(hu:P.underlying t=some (.struct fs))
 (OE: ∀i f n,fs[i]? =some f->cW P f.type=some n->place i=some (f.offset,n)):
 ∀(ps:List (Nat×Operand)) (zs M':List A) (vs:List Value),cH (bB N0 φ w) zs vs->(∀u∈vs,u.oneCell'=true)->pS P t σ ps zs=some M'->
  ∃qC,Instr.fill place vs.toArray (ps.map fun p=>(p.1,a.eval p.2))=some qC.toArray/\cH (bB N0 φ w) M' qC/\ ∀u∈qC,u.oneCell'=true
 | [],zs,M',vs,hz,h1,hf=>by simp[pS]at hf;subst hf;exact⟨vs,rfl,hz,h1⟩
 |(i,x)::ps,zs,M',vs,hz,h1,hf=>by
  simp only[pS]at hf;split at hf
  · rename_i o ft hfi
    cases hc:Ad (cW P ft) o (σ.ev x) zs with
    |none=>simp[hc]at hf
    |some zs1=>
     simp only[hc,aY]at hf;obtain⟨n,hn,hv,hl,hz',sX⟩:=DK (h.ev x) hz h1 hc;obtain⟨fs',fx,n',V5,z_,rfl,rfl,pz,_⟩:=uk hfi;rw[hu]at V5;obtain rfl:fs=fs':=by injection V5 with e;injection e
     obtain⟨qC,hr,hz'',h1''⟩:=DL h hu OE ps zs1 M' _ hz' sX hf;refine⟨qC, ?_,hz'',h1''⟩
     rw[aS,G2 (OE i fx n z_ hn) hv hl]
     exact hr
  · simp at hf
theorem DM(h:cn N0 w0 nt σ φ a w){e n:Nat}(hn:cW P e=some n):
 ∀(ps:List (Nat×Operand)) (zs M':List A) (vs:List Value),cH (bB N0 φ w) zs vs->(∀u∈vs,u.oneCell'=true)->pT P e σ ps zs=some M'->
  ∃qC,Instr.fill (fun i=>some (i*n,n)) vs.toArray (ps.map fun p=>(p.1,a.eval p.2))=some qC.toArray/\cH (bB N0 φ w) M' qC/\ ∀u∈qC,u.oneCell'=true
 | [],zs,M',vs,hz,h1,hf=>by simp[pT]at hf;subst hf;exact⟨vs,rfl,hz,h1⟩
 |(i,x)::ps,zs,M',vs,hz,h1,hf=>by
  simp only[pT,hn]at hf;cases hc:Ad (some n) (i*n) (σ.ev x) zs with
  |none=>simp[hc]at hf
  |some zs1=>
   simp only[hc,aY]at hf;obtain⟨n',pz,hv,hl,hz',sX⟩:=DK (h.ev x) hz h1 hc;obtain rfl:=an pz;obtain⟨qC,hr,hz'',h1''⟩:=DM h hn ps zs1 M' _ hz' sX hf;refine⟨qC, ?_,hz'',h1''⟩
   rw[aS,G2 rfl hv hl]
   exact hr
theorem Al{t:TypeId}{z:A}(h:iR P t=some z): ∃v,(zeroValue t).run P w= .ok v w/\(∀E:Env,bU E z v):=by
 unfold iR at h;cases hi:P.info? t with
 |none=>simp[hi]at h
 |some i=>
  simp only[hi,aY]at h;cases hz:i.zero with
  |none=>simp[hz]at h
  |some v=>
   simp[hz]at h;subst h;exact⟨v,by simp[zeroValue,typeInfo,hi,hz],fun E=>OA E v⟩
theorem DN: ∀{fs:List Field},(fs.all fun f=>(cW P f.type).isSome)=true->
 ∃ys:List (Nat×Nat),(fs.mapM (fun f=>(do pure (f.offset,<-sizeOf f.type):Sem (Nat×Nat)))).run P w= .ok ys w/\ ∀(i:Nat) (f:Field) (n:Nat),fs[i]? =some f->cW P f.type=some n->ys[i]? =some (f.offset,n)
 | [],_=>⟨[],by simp,fun i f n hf=>by simp at hf⟩
 |f::fs,h=>by
  simp only[px,ak]at h;obtain⟨n,hn⟩:=dM.1 h.1;obtain⟨ys,DF,hpl⟩:=DN h.2;refine⟨(f.offset,n)::ys, ?_,fun i f' n' Sh pz=> ?_⟩
  · simp only[sA,Sem.run_bind,run_sizeOf hn,Result.andThen_ok,Sem.run_pure,DF]
  · cases i with
    |zero=>simp at Sh;subst Sh;rw[hn]at pz;simp at pz;subst pz;rfl
    |succ i=>exact hpl i f' n' (by simpa using Sh) pz
theorem run_places{fs:Array Field}(h:(fs.toList.all fun f=>(cW P f.type).isSome)=true):
 ∃ys:Array (Nat×Nat),(fs.mapM (fun f=>(do pure (f.offset,<-sizeOf f.type):Sem (Nat×Nat)))).run P w= .ok ys w/\ ∀(i:Nat) (f:Field) (n:Nat),fs[i]? =some f->cW P f.type=some n->ys[i]? =some (f.offset,n):=by
 obtain⟨ys,DF,hpl⟩:=DN (w:=w) h;refine⟨ys.toArray, ?_,fun i f n hf hn=>by simpa using hpl i f n (by simpa using hf) hn⟩
 rw[lF,Sem.run_map,DF]
 rfl
theorem V6(h:cn N0 w0 nt σ φ a w){d:Option Tmp}{s:Nat}{ps:Array (Nat×Operand)}{t:TypeId}{p:String}{af:Array Edge}{g:Option (Nat×Bool)}{r:A}
 (hr:vA P s σ ps.toList=some r):Good P ⟨d,.build s ps,t,p,af,g⟩ a w N0 φ r:=by
 unfold vA at hr;split at hr
 · rename_i zs hz
   obtain⟨z,hzr,G3⟩:=Al (w:=w) hz;have hzv:=G3 (bB N0 φ w)
   simp only[bU]at hzv;obtain⟨vs,rfl,hL,gw⟩:=hzv;split at hr
   · rename_i n e hn
     split at hr
     · rename_i qY
       obtain⟨k,hk⟩:=dM.1 qY;cases hf:pT P e σ ps.toList zs with
       |none=>simp[hf]at hr
       |some M'=>
        simp[hf]at hr;subst hr;have hu:=Ah hn;obtain⟨qC,G4,hL',hone'⟩:=DM h hk ps.toList zs M' vs hL gw hf;refine en rfl (v:= .agg qC.toArray) ?_ (by simp only[bU];exact⟨qC,rfl,hL',hone'⟩)
        simp only[Instr.build,Sem.run_bind,hzr,Result.andThen_ok,run_underlying hu,run_sizeOf hk,Value.cells]
        rw[show(ps.map fun x=>(x.1,a.eval x.2)).toList=ps.toList.map fun p=>(p.1,a.eval p.2) by simp,G4]
        rfl
     · simp at hr
   · rename_i hn
     split at hr
     · rename_i nn
       cases hf:pS P s σ ps.toList zs with
       |none=>simp[hf]at hr
       |some M'=>
        simp[hf]at hr;subst hr;unfold mv at nn;split at nn
        · rename_i fs hu
          obtain⟨ys,DF,OE⟩:=run_places (w:=w) nn;obtain⟨qC,G4,hL',hone'⟩:=DL h hu OE ps.toList zs M' vs hL gw hf;refine en rfl (v:= .agg qC.toArray) ?_ (by simp only[bU];exact⟨qC,rfl,hL',hone'⟩)
          simp only[Instr.build,Sem.run_bind,hzr,Result.andThen_ok,run_underlying hu,Value.cells,DF]
          rw[show(ps.map fun x=>(x.1,a.eval x.2)).toList=ps.toList.map fun p=>(p.1,a.eval p.2) by simp,G4]
          rfl
        · simp at nn
     · simp at hr
 · simp at hr
end
end Go.dF
namespace Go.dF
open Go.RowKit
theorem Na{E:Env}{x:A}{v:Value}(h:bU E x v):bU E (nQ x) v:=by
 cases x<;>simp only[nQ]<;>try exact h
 · simp only[bU]at h⊢
   obtain⟨hp,a,hv,hm⟩:=h;exact⟨hp,a,_,hv,ai _,hm⟩
 · simp only[bU]at h⊢
   exact⟨rfl,none,0,by simpa using h,ai _,fun eH=>absurd rfl eH⟩
 · simp only[bU]at h⊢
   obtain⟨a,cap,hv,_⟩:=h;exact⟨rfl,a,cap,by simpa using hv,aw _,fun eH=>absurd rfl eH⟩
theorem ur{E:Env}{cs:List A}{vs:List Value}(h:cH E cs vs):cH E (cs.map nQ) vs:=by
 obtain⟨h1,h2⟩:=db.1 h;refine db.2 ⟨by simpa using h1,fun i x v hx hv=> ?_⟩
 rw[aT]at hx;cases hc:cs[i]? with
 |none=>simp[hc]at hx
 |some c=>simp[hc]at hx;subst hx;exact Na (h2 i c v hc hv)
theorem mA(x:A):x.norm.cells=x.cells.map nQ:=by cases x<;>simp[A.norm,nQ,A.cells]
theorem G5{x:A}(h:x.pure=true):(nQ x).pure=true:=by cases x<;>simp_all[nQ,A.pure]
theorem Eu{cs:List A}(h:A.pure.cX cs=true):A.pure.cX (cs.map nQ)=true:=
 gQ fun i e he=>by
  rw[aT]at he;cases hc:cs[i]? with
  |none=>simp[hc]at he
  |some c=>simp[hc]at he;subst he;exact G5 (cd h hc)
theorem qZ{x:A}(h:x.pure=true):x.norm.pure=true:=by
 cases x
 case agg cs=>
  simp only[A.norm,A.pure]at h⊢;exact Eu h
 all_goals
  simp only[A.norm]
  exact G5 h
def bK(E:Env)(k:Nat):List A->List Value->Prop
 | [],vs=>vs=[]
 |e::es,vs=>e.cells.length=k/\k<=vs.length/\cH E e.cells (vs.take k)/\bK E k es (vs.drop k)
theorem bK.length{E:Env}{k:Nat}: ∀{es:List A} {vs:List Value},bK E k es vs->vs.length=es.length*k
 | [],vs,h=>by simp only[bK]at h;subst h;simp
 |e::es,vs,h=>by
  simp only[bK]at h;have:=bK.length h.2.2.2;simp only[cj]at this;have:=h.2.1;simp only[aG,cJ,fO]
  omega
theorem bK.append{E:Env}{k:Nat}: ∀{es fs:List A} {vs us:List Value},bK E k es vs->bK E k fs us->bK E k (es++fs) (vs++us)
 | [],fs,vs,us,h,h'=>by simp only[bK]at h;subst h;simpa using h'
 |e::es,fs,vs,us,h,h'=>by
  simp only[bK]at h;obtain⟨h1,h2,h3,h4⟩:=h;simp only[bF,bK]
  refine⟨h1,by simp;omega, ?_, ?_⟩
  · rw[cO h2];exact h3
  · rw[ep h2];exact bK.append h4 h'
theorem bK.take{E:Env}{k:Nat}: ∀{n:Nat} {es:List A} {vs:List Value},bK E k es vs->bK E k (es.take n) (vs.take (n*k))
 |0,es,vs,_=>by simp[bK]
 |n+1,[],vs,h=>by simp only[bK]at h;subst h;simp[bK]
 |n+1,e::es,vs,h=>by
  simp only[bK]at h;obtain⟨h1,h2,h3,h4⟩:=h;simp only[jh,bK]
  have hk:k<=(n+1)*k:=by rw[cJ,fO];omega
  refine⟨h1,by simp;omega, ?_, ?_⟩
  · rw[List.take_take,fZ hk];exact h3
  · rw[sy,show(n+1)*k-k=n*k by rw[cJ,fO];omega];exact bK.take h4
theorem bK.set{E:Env}{k:Nat}{x:A}{xv:List Value}(hx:x.cells.length=k)(hL:cH E x.cells xv): ∀{i:Nat} {es:List A} {vs:List Value},i<es.length->bK E k es vs->
 bK E k (es.set i x) (vs.take (i*k)++xv++vs.drop (i*k+k))
 |0,e::es,vs,_,h=>by
  simp only[bK]at h;obtain⟨h1,h2,h3,h4⟩:=h;have hxl:xv.length=k:=by rw[<-(db.1 hL).1,hx]
  simp only[List.set_cons_zero,bK,nD,mc,bx,bY]
  refine⟨hx,by simp;omega, ?_, ?_⟩
  · rw[cO (by omega),ad (by omega)];exact hL
  · rw[ep (by omega),aC (by omega),bx];exact h4
 |i+1,e::es,vs,hi,h=>by
  simp only[bK]at h;obtain⟨h1,h2,h3,h4⟩:=h;have ih:=bK.set hx hL (i:=i) (by simpa using hi) h4;have hk:(i+1)*k=k+i*k:=by rw[cJ,fO];omega
  have hlen:=bK.length h4
  have hle:i*k+k<=(vs.drop k).length:=by
   rw[hlen]
   have:i+1<=es.length:=by have:i<es.length:=by simpa using hi
                           omega
   calc i*k+k=(i+1)*k:=by rw[cJ,fO]
    _<=es.length*k:=cB k this
  simp only[cj]at hle;simp only[List.set_cons_succ,bK]
  refine⟨h1,by simp;omega, ?_, ?_⟩
  · rw[ba,cO (by simp;omega),List.take_take,fZ (by omega)];exact h3
  · rw[ba,ep (by simp;omega),sy,hk,show k+i*k-k=i*k by omega]
    rw[eJ]at ih;rw[show k+i*k+k=k+(i*k+k) by omega,<-ba]
    exact ih
theorem bK.replicate{E:Env}{k:Nat}{x:A}{xv:List Value}(hx:x.cells.length=k)(hL:cH E x.cells xv): ∀n:Nat,bK E k (List.replicate n x) (List.replicate n xv).flatten
 |0=>by simp[bK]
 |n+1=>by
  have hxl:xv.length=k:=by rw[<-(db.1 hL).1,hx]
  simp only[jg,iJ,bK]
  refine⟨hx,by simp;omega, ?_, ?_⟩
  · rw[cO (by omega),ad (by omega)];exact hL
  · rw[ep (by omega),aC (by omega),bx];exact bK.replicate hx hL n
theorem bK.mem{E:Env}{k b:Nat}: ∀{es:List A} {vs:List Value} {off:Nat},bK E k es vs->E.w.rangeAt b off vs->(∀u∈vs,u.oneCell'=true)->jR E k b off es
 | [],vs,off,_,_,_=>by simp[jR]
 |e::es,vs,off,h,hr,gw=>by
  simp only[bK]at h;obtain⟨h1,h2,h3,h4⟩:=h;refine tt.2 ⟨⟨h1,uj (vs:=vs.take k) ?_ h3 fun u hu=>gw u (b_ hu)⟩,bK.mem h4 ?_ fun u hu=>gw u (dj hu)⟩
  · intro j v hv
    rw[eC]at hv;split at hv
    · exact hr j v hv
    · simp at hv
  · intro j v hv
    rw[eB]at hv;have:=hr (k+j) v hv
    rwa [show off+(k+j)=off+k+j by omega]at this
theorem bK.G6{E:Env}{k b:Nat}: ∀{es:List A} {off:Nat},jR E k b off es-> ∃vs,bK E k es vs/\E.w.rangeAt b off vs/\ ∀u∈vs,u.oneCell'=true
 | [],off,_=>⟨[],by simp[bK],fun j v h=>by simp at h,by simp⟩
 |e::es,off,h=>by
  obtain⟨⟨h1,hm⟩,hE⟩:=tt.1 h;obtain⟨us,hu1,hu2,hu3⟩:=xp hm;obtain⟨vs,hv1,hv2,hv3⟩:=bK.G6 hE;have hl:us.length=k:=by rw[<-(db.1 hu2).1,h1]
  refine⟨us++vs, ?_, ?_, ?_⟩
  · simp only[bK]
    refine⟨h1,by simp;omega, ?_, ?_⟩
    · rw[cO (by omega),ad (by omega)];exact hu2
    · rw[ep (by omega),aC (by omega),bx];exact hv1
  · intro j v hv
    rw[fo]at hv;split at hv
    · exact hu1 j v hv
    · rename_i hj
      have:=hv2 (j-us.length) v hv
      rwa [show off+k+(j-us.length)=off+j by omega]at this
  · intro u hu
    rcases aJ.1 hu with hu|hu
    · exact hu3 u hu
    · exact hv3 u hu
theorem bK.mono{E E':Env}(hr: ∀x v,x.pure=true->bU E x v->bU E' x v){k:Nat}: ∀{es:List A} {vs:List Value},A.pure.cX es=true->bK E k es vs->bK E' k es vs
 | [],vs,_,h=>by simpa only[bK]using h
 |e::es,vs,hp,h=>by simp only[A.pure.cX,ak]at hp;simp only[bK]at h⊢;obtain⟨h1,h2,h3,h4⟩:=h;obtain⟨g1,g2⟩:=db.1 h3;exact⟨h1,h2,db.2 ⟨g1,fun i x v hx hv=>hr x v (cd (rK hp.1) hx) (g2 i x v hx hv)⟩,bK.mono hr hp.2 h4⟩
theorem Si{z:Array Value}: ∀n:Nat,(List.range (n*z.size)).map (fun i=>z[i % z.size]!)=(List.replicate n z.toList).flatten
 |0=>by simp
 |n+1=>by
  rw[cJ,fO,Nat.add_comm,List.range_add,bz,eD,jg,iJ,<-Si n]
  congr 1
  · apply j0
    intro i;rw[aT]
    by_cases hi:i<z.size
    · simp[hi,qu hi]
    · simp[hi]
  · apply k_
    intro i _;simp
section
variable{P:Program}{N0:Nat->Prop}{w0:pU}{nt:Nat}{σ:St}{φ:List ia}{a:Act}{w:World}
theorem Am{n:Nat}{p:ia}(hn:n<φ.length)(m:Nat):(φ.set n p)[m]? =if n=m then some p else φ[m]? :=by
 rw[cY]
 split
 · rename_i e;subst e;simp
 · rfl
theorem cn.OF(h:cn N0 w0 nt σ φ a w){n b k:Nat}{w':World}(dR:φ[n]? =some .free)(g:jT w w')(hb:w.heap.size<=b):
 Ext (fun _=>True) (bB N0 φ w) (bB N0 (φ.set n (.loc b k)) w'):=by
 have lG:=Am (φ:=φ) (n:=n) (p:=ia.loc b k) (aA.1 dR).1
 exact{
  size:=g.size
  RX:=fun c hc hnc=>⟨by
   rintro(h0|⟨m,k',hm⟩)
   · exact hnc (.inl h0)
   · rw[lG]at hm
     split at hm
     · simp at hm
       have:c<w.heap.size:=hc;omega
     · exact hnc (.inr ⟨m,k',hm⟩),g.block c hc⟩
  refs:=fun m p _ hm hp=>by
   show(φ.set n (ia.loc b k))[m]? =some p;rw[lG]
   split
   · rename_i e;subst e
     have:φ[n]? =some p:=hm;rw[dR]at this;simp at this;exact absurd this.symm hp
   · exact hm
  own:=fun m c k' cc e fr _ hm hc=>⟨cc,fr,by show w'.heap[c]? =_;rw[g.block c (h.own m c k' hm).2];exact hc,rfl⟩}
theorem cn.newObj(h:cn N0 w0 nt σ φ a w){n b k:Nat}{o:Obj}{w':World}(dR:φ[n]? =some .free)(g:jT w w')(hb:w.heap.size<=b)(vN:b<w'.heap.size)
 (ho:cb (bB N0 (φ.set n (.loc b k)) w') o (.loc b k)):cn N0 w0 nt (σ.gD n o) (φ.set n (.loc b k)) a w':=by
 have lG:=Am (φ:=φ) (n:=n) (p:=ia.loc b k) (aA.1 dR).1;have iW:=h.OF (k:=k) dR g hb
 exact{
  gj:=fun d=>bU.mono iW _ _ (h.gj d) (fun _ _=>trivial)
  size:=h.size
  defers:=h.defers
  len:=by simp[St.gD,ji,h.len]
  gp:=fun m o' p hm hp=>by
   rw[lG]at hp;simp only[St.gD]at hm;rw[ji,dQ,cY]at hm;split at hp
   · rename_i e
     subst e;simp at hp;subst hp;rw[if_pos rfl]at hm;split at hm
     · simp at hm;subst hm;exact ho
     · simp at hm
   · rename_i e
     rw[if_neg e]at hm;exact cb.mono iW (h.gp m o' p (by rw[dQ];exact hm) hp) (fun c k' hc cc ee fr hh=>by subst hc;show w'.heap[c]? =_;rw[g.block c (h.own m c k' hp).2];exact hh) (fun _ _ _ _=>trivial)
  own:=fun m c k' hm=>by
   rw[lG]at hm;split at hm
   · simp at hm
     obtain⟨rfl,rfl⟩:=hm;exact⟨.inl (aL h.below.size hb),vN⟩
   · exact⟨(h.own m c k' hm).1,cG (h.own m c k' hm).2 g.size⟩
  inj:=fun m m' c k' Ky hm oo=>by
   rw[lG]at hm oo;split at hm<;>split at oo
   · rename_i e1 e2;rw[<-e1,<-e2]
   · simp at hm
     have:=(h.own m' c Ky oo).2;omega
   · simp at oo
     have:=(h.own m c k' hm).2;omega
   · exact h.inj m m' c k' Ky hm oo
  n0:=h.n0
  qE:=fun m q hf hm hq=>by
   have:=h.qE m q hf hm hq;rw[lG]
   split
   · rename_i e;subst e;rw[dR]at this;exact absurd (an this).symm hq
   · exact this
  below:=g.below h.below}
theorem kh{b:Nat}: ∀(vs:List Value) (off:Nat) (w:World),(w.setCells b off vs).heap.size=w.heap.size/\(∀c,c≠b->(w.setCells b off vs).heap[c]? =w.heap[c]?)/\
 (w.setCells b off vs).os=w.os/\(w.setCells b off vs).tape=w.tape/\(w.setCells b off vs).output=w.output/\(w.setCells b off vs).drawn=w.drawn/\
 (∀cc e fr,w.heap[b]? =some (.cells cc e fr)-> ∃Sj,(w.setCells b off vs).heap[b]? =some (.cells Sj e fr)/\Sj.size=cc.size)
 | [],off,w=>⟨rfl,fun _ _=>rfl,rfl,rfl,rfl,rfl,fun cc e fr h=>⟨cc,h,rfl⟩⟩
 |v::vs,off,w=>by
  obtain⟨h1,h2,h3,h4,h5,h5',h6⟩:=kh (b:=b) vs (off+1) (w.setCell ⟨b,off,none⟩ v)
  simp only[World.setCells]
  refine⟨by rw[h1];simp,fun c hc=>by rw[h2 c hc];exact Below.heap_setCell _ _ _ _ hc,by rw[h3];rfl,by rw[h4];rfl,by rw[h5];rfl,by rw[h5'];rfl,fun cc e fr VI=> ?_⟩
  obtain⟨Sj,BK,hs'⟩:=h6 (cc.setIfInBounds off v) e fr (by
   simp only[World.setCell,nq,if_true,VI,dT]
   simp)
  exact⟨Sj,BK,by rw[hs'];simp⟩
theorem cn.tz(_h:cn N0 w0 nt σ φ a w){n b k:Nat}(off:Nat)(vs:List Value)(hn:φ[n]? =some (.loc b k)):Ext (fun _=>True) (bB N0 φ w) (bB N0 φ (w.setCells b off vs)):=by
 obtain⟨h1,h2,h3,h4,h5,h5',h6⟩:=kh (b:=b) vs off w
 exact{
  size:=by show w.heap.size<=(w.setCells b off vs).heap.size;rw[h1];exact ai _
  RX:=fun c hc hnc=>⟨hnc,h2 c (fun e=>hnc (.inr ⟨n,k,by rw[e];exact hn⟩))⟩
  refs:=fun m p _ hm _=>hm
  own:=fun m c k' cc e fr _ hm hc=>by
   by_cases hcb:c=b
   · subst hcb
     obtain⟨Sj,BK,hs'⟩:=h6 cc e fr hc;exact⟨Sj,fr,BK,hs'⟩
   · exact⟨cc,fr,by show(w.setCells b off vs).heap[c]? =_;rw[h2 c hcb];exact hc,rfl⟩}
theorem cn.write(h:cn N0 w0 nt σ φ a w){n b k:Nat}{o:Obj}{off:Nat}{vs:List Value}(hn:φ[n]? =some (.loc b k))
 (ho:cb (bB N0 φ (w.setCells b off vs)) o (.loc b k)):cn N0 w0 nt (σ.gD n o) φ a (w.setCells b off vs):=by
 obtain⟨h1,h2,h3,h4,h5,h5',h6⟩:=kh (b:=b) vs off w;have iW:=h.tz off vs hn
 exact{
  gj:=fun d=>bU.mono iW _ _ (h.gj d) (fun _ _=>trivial)
  size:=h.size
  defers:=h.defers
  len:=by simp[St.gD,ji,h.len]
  gp:=fun m o' p hm hp=>by
   simp only[St.gD]at hm;rw[ji,dQ,cY]at hm;split at hm
   · rename_i e
     subst e;split at hm
     · simp at hm;subst hm
       rw[hn]at hp;simp at hp;subst hp;exact ho
     · simp at hm
   · rename_i e
     refine cb.mono iW (h.gp m o' p (by rw[dQ];exact hm) hp) (fun c k' hc cc ee fr hh=> ?_) (fun _ _ _ _=>trivial)
     subst hc;have hcb:c≠b:=fun e'=>e (h.inj n m b k k' hn (by rw[<-e'];exact hp))
     show(w.setCells b off vs).heap[c]? =_;rw[h2 c hcb];exact hh
  own:=fun m c k' hm=>⟨(h.own m c k' hm).1,by rw[h1];exact(h.own m c k' hm).2⟩
  inj:=h.inj
  n0:=h.n0
  qE:=h.qE
  below:={
   os:=h3.trans h.below.os
   tape:=h4.trans h.below.tape
   output:=h5.trans h.below.output
   drawn:=by rw[h5'];exact h.below.drawn
   size:=by rw[h1];exact h.below.size
   block:=fun c hc hM=>by
    rw[h2 c (fun e=>by
     subst e;rcases(h.own n c k hn).1 with h'|h'
     · omega
     · exact hM h')]
    exact h.below.block c hc hM
   shape:=fun c cc e fr VI=>by
    obtain⟨c',VR,g1,g2⟩:=h.below.shape c cc e fr VI;by_cases hcb:c=b
    · subst hcb
      obtain⟨Sj,BK,hs'⟩:=h6 c' e VR g1;exact⟨Sj,VR,BK,hs'.trans g2⟩
    · exact⟨c',VR,by rw[h2 c hcb];exact g1,g2⟩}}
end
end Go.dF
namespace Go.dF
open Go.RowKit
section
variable{P:Program}{N0:Nat->Prop}{w0:pU}{nt:Nat}{σ:St}{φ:List ia}{a:Act}{w:World}
theorem heap_alloc_new(w:World)(o:Go.Obj):(w.alloc o).heap[w.heap.size]? =some o:=by show(w.heap.push o)[w.heap.size]? =some o;simp
theorem rangeAt_alloc{w:World}{vs:List Value}{e:TypeId}{fr:Nat×Nat}{c:Array Value}(h: ∀(j:Nat) (v:Value),vs[j]? =some v->c[j]? =some v):(w.alloc (.cells c e fr)).rangeAt w.heap.size 0 vs:=fun j v hv=>by
 have:=h j v hv;simp only[World.cell?,heap_alloc_new,bY]
 simpa using this
theorem Sk{k:Nat}{E:Env}: ∀{es:List A} {vs:List Value},bK E k es vs->es≠ []->eV es=k
 | [],_,_,h=>absurd rfl h
 |e::es,vs,h,_=>by simp only[bK]at h;exact h.1
theorem DO(h:cn N0 w0 nt σ φ a w){k:Nat}: ∀(ps:List (Nat×Operand)) (es Ev:List A) (vs:List Value),bK (bB N0 φ w) k es vs->(∀u∈vs,u.oneCell'=true)->A.pure.cX es=true->nR k σ ps es=some Ev->
 ∃qC,Instr.fill (fun i=>some (i*k,k)) vs.toArray (ps.map fun p=>(p.1,a.eval p.2))=some qC.toArray/\bK (bB N0 φ w) k Ev qC/\(∀u∈qC,u.oneCell'=true)/\A.pure.cX Ev=true
 | [],es,Ev,vs,hr,h1,hp,hf=>by simp[nR]at hf;subst hf;exact⟨vs,rfl,hr,h1,hp⟩
 |(i,x)::ps,es,Ev,vs,hr,h1,hp,hf=>by
  simp only[nR]at hf;split at hf
  · rename_i hc
    obtain⟨c1,c2,c3,c4⟩:=hc;have hx:=h.ev x;obtain⟨r1,r2,r3⟩:=nU hx c3;have hv:(a.eval x).cells.size=k:=by rw[r3,c1]
    have hn:(σ.ev x).norm.cells.length=k:=by rw[mA,aa,c1]
    have hL:cH (bB N0 φ w) (σ.ev x).norm.cells (a.eval x).cells.toList:=by rw[mA];exact ur r1
    have hlen:=hr.length
    have hle:i*k+k<=vs.length:=by
     rw[hlen]
     calc i*k+k=(i+1)*k:=by rw[cJ,fO]
      _<=es.length*k:=cB k c2
    have lG:=bK.set hn hL c2 hr;rw[lT]at hf
    obtain⟨qC,G4,GW,sX,yu⟩:=DO h ps _ Ev _ lG (fun u hu=>by
     simp only[aJ]at hu;rcases hu with(hu|hu)|hu
     · exact h1 u (b_ hu)
     · exact r2 u hu
     · exact h1 u (dj hu)) (gQ fun j e he=>by
       rw[cY]at he;split at he
       · first
           |(simp at he;subst he;exact qZ c4)
           |(split at he
             · simp at he;subst he;exact qZ c4
             · simp at he)
       · exact cd hp he) hf
    refine⟨qC, ?_,GW,sX,yu⟩
    rw[aS,G2 rfl hv hle]
    exact G4
  · simp at hf
theorem Ew(h:cn N0 w0 nt σ φ a w){d:Option Tmp}{s len:Nat}{ps:Array (Nat×Operand)}{t:TypeId}{p:String}{af:Array Edge}{g:Option (Nat×Bool)}{r:A}
 (hr:kR P s len σ ps.toList=some r):Good P ⟨d,.buildSlice s len ps,t,p,af,g⟩ a w N0 φ r:=by
 unfold kR at hr;split at hr
 · rename_i e he
   split at hr
   · rename_i k z hk hz
     split at hr
     · rename_i hc
       obtain⟨qY,Ey,hpz,hvz,hcz⟩:=hc;cases hf:nR k σ ps.toList (List.replicate len z.norm)with
       |none=>simp[hf]at hr
       |some es=>
        simp[hf]at hr;subst hr;obtain⟨zv,hzr,G3⟩:=Al (w:=w) hz;obtain⟨r1,r2,r3⟩:=nU (G3 (bB N0 φ w)) hvz;have hzk:zv.cells.size=k:=by rw[r3,hcz]
        have hr0:bK (bB N0 φ w) k (List.replicate len z.norm) (List.replicate len zv.cells.toList).flatten:=
         bK.replicate (by rw[mA,aa,hcz]) (by rw[mA];exact ur r1) len
        obtain⟨vs,G4,hrow,gw,hpure⟩:=DO h ps.toList _ es _ hr0 (fun u hu=>by
         obtain⟨l,hl,hul⟩:=ng.1 hu;rw[qF hl]at hul
         exact r2 u hul) (gQ fun i x hx=>by
          have:=qF (cu hx)
          subst this;exact qZ hpz) hf
        have hlen:es.length=len:=by
         have: ∀(ps:List (Nat×Operand)) (es Ev:List A),nR k σ ps es=some Ev->Ev.length=es.length:=by
          intro ps;induction ps with
          |nil=>intro es Ev h;simp[nR]at h;rw[h]
          |cons q qs ih=>
           intro es Ev h;obtain⟨i,x⟩:=q;simp only[nR]at h;split at h
           · have:=ih _ _ h;rw[this,lT,dd]
           · simp at h
         have:=this _ _ _ hf;simpa using this
        let w':=w.alloc (.cells vs.toArray e)
        have hg:jT w w':=jT.alloc w _;refine⟨.slice (some ⟨w.heap.size,0,none⟩) len len,w', ?_,hg, ?_⟩
        · have hnt: ¬(len*k>2^24):=by omega
          refine DD (P:=P) ?_;simp only[Instr.buildSlice,Sem.run_bind,run_underlying (iS he),Result.andThen_ok,run_sizeOf hk,if_neg hnt]
          have hmap:(Array.map (fun x=>(x.fst,a.eval x.snd)) ps).toList=ps.toList.map fun p=>(p.1,a.eval p.2):=by simp
          rw[hmap]
          have last: ∀cells:Array Value,cells=(List.replicate len zv.cells.toList).flatten.toArray->
           (match Instr.fill (fun i=>some (i*k,k)) cells (ps.toList.map fun p=>(p.1,a.eval p.2))with
            |some cells=>(do
             let __do_lift<-newRow e cells
             pure (Value.slice (some __do_lift) len len))
            |_=>stuck "buildSlice: a part of the wrong size" :Sem Value).run P w= .ok (.slice (some ⟨w.heap.size,0,none⟩) len len) w':=by
           rintro cells rfl;rw[G4]
           simp only[newRow,Sem.run_bind,run_newObj,Sem.run_pure,Result.andThen_ok]
           rfl
          split
          · rename_i h0
            simp only[Sem.run_bind,Sem.run_pure,Result.andThen_ok]
            refine last _ ?_;rw[h0]
            rcases Nat.mul_eq_zero.1 h0 with h0|h0
            · subst h0;simp
            · exact absurd h0 Ey
          · simp only[Sem.run_bind,hzr,Sem.run_pure,Result.andThen_ok]
            refine last _ ?_;apply np;simp only[qt,Array.toList_range]
            have:=Si (z:=zv.cells) len;rw[hzk]at this;rw[hzk]
            exact this
        · simp only[bU]
          refine⟨hpure,some ⟨w.heap.size,0,none⟩,by rw[hlen],fun eH=>⟨w.heap.size,0,rfl,by simp[w',bB], ?_, ?_⟩⟩
          · rintro(h0|⟨n,kk,hn⟩)
            · have:=(h.n0 _ h0).1
              have:=h.below.size;omega
            · have:=(h.own n _ kk hn).2
              omega
          · have hrow':bK (bB N0 φ w') k es vs:=bK.mono (fun x v hx hr=>h.rep_grew hg hr) hpure hrow
            rw[Sk hrow' eH]
            exact bK.mem hrow' (rangeAt_alloc (fun j v hv=>by simpa using hv)) gw
     · simp at hr
   · simp at hr
 · simp at hr
theorem Sl(h:cn N0 w0 nt σ φ a w){d:Option Tmp}{op:Op}{t:TypeId}{p:String}{af:Array Edge}{g:Option (Nat×Bool)}{r:A}
 (hr:u_ P σ op=some r):Good P ⟨d,op,t,p,af,g⟩ a w N0 φ r:=by
 unfold u_ at hr;split at hr
 · obtain rfl:=an hr;exact good_move h
 · obtain rfl:=an hr;exact Sc h
 · exact good_pick h hr
 · exact V6 h hr
 · exact Ew h hr
 · exact good_load h hr
 · exact KD h hr
 · exact VY h hr
 · exact good_unOp h hr
 · exact Ak h hr
 · exact KE h hr
 · split at hr
   · rename_i hc
     exact V4 h hc.1 hc.2.1 hc.2.2 hr
   · simp at hr
 · exact GQ h hr
 · exact V0 h hr
 · exact G0 h hr
 · exact V3 h hr
 · exact OC h hr
 · exact good_len h hr
 · exact good_min h hr
 · exact good_max h hr
 · simp at hr
def va(P:Program)(o:Oper)(a:Act)(w:World)(N0:Nat->Prop)(w0:pU)(nt:Nat)(φ:List ia)(n:Nat)(jO:St):Prop:=
 ∃v w' j4,((Go.execOp a.eval o).run P w= .ok (.value v) w'\/((Go.execOp a.eval o).run P w= .ok .skip w'/\v=undef))/\cn N0 w0 nt jO j4 (a.put o.dst v) w'/\ ∀m,m≠n->φ[m]? =some .free->j4[m]? =some .free
theorem yv(h:cn N0 w0 nt σ φ a w){o:Oper}(hd: ∀t,o.dst=some t->t<nt){x:A}(hg:Good P o a w N0 φ x){n:Nat}:va P o a w N0 w0 nt φ n (σ.put o.dst x):=by obtain⟨v,w',hr,VJ,fY⟩:=hg;exact⟨v,w',φ,.inl hr,(h.grew VJ).put hd fY,fun _ _ h=>h⟩
theorem vO(c:Array Value):tv c (0,0):=fun j _ h=>by simp at h
theorem Nb(h:cn N0 w0 nt σ φ a w){o:Oper}(hd: ∀t,o.dst=some t->t<nt){n:Nat}(dR:φ[n]? =some .free){x:A}{v:Value}{e:TypeId}{jO:St}(hx:bU (bB N0 φ w) x v)
 (mo:(Go.execOp a.eval o).run P w= .ok (.value (.pointer (some ⟨w.heap.size,0,none⟩))) (w.alloc (.cells v.cells e)))
 (hr:BT σ n o.dst x=some jO):va P o a w N0 w0 nt φ n jO:=by
 unfold BT at hr;split at hr
 · rename_i hv
   obtain rfl:=an hr;obtain⟨r1,r2,r3⟩:=nU hx hv;have hn:n<φ.length:=(aA.1 dR).1
   have KH:=h.newObj (k:=0) (o:= .box x.cells) (w':=w.alloc (.cells v.cells e)) dR (jT.alloc w _) (ai w.heap.size) (by simp) (by
    simp only[cb]
    refine⟨⟨v.cells,e,(0,0),heap_alloc_new w _,vO _⟩,uj (vs:=v.cells.toList) (rangeAt_alloc fun j u hu=>by simpa using hu) ?_ r2⟩
    obtain⟨g1,g2⟩:=db.1 r1;refine db.2 ⟨g1,fun i y u hy hu=> ?_⟩
    have iW:=h.OF (k:=0) dR (jT.alloc w (.cells v.cells e)) (ai _)
    exact bU.mono iW y u (g2 i y u hy hu) (fun _ _=>trivial))
   refine⟨_,_,_,.inl mo,KH.put hd ?_,fun m hm hf=>by rw[cC (fw hm)];exact hf⟩
   simp only[bU]
   exact⟨w.heap.size,0,by show(φ.set n _)[n]? =_;simp[hn],rfl⟩
 · simp at hr
end
end Go.dF
namespace Go.dF
open Go.RowKit
section
variable{P:Program}{N0:Nat->Prop}{w0:pU}{nt:Nat}{σ:St}{φ:List ia}{a:Act}{w:World}
theorem Sn(h:cn N0 w0 nt σ φ a w){d:Option Tmp}{e:TypeId}{x:Operand}{t:TypeId}{p:String}{af:Array Edge}{g:Option (Nat×Bool)}(hd: ∀t,d=some t->t<nt){n:Nat}(dR:φ[n]? =some .free){jO:St}
 (hr:BT σ n d (σ.ev x)=some jO):va P ⟨d,.box e x,t,p,af,g⟩ a w N0 w0 nt φ n jO:=
 Nb (o:=⟨d,.box e x,t,p,af,g⟩) h hd dR (h.ev x) (DD (by simp[Instr.box,newVar,newRow];rfl)) hr
theorem Sp(h:cn N0 w0 nt σ φ a w){d:Option Tmp}{e:TypeId}{t:TypeId}{p:String}{af:Array Edge}{g:Option (Nat×Bool)}(hd: ∀t,d=some t->t<nt){n:Nat}(dR:φ[n]? =some .free){jO:St}
 (hr:ud σ n d (iR P e)=some jO):va P ⟨d,.alloc e,t,p,af,g⟩ a w N0 w0 nt φ n jO:=by
 cases hz:iR P e with
 |none=>simp[hz,ud]at hr
 |some z=>
  rw[hz]at hr;simp only[ud]at hr;obtain⟨zv,hzr,G3⟩:=Al (w:=w) hz;refine Nb (o:=⟨d,.alloc e,t,p,af,g⟩) (e:=e) h hd dR (G3 _) (DD ?_) hr;simp only[Instr.alloc,Sem.run_bind,hzr,Result.andThen_ok,newVar,newRow,run_newObj,Sem.run_pure]
  rfl
theorem DP{t:TypeId}{v:Value}{b off:Nat}(qY:cW P t=some v.cells.size)(ht:w.there b off v.cells.size)(h1: ∀u∈v.cells.toList,u.oneCell'=true):
 (Instr.storeAt t (.pointer (some ⟨b,off,none⟩)) v).run P w= .ok () (w.setCells b off v.cells.toList):=by
 have:=run_storeCells_cells (P:=P) b off v.cells.toList 0 w (fun j hj=>by simpa using(ht j (by simpa using hj)).1) (fun j hj=>by simpa using(ht j (by simpa using hj)).2) h1;simp only[dh]at this;simp[Instr.storeAt,Instr.sureAddr,storeVar,run_sizeOf qY,this]
theorem vP{b off n:Nat}{c:Array Value}{e:TypeId}{fr:Nat×Nat}(hb:w.heap[b]? =some (.cells c e fr))(hf:tv c fr)(hl:off+n<=c.size):w.there b off n:=fun j hj=>by
 have bo:off+j<c.size:=by omega
 refine⟨by simp[World.cell?,hb,bo], ?_⟩
 simp only[World.frozen?,hb]
 have:=hf (off+j) bo;simpa using this
theorem pP{b off:Nat}{vs:List Value}(ht:w.there b off vs.length)(o:Nat):(w.setCells b off vs).cell? ⟨b,o,none⟩=if off<=o/\o<off+vs.length then vs[o-off]? else w.cell? ⟨b,o,none⟩:=by
 split
 · rename_i hc
   have:=World.cell?_setCells_in b vs off w (fun j hj=>(ht j hj).1) (o-off) (by omega)
   rw[show off+(o-off)=o by omega]at this;rw[this,ae (by omega)]
 · rename_i hc
   exact World.cell?_setCells_out b vs off w ⟨b,o,none⟩ (fun _ _=>by show o<off\/off+vs.length<=o;omega)
theorem DQ{E E':Env}(iW: ∀x v,bU E x v->bU E' x v){b off:Nat}{vs:List Value}{cs ys:List A}{base:Nat}(hw:E'.w=E.w.setCells b (base+off) vs)(ht:E.w.there b (base+off) vs.length)(hm:lX E b base cs)(hL:cH E ys vs)(gw: ∀u∈vs,u.oneCell'=true)
 (hle:off+ys.length<=cs.length):lX E' b base (jI cs off ys):=by
 obtain⟨g1,g2⟩:=db.1 hL;refine dc.2 fun i x hx=> ?_;rw[hw,pP ht]
 unfold jI at hx;by_cases h1:i<off
 · rw[ba,ck (by simp;omega),eC,if_pos h1]at hx
   rw[if_neg (by omega)]
   obtain⟨v,hv,h2,hr⟩:=dc.1 hm i x hx;exact⟨v,hv,h2,iW x v hr⟩
 · by_cases h2:i<off+ys.length
   · rw[ba,bX (by simp;omega),ck (by simp;omega)]at hx
     have hlen:(cs.take off).length=off:=by simp;omega
     rw[hlen]at hx;rw[if_pos (by omega)]
     have bo:i-off<vs.length:=by omega
     refine⟨vs[i-off], ?_,gw _ (ao _),iW _ _ (g2 (i-off) x _ hx (ae bo))⟩
     rw[show base+i-(base+off)=i-off by omega,ae bo]
   · rw[bX (by simp;omega),eB]at hx
     have hlen:(cs.take off++ys).length=off+ys.length:=by simp;omega
     rw[hlen,show off+ys.length+(i-(off+ys.length))=i by omega]at hx;rw[if_neg (by omega)]
     obtain⟨v,hv,h3,hr⟩:=dc.1 hm i x hx;exact⟨v,hv,h3,iW x v hr⟩
theorem G7{E:Env}{b base:Nat}{c:Array Value}{e:TypeId}{fr:Nat×Nat}{cs:List A}(hb:E.w.heap[b]? =some (.cells c e fr))(hm:lX E b base cs):base+cs.length<=c.size\/cs=[]:=by
 cases F':cs with
 |nil=>exact .inr rfl
 |cons y ys=>
  left;have bo:cs.length-1<cs.length:=by rw[F'];simp
  obtain⟨v,hv,_⟩:=dc.1 hm (cs.length-1) _ (ae bo)
  simp only[World.cell?,hb]at hv
  have:base+(cs.length-1)<c.size:=by
   rcases fT (base+(cs.length-1)) c.size with h|h
   · exact h
   · simp[mZ h]at hv
  rw[<-F']
  omega
theorem Sq(h:cn N0 w0 nt σ φ a w){d:Option Tmp}{s:TypeId}{x y:Operand}{t:TypeId}{p:String}{af:Array Edge}{g:Option (Nat×Bool)}(hd: ∀t,d=some t->t<nt){n:Nat}{jO:St}
 (hr:ue σ d (cW P s) (σ.ev x) (σ.ev y)=some jO):va P ⟨d,.store s x y,t,p,af,g⟩ a w N0 w0 nt φ n jO:=by
 have hx:=h.ev x;have hy:=h.ev y;cases hc:σ.ev x<;>simp only[hc,ue]at hr<;>try(simp at hr;done)
 · rename_i n off
   rw[hc]at hx;simp only[bU]at hx;obtain⟨b,k,kP,hv⟩:=hx;split at hr
   · rename_i cs ho
     split at hr
     · rename_i iI
       obtain⟨c1,c2,c3⟩:=iI;obtain rfl:=an hr;obtain⟨r1,r2,r3⟩:=nU hy c3;have kQ:=h.gp n _ _ ho kP;simp only[cb]at kQ;obtain⟨⟨c,e,fr,hb,hf⟩,hm⟩:=kQ
       have qY:cs.length<=c.size:=by
        rcases G7 hb hm with h|h
        · omega
        · subst h;simp
       have ht:w.there b off (a.eval y).cells.size:=vP hb hf (by omega)
       have ht':w.there b (0+off) (a.eval y).cells.toList.length:=by simpa using ht
       obtain⟨Sj,vQ,hss'⟩:=(kh (b:=b) (a.eval y).cells.toList off w).2.2.2.2.2.2 c e fr hb;have iW:=h.tz off (a.eval y).cells.toList kP
       have hw:=h.write (o:= .box (jI cs off (σ.ev y).cells)) (off:=off) (vs:=(a.eval y).cells.toList) kP (by
        simp only[cb]
        exact⟨⟨Sj,e,fr,vQ,fun j hj=>hf j (by omega)⟩,DQ (fun x v hr=>bU.mono iW x v hr (fun _ _=>trivial)) (by simp[bB]) ht' hm r1 r2 c2⟩)
       refine⟨undef,_,φ,.inr ⟨?_,rfl⟩,hw.put hd (B0 _),fun _ _ h=>h⟩
       refine run_u (s:=Instr.storeAt s (a.eval x) (a.eval y)) ?_;rw[hv]
       exact DP (by rw[r3];exact c1) ht r2
     · simp at hr
   · simp at hr
 · rename_i n i off
   rw[hc]at hx;simp only[bU]at hx;obtain⟨b,k,kP,hv⟩:=hx;split at hr
   · rename_i k' es ho
     cases hi:es[i]? with
     |none=>simp[hi]at hr
     |some e=>
      simp only[hi,aY]at hr;split at hr
      · rename_i iI
        obtain⟨c1,c2,c0,c3,c4⟩:=iI;obtain rfl:=an hr;obtain⟨r1,r2,r3⟩:=nU hy c3;have kQ:=h.gp n _ _ ho kP;simp only[cb]at kQ;obtain⟨rfl,hp,⟨c,ee,fr,hb,hf⟩,hE⟩:=kQ;obtain⟨hlen,hm⟩:=gO.1 hE i e hi;rw[bY]at hm
        have qY:i*k'+e.cells.length<=c.size:=by
         rcases G7 hb hm with h|h
         · exact h
         · exfalso
           have h':(σ.ev y).cells.length<=e.cells.length:=by omega
           rw[h]at h';exact c0 (by simpa using h')
        have vN:w.heap[b]? =some (.cells c ee fr):=hb;have ht:w.there b (i*k'+off) (a.eval y).cells.size:=vP vN hf (by omega)
        have ht':w.there b (i*k'+off) (a.eval y).cells.toList.length:=by simpa using ht
        obtain⟨Sj,vQ,hss'⟩:=(kh (b:=b) (a.eval y).cells.toList (i*k'+off) w).2.2.2.2.2.2 c ee fr hb;have iW:=h.tz (i*k'+off) (a.eval y).cells.toList kP;have r1':cH (bB N0 φ w) (σ.ev y).norm.cells (a.eval y).cells.toList:=by rw[mA];exact ur r1
        have hnl:(σ.ev y).norm.cells.length=(σ.ev y).cells.length:=by rw[mA,aa]
        have VH:=cd hp hi
        have hse:(rE e off (σ.ev y)).cells=jI e.cells off (σ.ev y).norm.cells/\(rE e off (σ.ev y)).pure=true:=by
         cases e
         case agg cs=>
          simp only[rE,A.cells,true_and,A.pure]
          refine gQ fun j z hz=> ?_;unfold jI at hz;have py:=cu hz;simp only[aJ]at py;have hpcs:A.pure.cX cs=true:=by simpa only[A.pure]using VH
          have hpy:=rK (qZ c4)
          rcases py with(oo|oo)|oo
          · obtain⟨q,hq⟩:=bO (b_ oo);exact cd hpcs hq
          · obtain⟨q,hq⟩:=bO oo;exact cd hpy hq
          · obtain⟨q,hq⟩:=bO (dj oo);exact cd hpcs hq
         all_goals
          refine⟨?_,qZ c4⟩
          have c2':off+(σ.ev y).cells.length<=1:=c2;have e0:off=0:=by omega
          have e1:(σ.ev y).norm.cells.length=1:=by omega
          subst e0;show(σ.ev y).norm.cells=List.take 0 _++(σ.ev y).norm.cells++List.drop (0+(σ.ev y).norm.cells.length) [_]
          rw[aC (by simp;omega)]
          simp
        have hw:=h.write (o:= .row k' (fE es i (rE e off (σ.ev y)))) (off:=i*k'+off) (vs:=(a.eval y).cells.toList) kP (by
         simp only[cb]
         refine⟨trivial, ?_,⟨Sj,ee,fr,vQ,fun j hj=>hf j (by omega)⟩, ?_⟩
         · rw[lT]
           refine gQ fun j z hz=> ?_;rw[cY]at hz;split at hz
           · first
              |(simp at hz;subst hz;exact hse.2)
              |(split at hz
                · simp at hz;subst hz;exact hse.2
                · simp at hz)
           · exact cd hp hz
         · rw[lT]
           refine gO.2 fun j z hz=> ?_;rw[cY]at hz;by_cases hji:i=j
           · subst hji
             have hz':z=rE e off (σ.ev y):=by have bo:=(aA.1 hi).1;simp[bo]at hz;exact hz.symm
             subst hz';rw[hse.1,bY]
             refine⟨by unfold jI;simp;omega, ?_⟩
             exact DQ (fun x v hr=>bU.mono iW x v hr (fun _ _=>trivial)) rfl ht' hm r1' r2 (by omega)
           · rw[if_neg hji]at hz
             obtain⟨hl,hmm⟩:=gO.1 hE j z hz;refine⟨hl,dc.2 fun q u hu=> ?_⟩
             obtain⟨v,B4,h1,hrr⟩:=dc.1 hmm q u hu;refine⟨v, ?_,h1,bU.mono iW u v hrr (fun _ _=>trivial)⟩
             show(w.setCells b (i*k'+off) (a.eval y).cells.toList).cell? _=_;have hq:q<k':=by rw[<-hl];exact(aA.1 hu).1
             have hlen':(a.eval y).cells.toList.length=(σ.ev y).cells.length:=by simpa using r3
             rw[pP ht',if_neg]
             · exact B4
             · rintro⟨q1,q2⟩
               rw[hlen']at q2;rcases Nat.lt_or_gt_of_ne hji with bo|hgt
               · have:(i+1)*k'<=j*k':=cB k' bo
                 rw[cJ,fO]at this;omega
               · have:(j+1)*k'<=i*k':=cB k' hgt
                 rw[cJ,fO]at this;omega)
        refine⟨undef,_,φ,.inr ⟨?_,rfl⟩,hw.put hd (B0 _),fun _ _ h=>h⟩
        refine run_u (s:=Instr.storeAt s (a.eval x) (a.eval y)) ?_;rw[hv]
        exact DP (by rw[r3];exact c1) ht r2
      · simp at hr
   · simp at hr
end
end Go.dF
namespace Go.dF
open Go.RowKit
section
variable{P:Program}{N0:Nat->Prop}{w0:pU}{nt:Nat}{σ:St}{φ:List ia}{a:Act}{w:World}
theorem tC(n:Nat): ∀(s:List (Nat×A)) (d:Nat),look (s.map fun p=>(p.1,jA n p.2)) d=jA n (look s d)
 | [],d=>by simp[look,jA,A.mem]
 |(i,v)::s,d=>by
  simp only[aS,look]
  split
  · rfl
  · exact tC n s d
theorem G8(n:Nat)(x:A):(jA n x).mem n=false:=by
 unfold jA;split
 · rfl
 · rename_i h;simpa using h
theorem Nc{E:Env}{n:Nat}{x:A}{v:Value}(h:bU E x v):bU E (jA n x) v:=by
 unfold jA;split
 · simp only[bU]
 · exact h
theorem G9(n:Nat): ∀cs:List A,A.mem.lW n (cs.map (jA n))=false
 | []=>rfl
 |c::cs=>by simp[A.mem.lW,G8,G9 n cs]
theorem G_(f:Obj->Obj)(H:List Obj)(n:Nat):ff (H.map f) n=(ff H n).map f:=by simp[dQ,aT]
def Clear(σ:St)(n:Nat):Prop:=(∀d,(look σ.s d).mem n=false)/\ ∀(m:Nat) (cs:List A),ff σ.H m=some (.box cs)->A.mem.lW n cs=false
theorem cn.lC(h:cn N0 w0 nt σ φ a w)(n:Nat):cn N0 w0 nt (σ.lC n) φ a w:=by
 exact{h with
  gj:=fun d=>by
   show bU _ (look (σ.s.map fun p=>(p.1,jA n p.2)) d) _;rw[tC]
   exact Nc (h.gj d)
  len:=by simp[St.lC,h.len]
  gp:=fun m o p ho hp=>by
   simp only[St.lC]at ho;rw[G_]at ho;cases hm:ff σ.H m with
   |none=>simp[hm]at ho
   |some o'=>
    simp[hm]at ho;subst ho;have kQ:=h.gp m o' p hm hp;cases o' with
    |row k es=>exact kQ
    |box cs=>
     cases p with
     |loc b k=>
      simp only[ub,cb]at kQ⊢;refine⟨kQ.1,dc.2 fun i x hx=> ?_⟩
      rw[aT]at hx;cases hc:cs[i]? with
      |none=>simp[hc]at hx
      |some c=>
       simp[hc]at hx;subst hx;obtain⟨v,hv,h1,hr⟩:=dc.1 kQ.2 i c hc;exact⟨v,hv,h1,Nc hr⟩
     |nil=>simp[cb]at kQ
     |free=>simp[cb]at kQ
  size:=h.size
  defers:=h.defers}
theorem DR(σ:St)(n:Nat):Clear (σ.lC n) n:=by
 refine⟨fun d=> ?_,fun m cs hm=> ?_⟩
 · show(look (σ.s.map fun p=>(p.1,jA n p.2)) d).mem n=false
   rw[tC];exact G8 n _
 · simp only[St.lC]at hm
   rw[G_]at hm;cases ho:ff σ.H m with
   |none=>simp[ho]at hm
   |some o=>
    simp[ho]at hm;cases o with
    |row k es=>simp[ub]at hm
    |box ds=>simp[ub]at hm;subst hm;exact G9 n ds
theorem cn.rehome(h:cn N0 w0 nt σ φ a w){n:Nat}(z_:w0.fix n=false)(o6:Clear σ n)(hn:n<φ.length){p:ia}{o:Obj}{w':World}(g:jT w w')
 (hp: ∀b k,p=ia.loc b k->w.heap.size<=b/\b<w'.heap.size)
 (ho: ∀iW:Ext (fun m=>m≠n) (bB N0 φ w) (bB N0 (φ.set n p) w'),cb (bB N0 (φ.set n p) w') o p):cn N0 w0 nt (σ.gD n o) (φ.set n p) a w'/\Ext (fun m=>m≠n) (bB N0 φ w) (bB N0 (φ.set n p) w'):=by
 have lG:=Am (φ:=φ) (n:=n) (p:=p) hn
 have iW:Ext (fun m=>m≠n) (bB N0 φ w) (bB N0 (φ.set n p) w'):={
  size:=g.size
  RX:=fun c hc hnc=>⟨by
   rintro(h0|⟨m,k',hm⟩)
   · exact hnc (.inl h0)
   · rw[lG]at hm
     split at hm
     · simp at hm
       have:=(hp c k' hm).1;have:c<w.heap.size:=hc;omega
     · exact hnc (.inr ⟨m,k',hm⟩),g.block c hc⟩
  refs:=fun m q hmn hm _=>by show(φ.set n p)[m]? =some q;rw[lG,if_neg (fun e=>hmn e.symm)];exact hm
  own:=fun m c k' cc e fr _ hm hc=>⟨cc,fr,by show w'.heap[c]? =_;rw[g.block c (h.own m c k' hm).2];exact hc,rfl⟩}
 refine⟨{
  gj:=fun d=>bU.mono iW _ _ (h.gj d) (fun m hm e=>by subst e;have oo:A.mem m (look σ.s d)=true:=hm;rw[o6.1 d]at oo;cases oo)
  size:=h.size
  defers:=h.defers
  len:=by simp[St.gD,ji,h.len]
  gp:=fun m o' q hm hq=>by
   rw[lG]at hq;simp only[St.gD]at hm;rw[ji,dQ,cY]at hm;split at hq
   · rename_i e
     subst e;simp at hq;subst hq;rw[if_pos rfl]at hm;split at hm
     · simp at hm;subst hm;exact ho iW
     · simp at hm
   · rename_i e
     rw[if_neg e]at hm;have oo:ff σ.H m=some o':=by rw[dQ];exact hm
     exact cb.mono iW (h.gp m o' q oo hq) (fun c k' hc cc ee fr hh=>by subst hc;show w'.heap[c]? =_;rw[g.block c (h.own m c k' hq).2];exact hh) (fun cs F' m' hm'' e'=>by subst F';subst e';rw[o6.2 m cs oo]at hm'';cases hm'')
  own:=fun m c k' hm=>by
   rw[lG]at hm;split at hm
   · simp at hm
     have:=hp c k' hm;exact⟨.inl (aL h.below.size this.1),this.2⟩
   · exact⟨(h.own m c k' hm).1,cG (h.own m c k' hm).2 g.size⟩
  inj:=fun m m' c k' Ky hm oo=>by
   rw[lG]at hm oo;split at hm<;>split at oo
   · rename_i e1 e2;rw[<-e1,<-e2]
   · simp at hm
     have:=(hp c k' hm).1;have:=(h.own m' c Ky oo).2;omega
   · simp at oo
     have:=(hp c Ky oo).1;have:=(h.own m c k' hm).2;omega
   · exact h.inj m m' c k' Ky hm oo
  n0:=h.n0
  qE:=fun m q hf hm hq=>by
   rw[lG,if_neg (fun e=>by subst e;rw[z_]at hf;cases hf)]
   exact h.qE m q hf hm hq
  below:=g.below h.below},iW⟩
end
end Go.dF
namespace Go.dF
open Go.RowKit
section
variable{P:Program}{N0:Nat->Prop}{w0:pU}{nt:Nat}{σ:St}{φ:List ia}{a:Act}{w:World}
theorem tD{E:Env}{tx e':TypeId}(hk:P.underlying tx=some (.slice e')){es:List A}{k:Nat}{q:Option Addr}{cap:Nat}
 (hr:es≠ []-> ∃b off,q=some ⟨b,off,none⟩/\jR E k b off es): ∃news,Src P k tx (.slice q es.length cap) es.length news E.w/\bK E k es news:=by
 cases GZ:es with
 |nil=>
  refine⟨[], ?_,by simp[bK]⟩
  cases q with
  |none=>exact Src.ofNil E.w hk cap
  |some q=>exact Src.ofSlice E.w hk q 0 cap [] (by simp) (by simp) (by simp)
 |cons y ys=>
  rw[<-GZ]
  obtain⟨b,off,rfl,hE⟩:=hr (by rw[GZ];simp)
  obtain⟨vs,h1,h2,h3⟩:=bK.G6 hE;refine⟨vs,Src.ofSlice E.w hk ⟨b,off,none⟩ es.length cap vs h1.length (fun j u hu=> ?_) h3,h1⟩
  rw[Addr.add_lit]
  exact h2 j u hu
theorem B8(E:Env): ∀s:List UInt8,bK E 1 (iH s) (s.map fun b=>Value.int .u8 b.toNat)
 | []=>by simp[iH,bK]
 |c::s=>by
  simp only[iH,aS,bK]
  refine⟨rfl,by simp, ?_, ?_⟩
  · simp[nk,A.cells,cH,bU]
  · simpa[iH]using B8 E s
theorem yT: ∀s:List UInt8,A.pure.cX (iH s)=true
 | []=>rfl
 |c::s=>by simp only[iH,aS,A.pure.cX,nk,A.pure,aB];exact yT s
theorem src_sound(h:cn N0 w0 nt σ φ a w){e tx k:Nat}{x:Operand}{src:List A}(hs:Es P σ e tx k (σ.ev x)=some src):
 ∃news,Src P k tx (a.eval x) src.length news w/\bK (bB N0 φ w) k src news/\A.pure.cX src=true:=by
 have hx:=h.ev x
 have Y6: ∀{es:List A},qo k es=true->es≠ []->eV es=k:=fun{es} h1 h2=>by
  unfold qo at h1;cases es with
  |nil=>exact absurd rfl h2
  |cons y ys=>simpa using h1
 have vz: ∀{t:TypeId},(cP P t).isSome=true-> ∃e',P.underlying t=some (.slice e'):=fun{t} ht=>by
  cases hq:cP P t with
  |none=>simp[hq]at ht
  |some e'=>exact⟨e',iS hq⟩
 cases hc:σ.ev x<;>simp only[hc,Es]at hs<;>try(simp at hs;done)
 case str s=>
  split at hs
  · rename_i iI
    obtain⟨_,rfl,ht⟩:=iI;obtain rfl:=an hs;rw[hc]at hx;simp only[bU]at hx;rw[hx]
    have:=Src.ofString (P:=P) w (oE ht) ⟨s.toArray⟩
    refine⟨byteCells ⟨s.toArray⟩, ?_, ?_,yT s⟩
    · simpa[iH,um]using this
    · simpa[byteCells]using B8 (bB N0 φ w) s
  · simp at hs
 case ay es=>
  split at hs
  · rename_i iI
    obtain rfl:=an hs;obtain⟨e',BL⟩:=vz iI.2;rw[hc]at hx;simp only[bU]at hx;obtain⟨hp,q,cap,hv,xj,hl⟩:=hx;rw[hv]
    obtain⟨news,h1,h2⟩:=tD (E:=bB N0 φ w) (k:=k) (q:=q) (cap:=cap) BL (es:=es) (fun eH=>by obtain⟨b,off,h1,_,_,h2⟩:=hl eH;rw[Y6 iI.1 eH]at h2;exact⟨b,off,h1,h2⟩)
    exact⟨news,h1,h2,hp⟩
  · simp at hs
 case clip es=>
  split at hs
  · rename_i iI
    obtain rfl:=an hs;obtain⟨e',BL⟩:=vz iI.2;rw[hc]at hx;simp only[bU]at hx;obtain⟨hp,q,hv,hl⟩:=hx;rw[hv]
    obtain⟨news,h1,h2⟩:=tD (E:=bB N0 φ w) (k:=k) (q:=q) (cap:=es.length) BL (es:=es) (fun eH=>by obtain⟨b,off,h1,_,_,h2⟩:=hl eH;rw[Y6 iI.1 eH]at h2;exact⟨b,off,h1,h2⟩)
    exact⟨news,h1,h2,hp⟩
  · simp at hs
 case d_=>
  split at hs
  · rename_i iI
    obtain rfl:=an hs;obtain⟨e',BL⟩:=vz iI;rw[hc]at hx;simp only[bU]at hx;rw[hx]
    exact⟨[],Src.ofNil w BL 0,by simp[bK],rfl⟩
  · simp at hs
 case emp c=>
  split at hs
  · rename_i iI
    obtain rfl:=an hs;obtain⟨e',BL⟩:=vz iI;rw[hc]at hx;simp only[bU]at hx;obtain⟨q,cap,hv,_⟩:=hx;rw[hv]
    obtain⟨news,h1,h2⟩:=tD (E:=bB N0 φ w) (k:=k) (q:=q) (cap:=cap) BL (es:=[]) (fun eH=>absurd rfl eH)
    exact⟨news,h1,h2,rfl⟩
  · simp at hs
 case row n off k' len cl=>
  split at hs
  · rename_i iI
    obtain⟨rfl,ht⟩:=iI;obtain⟨e',BL⟩:=vz ht;unfold mb at hs;split at hs
    · rename_i es yw
      obtain rfl:=an hs;split at yw
      · rename_i Ky fs ho
        split at yw
        · rename_i hlen
          obtain⟨rfl,hlen⟩:=hlen;simp only[bf,A.ay.injEq]at yw;subst yw;rw[hc]at hx;have hl:((fs.drop off).take len).length=len:=by simp;omega
          simp only[bU]at hx;rcases hx with⟨o,kP,hf,rfl,_,q,hv⟩|⟨b,cap,c',e'',fr,kP,hv,xj,_,hb,_⟩
          · rw[hv]
            obtain⟨news,h1,h2⟩:=tD (E:=bB N0 φ w) (k:=Ky) (q:=q) (cap:=0) BL (es:=[]) (fun eH=>absurd rfl eH)
            exact⟨news,by simpa[bB]using h1,by simpa using h2,by simp[A.pure.cX]⟩
          · have kQ:=h.gp n _ _ ho kP
            simp only[cb]at kQ;obtain⟨_,hp,_,hE⟩:=kQ;have hE':=tu (n:=len) (BX (n:=off) hE)
            have yu:=rJ (n:=len) (rI (n:=off) hp)
            rw[hv]
            obtain⟨news,h1,h2⟩:=tD (E:=bB N0 φ w) (k:=Ky) (q:=some ⟨b,off*Ky,none⟩) (cap:=cap) BL (es:=(fs.drop off).take len) (fun _=>⟨b,_,rfl,by simpa using hE'⟩)
            rw[hl]at h1;exact⟨news,by rw[hl];exact h1,h2,yu⟩
        · simp at yw
      · simp at yw
    · simp at hs
  · simp at hs
theorem Nd{E':Env}{B k:Nat}{e:TypeId}{vs:List Value}{zs:Array Value}{es:List A}(hB:E'.w.heap[B]? =some (.cells (vs.toArray++zs) e (0,0)))
 (hr:bK E' k es vs) (gw: ∀u∈vs,u.oneCell'=true) (hp:A.pure.cX es=true):cb E' (.row k es) (.loc B k):=by
 simp only[cb]
 refine⟨trivial,hp,⟨_,e,(0,0),hB,vO _⟩,bK.mem hr (fun j u hu=> ?_) gw⟩
 have bo:=(aA.1 hu).1;simp only[World.cell?,hB,bY]
 have:=fI (xs:=vs.toArray) (ys:=zs) (i:=j) (by simpa using bo)
 simp only[this]
 simpa using hu
structure Y7(P:Program)(t e:TypeId)(k:Nat)(i:TypeInfo)(z:Value):Prop where
 ty:P.underlying t=some (.slice e)
 info:P.info? e=some i
 size:i.size=k
 zero:i.zero=some z
 cells:z.cells.size=k
 pos:k≠0
 bytes:i.bytes≠0
theorem app_ty{t e:TypeId}{k:Nat}(he:cP P t=some e)(hk:cW P e=some k)(h0:k≠0)(hb:kB P e≠0)(hz:oz P e k=true): ∃i z,Y7 P t e k i z/\i.bytes=kB P e:=by
 have hty:=iS he;unfold cW at hk;cases hi:P.info? e with
 |none=>simp[hi]at hk
 |some i=>
  simp[hi]at hk;unfold oz at hz;cases hzz:iR P e with
  |none=>simp[hzz]at hz
  |some zz=>
   rw[hzz]at hz;simp only[ak,beq_iff_eq]at hz;have hz0:=hzz;unfold iR at hz0;simp only[hi,aY]at hz0;cases hiz:i.zero with
   |none=>simp[hiz]at hz0
   |some z=>
    simp[hiz]at hz0;have fY:=OA (bB (fun _=>False) [] (default:World)) z;rw[hz0]at fY;obtain⟨_,_,h3⟩:=nU fY hz.1;have hbb:i.bytes=kB P e:=by simp[kB,Program.bytesOf,hi]
    exact⟨i,z,⟨hty,hi,hk,hiz,by rw[h3];exact hz.2,h0,by rw[hbb];exact hb⟩,hbb⟩
theorem pV{d:Option Tmp}{b x:Operand}{t tx ty:TypeId}{p:String}{af:Array Edge}{g:Option (Nat×Bool)}{v:Value}{w':World}
 (h:(Builtin.append_ #[t,tx] ty #[a.eval b,a.eval x]).run P w= .ok v w'):
 (Go.execOp a.eval ⟨d,.call ⟨.builtin .append,⟨[b,x]⟩,⟨[t,tx]⟩⟩,ty,p,af,g⟩).run P w= .ok (.value v) w':=by
 obtain⟨cs,F'⟩:=vE (P:=P) (a:=a) (w:=w) (b:= .append) (xs:=[b,x]) (us:=⟨[t,tx]⟩) (d:=d) (t:=ty) (p:=p) (af:=af) (g:=g)
 rw[F']
 exact DD (s:=Builtin.append_ #[t,tx] ty #[a.eval b,a.eval x]) h
end
end Go.dF
namespace Go.dF
open Go.RowKit
section
variable{P:Program}{N0:Nat->Prop}{w0:pU}{nt:Nat}{σ:St}{φ:List ia}{a:Act}{w:World}
theorem first0{k cap:Nat}{q:Option Addr}:(Builtin.firstCells k 0 (.slice q 0 cap)).run P w= .ok (#[]:Array Value) w:=by
 cases q with
 |none=>exact run_firstCells_none w k 0 0 cap
 |some q=>
  have:=run_firstCells_some (P:=P) w k 0 q 0 cap [] (by simp) (by simp)
  simpa using this
theorem Sr{k len cap b off:Nat}{vs:List Value}(hl:vs.length=len*k)(hr:w.rangeAt b off vs):(Builtin.firstCells k len (.slice (some ⟨b,off,none⟩) len cap)).run P w= .ok vs.toArray w:=
 run_firstCells_some w k len ⟨b,off,none⟩ len cap vs hl (fun j v hv=>by rw[Addr.add_lit];exact hr j v hv)
theorem Ss{t e k tx ty:Nat}{i:TypeInfo}{z:Value}(hT:Y7 P t e k i z){q:Option Addr}{An Ez n:Nat}{olds news:List Value}{x:Value}
 (hold:(Builtin.firstCells k An (.slice q An Ez)).run P w.drew= .ok olds.toArray w.drew) (vM:olds.length=An*k) (hs:Src P k tx x n news w)
 (hg:Ez<An+n) (KG:(An+n)*i.bytes<=140737488355328):
 ∃w' c zs,(Builtin.append_ #[t,tx] ty #[.slice q An Ez,x]).run P w= .ok (.slice (some ⟨w.heap.size,0,none⟩) (An+n) c) w'/\jT w w'/\w.heap.size<w'.heap.size/\An+n<=c/\
  w'.heap[w.heap.size]? =some (.cells ((olds++news).toArray++zs) e (0,0))/\k*c<=((olds++news).toArray++zs).size:=by
 obtain⟨h1,h2,rfl,h4,h5,h6,h7⟩:=hT;have hb1:1<=i.bytes:=by omega
 have h63:An+n<=140737488355328:=aL (Nat.le_mul_of_pos_right _ hb1) KG;have hge:=grownCap_ge w (An+n) Ez e;refine⟨_,grownCap w (An+n) Ez e,Builtin.zeroCells z.cells (grownCap w (An+n) Ez e-(An+n)),run_append_grow_src (P:=P) w t tx ty e i z h1 h2 h4 q An Ez olds hold x n news hs hg (by omega) (growslice_fits hg KG), ?_, ?_,hge, ?_, ?_⟩
 · exact(jT.drew w).trans (jT.alloc _ _)
 · simp
 · exact heap_alloc_new w.drew _
 · have hnl:=hs.newsLen
   simp only[Array.size_append,List.size_toArray,aj,vM,hnl,size_zeroCells,h5]
   rw[<-cJ,<-cJ,lE]
   exact cB _ (by omega)
theorem cn.ext_nil(_h:cn N0 w0 nt σ φ a w){n:Nat}(dR:φ[n]? =some .free):Ext (fun _=>True) (bB N0 φ w) (bB N0 (φ.set n .nil) w):=by
 have lG:=Am (φ:=φ) (n:=n) (p:=ia.nil) (aA.1 dR).1
 exact{
  size:=ai _
  RX:=fun c hc hnc=>⟨by
   rintro(h0|⟨m,k',hm⟩)
   · exact hnc (.inl h0)
   · rw[lG]at hm
     split at hm
     · simp at hm
     · exact hnc (.inr ⟨m,k',hm⟩),rfl⟩
  refs:=fun m p _ hm hp=>by
   show(φ.set n ia.nil)[m]? =some p;rw[lG]
   split
   · rename_i e;subst e
     have:φ[n]? =some p:=hm;rw[dR]at this;simp at this;exact absurd this.symm hp
   · exact hm
  own:=fun m c k' cc e fr _ hm hc=>⟨cc,fr,hc,rfl⟩}
theorem cn.newNil(h:cn N0 w0 nt σ φ a w){n k:Nat}(dR:φ[n]? =some .free):cn N0 w0 nt (σ.gD n (.row k [])) (φ.set n .nil) a w:=by
 have lG:=Am (φ:=φ) (n:=n) (p:=ia.nil) (aA.1 dR).1;have iW:=h.ext_nil dR
 exact{
  gj:=fun d=>bU.mono iW _ _ (h.gj d) (fun _ _=>trivial)
  size:=h.size
  defers:=h.defers
  len:=by simp[St.gD,ji,h.len]
  gp:=fun m o' p hm hp=>by
   rw[lG]at hp;simp only[St.gD]at hm;rw[ji,dQ,cY]at hm;split at hp
   · rename_i e
     subst e;simp at hp;subst hp;rw[if_pos rfl]at hm;split at hm
     · simp at hm;subst hm;simp[cb]
     · simp at hm
   · rename_i e
     rw[if_neg e]at hm;exact cb.mono iW (h.gp m o' p (by rw[dQ];exact hm) hp) (fun c k' hc cc ee fr hh=>hh) (fun _ _ _ _=>trivial)
  own:=fun m c k' hm=>by
   rw[lG]at hm;split at hm
   · simp at hm
   · exact h.own m c k' hm
  inj:=fun m m' c k' Ky hm oo=>by
   rw[lG]at hm oo;split at hm<;>split at oo
   · simp at hm
   · simp at hm
   · simp at oo
   · exact h.inj m m' c k' Ky hm oo
  n0:=h.n0
  qE:=fun m q hf hm hq=>by
   have:=h.qE m q hf hm hq;rw[lG]
   split
   · rename_i e;subst e;rw[dR]at this;exact absurd (an this).symm hq
   · exact this
  below:=h.below}
theorem cn.setObj(h:cn N0 w0 nt σ φ a w){n:Nat}{o:Obj}(ho: ∀p,φ[n]? =some p->cb (bB N0 φ w) o p):cn N0 w0 nt (σ.gD n o) φ a w:=
 {h with
  gj:=h.gj
  len:=by simp[St.gD,ji,h.len]
  gp:=fun m o' p hm hp=>by
   simp only[St.gD]at hm;rw[ji,dQ,cY]at hm;split at hm
   · rename_i e
     subst e;split at hm
     · simp at hm;subst hm;exact ho p hp
     · simp at hm
   · exact h.gp m o' p (by rw[dQ];exact hm) hp}
theorem Gb(h:cn N0 w0 nt σ φ a w){d:Option Tmp}{b x:Operand}{t tx ty:TypeId}{p:String}{af:Array Edge}{g:Option (Nat×Bool)}(hd: ∀t,d=some t->t<nt){n:Nat}(dR:φ[n]? =some .free)
 {e k:Nat} {i:TypeInfo} {z:Value} (hT:Y7 P t e k i z) {q:Option Addr} {es src:List A} {news:List Value} (hbv:a.eval b= .slice q es.length es.length)
 (GZ:es≠ []-> ∃B off,q=some ⟨B,off,none⟩/\jR (bB N0 φ w) k B off es) (VH:A.pure.cX es=true) (hc:es=[]\/src≠ [])
 (hs:Src P k tx (a.eval x) src.length news w) (hn:bK (bB N0 φ w) k src news) (hps:A.pure.cX src=true) (KG:(es.length+src.length)*i.bytes<=140737488355328):
 va P ⟨d,.call ⟨.builtin .append,⟨[b,x]⟩,⟨[t,tx]⟩⟩,ty,p,af,g⟩ a w N0 w0 nt φ n ((σ.gD n (.row k (es++src))).put d (.row n 0 k (es.length+src.length) false)):=by
 have bo:n<φ.length:=(aA.1 dR).1;by_cases EA:src=[]
 · have hes0:es=[]:=by
    rcases hc with h|h
    · exact h
    · exact absurd EA h
   subst hes0;subst EA;have hn0:news=[]:=by simpa only[bK]using hn
   subst hn0;have mo:=run_append_nothing (P:=P) w t tx ty e i hT.ty hT.info q 0 0 (ai 0) (a.eval x) (by rw[hT.size];exact hs)
   refine⟨.slice q 0 0,w,φ.set n .nil,.inl ?_, ?_⟩
   · have:=hbv
     simp only[bC]at this;rw[<-this]at mo;rw[<-this]
     exact pV mo
   · refine⟨(h.newNil dR).put hd ?_,fun m hm hf=>by rw[cC (fw hm)];exact hf⟩
     simp only[bU]
     exact .inl ⟨.nil,by show(φ.set n _)[n]? =_;simp[bo],by simp,by simp,fun _=>trivial,q,by simp⟩
 · have hold: ∃olds,(Builtin.firstCells k es.length (.slice q es.length es.length)).run P w.drew= .ok olds.toArray w.drew/\bK (bB N0 φ w) k es olds/\ ∀u∈olds,u.oneCell'=true:=by
    by_cases he:es=[]
    · subst he
      exact⟨[],first0,by simp[bK],by simp⟩
    · obtain⟨B,off,rfl,hE⟩:=GZ he
      obtain⟨vs,h1,h2,h3⟩:=bK.G6 hE;exact⟨vs,Sr h1.length (fun j v hv=>by have:=h2 j v hv;simpa[bB]using this),h1,h3⟩
   obtain⟨olds,hf,hro,hoo⟩:=hold
   have vz:0<src.length:=by
    cases src with
    |nil=>exact absurd rfl EA
    |cons=>simp
   obtain⟨w',c,zs,mo,g,qY,hle,hB,F'⟩:=Ss (ty:=ty) hT hf hro.length hs (by omega) KG
   have KH:=h.newObj (k:=k) (o:= .row k (es++src)) dR g (ai _) qY (by
    have iW:=h.OF (k:=k) dR g (ai _)
    refine Nd (E':=bB N0 (φ.set n (.loc w.heap.size k)) w') hB ?_ ?_ ?_
    · refine bK.mono (E:=bB N0 φ w) (fun x v hx hr=>bU.mono iW x v hr (fun _ _=>trivial)) ?_ (hro.append hn)
      exact gQ fun j y hy=>by
       rcases aJ.1 (cu hy)with hm|hm
       · obtain⟨r,hr⟩:=bO hm;exact cd VH hr
       · obtain⟨r,hr⟩:=bO hm;exact cd hps hr
    · intro u hu
      rcases aJ.1 hu with hu|hu
      · exact hoo u hu
      · exact hs.one u hu
    · exact gQ fun j y hy=>by
       rcases aJ.1 (cu hy)with hm|hm
       · obtain⟨r,hr⟩:=bO hm;exact cd VH hr
       · obtain⟨r,hr⟩:=bO hm;exact cd hps hr)
   refine⟨_,w',_,.inl (pV (by rw[hbv];exact mo)),KH.put hd ?_,fun m hm hf=>by rw[cC (fw hm)];exact hf⟩
   simp only[bU]
   exact .inr ⟨w.heap.size,c,_,e,(0,0),by show(φ.set n _)[n]? =_;simp[bo],by simp,hle,by simp,hB,by simpa using F'⟩
theorem app_old{n:Nat}(z_:w0.fix n=false)(h:cn N0 w0 nt σ φ a w){d:Option Tmp}{b x:Operand}{t tx ty:TypeId}{p:String}{af:Array Edge}{g:Option (Nat×Bool)}(hd: ∀t,d=some t->t<nt){nm:Nat}
 {e k:Nat} {i:TypeInfo} {z:Value} (hT:Y7 P t e k i z) {len:Nat} {es src:List A} {news:List Value} (hbr:bU (bB N0 φ w) (.row n 0 k len false) (a.eval b))
 (ho:ff σ.H n=some (.row k es)) (hlen:len<=es.length)
 (hs:Src P k tx (a.eval x) src.length news w) (hn:bK (bB N0 φ w) k src news) (hps:A.pure.cX src=true) (KG:(len+src.length)*i.bytes<=140737488355328):
 va P ⟨d,.call ⟨.builtin .append,⟨[b,x]⟩,⟨[t,tx]⟩⟩,ty,p,af,g⟩ a w N0 w0 nt φ nm (((σ.lC n).gD n (.row k (es.take len++src))).put d (.row n 0 k (len+src.length) false)):=by
 have h':=h.lC n;have o6:=DR σ n
 have hnlen:n<φ.length:=by
  rw[h.len]
  rw[dQ]at ho;exact(aA.1 ho).1
 have grow:φ[n]? ≠some .free-> ∀(q:Option Addr) (Ez:Nat) (olds:List Value),a.eval b= .slice q len Ez->(Builtin.firstCells k len (.slice q len Ez)).run P w.drew= .ok olds.toArray w.drew->
  bK (bB N0 φ w) k (es.take len) olds->(∀u∈olds,u.oneCell'=true)->A.pure.cX (es.take len)=true->Ez<len+src.length->
  va P ⟨d,.call ⟨.builtin .append,⟨[b,x]⟩,⟨[t,tx]⟩⟩,ty,p,af,g⟩ a w N0 w0 nt φ nm (((σ.lC n).gD n (.row k (es.take len++src))).put d (.row n 0 k (len+src.length) false)):=by
  intro RJ q Ez olds hbv hf hro hoo VH hg;have aH:(es.take len).length=len:=by simp;omega
  obtain⟨w',c,zs,mo,g,qY,hle,hB,F'⟩:=Ss (ty:=ty) hT hf (by rw[hro.length,aH]) hs hg KG
  have RK:A.pure.cX (es.take len++src)=true:=gQ fun j y hy=>by
   rcases aJ.1 (cu hy)with hm|hm
   · obtain⟨r,hr⟩:=bO hm;exact cd VH hr
   · obtain⟨r,hr⟩:=bO hm;exact cd hps hr
  obtain⟨KH,_⟩:=h'.rehome z_ o6 hnlen (p:= .loc w.heap.size k) (o:= .row k (es.take len++src)) g (fun B K e'=>by
   simp only[ia.loc.injEq]at e';obtain⟨rfl,rfl⟩:=e';exact⟨ai _,qY⟩) (fun iW=>by
   refine Nd (E':=bB N0 (φ.set n (.loc w.heap.size k)) w') hB ?_ ?_ RK
   · exact bK.mono (E:=bB N0 φ w) (fun x v hx hr=>bU.mono iW x v hr (fun m hm=>by rw[A.su m x hx]at hm;cases hm)) RK (hro.append hn)
   · intro u hu
     rcases aJ.1 hu with hu|hu
     · exact hoo u hu
     · exact hs.one u hu)
  refine⟨_,w',_,.inl (pV (by rw[hbv];exact mo)),KH.put hd ?_,fun m hm hf=>by rw[cC (fun e=>RJ (by rw[e];exact hf))];exact hf⟩
  simp only[bU]
  exact .inr ⟨w.heap.size,c,_,e,(0,0),by show(φ.set n _)[n]? =_;simp[hnlen],by simp,hle,by simp,hB,by simpa using F'⟩
 simp only[bU]at hbr;rcases hbr with⟨o,kP,hf,rfl,_,q,hv⟩|⟨B,cap,c',e',fr,kP,hv,xj,_,hb,KI⟩
 · by_cases EA:src=[]
   · subst EA
     have hn0:news=[]:=by simpa only[bK]using hn
     subst hn0;have mo:=run_append_nothing (P:=P) w t tx ty e i hT.ty hT.info q 0 0 (ai 0) (a.eval x) (by rw[hT.size];exact hs)
     refine⟨.slice q 0 0,w,φ,.inl (pV (by rw[hv];exact mo)), ?_⟩
     refine⟨(h'.setObj (fun p hp=> ?_)).put hd ?_,fun _ _ h=>h⟩
     · have kQ:=h.gp n _ _ ho hp
       cases p with
       |nil=>simp[cb]
       |free=>
        have OG:φ[n]? =some o:=kP;rw[OG]at hp;simp at hp;exact absurd hp hf
       |loc B Ky=>
        simp only[cb]at kQ⊢;exact⟨kQ.1,by simp[A.pure.cX],kQ.2.2.1,by simp[jR]⟩
     · simp only[bU]
       exact .inl ⟨o,kP,hf,by simp,fun _=>trivial,q,by simp⟩
   · refine grow (fun e=>hf (by have OG:φ[n]? =some o:=kP;rw[OG]at e;simpa using e)) q 0 [] hv first0 (by simp[bK]) (by simp) (by simp[A.pure.cX]) ?_
     cases src with
     |nil=>exact absurd rfl EA
     |cons=>simp
 · have kQ:=h.gp n _ _ ho kP
   simp only[cb]at kQ;obtain⟨_,hp,⟨cc,ee,ffr,VI,RL⟩,hE⟩:=kQ;have vN:w.heap[B]? =some (.cells c' e' fr):=hb;have vQ:w.heap[B]? =some (.cells cc ee ffr):=VI;rw[vN]at vQ;simp only[bf,pg]at vQ;obtain⟨rfl,rfl,rfl⟩:=vQ;have hE':=tu (n:=len) hE;have yu:=rJ (n:=len) hp;obtain⟨olds,h1,h2,h3⟩:=bK.G6 hE';have aH:(es.take len).length=len:=by simp;omega
   have h1l:olds.length=len*k:=by rw[h1.length,aH]
   rw[nD]at hv KI;by_cases hroom:len+src.length<=cap
   · have hnl:=hs.newsLen
     have hmul:len*k+src.length*k<=k*cap:=by
      rw[<-cJ,lE k cap]
      exact cB _ hroom
     have ht:w.there B (0+len*k) news.length:=vP vN RL (by omega)
     have mo:=run_append_room_src (P:=P) w t tx ty e i hT.ty hT.info B 0 len cap (a.eval x) src.length news (by rw[hT.size];exact hs) hroom
      (fun j hj=>by rw[hT.size];exact(ht j hj).1) (fun j hj=>by rw[hT.size];exact(ht j hj).2)
     rw[hT.size]at mo;obtain⟨cc'',Y8,hss''⟩:=(kh (b:=B) news (0+len*k) w).2.2.2.2.2.2 c' e' fr vN;have iW:=h.tz (0+len*k) news kP
     have hw:=h'.write (o:= .row k (es.take len++src)) (off:=0+len*k) (vs:=news) kP (by
      simp only[cb]
      have RK:A.pure.cX (es.take len++src)=true:=gQ fun j y hy=>by
       rcases aJ.1 (cu hy)with hm|hm
       · obtain⟨r,hr⟩:=bO hm;exact cd yu hr
       · obtain⟨r,hr⟩:=bO hm;exact cd hps hr
      refine⟨trivial,RK,⟨cc'',e',fr,Y8,fun j hj=>RL j (by omega)⟩, ?_⟩
      refine bK.mem (vs:=olds++news) (bK.mono (E:=bB N0 φ w) (fun x v hx hr=>bU.mono iW x v hr (fun _ _=>trivial)) RK (h1.append hn)) ?_ ?_
      · intro j u hu
        show(w.setCells B (0+len*k) news).cell? ⟨B,0+j,none⟩=some u;rw[pP ht]
        rw[fo]at hu;split at hu
        · rename_i hj
          rw[if_neg (by omega)]
          exact h2 j u hu
        · rename_i hj
          have:=(aA.1 hu).1;rw[if_pos (by omega),show 0+j-(0+len*k)=j-olds.length by omega]
          exact hu
      · intro u hu
        rcases aJ.1 hu with hu|hu
        · exact h3 u hu
        · exact hs.one u hu)
     refine⟨_,_,φ,.inl (pV (by rw[hv];exact mo)),hw.put hd ?_,fun _ _ h=>h⟩
     simp only[bU]
     exact .inr ⟨B,cap,cc'',e',fr,kP,by simp,hroom,by simp,Y8,by rw[hss''];simpa using KI⟩
   · exact grow (fun e=>by have OG:φ[n]? =some (.loc B k):=kP;rw[OG]at e;simp at e) _ cap olds hv (Sr h1l (fun j v hv=>by have:=h2 j v hv;simpa[bB]using this)) h1 h3 yu (by omega)
theorem OH(h:cn N0 w0 nt σ φ a w){d:Option Tmp}{b x:Operand}{t tx ty:TypeId}{p:String}{af:Array Edge}{g:Option (Nat×Bool)}(hd: ∀t,d=some t->t<nt){n:Nat}(dR:φ[n]? =some .free)
 {jO:St} {fx:Nat->Bool} (z_:w0.fix=fx) (hr:xm P fx σ n d t tx (σ.ev b) (σ.ev x)=some jO):va P ⟨d,.call ⟨.builtin .append,⟨[b,x]⟩,⟨[t,tx]⟩⟩,ty,p,af,g⟩ a w N0 w0 nt φ n jO:=by
 unfold xm at hr;split at hr
 · rename_i e he
   split at hr
   · rename_i k hk
     split at hr
     · simp at hr
     · rename_i hc
       have hz:oz P e k=true:=by
        cases hzz:oz P e k with
        |true=>rfl
        |false=>exact absurd (.inr (.inr hzz)) hc
       obtain⟨i,z,hT,hbb⟩:=app_ty he hk (fun e'=>hc (.inl e')) (fun e'=>hc (.inr (.inl e'))) hz;cases EA:Es P σ e tx k (σ.ev x)with
       |none=>simp[EA]at hr
       |some src=>
        simp only[EA,aY]at hr;obtain⟨news,hs,hn,hps⟩:=src_sound h EA;have hb:=h.ev b;rw[<-hbb]at hr
        have Y6: ∀{es:List A},qo k es=true->es≠ []->eV es=k:=fun{es} h1 h2=>by
         unfold qo at h1;cases es with
         |nil=>exact absurd rfl h2
         |cons y ys=>simpa using h1
        cases EB:σ.ev b<;>rw[EB]at hb<;>simp only[EB,uc]at hr<;>try(simp at hr;done)
        case d_=>
         split at hr
         · rename_i KG
           obtain rfl:=an hr;simp only[bU]at hb;have:=Gb h (p:=p) (af:=af) (g:=g) (ty:=ty) hd dR hT (q:=none) (es:=[]) (src:=src) hb (fun eH=>absurd rfl eH) rfl (.inl rfl) hs hn hps (by simpa using KG)
           simpa using this
         · simp at hr
        case clip es=>
         split at hr
         · rename_i iI
           obtain⟨eO,OI,KG⟩:=iI;obtain rfl:=an hr;simp only[bU]at hb;obtain⟨VH,q,hv,hl⟩:=hb;exact Gb h (p:=p) (af:=af) (g:=g) (ty:=ty) hd dR hT (q:=q) (es:=es) (src:=src) hv (fun eH=>by obtain⟨B,off,e1,_,_,e2⟩:=hl eH;rw[Y6 eO eH]at e2;exact⟨B,off,e1,e2⟩) VH OI hs hn hps KG
         · simp at hr
        case row m off k' len cl=>
         cases off with
         |succ off=>simp at hr
         |zero=>
          simp only at hr;split at hr
          · rename_i Ky es ho
            split at hr
            · rename_i iI
              obtain⟨rfl,rfl,hlen,KG⟩:=iI;split at hr
              · rename_i o6
                subst o6;split at hr
                · simp at hr
                · rename_i eH
                  obtain rfl:=an hr;have aH:(es.take len).length=len:=by simp;omega
                  simp only[bU]at hb;rcases hb with⟨o,kP,hf,rfl,_,q,hv⟩|⟨B,cap,c',e',fr,kP,hv,xj,o6,hb,KI⟩
                  · have:=Gb h (p:=p) (af:=af) (g:=g) (ty:=ty) hd dR hT (q:=q) (es:=[]) (src:=src) hv (fun eH=>absurd rfl eH) rfl (.inl rfl) hs hn hps (by simpa using KG)
                    simpa using this
                  · have kQ:=h.gp m _ _ ho kP
                    simp only[cb]at kQ;obtain⟨_,hp,_,hE⟩:=kQ;have hcap:=o6 trivial;subst hcap;have hE':=tu (n:=cap) hE;have yu:=rJ (n:=cap) hp;have:=Gb h (p:=p) (af:=af) (g:=g) (ty:=ty) hd dR hT (q:=some ⟨B,0,none⟩) (es:=es.take cap) (src:=src) (by rw[aH,hv];simp) (fun _=>⟨B,0,rfl,hE'⟩) yu (.inr eH) hs hn hps (by rw[aH];exact KG)
                    rw[aH]at this;exact this
              · rename_i o6
                have hcl':cl=false:=by simpa using o6
                subst hcl';split at hr
                · simp at hr
                · rename_i RJ
                  obtain rfl:=an hr;exact app_old (by rw[z_];simpa using RJ) h hd hT hb ho hlen hs hn hps KG
            · simp at hr
          · simp at hr
   · simp at hr
 · simp at hr
end
end Go.dF
namespace Go.dF
open Go.RowKit
section
variable{P:Program}{N0:Nat->Prop}{w0:pU}{nt:Nat}{σ:St}{φ:List ia}{a:Act}{w:World}
theorem V7(h:cn N0 w0 nt σ φ a w){d:Option Tmp}{src dst:TypeId}{x:Operand}{t:TypeId}{p:String}{af:Array Edge}{g:Option (Nat×Bool)}(hd: ∀t,d=some t->t<nt){n:Nat}
 (dR:Af P src dst=true->φ[n]? =some .free) {jO:St} (hr:DC P σ n d src dst (σ.ev x)=some jO):va P ⟨d,.convert src dst x,t,p,af,g⟩ a w N0 w0 nt φ n jO:=by
 unfold DC at hr;split at hr
 · rename_i hb
   have dR:=dR hb;have hx:=h.ev x;split at hr
   · rename_i s hs
     obtain rfl:=an hr;rw[hs]at hx;simp only[bU]at hx;unfold Af at hb;simp only[ak]at hb;obtain⟨hb1,hb2⟩:=hb;cases he:cP P dst with
     |none=>simp[he]at hb2
     |some e=>
      simp[he]at hb2;have bo:n<φ.length:=(aA.1 dR).1;have mo:=run_bytes_of_string (P:=P) w src dst e ⟨s.toArray⟩ (oE hb1) (iS he) (GP hb2)
      have hge:=grownCap_ge w (⟨s.toArray⟩:ByteArray).size 0 e;generalize hc:grownCap w (⟨s.toArray⟩:ByteArray).size 0 e=c at mo hge;rw[um]at hge
      have qY:(bytesRow ⟨s.toArray⟩ c).size=c:=by
       simp[bytesRow,um]
       omega
      rw[qY]at mo;have g:jT w (w.drew.alloc (.cells (bytesRow ⟨s.toArray⟩ c) e (c,c+1))):=(jT.drew w).trans (jT.alloc _ _)
      have hB:(w.drew.alloc (.cells (bytesRow ⟨s.toArray⟩ c) e (c,c+1))).heap[w.heap.size]? =some (.cells (bytesRow ⟨s.toArray⟩ c) e (c,c+1)):=heap_alloc_new w.drew _
      have KH:=h.newObj (k:=1) (o:= .row 1 (iH s)) dR g (ai _) (by simp) (by
       simp only[cb]
       refine⟨trivial,yT s,⟨_,e,_,hB,fun j hj hh=>by rw[qY]at hj;omega⟩,bK.mem (B8 _ s) (fun j u hu=> ?_) ?_⟩
       · show(w.drew.alloc (.cells (bytesRow ⟨s.toArray⟩ c) e (c,c+1))).cell? ⟨w.heap.size,0+j,none⟩=some u
         have mP:j<s.length:=by have:=(aA.1 hu).1;simpa using this
         have DS:=bytesRow_at ⟨s.toArray⟩ c j (by simpa using mP)
         have:u= .int .u8 (s[j].toNat:Int):=by rw[aT,ae mP]at hu;simpa using hu.symm
         subst this;simp only[World.cell?,hB,bY]
         simpa using DS
       · intro u hu
         obtain⟨_,_,rfl⟩:=bZ.1 hu;rfl)
      refine⟨.slice (some ⟨w.heap.size,0,none⟩) s.length c,_,_,.inl (DD (s:=convert src dst (a.eval x)) ?_),KH.put hd ?_,fun m hm hf=>by rw[cC (fw hm)];exact hf⟩
      · rw[hx];exact mo
      · simp only[bU]
        exact .inr ⟨w.heap.size,c,_,e,_,by show(φ.set n _)[n]? =_;simp[bo],by simp,hge,by simp,hB,by rw[qY];omega⟩
   · simp at hr
 · cases hc:tn P src dst σ.H (σ.ev x)with
   |none=>simp[hc]at hr
   |some r=>
    simp[hc]at hr;subst hr;exact yv h hd (o:=⟨d,.convert src dst x,t,p,af,g⟩) (Ak h hc)
end
end Go.dF
namespace Go.dF
open Go.RowKit
theorem bK.drop{E:Env}{k:Nat}: ∀{n:Nat} {es:List A} {vs:List Value},bK E k es vs->bK E k (es.drop n) (vs.drop (n*k))
 |0,es,vs,h=>by simpa using h
 |n+1,[],vs,h=>by simp only[bK]at h;subst h;simp[bK]
 |n+1,e::es,vs,h=>by
  simp only[bK]at h;obtain⟨_,_,_,h4⟩:=h;rw[k9,show(n+1)*k=k+n*k by rw[cJ,fO];omega,<-eJ]
  exact bK.drop h4
theorem G'{z:Array Value}{n:Nat}:(Builtin.zeroCells z n).toList=(List.replicate n z.toList).flatten:=by
 unfold Builtin.zeroCells;apply j0;intro j;by_cases hz:z.size=0
 · have hz':z= #[]:=by simpa using hz
   subst hz';simp
 · have hz0:0<z.size:=by omega
   simp only[qt,Array.toList_range]
   rw[aT]
   by_cases hj:j<n*z.size
   · have hq:j/z.size<n:=(ki hz0).2 hj
     have hr:j % z.size<z.size:=Nat.mod_lt _ hz0;rw[uu hj]
     simp only[dT]
     have key: ∀(m:Nat) (j:Nat),j<m*z.size->(List.replicate m z.toList).flatten[j]? =some (z[j % z.size]!):=by
      intro m;induction m with
      |zero=>intro j hj;omega
      |succ m ih=>
       intro j hj;rw[jg,iJ]
       by_cases h:j<z.size
       · rw[ck (by simpa using h),qu h,getElem!_pos z j h];simp[h]
       · rw[bX (by simpa using h),Nat.mod_eq_sub_mod (by omega),gW]
         exact ih _ (by rw[cJ,fO]at hj;omega)
     rw[key n j hj]
   · rw[ez (by simpa using hj),ez (by
      rw[uv,l5,si];simpa using hj)]
     rfl
section
variable{P:Program}{N0:Nat->Prop}{w0:pU}{nt:Nat}{σ:St}{φ:List ia}{a:Act}{w:World}
theorem Su(h:cn N0 w0 nt σ φ a w){d:Option Tmp}{x:Operand}{t ty:TypeId}{p:String}{af:Array Edge}{g:Option (Nat×Bool)}(hd: ∀t,d=some t->t<nt){nm:Nat}
 {jO:St} (hr:BU P σ d t (σ.ev x)=some jO):va P ⟨d,.call ⟨.builtin .clear,⟨[x]⟩,⟨[t]⟩⟩,ty,p,af,g⟩ a w N0 w0 nt φ nm jO:=by
 have hx:=h.ev x;unfold BU at hr;split at hr
 · rename_i n off k len cl EB
   rw[EB]at hx;split at hr
   case h_2=>simp at hr
   rename_i e he;split at hr
   case h_2=>simp at hr
   rename_i k' es ho;split at hr
   · rename_i zz hz
     split at hr
     · rename_i hc
       obtain⟨rfl,hzl,Ey,hzv,hzp,hle⟩:=hc;obtain rfl:=an hr;have hty:=iS he;obtain⟨zv,hzr,G3⟩:=Al (w:=w) hz;have fY:=G3 (bB N0 φ w)
       obtain⟨r1,r2,r3⟩:=nU fY hzv
       have vR: ∀{v:Value} {w':World},(Builtin.clear_ #[t] ty #[a.eval x]).run P w= .ok v w'->(Go.execOp a.eval ⟨d,.call ⟨.builtin .clear,⟨[x]⟩,⟨[t]⟩⟩,ty,p,af,g⟩).run P w= .ok (.value v) w':=fun{v w'} mo=>by
        obtain⟨cs,F'⟩:=vE (P:=P) (a:=a) (w:=w) (b:= .clear) (xs:=[x]) (us:=⟨[t]⟩) (d:=d) (t:=ty) (p:=p) (af:=af) (g:=g)
        rw[F']
        exact DD (s:=Builtin.clear_ #[t] ty #[a.eval x]) mo
       simp only[bU]at hx;have same:(es.take off++List.replicate 0 zz.norm++es.drop (off+0))=es:=by simp
       rcases hx with⟨o,kP,hf,rfl,_,q,hv⟩|⟨b,cap,c',e',fr,kP,hv,xj,_,hb,KI⟩
       · refine⟨.tuple #[],w,φ,.inl (vR ?_), ?_⟩
         · rw[hv]
           cases q<;>simp[Builtin.clear_,run_underlying hty]
         · rw[same]
           refine⟨(h.setObj (fun p hp=>h.gp n _ p ho hp)).put hd ?_,fun _ _ h=>h⟩
           simp[bU,cH]
       · have kQ:=h.gp n _ _ ho kP
         simp only[cb]at kQ;obtain⟨_,hp,⟨cc,ee,ffr,VI,RL⟩,hE⟩:=kQ;by_cases hl0:len=0
         · subst hl0
           refine⟨.tuple #[],w,φ,.inl (vR ?_), ?_⟩
           · rw[hv]
             simp[Builtin.clear_,run_underlying hty]
           · rw[same]
             refine⟨(h.setObj (fun p hp=>h.gp n _ p ho hp)).put hd ?_,fun _ _ h=>h⟩
             simp[bU,cH]
         · have vQ:w.heap[b]? =some (.cells cc ee ffr):=VI
           have vN:w.heap[b]? =some (.cells c' e' fr):=hb;rw[vN]at vQ;simp only[bf,pg]at vQ;obtain⟨rfl,rfl,rfl⟩:=vQ;obtain⟨vs,g1,g2,g3⟩:=bK.G6 hE;have hzc:zv.cells.size=k':=by rw[r3];exact hzl
           have hnl:(List.replicate len zv.cells.toList).flatten.length=len*k':=by rw[uv,l5,si,gW,hzc]
           have hmul:off*k'+len*k'<=c'.size:=by
            have h1:len*k'<=k'*cap:=by rw[lE k' cap];exact cB _ xj
            omega
           have ht:w.there b (off*k') (List.replicate len zv.cells.toList).flatten.length:=vP vN RL (by rw[hnl];exact hmul)
           have gw: ∀u∈(List.replicate len zv.cells.toList).flatten,u.oneCell'=true:=fun u hu=>by obtain⟨ys,DF,hu⟩:=ng.1 hu;obtain⟨_,rfl⟩:=List.mem_replicate.1 DF;exact r2 u hu
           have eO:=run_storeCells_cells (P:=P) b (off*k') (List.replicate len zv.cells.toList).flatten 0 w (fun j hj=>by rw[dh];exact(ht j hj).1) (fun j hj=>by rw[dh];exact(ht j hj).2) gw;rw[dh]at eO;obtain⟨cc'',Y8,hss''⟩:=(kh (b:=b) (List.replicate len zv.cells.toList).flatten (off*k') w).2.2.2.2.2.2 c' e' fr vN;have iW:=h.tz (off*k') (List.replicate len zv.cells.toList).flatten kP
           have hzn:bK (bB N0 φ w) k' (List.replicate len zz.norm) (List.replicate len zv.cells.toList).flatten:=
            bK.replicate (by rw[mA,aa,hzl]) (by rw[mA];exact ur r1) len
           have hvl:=g1.length;have hpz:A.pure.cX (List.replicate len zz.norm)=true:=gQ fun j y hy=>by have:=cu hy;obtain⟨_,rfl⟩:=List.mem_replicate.1 this;exact qZ hzp
           have RK:A.pure.cX (es.take off++List.replicate len zz.norm++es.drop (off+len))=true:=gQ fun j y hy=>by
            rcases aJ.1 (cu hy)with hm|hm
            · rcases aJ.1 hm with hm|hm
              · obtain⟨r,hr⟩:=bO (b_ hm);exact cd hp hr
              · obtain⟨r,hr⟩:=bO hm;exact cd hpz hr
            · obtain⟨r,hr⟩:=bO (dj hm);exact cd hp hr
           have hw:=h.write (o:= .row k' (es.take off++List.replicate len zz.norm++es.drop (off+len))) (off:=off*k') (vs:=(List.replicate len zv.cells.toList).flatten) kP (by
            simp only[cb]
            refine⟨trivial,RK,⟨cc'',e',fr,Y8,fun j hj=>RL j (by omega)⟩, ?_⟩
            have mQ:=((g1.take (n:=off)).append hzn).append (g1.drop (n:=off+len))
            refine bK.mem (vs:=vs.take (off*k')++(List.replicate len zv.cells.toList).flatten++vs.drop ((off+len)*k')) (bK.mono (E:=bB N0 φ w) (fun x v hx hr=>bU.mono iW x v hr (fun _ _=>trivial)) RK mQ) ?_ ?_
            · intro j u hu
              show(w.setCells b (off*k') _).cell? ⟨b,0+j,none⟩=some u
              have hlen1:(vs.take (off*k')).length=off*k':=by
               rw[aK,hvl]
               have:off*k'<=es.length*k':=cB _ (by omega)
               omega
              rw[pP ht,bY]
              rw[ba,fo,hlen1]at hu;split at hu
              · rename_i hj
                rw[if_neg (by omega)]
                rw[eC]at hu;rw[if_pos hj]at hu;have:=g2 j u hu;simpa[bB]using this
              · rename_i hj
                rw[fo,hnl]at hu;split at hu
                · rename_i hj2
                  rw[if_pos (by rw[hnl];omega)]
                  exact hu
                · rename_i hj2
                  rw[if_neg (by rw[hnl];omega)]
                  rw[eB]at hu;have e3:(off+len)*k'+(j-off*k'-len*k')=j:=by rw[cJ];omega
                  rw[e3]at hu;have:=g2 j u hu;simpa[bB]using this
            · intro u hu
              rcases aJ.1 hu with hu|hu
              · rcases aJ.1 hu with hu|hu
                · exact g3 u (b_ hu)
                · exact gw u hu
              · exact g3 u (dj hu))
           refine⟨.tuple #[],_,φ,.inl (vR ?_),hw.put hd (by simp[bU,cH]),fun _ _ h=>h⟩
           rw[hv]
           obtain⟨len',rfl⟩: ∃m,len=m+1:=⟨len-1,by omega⟩
           have e0:(#[t]:Array TypeId)[0]? =some t:=rfl;have e1:(#[Value.slice (some ⟨b,off*k',none⟩) (len'+1) cap]:Array Value)[0]? =some (Value.slice (some ⟨b,off*k',none⟩) (len'+1) cap):=rfl;simp only[Builtin.clear_,e0,e1,Sem.run_bind,run_underlying hty,Result.andThen_ok,hzr,G',eO,Sem.run_pure]
     · simp at hr
   · simp at hr
 · simp at hr
end
end Go.dF
