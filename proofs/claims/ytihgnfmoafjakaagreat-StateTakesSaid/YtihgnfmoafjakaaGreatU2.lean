/- What the laws of this claim rest on: the abstract executor, its soundness, and what the functions compute on pure data. No condition. -/
import Derived.Test.YtihgnfmoafjakaaGreatU1
import Derived.Laws.StructEq
import Derived.Deep.Upon
import Derived.Laws.IdiomStrings
noncomputable section
set_option linter.unusedVariables false
set_option linter.unusedSimpArgs false
namespace Go.bJ
open Go.RowKit
def bM:A->Value
 | .int k n=> .int k n
 | .bool b=> .bool b
 | .str s=> .string ⟨s.toArray⟩
 |_=>undef
theorem Hn{E:Env}{c:CK}{x:A}{v:Value}(h:c.has x=true)(hr:aF E x v):v=bM x:=by cases c<;>cases x<;>simp_all[CK.has,aF,bM]
theorem ma{E:Env}: ∀{ks:List CK} {xs:List A} {vs:List Value},eE ks xs=true->aP E xs vs->vs=xs.map bM
 | [],[],vs,_,h=>by simpa[aP]using h
 |c::ks,x::xs,vs,h,hr=>by
  simp only[eE,Bool.and_eq_true]at h;simp only[aP]at hr;obtain⟨v,kc,rfl,hx,hl⟩:=hr;rw[Hn h.1 hx,ma h.2 hl]
  rfl
 | [],_::_,_,h,_=>by simp[eE]at h
 |_::_,[],_,h,_=>by simp[eE]at h
theorem o0: ∀{ks ls:List CK} {xs:List A},eE (ks++ls) xs=true->eE ks (xs.take ks.length)=true/\eE ls (xs.drop ks.length)=true
 | [],ls,xs,h=>by simpa[eE]using h
 |c::ks,ls,[],h=>by simp[eE]at h
 |c::ks,ls,x::xs,h=>by
  simp only[List.cons_append,eE,Bool.and_eq_true]at h;have:=o0 h.2;simp only[List.length_cons,List.take_succ_cons,List.drop_succ_cons,eE,Bool.and_eq_true]
  exact⟨⟨h.1,this.1⟩,this.2⟩
theorem o4: ∀{ks:List CK} {xs:List A},eE ks xs=true->ks.length=xs.length
 | [],[],_=>rfl
 |c::ks,x::xs,h=>by simp only[eE,Bool.and_eq_true]at h;simp[o4 h.2]
 | [],_::_,h=>by simp[eE]at h
 |_::_,[],h=>by simp[eE]at h
theorem qv: ∀{ks:List CK} {xs ys:List A},eE ks xs=true->eE ks ys=true-> ∃b,u_ xs ys=some b
 | [],[],[],_,_=>⟨true,rfl⟩
 |c::ks,x::xs,y::ys,h,h'=>by
  simp only[eE,Bool.and_eq_true]at h h';obtain⟨b,hb⟩:=qv h.2 h'.2;have h1:=h.1;have h2:=h'.1;cases c<;>cases x<;>simp[CK.has]at h1<;>cases y<;>simp[CK.has]at h2
  · subst h1;subst h2;exact⟨_,by simp only[u_,SU,hb,if_true,Option.bind_some,Option.map_some];rfl⟩
  · exact⟨_,by simp only[u_,SU,hb,Option.bind_some,Option.map_some];rfl⟩
  · exact⟨_,by simp only[u_,SU,hb,Option.bind_some,Option.map_some];rfl⟩
 | [],_::_,_,h,_=>by simp[eE]at h
 | [],[],_::_,_,h=>by simp[eE]at h
 |_::_,[],_,h,_=>by simp[eE]at h
 |_::_,_::_,[],_,h=>by simp[eE]at h
theorem FX: ∀{n:Nat} {xs ys:List A} {b c:Bool},u_ (xs.take n) (ys.take n)=some b->u_ (xs.drop n) (ys.drop n)=some c->u_ xs ys=some (b&&c)
 |0,xs,ys,b,c,h,h'=>by simp[u_]at h;subst h;simpa using h'
 |n+1,[],[],b,c,h,h'=>by simp[u_]at h h';subst h;subst h';rfl
 |n+1,x::xs,[],b,c,h,h'=>by simp[u_]at h
 |n+1,[],y::ys,b,c,h,h'=>by simp[u_]at h
 |n+1,x::xs,y::ys,b,c,h,h'=>by
  simp only[List.take_succ_cons,List.drop_succ_cons,u_]at h h'⊢;cases hx:SU x y with
  |none=>simp[hx]at h
  |some r=>
   simp only[hx,Option.bind_some]at h⊢;cases he:u_ (xs.take n) (ys.take n)with
   |none=>simp[he]at h
   |some s=>
    simp[he]at h;rw[FX he h']
    simp[<-h,Bool.and_assoc]
theorem ZZ(x y:List UInt8):((⟨x.toArray⟩:ByteArray).toList==(⟨y.toArray⟩:ByteArray).toList)=(x==y):=by rw[ByteArray.toList_eq,ByteArray.toList_eq]
section
variable{P:Program}{w:World}
def EqAt(P:Program)(w:World)(t:TypeId)(ks:List CK)(D:Nat):Prop:=
 ∀xs ys:List A,eE ks xs=true->eE ks ys=true-> ∀b,u_ xs ys=some b->
  (bE P t=some true->(Op.equalIn D t (.agg (xs.map bM).toArray) (.agg (ys.map bM).toArray)).run P w= .ok b w)/\
  (bE P t=some false-> ∀x y,xs=[x]->ys=[y]->(Op.equalIn D t (bM x) (bM y)).run P w= .ok b w)/\(bE P t≠none)/\(bE P t=some false->ks.length=1)
theorem w9(D:Nat)(rec:TypeId->Option (List CK))(hrec: ∀t ks,rec t=some ks->EqAt P w t ks D)(X Y:List A):
 ∀(fs:List Field) (off:Nat) (ks:List CK),SV rec (aX P) fs off=some ks->eE ks (X.drop off)=true->eE ks (Y.drop off)=true->
  ∀b,u_ (X.drop off) (Y.drop off)=some b->(Op.eqFields D (X.map bM).toArray (Y.map bM).toArray fs).run P w= .ok b w
 | [],off,ks,hg,hx,hy,b,hb=>by
  simp[SV]at hg;subst hg;cases hX:X.drop off with
  |cons _ _=>simp[hX,eE]at hx
  |nil=>
   cases hY:Y.drop off with
   |cons _ _=>simp[hY,eE]at hy
   |nil=>
    rw[hX,hY]at hb;simp[u_]at hb;subst hb;simp[Op.eqFields]
 |f::fs,off,ks,hg,hx,hy,b,hb=>by
  simp only[SV]at hg;split at hg
  · simp at hg
  · rename_i hf
    have hf1: ¬f.name= "_" :=fun e=>hf (.inl e)
    have Vf:f.offset=off:=Decidable.byContradiction fun e=>hf (.inr e)
    split at hg
    · rename_i k1 n ke hn
      split at hg
      · rename_i hkn
        cases hgo:SV rec (aX P) fs (off+n)with
        |none=>simp[hgo]at hg
        |some k2=>
         simp[hgo]at hg;subst hg;obtain⟨hx1,hx2⟩:=o0 hx;obtain⟨zx,hy2⟩:=o0 hy;rw[hkn]at hx1 hx2 zx hy2;obtain⟨b1,Vg⟩:=qv hx1 zx;rw[List.drop_drop]at hx2 hy2;obtain⟨b2,Zp⟩:=qv hx2 hy2;have VP:=FX Vg (by rw[List.drop_drop,List.drop_drop];exact Zp)
         rw[hb]at VP;simp at VP;have hE:=hrec _ _ ke _ _ hx1 zx b1 Vg;have VQ:=w9 D rec hrec X Y fs (off+n) k2 hgo hx2 hy2 b2 Zp;have hXn:n=1->off<X.length:=by intro h1;have:=o4 hx1;rw[hkn,h1,List.length_take,List.length_drop]at this;omega
         have hYn:n=1->off<Y.length:=by intro h1;have:=o4 zx;rw[hkn,h1,List.length_take,List.length_drop]at this;omega
         have parts: ∀Z:List A,bE P f.type=some true->(part f.type (Z.map bM).toArray off).run P w= .ok (.agg (((Z.drop off).take n).map bM).toArray) w:=by
          intro Z mn;simp only[part,Sem.run_bind,kV mn,Result.andThen_ok,if_true,run_sizeOf hn,Sem.run_pure]
          congr 2
          apply Array.ext';simp[List.extract_eq_take_drop,List.map_take,List.map_drop]
         have step: ∀x y:Value,(part f.type (X.map bM).toArray off).run P w= .ok x w->(part f.type (Y.map bM).toArray off).run P w= .ok y w->(Op.equalIn D f.type x y).run P w= .ok b1 w->
          (Op.eqFields D (X.map bM).toArray (Y.map bM).toArray (f::fs)).run P w= .ok b w:=by
          intro x y h1 h2 h3;simp only[Op.eqFields,ne_eq,hf1,not_false_eq_true,if_true,Vf,Sem.run_bind,h1,h2,h3,Result.andThen_ok,Sem.run_ite,Sem.run_pure,VQ,VP]
          cases b1<;>simp
         cases mn:bE P f.type with
         |none=>exact absurd mn hE.2.2.1
         |some g=>
          cases g with
          |true=>exact step _ _ (parts X mn) (parts Y mn) (hE.1 mn)
          |false=>
           have h1:=hE.2.2.2 mn;rw[hkn]at h1;have hXn':=hXn h1;have hYn':=hYn h1;rw[h1]at hE;have hX:(X.drop off).take 1=[X[off]]:=by rw[List.drop_eq_getElem_cons hXn'];rfl
           have hY:(Y.drop off).take 1=[Y[off]]:=by rw[List.drop_eq_getElem_cons hYn'];rfl
           have hp: ∀(Z:List A) (h:off<Z.length),(part f.type (Z.map bM).toArray off).run P w= .ok (bM Z[off]) w:=by intro Z h;simp[part,ie mn,h]
           exact step _ _ (hp X hXn') (hp Y hYn') (hE.2.1 mn _ _ hX hY)
      · simp at hg
    · simp at hg
theorem Ag: ∀(d:Nat) (t:TypeId) (ks:List CK),SX P d t=some ks-> ∀D,d<=D->EqAt P w t ks D
 |0,_,_,h,_,_=>by simp[SX]at h
 |d+1,t,ks,h,D,hD=>by
  obtain⟨D',rfl⟩: ∃D',D=D'+1:=⟨D-1,by omega⟩
  intro xs ys hx hy b hb;simp only[SX]at h;split at h
  · rename_i hu
    simp at h;subst h;have mn:bE P t=some false:=by simp[bE,hu]
    refine⟨fun h=>by simp[mn]at h,fun _ x y QZ w_=> ?_,by simp[mn],fun _=>rfl⟩
    subst QZ;subst w_;cases x<;>simp[eE,CK.has]at hx
    cases y<;>simp[eE,CK.has]at hy
    simp[u_,SU]at hb;rw[bM,bM,run_equalIn_bool' w D' t _ _ hu,hb]
  · rename_i k hu
    simp at h;subst h;have mn:bE P t=some false:=by simp[bE,hu]
    refine⟨fun h=>by simp[mn]at h,fun _ x y QZ w_=> ?_,by simp[mn],fun _=>rfl⟩
    subst QZ;subst w_;cases x<;>simp[eE,CK.has]at hx
    cases y<;>simp[eE,CK.has]at hy
    subst hx;subst hy;simp[u_,SU]at hb;rw[bM,bM,run_equalIn_int w D' t _ _ _ _ hu,hb]
  · rename_i hu
    simp at h;subst h;have mn:bE P t=some false:=by simp[bE,hu]
    refine⟨fun h=>by simp[mn]at h,fun _ x y QZ w_=> ?_,by simp[mn],fun _=>rfl⟩
    subst QZ;subst w_;cases x<;>simp[eE,CK.has]at hx
    cases y<;>simp[eE,CK.has]at hy
    simp[u_,SU]at hb;rw[bM,bM,run_equalIn_string w D' t _ _ hu,ZZ,hb]
  · rename_i fs hu
    split at h
    · simp at h
    · rename_i bR
      have mn:bE P t=some true:=by simp[bE,hu]
      refine⟨fun _=> ?_,fun h=>by simp[mn]at h,by simp[mn],fun h=>by simp[mn]at h⟩
      have hf:P.fieldsOf t=fs:=by simp[Program.fieldsOf,hu]
      rw[run_equalIn_agg w D' t _ _ (by rw[hf];exact hu) (by simpa using bR),hf]
      exact w9 D' (SX P d) (fun t ks h=>Ag d t ks h D' (by omega)) xs ys fs.toList 0 ks h (by simpa using hx) (by simpa using hy) b (by simpa using hb)
  · simp at h
theorem eA{op:BinOp}{t:TypeId}{x y:Operand}{a b:Value}(h1:a≠ .nilIface)(h2: ∀xs,a≠ .agg xs):(eqGuard op t x y a b).run P w= .ok () w:=by
 cases op<;>simp only[eqGuard]<;>first
  |rfl
  |(cases a<;>first|rfl|(exact absurd rfl h1)|(exact absurd rfl (h2 _)))
end
section
variable{P:Program}{N0:Nat->Prop}{w0:jO}{nt:Nat}{σ:St}{φ:List cZ}{a:Act}{w:World}
theorem Tb(h:aJ N0 w0 nt σ φ a w){d:Option Tmp}{op:UnOp}{x:Operand}{s:Nat}{t:TypeId}{p:String}{af:Array Edge}{g:Option (Nat×Bool)}{r:A}
 (hr:unA op (σ.ev x)=some r):Good P ⟨d,.unOp op s x,t,p,af,g⟩ a w N0 φ r:=by
 have hx:=h.ev x;cases hc:σ.ev x<;>simp only[hc,unA]at hr<;>try(simp at hr;done)
 · cases op<;>simp at hr
   subst hr;rw[hc]at hx;refine bD rfl (v:= .int _ _) (by rw[ig hx];rfl) ?_;simp[aF]
 · cases op<;>simp at hr
   subst hr;rw[hc]at hx;refine bD rfl (v:= .bool _) (by rw[ti hx];rfl) ?_;simp only[aF]
theorem VR{op:BinOp}{k:IntKind}{m n:Int}{t:TypeId}{r:A}(ho:op≠ .shl)(vm:op≠ .shr)(hr:u' op k m n=some r):(binOp op t (.int k m) (.int k n)).run P w= .ok (bM r) w/\ ∀E:Env,aF E r (bM r):=by
 cases op<;>simp only[u']at hr
 case shl=>exact absurd rfl ho
 case shr=>exact absurd rfl vm
 case quo=>
  split at hr
  · simp at hr
  · rename_i h0
    obtain rfl:=Option.some.inj hr;exact⟨by simp[binOp,Op.intDiv,h0,bM],fun E=>by simp[aF,bM]⟩
 case rem=>
  split at hr
  · simp at hr
  · rename_i h0
    obtain rfl:=Option.some.inj hr;exact⟨by simp[binOp,Op.intDiv,h0,bM],fun E=>by simp[aF,bM]⟩
 all_goals first
  |(simp at hr;done)
  |(obtain rfl:=Option.some.inj hr;exact⟨by simp[binOp,Op.intArith,Op.intCmp,Op.intBits,bM],fun E=>by simp[aF,bM]⟩)
  |(obtain rfl:=Option.some.inj hr;exact⟨by simp only[binOp,Op.intBits,bM];simp only[ne_eq,not_true_eq_false,if_false,Sem.run_pure],fun E=>by simp[aF,bM]⟩)
theorem toList_mk(s:List UInt8):(⟨s.toArray⟩:ByteArray).toList=s:=by rw[ByteArray.toList_eq]
theorem Tc(s t:List UInt8):(⟨s.toArray⟩:ByteArray)++⟨t.toArray⟩=⟨(s++t).toArray⟩:=by apply ByteArray.ext;simp
theorem VS{op:BinOp}{x y:List UInt8}{t:TypeId}{r:A}(hr:binS op x y=some r):(binOp op t (.string ⟨x.toArray⟩) (.string ⟨y.toArray⟩)).run P w= .ok (bM r) w/\ ∀E:Env,aF E r (bM r):=by
 cases op<;>simp only[binS]at hr
 case add=>
  split at hr
  · rename_i hle
    obtain rfl:=Option.some.inj hr;have: ¬(IntKind.i64.max<((x.length:Int)+y.length)):=by simp[IntKind.max,IntKind.signed,IntKind.bits];omega
    exact⟨by simp only[binOp,Op.stringOp,nr,Int.natCast_add,gt_iff_lt,this,if_false,Tc,bM,Sem.run_pure],fun E=>by simp[aF,bM]⟩
  · simp at hr
 all_goals first
  |(simp at hr;done)
  |(obtain rfl:=Option.some.inj hr;exact⟨by simp only[binOp,Op.stringOp,toList_mk,bM,Sem.run_pure,bne],fun E=>by simp[aF,bM]⟩)
theorem Oe(d:Nat){t e:TypeId}(hu:P.underlying t=some (.pointer e)):(Op.equalIn (d+1) t (.pointer none) (.pointer none)).run P w= .ok true w:=by simp[Op.equalIn,run_underlying hu]
theorem Ah(d:Nat){t e:TypeId}(hu:P.underlying t=some (.pointer e))(q:Addr):(Op.equalIn (d+1) t (.pointer none) (.pointer (some q))).run P w= .ok false w:=by simp[Op.equalIn,run_underlying hu]
theorem Ai(d:Nat){t e:TypeId}(hu:P.underlying t=some (.pointer e))(q:Addr):(Op.equalIn (d+1) t (.pointer (some q)) (.pointer none)).run P w= .ok false w:=by simp[Op.equalIn,run_underlying hu]
theorem o5{t:TypeId}{x y:Option Addr}{b:Bool}(h:(Op.equalIn (9999+1) t (.pointer x) (.pointer y)).run P w= .ok b w):(binOp .eql t (.pointer x) (.pointer y)).run P w= .ok (.bool b) w:=by
 have h':(Op.equal t (.pointer x) (.pointer y)).run P w= .ok b w:=h;have e:binOp .eql t (.pointer x) (.pointer y)=(do pure (.bool (<-Op.equal t (.pointer x) (.pointer y)))):=by cases x<;>cases y<;>rfl
 rw[e,Sem.run_bind,h']
 rfl
theorem o6{t:TypeId}{x y:Option Addr}{b:Bool}(h:(Op.equalIn (9999+1) t (.pointer x) (.pointer y)).run P w= .ok b w):(binOp .neq t (.pointer x) (.pointer y)).run P w= .ok (.bool (!b)) w:=by
 have h':(Op.equal t (.pointer x) (.pointer y)).run P w= .ok b w:=h;have e:binOp .neq t (.pointer x) (.pointer y)=(do pure (.bool (!(<-Op.equal t (.pointer x) (.pointer y))))):=by cases x<;>cases y<;>rfl
 rw[e,Sem.run_bind,h']
 rfl
theorem Of{E:Env}{x:A}{v:Value}(h:aF E x v)(hp:x.Kx=true): ∃q,v= .pointer (some q):=by
 cases x<;>simp only[A.Kx]at hp<;>try(simp at hp;done)
 all_goals simp only[aF]at h
 · obtain⟨_,b,off,hv,_⟩:=h;exact⟨_,hv⟩
 · obtain⟨b,k,_,hv⟩:=h;exact⟨_,hv⟩
 · obtain⟨b,k,_,hv⟩:=h;exact⟨_,hv⟩
theorem Og(h:aJ N0 w0 nt σ φ a w){d:Option Tmp}{op:BinOp}{x y:Operand}{s u:Nat}{t:TypeId}{p:String}{af:Array Edge}{g:Option (Nat×Bool)}{r:A}
 (hr:gT (oR P s) (fU P s) (jn P s) (aR P s).isSome op (σ.ev x) (σ.ev y)=some r):Good P ⟨d,.binOp op s x y u,t,p,af,g⟩ a w N0 φ r:=by
 have hx:=h.ev x;have hy:=h.ev y;have fin: ∀v:Value,(eqGuard op s x y (a.eval x) (a.eval y)).run P w= .ok () w->(binOp op s (a.eval x) (a.eval y)).run P w= .ok v w->aF (aA N0 φ w) r v->Good P ⟨d,.binOp op s x y u,t,p,af,g⟩ a w N0 φ r:=by intro v h1 h2 h3;exact bD (s:=(do eqGuard op s x y (a.eval x) (a.eval y);binOp op s (a.eval x) (a.eval y))) rfl (by simp[h1,h2]) h3
 have nilc: ∀(q:Option Addr) (n cap:Nat) (c:Bool),a.eval x= .slice q n cap->a.eval y= .slice none 0 0->q.isNone=c->QX (aR P s).isSome op c=some r->Good P ⟨d,.binOp op s x y u,t,p,af,g⟩ a w N0 φ r:=by
  intro q n cap c h1 h2 h3 h4;rw[h1,h2]at fin;have hg:(eqGuard op s x y (.slice q n cap) (.slice none 0 0)).run P w= .ok () w:=eA (by simp) (by simp)
  unfold QX at h4;split at h4
  · rename_i hs
    obtain⟨e,he⟩:=Option.isSome_iff_exists.1 hs;have hu:=du he;have hq: ∀d:Nat,(Op.equalIn (d+1) s (.slice q n cap) (.slice none 0 0)).run P w= .ok c w:=fun d=>by subst h3;cases q<;>simp[Op.equalIn,run_underlying hu]
    split at h4
    · obtain rfl:=Option.some.inj h4
      exact fin (.bool c) hg (by simp only[binOp];simp[Op.equal,Op.maxDepth,hq 9999]) (by simp only[aF])
    · obtain rfl:=Option.some.inj h4
      exact fin (.bool !c) hg (by simp only[binOp];simp[Op.equal,Op.maxDepth,hq 9999]) (by simp only[aF])
    · simp at h4
  · simp at h4
 unfold gT at hr;split at hr
 · rename_i k m k' n KJ Aj
   rw[KJ]at hx;rw[Aj]at hy;rw[ig hx,ig hy]at fin;have hg:(eqGuard op s x y (.int k m) (.int k' n)).run P w= .ok () w:=eA (by simp) (by simp)
   split at hr
   · split at hr
     · simp at hr
     · rename_i h0
       simp at hr;subst hr;exact fin _ hg (by simp[binOp,Op.shift,h0];rfl) (by simp only[aF])
   · split at hr
     · simp at hr
     · rename_i h0
       simp at hr;subst hr;exact fin _ hg (by simp[binOp,Op.shift,h0];rfl) (by simp only[aF])
   · rename_i Zq Q0
     split at hr
     · rename_i hk
       subst hk;have hh:=VR (P:=P) (w:=w) (t:=s) Zq Q0 hr;exact fin _ hg hh.1 (hh.2 _)
     · simp at hr
 · rename_i m n KJ Aj
   rw[KJ]at hx;rw[Aj]at hy;rw[ti hx,ti hy]at fin;have hg:(eqGuard op s x y (.bool m) (.bool n)).run P w= .ok () w:=eA (by simp) (by simp)
   split at hr
   · rename_i hb
     have hu:P.underlying s=some .bool:=by
      unfold fU at hb;split at hb
      · assumption
      · simp at hb
     have he:(Op.equalIn 10000 s (.bool m) (.bool n)).run P w= .ok (m==n) w:=run_equalIn_bool' w 9999 s m n hu;split at hr<;>simp at hr<;>subst hr
     · exact fin (.bool (m==n)) hg (by simp[binOp,Op.equal,Op.maxDepth,he]) (by simp only[aF])
     · exact fin (.bool (m !=n)) hg (by simp[binOp,Op.equal,Op.maxDepth,he,bne]) (by simp only[aF])
   · simp at hr
 · rename_i m n KJ Aj
   rw[KJ]at hx;rw[Aj]at hy;rw[qu hx,qu hy]at fin;have hh:=VS (P:=P) (w:=w) (t:=s) hr;exact fin _ (eA (by simp) (by simp)) hh.1 (hh.2 _)
 · rename_i xs ys KJ Aj
   rw[KJ]at hx;rw[Aj]at hy;simp only[aF]at hx hy;obtain⟨vs,hvx,hLx,_⟩:=hx;obtain⟨us,hvy,hLy,_⟩:=hy;split at hr
   · rename_i l hks
     split at hr
     · rename_i hh
       unfold oR at hks;split at hks
       · simp at hks
       · rename_i hgu
         obtain⟨b,hb⟩:=qv hh.1 hh.2;have hs:=Ag (P:=P) (w:=w) 10 s l hks 10000 (by omega) xs ys hh.1 hh.2 b hb;have e1:=ma hh.1 hLx;have e2:=ma hh.2 hLy;subst e1;subst e2;rw[hvx,hvy]at fin;have hg:(eqGuard op s x y (.agg (xs.map bM).toArray) (.agg (ys.map bM).toArray)).run P w= .ok () w:=run_eqGuard_agg w op s x y _ _ (by have:=fun h=>hgu (.inl h);simpa using this)
         cases mn:bE P s with
         |none=>exact absurd mn hs.2.2.1
         |some bb=>
          cases bb with
          |true=>
           have he:=hs.1 mn;split at hr
           · rw[hb]at hr
             obtain rfl:=Option.some.inj hr;exact fin (.bool b) hg (by rw[run_eql_struct,he];rfl) (by simp only[aF])
           · rw[hb]at hr
             obtain rfl:=Option.some.inj hr;exact fin (.bool !b) hg (by rw[run_neq_struct,he];rfl) (by simp only[aF])
           · simp at hr
          |false=>exact absurd (fun h=>hgu (.inr h)) (by simp[mn])
     · simp at hr
   · simp at hr
 · rename_i y' KJ
   rw[KJ]at hx;simp only[aF]at hx;rw[hx]at fin;have hg: ∀z,(eqGuard op s x y (.pointer none) z).run P w= .ok () w:=fun z=>eA (by simp) (by simp)
   split at hr
   · rename_i hp
     obtain⟨e,hu⟩:=KH hp;have hnn:=Oe (w:=w) 9999 hu;split at hr
     · split at hr
       · rename_i Aj
         obtain rfl:=Option.some.inj hr;rw[Aj]at hy;simp only[aF]at hy;rw[hy]at fin;exact fin (.bool true) (hg _) (o5 hnn) (by simp only[aF])
       · split at hr
         · rename_i hip
           obtain rfl:=Option.some.inj hr;obtain⟨q,hq⟩:=Of hy hip;rw[hq]at fin;exact fin (.bool false) (hg _) (o5 (Ah 9999 hu q)) (by simp only[aF])
         · simp at hr
     · split at hr
       · rename_i Aj
         obtain rfl:=Option.some.inj hr;rw[Aj]at hy;simp only[aF]at hy;rw[hy]at fin;exact fin (.bool false) (hg _) (o6 hnn) (by simp only[aF])
       · split at hr
         · rename_i hip
           obtain rfl:=Option.some.inj hr;obtain⟨q,hq⟩:=Of hy hip;rw[hq]at fin;exact fin (.bool true) (hg _) (o6 (Ah 9999 hu q)) (by simp only[aF])
         · simp at hr
     · simp at hr
   · simp at hr
 · rename_i x' Aj bU
   rw[Aj]at hy;simp only[aF]at hy;rw[hy]at fin;split at hr
   · rename_i hp
     simp only[Bool.and_eq_true]at hp;obtain⟨e,hu⟩:=KH hp.1;obtain⟨q,hq⟩:=Of hx hp.2;rw[hq]at fin;have hg:(eqGuard op s x y (.pointer (some q)) (.pointer none)).run P w= .ok () w:=eA (by simp) (by simp)
     split at hr
     · obtain rfl:=Option.some.inj hr
       exact fin (.bool false) hg (o5 (Ai 9999 hu q)) (by simp only[aF])
     · obtain rfl:=Option.some.inj hr
       exact fin (.bool true) hg (o6 (Ai 9999 hu q)) (by simp only[aF])
     · simp at hr
   · simp at hr
 · rename_i c KJ Aj
   rw[KJ]at hx;rw[Aj]at hy;simp only[aF]at hx hy;obtain⟨q,cap,hv,hq⟩:=hx;exact nilc q 0 cap c hv hy hq hr
 · rename_i e es KJ Aj
   rw[KJ]at hx;rw[Aj]at hy;simp only[aF]at hx hy;obtain⟨_,q,cap,hv,_,hm⟩:=hx;obtain⟨b,off,hq,_⟩:=hm (by simp)
   exact nilc q _ cap false hv hy (by rw[hq];rfl) hr
 · simp at hr
end
end Go.bJ
namespace Go.bJ
open Go.RowKit
theorem aF.pure_mono{E E':Env}(hw:E'.w=E.w)(hN: ∀b,¬E.N b-> ¬E'.N b){x:A}{v:Value}(hx:x.pure=true)(h:aF E x v):aF E' x v:=by refine aF.mono (K:=fun _=>False) ⟨by rw[hw];exact Nat.le_refl _,fun b _ hn=>⟨hN b hn,by rw[hw]⟩,fun _ _ hk=>hk.elim,fun _ _ _ _ _ _ hk=>hk.elim⟩ x v h fun n hn=> ?_;rw[A.lP n x hx]at hn;cases hn
theorem eo.pure_mono{E E':Env}(hw:E'.w=E.w)(hN: ∀b,¬E.N b-> ¬E'.N b){k b off:Nat}{es:List A}(hp:A.pure.aY es=true)(h:eo E k b off es):eo E' k b off es:=
 cU.2 fun i e he=>by
  obtain⟨hl,hm⟩:=cU.1 h i e he;refine⟨hl,bc.2 fun j y hy=> ?_⟩
  obtain⟨v,hv,h1,hr⟩:=bc.1 hm j y hy;exact⟨v,by rw[hw];exact hv,h1,aF.pure_mono hw hN (aI (k_ (aI hp he)) hy) hr⟩
theorem fJ.pure_mono{E E':Env}(hw:E'.w=E.w)(hN: ∀b,¬E.N b-> ¬E'.N b){b off:Nat}{cs:List A}(hp:A.pure.aY cs=true)(h:fJ E b off cs):fJ E' b off cs:=
 bc.2 fun j y hy=>by obtain⟨v,hv,h1,hr⟩:=bc.1 h j y hy;exact⟨v,by rw[hw];exact hv,h1,aF.pure_mono hw hN (aI hp hy) hr⟩
theorem aP.pure_mono{E E':Env}(hw:E'.w=E.w)(hN: ∀b,¬E.N b-> ¬E'.N b){cs:List A}{vs:List Value}(hp:A.pure.aY cs=true)(h:aP E cs vs):aP E' cs vs:=by obtain⟨h1,h2⟩:=ba.1 h;exact ba.2 ⟨h1,fun i x v hx hv=>aF.pure_mono hw hN (aI hp hx) (h2 i x v hx hv)⟩
theorem vn{E:Env}{k b off:Nat}{es:List A}(h:eo E k b off es)(bU:es≠ []):bT es=k:=by
 cases es with
 |nil=>exact absurd rfl bU
 |cons e es=>exact(mu.1 h).1.1
structure VT(N0:Nat->Prop)(φ:List cZ)(w:World)(x:A)(N':Nat->Prop):Prop where
 le: ∀b,N' b->(aA N0 φ w).N b
 own:x.pure=true\/ ∀(n b k:Nat),φ[n]? =some (cZ.loc b k)-> ¬N' b
section
variable{P:Program}{N0:Nat->Prop}{w0:jO}{nt:Nat}{σ:St}{φ:List cZ}{a:Act}{w:World}
theorem DM(h:aJ N0 w0 nt σ φ a w){n off k len:Nat}{c:Bool}{y:A}{v:Value}(hv:fN σ.H n off k len=some y)(hr:aF (aA N0 φ w) (.row n off k len c) v)
 {N':Nat->Prop} (hle: ∀b,N' b->(aA N0 φ w).N b) (DN: ∀(n b k:Nat),φ[n]? =some (cZ.loc b k)-> ¬N' b):aF ⟨N',[],w⟩ y v/\y.pure=true:=by
 unfold fN at hv;split at hv
 · rename_i k' es ho
   split at hv
   · rename_i hc
     obtain⟨rfl,hlen⟩:=hc;obtain rfl:=Option.some.inj hv;refine⟨?_,by simp[A.pure]⟩
     have hl:((es.drop off).take len).length=len:=by simp;omega
     simp only[aF]at hr⊢;rcases hr with⟨o,eV,hf,rfl,_,q,hv⟩|⟨b,cap,c',e',fr,eV,hv,qn,_,hb,_⟩
     · refine⟨by simp[A.pure.aY],q,0,by simpa using hv,by simp,fun bU=>absurd (by simp) bU⟩
     · have eZ:=h.cN n _ _ ho eV
       simp only[aH]at eZ;obtain⟨_,hp,_,hE⟩:=eZ;have Vh:=mv (n:=len) (vh (n:=off) hE)
       have rC:=k9 (n:=len) (kZ (n:=off) hp)
       refine⟨rC,_,cap,by rw[hl];exact hv,by rw[hl];exact qn,fun bU=>⟨b,off*k',rfl,(h.own n b k' eV).2,DN n b k' eV, ?_⟩⟩
       have:=eo.pure_mono (E:=aA N0 φ w) (E':=⟨N',[],w⟩) rfl (fun b hn hb=>hn (hle b hb)) rC Vh;rw[vn this bU]
       simpa using this
   · simp at hv
 · simp at hv
theorem o7(h:aJ N0 w0 nt σ φ a w){x y:A}{v:Value}(hv:jL σ.H x=some y)(hr:aF (aA N0 φ w) x v)
 {N':Nat->Prop} (hs:VT N0 φ w x N'):aF ⟨N',[],w⟩ y v/\y.pure=true:=by
 have hN: ∀b,¬(aA N0 φ w).N b-> ¬N' b:=fun b hn hb=>hn (hs.le b hb)
 cases x<;>simp only[jL]at hv<;>try(simp at hv;done)
 case row n off k len c=>
  refine DM h hv hr hs.le ?_;rcases hs.own with hp|ho
  · simp[A.pure]at hp
  · exact ho
 case bK=>
  obtain rfl:=Option.some.inj hv;simp only[aF]at hr;exact⟨by simp only[aF];exact⟨rfl,none,0,by simpa using hr,Nat.le_refl _,fun bU=>absurd rfl bU⟩,by simp[A.pure]⟩
 case emp c=>
  obtain rfl:=Option.some.inj hv;simp only[aF]at hr;obtain⟨q,cap,hq,_⟩:=hr;exact⟨by simp only[aF];exact⟨rfl,q,cap,by simpa using hq,Nat.zero_le _,fun bU=>absurd rfl bU⟩,by simp[A.pure]⟩
 case clip es=>
  obtain rfl:=Option.some.inj hv;have Ak:=aF.pure_mono (E:=aA N0 φ w) (E':=⟨N',[],w⟩) rfl hN (by simp[A.pure]) hr;simp only[aF]at Ak;obtain⟨hp,q,hq,hm⟩:=Ak;exact⟨by simp only[aF];exact⟨hp,q,_,hq,Nat.le_refl _,hm⟩,by simp[A.pure]⟩
 all_goals
  obtain rfl:=Option.some.inj hv;exact⟨aF.pure_mono (E:=aA N0 φ w) (E':=⟨N',[],w⟩) rfl hN (by simp[A.pure]) hr,by simp[A.pure]⟩
theorem rZ{H:List Obj}: ∀{xs ys:List A},ep H xs=some ys->xs.length=ys.length/\ ∀(i:Nat) (x y:A),xs[i]? =some x->ys[i]? =some y->jL H x=some y
 | [],ys,h=>by simp[ep]at h;subst h;exact⟨rfl,fun i x y hx=>by simp at hx⟩
 |x::xs,ys,h=>by
  simp only[ep]at h;cases hx:jL H x with
  |none=>simp[hx]at h
  |some y=>
   simp only[hx,Option.bind_some]at h;cases hl:ep H xs with
   |none=>simp[hl]at h
   |some ys'=>
    simp[hl]at h;subst h;obtain⟨h1,h2⟩:=rZ hl;refine⟨by simp[h1],fun i x' y' S_ zy=> ?_⟩
    cases i with
    |zero=>simp at S_ zy;subst S_;subst zy;exact hx
    |succ i=>exact h2 i x' y' (by simpa using S_) (by simpa using zy)
theorem Al{H:List Obj}: ∀{xs ys:List A},ij H xs=some ys->xs.length=ys.length/\ ∀(i:Nat) (x y:A),xs[i]? =some x->ys[i]? =some y->kO H x=some y
 | [],ys,h=>by simp[ij]at h;subst h;exact⟨rfl,fun i x y hx=>by simp at hx⟩
 |x::xs,ys,h=>by
  simp only[ij]at h;cases hx:kO H x with
  |none=>simp[hx]at h
  |some y=>
   simp only[hx,Option.bind_some]at h;cases hl:ij H xs with
   |none=>simp[hl]at h
   |some ys'=>
    simp[hl]at h;subst h;obtain⟨h1,h2⟩:=Al hl;refine⟨by simp[h1],fun i x' y' S_ zy=> ?_⟩
    cases i with
    |zero=>simp at S_ zy;subst S_;subst zy;exact hx
    |succ i=>exact h2 i x' y' (by simpa using S_) (by simpa using zy)
theorem vo{H:List Obj}: ∀{xs ys:List A},gO H xs=some ys->xs.length=ys.length/\ ∀(i:Nat) (x y:A),xs[i]? =some x->ys[i]? =some y->view H x=some y
 | [],ys,h=>by simp[gO]at h;subst h;exact⟨rfl,fun i x y hx=>by simp at hx⟩
 |x::xs,ys,h=>by
  simp only[gO]at h;cases hx:view H x with
  |none=>simp[hx]at h
  |some y=>
   simp only[hx,Option.bind_some]at h;cases hl:gO H xs with
   |none=>simp[hl]at h
   |some ys'=>
    simp[hl]at h;subst h;obtain⟨h1,h2⟩:=vo hl;refine⟨by simp[h1],fun i x' y' S_ zy=> ?_⟩
    cases i with
    |zero=>simp at S_ zy;subst S_;subst zy;exact hx
    |succ i=>exact h2 i x' y' (by simpa using S_) (by simpa using zy)
theorem FY{N':Nat->Prop}{x:A}{cs:List A}(hs:VT N0 φ w x N')(hx:x.pure=true->A.pure.aY cs=true){i:Nat}{c:A}(hc:cs[i]? =some c):VT N0 φ w c N':=
 ⟨hs.le,hs.own.imp (fun hp=>aI (hx hp) hc) id⟩
theorem xa(h:aJ N0 w0 nt σ φ a w){x y:A}{v:Value}(hv:kO σ.H x=some y)(hr:aF (aA N0 φ w) x v)
 {N':Nat->Prop} (hs:VT N0 φ w x N'):aF ⟨N',[],w⟩ y v/\y.pure=true:=by
 have hN: ∀b,¬(aA N0 φ w).N b-> ¬N' b:=fun b hn hb=>hn (hs.le b hb)
 cases x
 case ref n off=>
  have DN: ∀(n b k:Nat),φ[n]? =some (cZ.loc b k)-> ¬N' b:=by
   rcases hs.own with hp|ho
   · simp[A.pure]at hp
   · exact ho
  simp only[kO]at hv;split at hv
  · rename_i cs ho
    cases hl:ep σ.H (cs.drop off)with
    |none=>simp[hl]at hv
    |some ys=>
     simp[hl]at hv;subst hv;simp only[aF]at hr;obtain⟨b,k,eV,hv⟩:=hr;have eZ:=h.cN n _ _ ho eV;simp only[aH]at eZ;have hm:=iF (n:=off) eZ.2;rw[Nat.zero_add]at hm;obtain⟨h1,h2⟩:=rZ hl
     have key: ∀(i:Nat) (c:A),ys[i]? =some c->(∃u,w.cell? ⟨b,off+i,none⟩=some u/\u.oneCell'=true/\aF ⟨N',[],w⟩ c u)/\c.pure=true:=by
      intro i c hc;have hi:i<(cs.drop off).length:=by rw[h1];exact(List.getElem?_eq_some_iff.1 hc).1
      obtain⟨u,hu,cQ,cF⟩:=bc.1 hm i _ (List.getElem?_eq_getElem hi)
      have:=o7 h (h2 i _ c (List.getElem?_eq_getElem hi) hc) cF (N':=N') ⟨hs.le,.inr DN⟩
      exact⟨⟨u,hu,cQ,this.1⟩,this.2⟩
     refine⟨?_,by simp[A.pure]⟩
     simp only[aF]
     exact⟨cV fun i c hc=>(key i c hc).2,b,off,hv,(h.own n b k eV).2,DN n b k eV,bc.2 fun i c hc=>(key i c hc).1⟩
  · simp at hv
 case fT n i off=>
  have DN: ∀(n b k:Nat),φ[n]? =some (cZ.loc b k)-> ¬N' b:=by
   rcases hs.own with hp|ho
   · simp[A.pure]at hp
   · exact ho
  simp only[kO]at hv;split at hv
  · rename_i k' es ho
    cases hi:es[i]? with
    |none=>simp[hi]at hv
    |some e=>
     simp[hi]at hv;subst hv;simp only[aF]at hr;obtain⟨b,k,eV,hv⟩:=hr;have eZ:=h.cN n _ _ ho eV;simp only[aH]at eZ;obtain⟨rfl,hp,_,hE⟩:=eZ;obtain⟨_,hm⟩:=cU.1 hE i e hi;have jh:=iF (n:=off) hm;rw[Nat.zero_add]at jh;have N1:=kZ (n:=off) (k_ (aI hp hi))
     refine⟨?_,by simp[A.pure]⟩
     simp only[aF]
     exact⟨N1,b,i*k'+off,hv,(h.own n b k' eV).2,DN n b k' eV,fJ.pure_mono (E:=aA N0 φ w) (E':=⟨N',[],w⟩) rfl hN N1 jh⟩
  · simp at hv
 case agg cs=>
  simp only[kO]at hv;cases hl:ep σ.H cs with
  |none=>simp[hl]at hv
  |some ys=>
   simp[hl]at hv;subst hv;simp only[aF]at hr⊢;obtain⟨vs,hv,hL,cQ⟩:=hr;obtain⟨h1,h2⟩:=rZ hl;obtain⟨g1,g2⟩:=ba.1 hL
   have key: ∀(i:Nat) (c:A) (u:Value),ys[i]? =some c->vs[i]? =some u->aF ⟨N',[],w⟩ c u/\c.pure=true:=by
    intro i c u hc hu;have hi:i<cs.length:=by rw[h1];exact(List.getElem?_eq_some_iff.1 hc).1
    exact o7 h (h2 i _ c (List.getElem?_eq_getElem hi) hc) (g2 i _ u (List.getElem?_eq_getElem hi) hu) (FY hs (fun hp=>by simpa only[A.pure]using hp) (List.getElem?_eq_getElem hi))
   refine⟨⟨vs,hv,ba.2 ⟨by rw[<-h1,g1],fun i c u hc hu=>(key i c u hc hu).1⟩,cQ⟩, ?_⟩
   simp only[A.pure]
   refine cV fun i c hc=> ?_;have hi:i<vs.length:=by rw[<-g1,h1];exact(List.getElem?_eq_some_iff.1 hc).1
   exact(key i c _ hc (List.getElem?_eq_getElem hi)).2
 all_goals
  simp only[kO]at hv;exact o7 h hv hr hs
theorem lf(h:aJ N0 w0 nt σ φ a w){x y:A}{v:Value}(hv:view σ.H x=some y)(hr:aF (aA N0 φ w) x v)
 {N':Nat->Prop} (hs:VT N0 φ w x N'):aF ⟨N',[],w⟩ y v/\y.pure=true:=by
 cases x
 case fn f cs=>
  simp only[view]at hv;cases hl:ij σ.H cs with
  |none=>simp[hl]at hv
  |some ys=>
   simp[hl]at hv;subst hv;simp only[aF]at hr⊢;obtain⟨vs,hv,hL⟩:=hr;obtain⟨h1,h2⟩:=Al hl;obtain⟨g1,g2⟩:=ba.1 hL
   have key: ∀(i:Nat) (c:A) (u:Value),ys[i]? =some c->vs[i]? =some u->aF ⟨N',[],w⟩ c u/\c.pure=true:=by
    intro i c u hc hu;have hi:i<cs.length:=by rw[h1];exact(List.getElem?_eq_some_iff.1 hc).1
    exact xa h (h2 i _ c (List.getElem?_eq_getElem hi) hc) (g2 i _ u (List.getElem?_eq_getElem hi) hu) (FY hs (fun hp=>by simpa only[A.pure]using hp) (List.getElem?_eq_getElem hi))
   refine⟨⟨vs,hv,ba.2 ⟨by rw[<-h1,g1],fun i c u hc hu=>(key i c u hc hu).1⟩⟩, ?_⟩
   simp only[A.pure]
   refine cV fun i c hc=> ?_;have hi:i<vs.length:=by rw[<-g1,h1];exact(List.getElem?_eq_some_iff.1 hc).1
   exact(key i c _ hc (List.getElem?_eq_getElem hi)).2
 all_goals
  simp only[view]at hv;exact xa h hv hr hs
theorem xb(h:aJ N0 w0 nt σ φ a w){xs ys:List A}{vs:List Value}(hv:gO σ.H xs=some ys)(hr:aP (aA N0 φ w) xs vs)
 {N':Nat->Prop} (hle: ∀b,N' b->(aA N0 φ w).N b) (DN:A.pure.aY xs=true\/ ∀(n b k:Nat),φ[n]? =some (cZ.loc b k)-> ¬N' b):aP ⟨N',[],w⟩ ys vs/\A.pure.aY ys=true:=by
 obtain⟨h1,h2⟩:=vo hv;obtain⟨g1,g2⟩:=ba.1 hr
 have key: ∀(i:Nat) (c:A) (u:Value),ys[i]? =some c->vs[i]? =some u->aF ⟨N',[],w⟩ c u/\c.pure=true:=by
  intro i c u hc hu;have hi:i<xs.length:=by rw[h1];exact(List.getElem?_eq_some_iff.1 hc).1
  exact lf h (h2 i _ c (List.getElem?_eq_getElem hi) hc) (g2 i _ u (List.getElem?_eq_getElem hi) hu) ⟨hle,DN.imp (fun hp=>aI hp (List.getElem?_eq_getElem hi)) id⟩
 refine⟨ba.2 ⟨by rw[<-h1,g1],fun i c u hc hu=>(key i c u hc hu).1⟩,cV fun i c hc=> ?_⟩
 have hi:i<vs.length:=by rw[<-g1,h1];exact(List.getElem?_eq_some_iff.1 hc).1
 exact(key i c _ hc (List.getElem?_eq_getElem hi)).2
theorem nu(h:aJ N0 w0 nt σ φ a w): ∀(n b k:Nat),φ[n]? =some (cZ.loc b k)-> ¬N0 b:=
 fun n b k hb hn=>(h.own n b k hb).1.elim (fun h1=>Nat.lt_irrefl _ (Nat.lt_of_lt_of_le (h.n0 b hn).1 h1)) (h.n0 b hn).2
end
end Go.bJ
namespace Go.bJ
open Go.RowKit
section
variable{P:Program}{N0:Nat->Prop}{w0:jO}{nt:Nat}{σ:St}{φ:List cZ}{a:Act}{w:World}
theorem Oh{t:TypeId}(h:(bE P t).isSome=true): ∃d,P.underlying t=some d:=by
 cases hu:P.underlying t with
 |some d=>exact⟨d,rfl⟩
 |none=>simp[bE,hu]at h
theorem Am{E:Env}{b:Nat}: ∀{es:List A} {s:List UInt8} {off:Nat},fo es=some s->eo E 1 b off es-> ∃ns:List Int,E.w.rangeAt b off (ns.map (Value.int .u8))/\ns.length=es.length/\ns.map (fun n=>UInt8.ofNat n.toNat)=s
 | [],s,off,h,_=>by simp[fo]at h;subst h;exact⟨[],fun j v hv=>by simp at hv,rfl,rfl⟩
 |x::xs,s,off,h,hE=>by
  simp only[fo]at h;cases hx:tb x with
  |none=>simp[hx]at h
  |some c=>
   simp only[hx,Option.bind_some]at h;cases hl:fo xs with
   |none=>simp[hl]at h
   |some s'=>
    simp[hl]at h;subst h;obtain⟨⟨h1,hm⟩,Vh⟩:=mu.1 hE;obtain⟨ns,hr,hlen,hns⟩:=Am hl Vh;unfold tb at hx;split at hx
    · rename_i n
      simp at hx;subst hx;simp only[A.cells]at hm;obtain⟨v,hv,_,cF⟩:=KE.1 hm;rw[ig cF]at hv;refine⟨n::ns,fun j u hu=> ?_,by simp[hlen],by simp[hns]⟩
      cases j with
      |zero=>simp at hu;subst hu;simpa using hv
      |succ j=>
       have:=hr j u (by simpa using hu)
       rwa [show off+1+j=off+(j+1) by omega]at this
    · simp at hx
theorem xc: ∀(ns:List Int) (l:List UInt8),ns.foldl (fun(r:ByteArray) n=>r.push (UInt8.ofNat n.toNat)) ⟨l.toArray⟩=⟨(l++ns.map fun n=>UInt8.ofNat n.toNat).toArray⟩
 | [],l=>by simp
 |n::ns,l=>by
  have e:(⟨l.toArray⟩:ByteArray).push (UInt8.ofNat n.toNat)=⟨(l++[UInt8.ofNat n.toNat]).toArray⟩:=by apply ByteArray.ext;simp[ByteArray.push]
  rw[List.foldl_cons,e,xc ns]
  simp
theorem tn(h:aJ N0 w0 nt σ φ a w){d:Option Tmp}{src dst:Nat}{x:Operand}{t:TypeId}{p:String}{af:Array Edge}{g:Option (Nat×Bool)}{r:A}
 (hr:mo P src dst σ.H (σ.ev x)=some r):Good P ⟨d,.convert src dst x,t,p,af,g⟩ a w N0 φ r:=by
 have hx:=h.ev x
 have b2s: ∀v,σ.ev x=v->kP (td P src dst) (view σ.H v)=some r->(∃q l c,a.eval x= .slice q l c)->Good P ⟨d,.convert src dst x,t,p,af,g⟩ a w N0 φ r:=by
  intro v hv hr oP;subst hv;unfold kP at hr;split at hr
  · rename_i hb
    split at hr
    · rename_i es An
      cases DO:fo es with
      |none=>simp[DO]at hr
      |some s=>
       simp[DO]at hr;subst hr;have hvw:=(lf h An hx (N':=N0) ⟨fun b hb=> .inl hb,.inr (nu h)⟩).1;simp only[aF]at hvw;obtain⟨_,q,cap,jj,_,hm⟩:=hvw;unfold td at hb;simp only[Bool.and_eq_true]at hb;obtain⟨Vg,Zp⟩:=hb;cases he:aR P src with
       |none=>simp[he]at Vg
       |some e=>
        simp[he]at Vg;have hu:=du he;have hue:=Ae Vg;have hud:=iV Zp
        have hconv:(convert src dst (a.eval x)).run P w=(Conv.bytesToString (a.eval x)).run P w:=by
         rw[jj]
         simp[convert,run_underlying hu,run_underlying hue,run_underlying hud]
        refine bD rfl (v:= .string ⟨s.toArray⟩) ?_ (by simp only[aF])
        rw[hconv,jj]
        by_cases bU:es=[]
        · subst bU
          simp[fo]at DO;subst DO;cases q with
          |none=>simp[Conv.bytesToString];rfl
          |some q=>
           have:=run_bytesToString (P:=P) w q 0 cap [] (by simpa using run_loadCells_list (P:=P) w q [] (by simp))
           simp only[List.foldl_nil]at this;exact this
        · obtain⟨b,off,rfl,hb,Zo,hE⟩:=hm bU
          have bR:bT es=1:=by
           cases es with
           |nil=>exact absurd rfl bU
           |cons e es=>
            simp only[fo]at DO;cases e<;>simp_all[tb,bT,A.cells]
          rw[bR]at hE;obtain⟨ns,hr,hlen,hns⟩:=Am DO hE
          have hl:(loadCells ⟨b,off,none⟩ es.length).run P w= .ok (ns.map (Value.int .u8)).toArray w:=by
           have:=run_loadCells_list (P:=P) w ⟨b,off,none⟩ (ns.map (Value.int .u8)) (fun j v hv=>by rw[Addr.add_mid];exact hr j v hv)
           rwa [List.length_map,hlen]at this
          rw[run_bytesToString w _ _ _ ns hl]
          have:=xc ns []
          rw[show(ByteArray.empty:ByteArray)=⟨([]:List UInt8).toArray⟩from rfl,this,List.nil_append,hns]
    · simp at hr
  · simp at hr
 cases hc:σ.ev x<;>simp only[hc,mo]at hr
 case int k n=>
  split at hr
  · rename_i k' hk
    split at hr
    · rename_i mn
      obtain rfl:=Option.some.inj hr;rw[hc]at hx;obtain⟨ds,hds⟩:=Oh mn;refine bD rfl (v:= .int k' (k'.wrap n)) ?_ (by simp only[aF])
      rw[ig hx]
      simp[convert,run_underlying hds,run_underlying (Ae hk),Conv.intToInt]
    · simp at hr
  · simp at hr
 case str s=>
  split at hr
  · rename_i hb
    simp only[Bool.and_eq_true]at hb;obtain rfl:=Option.some.inj hr;rw[hc]at hx;refine bD rfl (v:=a.eval x) ?_ hx;rw[qu hx]
    simp[convert,run_underlying (iV hb.1),run_underlying (iV hb.2)]
  · simp at hr
 case ad es=>
  rw[hc]at hx;simp only[aF]at hx;obtain⟨_,q,cap,hv,_⟩:=hx;exact b2s _ hc hr ⟨_,_,_,hv⟩
 case clip es=>
  rw[hc]at hx;simp only[aF]at hx;obtain⟨_,q,hv,_⟩:=hx;exact b2s _ hc hr ⟨_,_,_,hv⟩
 case bK=>
  rw[hc]at hx;simp only[aF]at hx;exact b2s _ hc hr ⟨_,_,_,hx⟩
 case row n off k len c=>
  rw[hc]at hx;simp only[aF]at hx;rcases hx with⟨_,_,_,_,_,q,hv⟩|⟨b,cap,_,_,_,_,hv,_⟩
  · exact b2s _ hc hr ⟨_,_,_,hv⟩
  · exact b2s _ hc hr ⟨_,_,_,hv⟩
 all_goals simp at hr
theorem Oi(h:aJ N0 w0 nt σ φ a w){d:Option Tmp}{s f:Nat}{x:Operand}{t:TypeId}{p:String}{af:Array Edge}{g:Option (Nat×Bool)}{r:A}
 (hr:Oa P (fieldInfo P s f) (σ.ev x)=some r):Good P ⟨d,.field s x f,t,p,af,g⟩ a w N0 φ r:=by
 unfold Oa at hr;split at hr
 · rename_i o ft cs hf hc
   have hx:=h.ev x;rw[hc]at hx;simp only[aF]at hx;obtain⟨vs,hv,hL,cQ⟩:=hx;obtain⟨fs,fx,n,hu,s8,rfl,rfl,hn,Zn⟩:=nq hf
   have VU:(Instr.field s (a.eval x) f).run P w=(part fx.type vs.toArray fx.offset).run P w:=by
    rw[hv]
    simp[Instr.field,run_underlying hu,s8,asAgg]
   unfold jo at hr;split at hr
   · rename_i mn
     rw[hn]at hr;simp only at hr;split at hr
     · rename_i hle
       obtain rfl:=Option.some.inj hr;refine bD rfl (v:= .agg ((vs.drop fx.offset).take n).toArray) ?_ ?_
       · rw[VU]
         simp only[part,Sem.run_bind,kV mn,Result.andThen_ok,if_true,run_sizeOf hn,Sem.run_pure]
         congr 2
         apply Array.ext';simp[List.extract_eq_take_drop]
       · simp only[aF]
         exact⟨_,rfl,vi (vj hL),fun u hu=>cQ u (List.mem_of_mem_drop (List.mem_of_mem_take hu))⟩
     · simp at hr
   · rename_i mn
     cases hd:cs.drop fx.offset with
     |nil=>simp[hd]at hr
     |cons y ys=>
      simp[hd]at hr;subst hr;obtain⟨g1,g2⟩:=ba.1 hL
      have aw:fx.offset<cs.length:=by
       rcases Nat.lt_or_ge fx.offset cs.length with h|h
       · exact h
       · rw[List.drop_eq_nil_of_le h]at hd;cases hd
      have hy:cs[fx.offset]? =some y:=by
       have e:=(List.drop_eq_getElem_cons aw).symm.trans hd;injection e with e1 e2
       rw[List.getElem?_eq_getElem aw,e1]
      have ae:fx.offset<vs.length:=by omega
      refine bD rfl (v:=vs[fx.offset]) ?_ (g2 _ _ _ hy (List.getElem?_eq_getElem ae))
      rw[VU]
      simp[part,ie mn,ae]
   · simp at hr
 · simp at hr
theorem Oj(h:aJ N0 w0 nt σ φ a w){d:Option Tmp}{s:Nat}{x y:Operand}{t:TypeId}{p:String}{af:Array Edge}{g:Option (Nat×Bool)}{r:A}
 (hr:vc P s (σ.ev x) (σ.ev y)=some r):Good P ⟨d,.index s x y,t,p,af,g⟩ a w N0 φ r:=by
 have hx:=h.ev x;have hy:=h.ev y;unfold vc at hr;split at hr
 · rename_i k i str Aj KJ
   rw[KJ]at hx;rw[Aj]at hy;split at hr
   · rename_i hc
     cases hi:str[i.toNat]? with
     |none=>simp[hi]at hr
     |some c=>
      simp[hi]at hr;subst hr;have aw:i.toNat<str.length:=(List.getElem?_eq_some_iff.1 hi).1;have N2:str[i.toNat]=c:=by rw[List.getElem?_eq_getElem aw]at hi;simpa using hi
      refine bD rfl (v:= .int .u8 c.toNat) ?_ (by simp only[gS,aF])
      rw[qu hx,ig hy,run_index_string w s _ k i (iV hc.1),dif_pos ⟨hc.2,by rw[nr];omega⟩]
      congr 2
      rw[<-N2]
      rfl
   · simp at hr
 · rename_i k i cs Aj KJ
   rw[KJ]at hx;rw[Aj]at hy;simp only[aF]at hx;obtain⟨vs,hv,hL,cQ⟩:=hx;split at hr
   · rename_i n e hn
     split at hr
     · rename_i kk hk
       split at hr
       · rename_i hc
         have Td:(Instr.index s (a.eval x) (a.eval y)).run P w=(part e vs.toArray (i.toNat*kk)).run P w:=by
          rw[hv,ig hy]
          simp[Instr.index,asIntOf,run_underlying (th hn),hc,run_sizeOf hk]
         generalize hoff:i.toNat*kk=o at hr Td;unfold jo at hr;split at hr
         · rename_i mn
           rw[hk]at hr;simp only at hr;split at hr
           · rename_i hle
             obtain rfl:=Option.some.inj hr;refine bD rfl (v:= .agg ((vs.drop o).take kk).toArray) ?_ ?_
             · rw[Td]
               simp only[part,Sem.run_bind,kV mn,Result.andThen_ok,if_true,run_sizeOf hk,Sem.run_pure]
               congr 2
               apply Array.ext';simp[List.extract_eq_take_drop]
             · simp only[aF]
               exact⟨_,rfl,vi (vj hL),fun u hu=>cQ u (List.mem_of_mem_drop (List.mem_of_mem_take hu))⟩
           · simp at hr
         · rename_i mn
           cases hd:cs.drop o with
           |nil=>simp[hd]at hr
           |cons z zs=>
            simp[hd]at hr;subst hr;obtain⟨g1,g2⟩:=ba.1 hL
            have aw:o<cs.length:=by
             rcases Nat.lt_or_ge o cs.length with h|h
             · exact h
             · rw[List.drop_eq_nil_of_le h]at hd;cases hd
            have hz:cs[o]? =some z:=by
             have e:=(List.drop_eq_getElem_cons aw).symm.trans hd;injection e with e1 e2
             rw[List.getElem?_eq_getElem aw,e1]
            have ae:o<vs.length:=by omega
            refine bD rfl (v:=vs[o]) ?_ (g2 _ _ _ hz (List.getElem?_eq_getElem ae))
            rw[Td]
            simp[part,ie mn,ae]
         · simp at hr
       · simp at hr
     · simp at hr
   · simp at hr
 · simp at hr
theorem Ao(h:aJ N0 w0 nt σ φ a w){d:Option Tmp}{s:Nat}{x y:Operand}{t:TypeId}{p:String}{af:Array Edge}{g:Option (Nat×Bool)}{r:A}
 (hr:kR P s (σ.ev x) (σ.ev y)=some r):Good P ⟨d,.indexAddr s x y,t,p,af,g⟩ a w N0 φ r:=by
 have hx:=h.ev x;have hy:=h.ev y;unfold kR at hr;split at hr
 · rename_i kd i Aj
   rw[Aj]at hy;split at hr
   · rename_i e he
     split at hr
     · rename_i k hk
       have run: ∀b off len cap,a.eval x= .slice (some ⟨b,off,none⟩) len cap->0<=i->i<len->(Instr.indexAt s (a.eval x) (a.eval y)).run P w= .ok (.pointer (some ⟨b,off+i.toNat*k,none⟩)) w:=by
        intro b off len cap hv h0 h1;rw[hv,ig hy]
        simp[Instr.indexAt,asIntOf,run_underlying (du he),h0,h1,run_sizeOf hk,Addr.add_mid]
       have data: ∀(es:List A) (cap:Nat) (q:Option Addr),a.eval x= .slice q es.length cap->A.pure.aY es=true->
        (es≠ []-> ∃b off,q=some ⟨b,off,none⟩/\b<(aA N0 φ w).w.heap.size/\ ¬(aA N0 φ w).N b/\eo (aA N0 φ w) (bT es) b off es)->SY k i es=some r->Good P ⟨d,.indexAddr s x y,t,p,af,g⟩ a w N0 φ r:=by
        intro es cap q hv hp hm hr;unfold SY er at hr;split at hr
        · rename_i h0
          cases hi:es[i.toNat]? with
          |none=>simp[hi]at hr
          |some z=>
           simp only[hi,Option.bind_some]at hr;split at hr
           · rename_i hkz
             obtain rfl:=Option.some.inj hr;have aw:=(List.getElem?_eq_some_iff.1 hi).1;obtain⟨b,off,rfl,hb,Zo,hE⟩:=hm (by rintro rfl;simp at aw)
             obtain⟨hl,hmm⟩:=cU.1 hE _ _ hi;rw[<-hkz]at hl;rw[<-hl]at hmm;refine bD rfl (run b off _ cap hv h0 (by omega)) ?_;simp only[aF]
             exact⟨k_ (aI hp hi),b,_,rfl,hb,Zo,hmm⟩
           · simp at hr
        · simp at hr
       cases hc:σ.ev x<;>simp only[hc,kQ]at hr<;>try(simp at hr;done)
       · rw[hc]at hx
         simp only[aF]at hx;obtain⟨hp,q,cap,hv,_,hm⟩:=hx;exact data _ cap q hv hp hm hr
       · rw[hc]at hx
         simp only[aF]at hx;obtain⟨hp,q,hv,hm⟩:=hx;exact data _ _ q hv hp hm hr
       · rename_i n off k' len c
         rw[hc]at hx;split at hr
         · rename_i di
           obtain⟨rfl,h0,h1⟩:=di;obtain rfl:=Option.some.inj hr;simp only[aF]at hx;rcases hx with⟨_,_,_,rfl,_⟩|⟨b,cap,_,_,_,eV,hv,_⟩
           · omega
           · refine bD rfl (run b _ _ cap hv h0 h1) ?_
             simp only[aF]
             exact⟨b,k,eV,by rw[Nat.add_mul,Nat.add_zero]⟩
         · simp at hr
     · simp at hr
   · split at hr
     · rename_i n e hn
       split at hr
       · rename_i k hk
         have run: ∀b off,a.eval x= .pointer (some ⟨b,off,none⟩)->0<=i->i<n->(Instr.indexAt s (a.eval x) (a.eval y)).run P w= .ok (.pointer (some ⟨b,off+i.toNat*k,none⟩)) w:=by
          intro b off hv h0 h1;rw[hv,ig hy]
          simp[Instr.indexAt,asIntOf,run_underlying (th hn),Instr.sureAddr,h0,h1,run_sizeOf hk,Addr.add_mid]
         cases hc:σ.ev x<;>simp only[hc,nc]at hr<;>try(simp at hr;done)
         · rename_i cs
           rw[hc]at hx;simp only[aF]at hx;obtain⟨hp,b,off,hv,hb,Zo,hm⟩:=hx;split at hr
           · rename_i di
             obtain rfl:=Option.some.inj hr;refine bD rfl (run b off hv di.1 di.2) ?_;simp only[aF]
             exact⟨kZ hp,b,_,rfl,hb,Zo,iF hm⟩
           · simp at hr
         · rename_i m off
           rw[hc]at hx;simp only[aF]at hx;obtain⟨b,kk,eV,hv⟩:=hx;split at hr
           · rename_i di
             obtain rfl:=Option.some.inj hr;refine bD rfl (run b off hv di.1 di.2) ?_;simp only[aF]
             exact⟨b,kk,eV,rfl⟩
           · simp at hr
       · simp at hr
     · simp at hr
 · simp at hr
end
end Go.bJ
namespace Go.bJ
open Go.RowKit
section
variable{P:Program}{N0:Nat->Prop}{w0:jO}{nt:Nat}{σ:St}{φ:List cZ}{a:Act}{w:World}
theorem Ap(h:aJ N0 w0 nt σ φ a w){o:Option Operand}(ho:(σ.bd o).ok=true):(o=none/\σ.bd o= .none)\/ ∃k n,o.map a.eval=some (.int k n)/\σ.bd o= .some n:=by
 cases o with
 |none=>exact .inl ⟨rfl,rfl⟩
 |some x=>
  right;simp only[St.bd]at ho⊢;cases hx:σ.ev x<;>simp only[hx,Vz,Bd.ok]at ho<;>try(simp at ho;done)
  rename_i k n;have:=h.ev x;rw[hx]at this;exact⟨k,n,by simp[ig this],rfl⟩
theorem run_sliceBound{k:IntKind}{n:Int}{y:Nat}{c:BoundsCode}(h0:0<=n)(h1:n<=y):(Instr.sliceBound (.int k n) y c).run P w= .ok n.toNat w:=by simp[Instr.sliceBound,asIntOf,h0,h1]
theorem o8(h:aJ N0 w0 nt σ φ a w){lo hi:Option Operand}(ya:(σ.bd lo).ok=true)(VV:(σ.bd hi).ok=true){Zr:Bool}{len cap:Nat}(qn:len<=cap)
 (h0:0<=(σ.bd lo).get 0) (h1:(σ.bd lo).get 0<=(σ.bd hi).get len) (h2:(σ.bd hi).get len<=len):
 (Instr.sliceBounds Zr len cap (lo.map a.eval) (hi.map a.eval) none).run P w= .ok (((σ.bd lo).get 0).toNat,((σ.bd hi).get len).toNat,cap) w:=by
 rcases Ap h ya with⟨rfl,e1⟩|⟨k,n,e1,e2⟩<;>rcases Ap h VV with⟨rfl,e3⟩|⟨k',n',e3,e4⟩
 · simp[Instr.sliceBounds,e1,Bd.get]
 · rw[e4]at h1 h2⊢
   rw[e1]at h1⊢;simp only[Bd.get]at h1 h2⊢;have:=run_sliceBound (P:=P) (w:=w) (k:=k') (n:=n') (y:=cap) (c:=if Zr then .sliceAcap else .sliceAlen) (by omega) (by omega)
   simp[Instr.sliceBounds,e3,this]
 · rw[e2]at h0 h1⊢
   simp only[Bd.get]at h0 h1⊢;rw[e3]at h1⊢;simp only at h1⊢;have:=run_sliceBound (P:=P) (w:=w) (k:=k) (n:=n) (y:=len) (c:= .sliceB) h0 (by omega)
   simp[Instr.sliceBounds,e1,this]
 · rw[e2]at h0 h1⊢
   rw[e4]at h1 h2⊢;simp only[Bd.get]at h0 h1 h2⊢;have t1:=run_sliceBound (P:=P) (w:=w) (k:=k') (n:=n') (y:=cap) (c:=if Zr then .sliceAcap else .sliceAlen) (by omega) (by omega)
   have t2:=run_sliceBound (P:=P) (w:=w) (k:=k) (n:=n) (y:=n'.toNat) (c:= .sliceB) h0 (by omega)
   simp[Instr.sliceBounds,e1,e3,t1,t2]
theorem xd(h:aJ N0 w0 nt σ φ a w){lo hi mx:Option Operand}(ya:(σ.bd lo).ok=true){m:Int}(VV:σ.bd hi= .some m)(KK:σ.bd mx= .some m){Zr:Bool}{len cap:Nat}(qn:len<=cap)
 (h0:0<=(σ.bd lo).get 0) (h1:(σ.bd lo).get 0<=m) (h2:m<=len):
 (Instr.sliceBounds Zr len cap (lo.map a.eval) (hi.map a.eval) (mx.map a.eval)).run P w= .ok (((σ.bd lo).get 0).toNat,m.toNat,m.toNat) w:=by
 rcases Ap h (o:=hi) (by rw[VV];rfl)with⟨rfl,e3⟩|⟨k',n',e3,e4⟩
 · rw[e3]at VV;cases VV
 rcases Ap h (o:=mx) (by rw[KK];rfl)with⟨rfl,e5⟩|⟨DF,n'',e5,e6⟩
 · rw[e5]at KK;cases KK
 have jw:n'=m:=by rw[e4]at VV;injection VV
 have hn'':n''=m:=by rw[e6]at KK;injection KK
 rw[jw]at e3;rw[hn'']at e5;have t1:=fun c=>run_sliceBound (P:=P) (w:=w) (k:=DF) (n:=m) (y:=cap) (c:=c) (by omega) (by omega)
 have t2:=fun c=>run_sliceBound (P:=P) (w:=w) (k:=k') (n:=m) (y:=m.toNat) (c:=c) (by omega) (by omega)
 rcases Ap h ya with⟨rfl,e1⟩|⟨k,n,e1,e2⟩
 · simp[Instr.sliceBounds,e1,e3,e5,Bd.get,t1,t2]
 · rw[e2]at h0 h1⊢
   simp only[Bd.get]at h0 h1⊢;have t3:=fun c=>run_sliceBound (P:=P) (w:=w) (k:=k) (n:=n) (y:=m.toNat) (c:=c) h0 (by omega)
   simp[Instr.sliceBounds,e1,e3,e5,t1,t2,t3]
theorem extract_mk(s:List UInt8)(l h:Nat):(⟨s.toArray⟩:ByteArray).extract l h=⟨((s.take h).drop l).toArray⟩:=by apply ByteArray.ext;simp[ByteArray.data_extract,List.extract_eq_take_drop,List.drop_take]
theorem KL{t:TypeId}(ht:(eD P t).isNone=true){d:TypeDesc}(hu:P.underlying t=some d){x:Value}{lo hi mx:Option Value}:(Instr.sliceAt t x lo hi mx).run P w=(Instr.slice t x lo hi mx).run P w:=by
 unfold Instr.sliceAt;rw[Sem.run_bind,run_underlying hu,Result.andThen_ok]
 cases d<;>first|rfl|(simp[eD,hu]at ht)
theorem Ol(h:aJ N0 w0 nt σ φ a w){d:Option Tmp}{s:Nat}{x:Operand}{lo hi mx:Option Operand}{t:TypeId}{p:String}{af:Array Edge}{g:Option (Nat×Bool)}{r:A}
 (ht:(eD P s).isNone=true) (ya:(σ.bd lo).ok=true) (VV:(σ.bd hi).ok=true)
 (hr:rU (fm P s) (rV P s) (σ.ev x) (σ.bd lo) (σ.bd hi) (σ.bd mx)=some r):Good P ⟨d,.slice s x lo hi mx,t,p,af,g⟩ a w N0 φ r:=by
 have hx:=h.ev x
 have nomx:σ.bd mx= .none->mx=none:=by
  cases mx with
  |none=>intro _;rfl
  |some m=>intro hm;simp only[St.bd]at hm;cases he:σ.ev m<;>simp[he,Vz]at hm
 have fin: ∀{d':TypeDesc} {v:Value},P.underlying s=some d'->(Instr.slice s (a.eval x) (lo.map a.eval) (hi.map a.eval) (mx.map a.eval)).run P w= .ok v w->aF (aA N0 φ w) r v->Good P ⟨d,.slice s x lo hi mx,t,p,af,g⟩ a w N0 φ r:=by intro d' v hu hv cF;exact bD rfl (by rw[KL ht hu];exact hv) cF
 have elems: ∀(k:Nat) (es:List A) (q:Option Addr) (cap:Nat),rV P s=some k->a.eval x= .slice q es.length cap->es.length<=cap->A.pure.aY es=true->
  (es≠ []-> ∃b off,q=some ⟨b,off,none⟩/\b<(aA N0 φ w).w.heap.size/\ ¬(aA N0 φ w).N b/\eo (aA N0 φ w) (bT es) b off es)->
  va k es (σ.bd lo) (σ.bd hi) (σ.bd mx)=some r->Good P ⟨d,.slice s x lo hi mx,t,p,af,g⟩ a w N0 φ r:=by
  intro k es q cap hk hv qn hp hm hr;unfold rV at hk;cases he:aR P s with
  |none=>simp[he]at hk
  |some e=>
   simp only[he]at hk;have hu:=du he
   have core: ∀l hh:Nat,l<=hh->hh<=es.length->j7 k es=true-> ∀c':Nat,hh<=c'->c'<=cap->
    A.pure.aY ((es.take hh).drop l)=true/\((es.take hh).drop l).length=hh-l/\
    ((es.take hh).drop l≠ []-> ∃b off,(if c'=l then q else q.map (·.add (l*k)))=some ⟨b,off,none⟩/\b<(aA N0 φ w).w.heap.size/\ ¬(aA N0 φ w).N b/\eo (aA N0 φ w) (bT ((es.take hh).drop l)) b off ((es.take hh).drop l)):=by
    intro l hh hl hhl bR c' u4 N2;refine⟨kZ (k9 hp),by simp;omega,fun bU=> ?_⟩
    have An:es≠ []:=by rintro rfl;simp at bU
    have aw:l<hh:=by
     rcases Nat.lt_or_ge l hh with aw|Te
     · exact aw
     · exfalso;apply bU;apply List.drop_eq_nil_of_le;simp;omega
    obtain⟨b,off,rfl,hb,Zo,hE⟩:=hm An
    have Tf:bT es=k:=by
     unfold j7 at bR;cases es with
     |nil=>exact absurd rfl An
     |cons z zs=>simpa using bR
    rw[Tf]at hE;have Vh:=vh (n:=l) (mv (n:=hh) hE)
    refine⟨b,off+l*k, ?_,hb,Zo,by rw[vn Vh bU];exact Vh⟩
    rw[if_neg (by omega)]
    simp[Addr.add_mid]
   unfold va at hr;split at hr
   · rename_i KK
     split at hr
     · rename_i hc
       obtain⟨bR,h0,h1,h2⟩:=hc;obtain rfl:=Option.some.inj hr;have hb:=o8 (P:=P) h ya VV (Zr:=true) qn h0 h1 h2;have VW:=nomx KK;subst VW;obtain⟨c1,c2,c3⟩:=core ((σ.bd lo).get 0).toNat ((σ.bd hi).get es.length).toNat (by omega) (by omega) bR cap (by omega) (Nat.le_refl _)
       refine fin hu (v:= .slice (if cap=((σ.bd lo).get 0).toNat then q else q.map (·.add (((σ.bd lo).get 0).toNat*k))) (((σ.bd hi).get es.length).toNat-((σ.bd lo).get 0).toNat) (cap-((σ.bd lo).get 0).toNat)) ?_ ?_
       · rw[hv]
         simp only[Option.map_none]
         simp only[Instr.slice,Sem.run_bind,run_underlying hu,Result.andThen_ok,hb,run_sizeOf hk,Sem.run_pure]
       · simp only[aF]
         exact⟨c1,_,_,by rw[c2],by rw[c2];omega,c3⟩
     · simp at hr
   · rename_i m KK
     split at hr
     · rename_i hc
       obtain⟨bR,h0,h1,h2,h3,h4⟩:=hc
       have VX:σ.bd hi= .some m:=by
        cases hb:σ.bd hi with
        |some n=>rw[hb]at h3;simp only[Bd.get]at h3;rw[h3]
        |none=>simp[hb,Bd.ok3]at h4
        |bad=>simp[hb,Bd.ok3]at h4
       have hg:(σ.bd hi).get es.length=m:=by rw[VX];rfl
       rw[hg]at h1 h2 hr;obtain rfl:=Option.some.inj hr;have hb:=xd (P:=P) h ya VX KK (Zr:=true) qn h0 h1 h2;obtain⟨c1,c2,c3⟩:=core ((σ.bd lo).get 0).toNat m.toNat (by omega) (by omega) bR m.toNat (by omega) (by omega)
       refine fin hu (v:= .slice (if m.toNat=((σ.bd lo).get 0).toNat then q else q.map (·.add (((σ.bd lo).get 0).toNat*k))) (m.toNat-((σ.bd lo).get 0).toNat) (m.toNat-((σ.bd lo).get 0).toNat)) ?_ ?_
       · rw[hv]
         simp only[Instr.slice,Sem.run_bind,run_underlying hu,Result.andThen_ok,hb,run_sizeOf hk,Sem.run_pure]
       · simp only[aF]
         exact⟨c1,_,by rw[c2],c3⟩
     · simp at hr
   · simp at hr
 cases hc:σ.ev x<;>simp only[hc,rU]at hr<;>try(simp at hr;done)
 · rename_i str
   rw[hc]at hx;split at hr
   · rename_i bR
     unfold Hf at hr;split at hr
     · rename_i KK
       split at hr
       · rename_i di
         obtain⟨h0,h1,h2⟩:=di;obtain rfl:=Option.some.inj hr;have VW:=nomx KK;subst VW;have hb:=o8 (P:=P) h ya VV (Zr:=false) (len:=str.length) (cap:=str.length) (Nat.le_refl _) h0 h1 h2;refine fin (iV bR) (v:= .string (ByteArray.extract ⟨str.toArray⟩ ((σ.bd lo).get 0).toNat ((σ.bd hi).get str.length).toNat)) ?_ ?_
         · rw[qu hx]
           simp only[Option.map_none,Instr.slice,Sem.run_bind,run_underlying (iV bR),Result.andThen_ok,nr,hb,Sem.run_pure,Option.isSome_none,Bool.false_eq_true,if_false]
         · simp only[aF,extract_mk]
       · simp at hr
     · simp at hr
   · simp at hr
 · rename_i es
   rw[hc]at hx;simp only[aF]at hx;obtain⟨hp,q,cap,hv,qn,hm⟩:=hx;split at hr
   · rename_i k hk
     exact elems k es q cap hk hv qn hp hm hr
   · simp at hr
 · rename_i es
   rw[hc]at hx;simp only[aF]at hx;obtain⟨hp,q,hv,hm⟩:=hx;split at hr
   · rename_i k hk
     exact elems k es q _ hk hv (Nat.le_refl _) hp hm hr
   · simp at hr
 · rename_i n off k' len c
   rw[hc]at hx;split at hr
   · rename_i k hk
     split at hr
     · rename_i S6
       subst S6;unfold rV at hk;cases he:aR P s with
       |none=>simp[he]at hk
       |some e=>
        simp only[he]at hk;have hu:=du he;simp only[aF]at hx
        have val: ∃(q:Option Addr) (cap:Nat),a.eval x= .slice q len cap/\len<=cap/\
         ∀l hh c':Nat,l<=hh->hh<=len->hh<=c'->c'<=cap-> ∀cl:Bool,(cl=true->c'=hh)->
          aF (aA N0 φ w) (.row n (off+l) k (hh-l) cl) (.slice (if c'=l then q else q.map (·.add (l*k))) (hh-l) (c'-l)):=by
         rcases hx with⟨o,eV,hf,rfl,hoff,q,hv⟩|⟨b,cap,cc,ee,fr,eV,hv,qn,_,hblk,kE⟩
         · refine⟨q,0,hv,Nat.le_refl _,fun l hh c' hl hhl u4 N2 cl jg=> ?_⟩
           have e1:l=0:=by omega
           have e2:hh=0:=by omega
           have e3:c'=0:=by omega
           subst e1;subst e2;subst e3;simp only[aF]
           exact .inl ⟨o,eV,hf,by simp,by simpa using hoff,q,by simp⟩
         · refine⟨_,cap,hv,qn,fun l hh c' hl hhl u4 N2 cl jg=> ?_⟩
           simp only[aF]
           by_cases hcl0:c'=l
           · left
             have:hh=l:=by omega
             refine⟨_,eV,by simp,by omega,by simp,some ⟨b,off*k,none⟩, ?_⟩
             rw[if_pos hcl0,show hh-l=0 by omega,show c'-l=0 by omega]
           · right
             refine⟨b,c'-l,cc,ee,fr,eV, ?_,by omega,fun hq=>by have:=jg hq;omega,hblk, ?_⟩
             · rw[if_neg hcl0]
               simp[Addr.add_mid,Nat.add_mul]
             · have:l*k+k*(c'-l)<=k*cap:=by
                rw[Nat.mul_comm l k,<-Nat.mul_add]
                exact Nat.mul_le_mul_left k (by omega)
               rw[Nat.add_mul]
               omega
        obtain⟨q,cap,hv,qn,jj⟩:=val;unfold Hg at hr;split at hr
        · rename_i KK
          split at hr
          · rename_i di
            obtain⟨h0,h1,h2⟩:=di;obtain rfl:=Option.some.inj hr;have VW:=nomx KK;subst VW;have hb:=o8 (P:=P) h ya VV (Zr:=true) qn h0 h1 h2;have:=jj ((σ.bd lo).get 0).toNat ((σ.bd hi).get len).toNat cap (by omega) (by omega) (by omega) (Nat.le_refl _) false (by simp)
            refine fin hu ?_ (by rw[show((σ.bd hi).get len-(σ.bd lo).get 0).toNat=((σ.bd hi).get len).toNat-((σ.bd lo).get 0).toNat by omega];exact this)
            rw[hv]
            simp only[Option.map_none]
            simp only[Instr.slice,Sem.run_bind,run_underlying hu,Result.andThen_ok,hb,run_sizeOf hk,Sem.run_pure]
          · simp at hr
        · rename_i m KK
          split at hr
          · rename_i di
            obtain⟨h0,h1,h2,h3,h4⟩:=di
            have VX:σ.bd hi= .some m:=by
             cases hb:σ.bd hi with
             |some n=>rw[hb]at h3;simp only[Bd.get]at h3;rw[h3]
             |none=>simp[hb,Bd.ok3]at h4
             |bad=>simp[hb,Bd.ok3]at h4
            have hg:(σ.bd hi).get len=m:=by rw[VX];rfl
            rw[hg]at h1 h2 hr;obtain rfl:=Option.some.inj hr;have hb:=xd (P:=P) h ya VX KK (Zr:=true) qn h0 h1 h2;have:=jj ((σ.bd lo).get 0).toNat m.toNat m.toNat (by omega) (by omega) (by omega) (by omega) true (fun _=>rfl)
            refine fin hu ?_ (by rw[show(m-(σ.bd lo).get 0).toNat=m.toNat-((σ.bd lo).get 0).toNat by omega];exact this)
            rw[hv]
            simp only[Instr.slice,Sem.run_bind,run_underlying hu,Result.andThen_ok,hb,run_sizeOf hk,Sem.run_pure]
          · simp at hr
        · simp at hr
     · simp at hr
   · simp at hr
/-! ### Literals -/
theorem FZ: ∀(vs:List Value) (off j:Nat) (cs:List Value),off+j+vs.length<=cs.length->
 (vs.zipIdx j).foldl (fun(cs:Array Value) (p:Value×Nat)=>cs.setIfInBounds (off+p.2) p.1) cs.toArray=(cs.take (off+j)++vs++cs.drop (off+j+vs.length)).toArray
 | [],off,j,cs,_=>by simp
 |v::vs,off,j,cs,h=>by
  simp only[List.zipIdx_cons,List.foldl_cons]
  have e:cs.toArray.setIfInBounds (off+j) v=(cs.set (off+j) v).toArray:=by simp
  rw[e,FZ vs off (j+1) (cs.set (off+j) v) (by simp at h⊢;omega)]
  congr 1
  have aw:off+j<cs.length:=by simp at h;omega
  rw[show off+(j+1)=off+j+1 by omega]
  rw[List.take_succ_eq_append_getElem (by simpa using aw)]
  simp only[List.getElem_set_self,List.length_cons,List.append_assoc,List.cons_append,List.nil_append]
  rw[List.take_set_of_le (Nat.le_refl _),List.drop_set_of_lt (by omega)]
  rw[show off+j+1+vs.length=off+j+(vs.length+1) by omega]
theorem Aq{place:Nat->Option (Nat×Nat)}{i off size:Nat}{v:Value}{cs:List Value}{rest:List (Nat×Value)}(hp:place i=some (off,size))(hs:v.cells.size=size)(hl:off+size<=cs.length):
 Instr.fill place cs.toArray ((i,v)::rest)=Instr.fill place (cs.take off++v.cells.toList++cs.drop (off+size)).toArray rest:=by
 simp only[Instr.fill,hp]
 rw[if_neg (by simp[hs];omega)]
 congr 1
 have e:=FZ v.cells.toList off 0 cs (by simp[hs];omega)
 simp only[Nat.add_zero]at e;rw[show v.cells.toList.length=size by simpa using hs]at e;rw[<-e,<-Array.foldl_toList]
 simp
theorem xe{E:Env}{size:Option Nat}{off:Nat}{x:A}{v:Value}{zs F4:List A}{vs:List Value}(hx:aF E x v)(hz:aP E zs vs)(h1: ∀u∈vs,u.oneCell'=true)(h:tc size off x zs=some F4):
 ∃n,size=some n/\v.cells.size=n/\off+n<=vs.length/\aP E F4 (vs.take off++v.cells.toList++vs.drop (off+n))/\ ∀u∈vs.take off++v.cells.toList++vs.drop (off+n),u.oneCell'=true:=by
 unfold tc at h;split at h
 · rename_i n
   split at h
   · rename_i hc
     obtain⟨c1,c2,c3⟩:=hc;obtain rfl:=Option.some.inj h;obtain⟨r1,r2,r3⟩:=iH hx c3;have hlen:=(ba.1 hz).1;refine⟨n,rfl,by rw[r3,c1],by omega,iG (iG (vi hz) r1) (vj hz),fun u hu=> ?_⟩
     simp only[List.mem_append]at hu;rcases hu with(hu|hu)|hu
     · exact h1 u (List.mem_of_mem_take hu)
     · exact r2 u hu
     · exact h1 u (List.mem_of_mem_drop hu)
   · simp at h
 · simp at h
theorem xf(h:aJ N0 w0 nt σ φ a w){t:TypeId}{fs:Array Field}{place:Nat->Option (Nat×Nat)}(hu:P.underlying t=some (.struct fs))
 (Ho: ∀i f n,fs[i]? =some f->aX P f.type=some n->place i=some (f.offset,n)):
 ∀(ps:List (Nat×Operand)) (zs F4:List A) (vs:List Value),aP (aA N0 φ w) zs vs->(∀u∈vs,u.oneCell'=true)->jM P t σ ps zs=some F4->
  ∃kc,Instr.fill place vs.toArray (ps.map fun p=>(p.1,a.eval p.2))=some kc.toArray/\aP (aA N0 φ w) F4 kc/\ ∀u∈kc,u.oneCell'=true
 | [],zs,F4,vs,hz,h1,hf=>by simp[jM]at hf;subst hf;exact⟨vs,rfl,hz,h1⟩
 |(i,x)::ps,zs,F4,vs,hz,h1,hf=>by
  simp only[jM]at hf;split at hf
  · rename_i o ft hfi
    cases hc:tc (aX P ft) o (σ.ev x) zs with
    |none=>simp[hc]at hf
    |some zs1=>
     simp only[hc,Option.bind_some]at hf;obtain⟨n,hn,hv,hl,hz',mb⟩:=xe (h.ev x) hz h1 hc;obtain⟨fs',fx,n',Zs,s8,rfl,rfl,jw,_⟩:=nq hfi;rw[hu]at Zs;obtain rfl:fs=fs':=by injection Zs with e;injection e
     obtain⟨kc,hr,hz'',h1''⟩:=xf h hu Ho ps zs1 F4 _ hz' mb hf;refine⟨kc, ?_,hz'',h1''⟩
     rw[List.map_cons,Aq (Ho i fx n s8 hn) hv hl]
     exact hr
  · simp at hf
theorem xg(h:aJ N0 w0 nt σ φ a w){e n:Nat}(hn:aX P e=some n):
 ∀(ps:List (Nat×Operand)) (zs F4:List A) (vs:List Value),aP (aA N0 φ w) zs vs->(∀u∈vs,u.oneCell'=true)->jN P e σ ps zs=some F4->
  ∃kc,Instr.fill (fun i=>some (i*n,n)) vs.toArray (ps.map fun p=>(p.1,a.eval p.2))=some kc.toArray/\aP (aA N0 φ w) F4 kc/\ ∀u∈kc,u.oneCell'=true
 | [],zs,F4,vs,hz,h1,hf=>by simp[jN]at hf;subst hf;exact⟨vs,rfl,hz,h1⟩
 |(i,x)::ps,zs,F4,vs,hz,h1,hf=>by
  simp only[jN,hn]at hf;cases hc:tc (some n) (i*n) (σ.ev x) zs with
  |none=>simp[hc]at hf
  |some zs1=>
   simp only[hc,Option.bind_some]at hf;obtain⟨n',jw,hv,hl,hz',mb⟩:=xe (h.ev x) hz h1 hc;obtain rfl:=Option.some.inj jw;obtain⟨kc,hr,hz'',h1''⟩:=xg h hn ps zs1 F4 _ hz' mb hf;refine⟨kc, ?_,hz'',h1''⟩
   rw[List.map_cons,Aq rfl hv hl]
   exact hr
theorem tp{t:TypeId}{z:A}(h:dt P t=some z): ∃v,(zeroValue t).run P w= .ok v w/\(∀E:Env,aF E z v):=by
 unfold dt at h;cases hi:P.info? t with
 |none=>simp[hi]at h
 |some i=>
  simp only[hi,Option.bind_some]at h;cases hz:i.zero with
  |none=>simp[hz]at h
  |some v=>
   simp[hz]at h;subst h;exact⟨v,by simp[zeroValue,typeInfo,hi,hz],fun E=>Hl E v⟩
theorem xh: ∀{fs:List Field},(fs.all fun f=>(aX P f.type).isSome)=true->
 ∃ys:List (Nat×Nat),(fs.mapM (fun f=>(do pure (f.offset,<-sizeOf f.type):Sem (Nat×Nat)))).run P w= .ok ys w/\ ∀(i:Nat) (f:Field) (n:Nat),fs[i]? =some f->aX P f.type=some n->ys[i]? =some (f.offset,n)
 | [],_=>⟨[],by simp,fun i f n hf=>by simp at hf⟩
 |f::fs,h=>by
  simp only[List.all_cons,Bool.and_eq_true]at h;obtain⟨n,hn⟩:=Option.isSome_iff_exists.1 h.1;obtain⟨ys,w_,hpl⟩:=xh h.2;refine⟨(f.offset,n)::ys, ?_,fun i f' n' Q1 jw=> ?_⟩
  · simp only[List.mapM_cons,Sem.run_bind,run_sizeOf hn,Result.andThen_ok,Sem.run_pure,w_]
  · cases i with
    |zero=>simp at Q1;subst Q1;rw[hn]at jw;simp at jw;subst jw;rfl
    |succ i=>exact hpl i f' n' (by simpa using Q1) jw
theorem run_places{fs:Array Field}(h:(fs.toList.all fun f=>(aX P f.type).isSome)=true):
 ∃ys:Array (Nat×Nat),(fs.mapM (fun f=>(do pure (f.offset,<-sizeOf f.type):Sem (Nat×Nat)))).run P w= .ok ys w/\ ∀(i:Nat) (f:Field) (n:Nat),fs[i]? =some f->aX P f.type=some n->ys[i]? =some (f.offset,n):=by
 obtain⟨ys,w_,hpl⟩:=xh (w:=w) h;refine⟨ys.toArray, ?_,fun i f n hf hn=>by simpa using hpl i f n (by simpa using hf) hn⟩
 rw[Array.mapM_eq_mapM_toList,Sem.run_map,w_]
 rfl
theorem Om(h:aJ N0 w0 nt σ φ a w){d:Option Tmp}{s:Nat}{ps:Array (Nat×Operand)}{t:TypeId}{p:String}{af:Array Edge}{g:Option (Nat×Bool)}{r:A}
 (hr:oS P s σ ps.toList=some r):Good P ⟨d,.build s ps,t,p,af,g⟩ a w N0 φ r:=by
 unfold oS at hr;split at hr
 · rename_i zs hz
   obtain⟨z,hzr,Ar⟩:=tp (w:=w) hz;have hzv:=Ar (aA N0 φ w)
   simp only[aF]at hzv;obtain⟨vs,rfl,hL,cQ⟩:=hzv;split at hr
   · rename_i n e hn
     split at hr
     · rename_i kE
       obtain⟨k,hk⟩:=Option.isSome_iff_exists.1 kE;cases hf:jN P e σ ps.toList zs with
       |none=>simp[hf]at hr
       |some F4=>
        simp[hf]at hr;subst hr;have hu:=th hn;obtain⟨kc,As,hL',VY⟩:=xg h hk ps.toList zs F4 vs hL cQ hf;refine bD rfl (v:= .agg kc.toArray) ?_ (by simp only[aF];exact⟨kc,rfl,hL',VY⟩)
        simp only[Instr.build,Sem.run_bind,hzr,Result.andThen_ok,run_underlying hu,run_sizeOf hk,Value.cells]
        rw[show(ps.map fun x=>(x.1,a.eval x.2)).toList=ps.toList.map fun p=>(p.1,a.eval p.2) by simp,As]
        rfl
     · simp at hr
   · rename_i hn
     split at hr
     · rename_i gZ
       cases hf:jM P s σ ps.toList zs with
       |none=>simp[hf]at hr
       |some F4=>
        simp[hf]at hr;subst hr;unfold fV at gZ;split at gZ
        · rename_i fs hu
          obtain⟨ys,w_,Ho⟩:=run_places (w:=w) gZ;obtain⟨kc,As,hL',VY⟩:=xf h hu Ho ps.toList zs F4 vs hL cQ hf;refine bD rfl (v:= .agg kc.toArray) ?_ (by simp only[aF];exact⟨kc,rfl,hL',VY⟩)
          simp only[Instr.build,Sem.run_bind,hzr,Result.andThen_ok,run_underlying hu,Value.cells,w_]
          rw[show(ps.map fun x=>(x.1,a.eval x.2)).toList=ps.toList.map fun p=>(p.1,a.eval p.2) by simp,As]
          rfl
        · simp at gZ
     · simp at hr
 · simp at hr
end
end Go.bJ
namespace Go.bJ
open Go.RowKit
theorem F5{E:Env}{x:A}{v:Value}(h:aF E x v):aF E (iD x) v:=by
 cases x<;>simp only[iD]<;>try exact h
 · simp only[aF]at h⊢
   obtain⟨hp,a,hv,hm⟩:=h;exact⟨hp,a,_,hv,Nat.le_refl _,hm⟩
 · simp only[aF]at h⊢
   exact⟨rfl,none,0,by simpa using h,Nat.le_refl _,fun bU=>absurd rfl bU⟩
 · simp only[aF]at h⊢
   obtain⟨a,cap,hv,_⟩:=h;exact⟨rfl,a,cap,by simpa using hv,Nat.zero_le _,fun bU=>absurd rfl bU⟩
theorem nv{E:Env}{cs:List A}{vs:List Value}(h:aP E cs vs):aP E (cs.map iD) vs:=by
 obtain⟨h1,h2⟩:=ba.1 h;refine ba.2 ⟨by simpa using h1,fun i x v hx hv=> ?_⟩
 rw[List.getElem?_map]at hx;cases hc:cs[i]? with
 |none=>simp[hc]at hx
 |some c=>simp[hc]at hx;subst hx;exact F5 (h2 i c v hc hv)
theorem fY(x:A):x.norm.cells=x.cells.map iD:=by cases x<;>simp[A.norm,iD,A.cells]
theorem Au{x:A}(h:x.pure=true):(iD x).pure=true:=by cases x<;>simp_all[iD,A.pure]
theorem yb{cs:List A}(h:A.pure.aY cs=true):A.pure.aY (cs.map iD)=true:=
 cV fun i e he=>by
  rw[List.getElem?_map]at he;cases hc:cs[i]? with
  |none=>simp[hc]at he
  |some c=>simp[hc]at he;subst he;exact Au (aI h hc)
theorem kF{x:A}(h:x.pure=true):x.norm.pure=true:=by
 cases x
 case agg cs=>
  simp only[A.norm,A.pure]at h⊢;exact yb h
 all_goals
  simp only[A.norm]
  exact Au h
def aD(E:Env)(k:Nat):List A->List Value->Prop
 | [],vs=>vs=[]
 |e::es,vs=>e.cells.length=k/\k<=vs.length/\aP E e.cells (vs.take k)/\aD E k es (vs.drop k)
theorem aD.length{E:Env}{k:Nat}: ∀{es:List A} {vs:List Value},aD E k es vs->vs.length=es.length*k
 | [],vs,h=>by simp only[aD]at h;subst h;simp
 |e::es,vs,h=>by
  simp only[aD]at h;have:=aD.length h.2.2.2;simp only[List.length_drop]at this;have:=h.2.1;simp only[List.length_cons,Nat.add_mul,Nat.one_mul]
  omega
theorem aD.append{E:Env}{k:Nat}: ∀{es fs:List A} {vs us:List Value},aD E k es vs->aD E k fs us->aD E k (es++fs) (vs++us)
 | [],fs,vs,us,h,h'=>by simp only[aD]at h;subst h;simpa using h'
 |e::es,fs,vs,us,h,h'=>by
  simp only[aD]at h;obtain⟨h1,h2,h3,h4⟩:=h;simp only[List.cons_append,aD]
  refine⟨h1,by simp;omega, ?_, ?_⟩
  · rw[List.take_append_of_le_length h2];exact h3
  · rw[List.drop_append_of_le_length h2];exact aD.append h4 h'
theorem aD.take{E:Env}{k:Nat}: ∀{n:Nat} {es:List A} {vs:List Value},aD E k es vs->aD E k (es.take n) (vs.take (n*k))
 |0,es,vs,_=>by simp[aD]
 |n+1,[],vs,h=>by simp only[aD]at h;subst h;simp[aD]
 |n+1,e::es,vs,h=>by
  simp only[aD]at h;obtain⟨h1,h2,h3,h4⟩:=h;simp only[List.take_succ_cons,aD]
  have hk:k<=(n+1)*k:=by rw[Nat.add_mul,Nat.one_mul];omega
  refine⟨h1,by simp;omega, ?_, ?_⟩
  · rw[List.take_take,Nat.min_eq_left hk];exact h3
  · rw[List.drop_take,show(n+1)*k-k=n*k by rw[Nat.add_mul,Nat.one_mul];omega];exact aD.take h4
theorem aD.set{E:Env}{k:Nat}{x:A}{xv:List Value}(hx:x.cells.length=k)(hL:aP E x.cells xv): ∀{i:Nat} {es:List A} {vs:List Value},i<es.length->aD E k es vs->
 aD E k (es.set i x) (vs.take (i*k)++xv++vs.drop (i*k+k))
 |0,e::es,vs,_,h=>by
  simp only[aD]at h;obtain⟨h1,h2,h3,h4⟩:=h;have Z0:xv.length=k:=by rw[<-(ba.1 hL).1,hx]
  simp only[List.set_cons_zero,aD,Nat.zero_mul,List.take_zero,List.nil_append,Nat.zero_add]
  refine⟨hx,by simp;omega, ?_, ?_⟩
  · rw[List.take_append_of_le_length (by omega),List.take_of_length_le (by omega)];exact hL
  · rw[List.drop_append_of_le_length (by omega),List.drop_of_length_le (by omega),List.nil_append];exact h4
 |i+1,e::es,vs,hi,h=>by
  simp only[aD]at h;obtain⟨h1,h2,h3,h4⟩:=h;have ih:=aD.set hx hL (i:=i) (by simpa using hi) h4;have hk:(i+1)*k=k+i*k:=by rw[Nat.add_mul,Nat.one_mul];omega
  have hlen:=aD.length h4
  have hle:i*k+k<=(vs.drop k).length:=by
   rw[hlen]
   have:i+1<=es.length:=by have:i<es.length:=by simpa using hi
                           omega
   calc i*k+k=(i+1)*k:=by rw[Nat.add_mul,Nat.one_mul]
    _<=es.length*k:=Nat.mul_le_mul_right k this
  simp only[List.length_drop]at hle;simp only[List.set_cons_succ,aD]
  refine⟨h1,by simp;omega, ?_, ?_⟩
  · rw[List.append_assoc,List.take_append_of_le_length (by simp;omega),List.take_take,Nat.min_eq_left (by omega)];exact h3
  · rw[List.append_assoc,List.drop_append_of_le_length (by simp;omega),List.drop_take,hk,show k+i*k-k=i*k by omega]
    rw[List.drop_drop]at ih;rw[show k+i*k+k=k+(i*k+k) by omega,<-List.append_assoc]
    exact ih
theorem aD.replicate{E:Env}{k:Nat}{x:A}{xv:List Value}(hx:x.cells.length=k)(hL:aP E x.cells xv): ∀n:Nat,aD E k (List.replicate n x) (List.replicate n xv).flatten
 |0=>by simp[aD]
 |n+1=>by
  have Z0:xv.length=k:=by rw[<-(ba.1 hL).1,hx]
  simp only[List.replicate_succ,List.flatten_cons,aD]
  refine⟨hx,by simp;omega, ?_, ?_⟩
  · rw[List.take_append_of_le_length (by omega),List.take_of_length_le (by omega)];exact hL
  · rw[List.drop_append_of_le_length (by omega),List.drop_of_length_le (by omega),List.nil_append];exact aD.replicate hx hL n
theorem aD.mem{E:Env}{k b:Nat}: ∀{es:List A} {vs:List Value} {off:Nat},aD E k es vs->E.w.rangeAt b off vs->(∀u∈vs,u.oneCell'=true)->eo E k b off es
 | [],vs,off,_,_,_=>by simp[eo]
 |e::es,vs,off,h,hr,cQ=>by
  simp only[aD]at h;obtain⟨h1,h2,h3,h4⟩:=h;refine mu.2 ⟨⟨h1,np (vs:=vs.take k) ?_ h3 fun u hu=>cQ u (List.mem_of_mem_take hu)⟩,aD.mem h4 ?_ fun u hu=>cQ u (List.mem_of_mem_drop hu)⟩
  · intro j v hv
    rw[List.getElem?_take]at hv;split at hv
    · exact hr j v hv
    · simp at hv
  · intro j v hv
    rw[List.getElem?_drop]at hv;have:=hr (k+j) v hv
    rwa [show off+(k+j)=off+k+j by omega]at this
theorem aD.Av{E:Env}{k b:Nat}: ∀{es:List A} {off:Nat},eo E k b off es-> ∃vs,aD E k es vs/\E.w.rangeAt b off vs/\ ∀u∈vs,u.oneCell'=true
 | [],off,_=>⟨[],by simp[aD],fun j v h=>by simp at h,by simp⟩
 |e::es,off,h=>by
  obtain⟨⟨h1,hm⟩,hE⟩:=mu.1 h;obtain⟨us,hu1,hu2,hu3⟩:=qt hm;obtain⟨vs,hv1,hv2,hv3⟩:=aD.Av hE;have hl:us.length=k:=by rw[<-(ba.1 hu2).1,h1]
  refine⟨us++vs, ?_, ?_, ?_⟩
  · simp only[aD]
    refine⟨h1,by simp;omega, ?_, ?_⟩
    · rw[List.take_append_of_le_length (by omega),List.take_of_length_le (by omega)];exact hu2
    · rw[List.drop_append_of_le_length (by omega),List.drop_of_length_le (by omega),List.nil_append];exact hv1
  · intro j v hv
    rw[List.getElem?_append]at hv;split at hv
    · exact hu1 j v hv
    · rename_i hj
      have:=hv2 (j-us.length) v hv
      rwa [show off+k+(j-us.length)=off+j by omega]at this
  · intro u hu
    rcases List.mem_append.1 hu with hu|hu
    · exact hu3 u hu
    · exact hv3 u hu
theorem aD.mono{E E':Env}(hr: ∀x v,x.pure=true->aF E x v->aF E' x v){k:Nat}: ∀{es:List A} {vs:List Value},A.pure.aY es=true->aD E k es vs->aD E' k es vs
 | [],vs,_,h=>by simpa only[aD]using h
 |e::es,vs,hp,h=>by simp only[A.pure.aY,Bool.and_eq_true]at hp;simp only[aD]at h⊢;obtain⟨h1,h2,h3,h4⟩:=h;obtain⟨g1,g2⟩:=ba.1 h3;exact⟨h1,h2,ba.2 ⟨g1,fun i x v hx hv=>hr x v (aI (k_ hp.1) hx) (g2 i x v hx hv)⟩,aD.mono hr hp.2 h4⟩
theorem KM{z:Array Value}: ∀n:Nat,(List.range (n*z.size)).map (fun i=>z[i % z.size]!)=(List.replicate n z.toList).flatten
 |0=>by simp
 |n+1=>by
  rw[Nat.add_mul,Nat.one_mul,Nat.add_comm,List.range_add,List.map_append,List.map_map,List.replicate_succ,List.flatten_cons,<-KM n]
  congr 1
  · apply List.ext_getElem?
    intro i;rw[List.getElem?_map]
    by_cases hi:i<z.size
    · simp[hi,Nat.mod_eq_of_lt hi]
    · simp[hi]
  · apply List.map_congr_left
    intro i _;simp
section
variable{P:Program}{N0:Nat->Prop}{w0:jO}{nt:Nat}{σ:St}{φ:List cZ}{a:Act}{w:World}
theorem tq{n:Nat}{p:cZ}(hn:n<φ.length)(m:Nat):(φ.set n p)[m]? =if n=m then some p else φ[m]? :=by
 rw[List.getElem?_set]
 split
 · rename_i e;subst e;simp
 · rfl
theorem aJ.Hp(h:aJ N0 w0 nt σ φ a w){n b k:Nat}{w':World}(bw:φ[n]? =some .free)(g:ew w w')(hb:w.heap.size<=b):
 Ext (fun _=>True) (aA N0 φ w) (aA N0 (φ.set n (.loc b k)) w'):=by
 have fQ:=tq (φ:=φ) (n:=n) (p:=cZ.loc b k) (List.getElem?_eq_some_iff.1 bw).1
 exact{
  size:=g.size
  Kv:=fun c hc VZ=>⟨by
   rintro(h0|⟨m,k',hm⟩)
   · exact VZ (.inl h0)
   · rw[fQ]at hm
     split at hm
     · simp at hm
       have:c<w.heap.size:=hc;omega
     · exact VZ (.inr ⟨m,k',hm⟩),g.block c hc⟩
  refs:=fun m p _ hm hp=>by
   show(φ.set n (cZ.loc b k))[m]? =some p;rw[fQ]
   split
   · rename_i e;subst e
     have:φ[n]? =some p:=hm;rw[bw]at this;simp at this;exact absurd this.symm hp
   · exact hm
  own:=fun m c k' cc e fr _ hm hc=>⟨cc,fr,by show w'.heap[c]? =_;rw[g.block c (h.own m c k' hm).2];exact hc,rfl⟩}
theorem aJ.newObj(h:aJ N0 w0 nt σ φ a w){n b k:Nat}{o:Obj}{w':World}(bw:φ[n]? =some .free)(g:ew w w')(hb:w.heap.size<=b)(o9:b<w'.heap.size)
 (ho:aH (aA N0 (φ.set n (.loc b k)) w') o (.loc b k)):aJ N0 w0 nt (σ.cT n o) (φ.set n (.loc b k)) a w':=by
 have fQ:=tq (φ:=φ) (n:=n) (p:=cZ.loc b k) (List.getElem?_eq_some_iff.1 bw).1;have dA:=h.Hp (k:=k) bw g hb
 exact{
  cI:=fun d=>aF.mono dA _ _ (h.cI d) (fun _ _=>trivial)
  size:=h.size
  defers:=h.defers
  len:=by simp[St.cT,dI,h.len]
  cN:=fun m o' p hm hp=>by
   rw[fQ]at hp;simp only[St.cT]at hm;rw[dI,bu,List.getElem?_set]at hm;split at hp
   · rename_i e
     subst e;simp at hp;subst hp;rw[if_pos rfl]at hm;split at hm
     · simp at hm;subst hm;exact ho
     · simp at hm
   · rename_i e
     rw[if_neg e]at hm;exact aH.mono dA (h.cN m o' p (by rw[bu];exact hm) hp) (fun c k' hc cc ee fr hh=>by subst hc;show w'.heap[c]? =_;rw[g.block c (h.own m c k' hp).2];exact hh) (fun _ _ _ _=>trivial)
  own:=fun m c k' hm=>by
   rw[fQ]at hm;split at hm
   · simp at hm
     obtain⟨rfl,rfl⟩:=hm;exact⟨.inl (Nat.le_trans h.below.size hb),o9⟩
   · exact⟨(h.own m c k' hm).1,Nat.lt_of_lt_of_le (h.own m c k' hm).2 g.size⟩
  inj:=fun m m' c k' DF hm jh=>by
   rw[fQ]at hm jh;split at hm<;>split at jh
   · rename_i e1 e2;rw[<-e1,<-e2]
   · simp at hm
     have:=(h.own m' c DF jh).2;omega
   · simp at jh
     have:=(h.own m c k' hm).2;omega
   · exact h.inj m m' c k' DF hm jh
  n0:=h.n0
  kf:=fun m q hf hm hq=>by
   have:=h.kf m q hf hm hq;rw[fQ]
   split
   · rename_i e;subst e;rw[bw]at this;exact absurd (Option.some.inj this).symm hq
   · exact this
  below:=g.below h.below}
theorem eK{b:Nat}: ∀(vs:List Value) (off:Nat) (w:World),(w.setCells b off vs).heap.size=w.heap.size/\(∀c,c≠b->(w.setCells b off vs).heap[c]? =w.heap[c]?)/\
 (w.setCells b off vs).os=w.os/\(w.setCells b off vs).tape=w.tape/\(w.setCells b off vs).output=w.output/\(w.setCells b off vs).drawn=w.drawn/\
 (∀cc e fr,w.heap[b]? =some (.cells cc e fr)-> ∃KN,(w.setCells b off vs).heap[b]? =some (.cells KN e fr)/\KN.size=cc.size)
 | [],off,w=>⟨rfl,fun _ _=>rfl,rfl,rfl,rfl,rfl,fun cc e fr h=>⟨cc,h,rfl⟩⟩
 |v::vs,off,w=>by
  obtain⟨h1,h2,h3,h4,h5,h5',h6⟩:=eK (b:=b) vs (off+1) (w.setCell ⟨b,off,none⟩ v)
  simp only[World.setCells]
  refine⟨by rw[h1];simp,fun c hc=>by rw[h2 c hc];exact Below.heap_setCell _ _ _ _ hc,by rw[h3];rfl,by rw[h4];rfl,by rw[h5];rfl,by rw[h5'];rfl,fun cc e fr N2=> ?_⟩
  obtain⟨KN,u4,Vy⟩:=h6 (cc.setIfInBounds off v) e fr (by
   simp only[World.setCell,Array.getElem?_modify,if_true,N2,Option.map_some]
   simp)
  exact⟨KN,u4,by rw[Vy];simp⟩
theorem aJ.my(_h:aJ N0 w0 nt σ φ a w){n b k:Nat}(off:Nat)(vs:List Value)(hn:φ[n]? =some (.loc b k)):Ext (fun _=>True) (aA N0 φ w) (aA N0 φ (w.setCells b off vs)):=by
 obtain⟨h1,h2,h3,h4,h5,h5',h6⟩:=eK (b:=b) vs off w
 exact{
  size:=by show w.heap.size<=(w.setCells b off vs).heap.size;rw[h1];exact Nat.le_refl _
  Kv:=fun c hc VZ=>⟨VZ,h2 c (fun e=>VZ (.inr ⟨n,k,by rw[e];exact hn⟩))⟩
  refs:=fun m p _ hm _=>hm
  own:=fun m c k' cc e fr _ hm hc=>by
   by_cases hcb:c=b
   · subst hcb
     obtain⟨KN,u4,Vy⟩:=h6 cc e fr hc;exact⟨KN,fr,u4,Vy⟩
   · exact⟨cc,fr,by show(w.setCells b off vs).heap[c]? =_;rw[h2 c hcb];exact hc,rfl⟩}
theorem aJ.write(h:aJ N0 w0 nt σ φ a w){n b k:Nat}{o:Obj}{off:Nat}{vs:List Value}(hn:φ[n]? =some (.loc b k))
 (ho:aH (aA N0 φ (w.setCells b off vs)) o (.loc b k)):aJ N0 w0 nt (σ.cT n o) φ a (w.setCells b off vs):=by
 obtain⟨h1,h2,h3,h4,h5,h5',h6⟩:=eK (b:=b) vs off w;have dA:=h.my off vs hn
 exact{
  cI:=fun d=>aF.mono dA _ _ (h.cI d) (fun _ _=>trivial)
  size:=h.size
  defers:=h.defers
  len:=by simp[St.cT,dI,h.len]
  cN:=fun m o' p hm hp=>by
   simp only[St.cT]at hm;rw[dI,bu,List.getElem?_set]at hm;split at hm
   · rename_i e
     subst e;split at hm
     · simp at hm;subst hm
       rw[hn]at hp;simp at hp;subst hp;exact ho
     · simp at hm
   · rename_i e
     refine aH.mono dA (h.cN m o' p (by rw[bu];exact hm) hp) (fun c k' hc cc ee fr hh=> ?_) (fun _ _ _ _=>trivial)
     subst hc;have hcb:c≠b:=fun e'=>e (h.inj n m b k k' hn (by rw[<-e'];exact hp))
     show(w.setCells b off vs).heap[c]? =_;rw[h2 c hcb];exact hh
  own:=fun m c k' hm=>⟨(h.own m c k' hm).1,by rw[h1];exact(h.own m c k' hm).2⟩
  inj:=h.inj
  n0:=h.n0
  kf:=h.kf
  below:={
   os:=h3.trans h.below.os
   tape:=h4.trans h.below.tape
   output:=h5.trans h.below.output
   drawn:=by rw[h5'];exact h.below.drawn
   size:=by rw[h1];exact h.below.size
   block:=fun c hc hM=>by
    rw[h2 c (fun e=>by
     subst e;rcases(h.own n c k hn).1 with h'|h'
     · omega
     · exact hM h')]
    exact h.below.block c hc hM
   shape:=fun c cc e fr N2=>by
    obtain⟨c',N_,g1,g2⟩:=h.below.shape c cc e fr N2;by_cases hcb:c=b
    · subst hcb
      obtain⟨KN,u4,Vy⟩:=h6 c' e N_ g1;exact⟨KN,N_,u4,Vy.trans g2⟩
    · exact⟨c',N_,by rw[h2 c hcb];exact g1,g2⟩}}
end
end Go.bJ
namespace Go.bJ
open Go.RowKit
section
variable{P:Program}{N0:Nat->Prop}{w0:jO}{nt:Nat}{σ:St}{φ:List cZ}{a:Act}{w:World}
theorem heap_alloc_new(w:World)(o:Go.Obj):(w.alloc o).heap[w.heap.size]? =some o:=by show(w.heap.push o)[w.heap.size]? =some o;simp
theorem rangeAt_alloc{w:World}{vs:List Value}{e:TypeId}{fr:Nat×Nat}{c:Array Value}(h: ∀(j:Nat) (v:Value),vs[j]? =some v->c[j]? =some v):(w.alloc (.cells c e fr)).rangeAt w.heap.size 0 vs:=fun j v hv=>by
 have:=h j v hv;simp only[World.cell?,heap_alloc_new,Nat.zero_add]
 simpa using this
theorem KO{k:Nat}{E:Env}: ∀{es:List A} {vs:List Value},aD E k es vs->es≠ []->bT es=k
 | [],_,_,h=>absurd rfl h
 |e::es,vs,h,_=>by simp only[aD]at h;exact h.1
theorem xi(h:aJ N0 w0 nt σ φ a w){k:Nat}: ∀(ps:List (Nat×Operand)) (es yc:List A) (vs:List Value),aD (aA N0 φ w) k es vs->(∀u∈vs,u.oneCell'=true)->A.pure.aY es=true->iE k σ ps es=some yc->
 ∃kc,Instr.fill (fun i=>some (i*k,k)) vs.toArray (ps.map fun p=>(p.1,a.eval p.2))=some kc.toArray/\aD (aA N0 φ w) k yc kc/\(∀u∈kc,u.oneCell'=true)/\A.pure.aY yc=true
 | [],es,yc,vs,hr,h1,hp,hf=>by simp[iE]at hf;subst hf;exact⟨vs,rfl,hr,h1,hp⟩
 |(i,x)::ps,es,yc,vs,hr,h1,hp,hf=>by
  simp only[iE]at hf;split at hf
  · rename_i hc
    obtain⟨c1,c2,c3,c4⟩:=hc;have hx:=h.ev x;obtain⟨r1,r2,r3⟩:=iH hx c3;have hv:(a.eval x).cells.size=k:=by rw[r3,c1]
    have hn:(σ.ev x).norm.cells.length=k:=by rw[fY,List.length_map,c1]
    have hL:aP (aA N0 φ w) (σ.ev x).norm.cells (a.eval x).cells.toList:=by rw[fY];exact nv r1
    have hlen:=hr.length
    have hle:i*k+k<=vs.length:=by
     rw[hlen]
     calc i*k+k=(i+1)*k:=by rw[Nat.add_mul,Nat.one_mul]
      _<=es.length*k:=Nat.mul_le_mul_right k c2
    have fQ:=aD.set hn hL c2 hr;rw[fE]at hf
    obtain⟨kc,As,Ak,mb,rC⟩:=xi h ps _ yc _ fQ (fun u hu=>by
     simp only[List.mem_append]at hu;rcases hu with(hu|hu)|hu
     · exact h1 u (List.mem_of_mem_take hu)
     · exact r2 u hu
     · exact h1 u (List.mem_of_mem_drop hu)) (cV fun j e he=>by
       rw[List.getElem?_set]at he;split at he
       · first
           |(simp at he;subst he;exact kF c4)
           |(split at he
             · simp at he;subst he;exact kF c4
             · simp at he)
       · exact aI hp he) hf
    refine⟨kc, ?_,Ak,mb,rC⟩
    rw[List.map_cons,Aq rfl hv hle]
    exact As
  · simp at hf
theorem yd(h:aJ N0 w0 nt σ φ a w){d:Option Tmp}{s len:Nat}{ps:Array (Nat×Operand)}{t:TypeId}{p:String}{af:Array Edge}{g:Option (Nat×Bool)}{r:A}
 (hr:e9 P s len σ ps.toList=some r):Good P ⟨d,.buildSlice s len ps,t,p,af,g⟩ a w N0 φ r:=by
 unfold e9 at hr;split at hr
 · rename_i e he
   split at hr
   · rename_i k z hk hz
     split at hr
     · rename_i hc
       obtain⟨kE,ye,hpz,hvz,hcz⟩:=hc;cases hf:iE k σ ps.toList (List.replicate len z.norm)with
       |none=>simp[hf]at hr
       |some es=>
        simp[hf]at hr;subst hr;obtain⟨zv,hzr,Ar⟩:=tp (w:=w) hz;obtain⟨r1,r2,r3⟩:=iH (Ar (aA N0 φ w)) hvz;have hzk:zv.cells.size=k:=by rw[r3,hcz]
        have Zt:aD (aA N0 φ w) k (List.replicate len z.norm) (List.replicate len zv.cells.toList).flatten:=
         aD.replicate (by rw[fY,List.length_map,hcz]) (by rw[fY];exact nv r1) len
        obtain⟨vs,As,hrow,cQ,hpure⟩:=xi h ps.toList _ es _ Zt (fun u hu=>by
         obtain⟨l,hl,hul⟩:=List.mem_flatten.1 hu;rw[List.eq_of_mem_replicate hl]at hul
         exact r2 u hul) (cV fun i x hx=>by
          have:=List.eq_of_mem_replicate (List.mem_of_getElem? hx)
          subst this;exact kF hpz) hf
        have hlen:es.length=len:=by
         have: ∀(ps:List (Nat×Operand)) (es yc:List A),iE k σ ps es=some yc->yc.length=es.length:=by
          intro ps;induction ps with
          |nil=>intro es yc h;simp[iE]at h;rw[h]
          |cons q qs ih=>
           intro es yc h;obtain⟨i,x⟩:=q;simp only[iE]at h;split at h
           · have:=ih _ _ h;rw[this,fE,List.length_set]
           · simp at h
         have:=this _ _ _ hf;simpa using this
        let w':=w.alloc (.cells vs.toArray e)
        have hg:ew w w':=ew.alloc w _;refine⟨.slice (some ⟨w.heap.size,0,none⟩) len len,w', ?_,hg, ?_⟩
        · have hnt: ¬(len*k>2^24):=by omega
          refine w7 (P:=P) ?_;simp only[Instr.buildSlice,Sem.run_bind,run_underlying (du he),Result.andThen_ok,run_sizeOf hk,if_neg hnt]
          have hmap:(Array.map (fun x=>(x.fst,a.eval x.snd)) ps).toList=ps.toList.map fun p=>(p.1,a.eval p.2):=by simp
          rw[hmap]
          have last: ∀cells:Array Value,cells=(List.replicate len zv.cells.toList).flatten.toArray->
           (match Instr.fill (fun i=>some (i*k,k)) cells (ps.toList.map fun p=>(p.1,a.eval p.2))with
            |some cells=>(do
             let Tg<-newRow e cells
             pure (Value.slice (some Tg) len len))
            |_=>stuck "buildSlice: a part of the wrong size" :Sem Value).run P w= .ok (.slice (some ⟨w.heap.size,0,none⟩) len len) w':=by
           rintro cells rfl;rw[As]
           simp only[newRow,Sem.run_bind,run_newObj,Sem.run_pure,Result.andThen_ok]
           rfl
          split
          · rename_i h0
            simp only[Sem.run_bind,Sem.run_pure,Result.andThen_ok]
            refine last _ ?_;rw[h0]
            rcases Nat.mul_eq_zero.1 h0 with h0|h0
            · subst h0;simp
            · exact absurd h0 ye
          · simp only[Sem.run_bind,hzr,Sem.run_pure,Result.andThen_ok]
            refine last _ ?_;apply Array.ext';simp only[Array.toList_map,Array.toList_range]
            have:=KM (z:=zv.cells) len;rw[hzk]at this;rw[hzk]
            exact this
        · simp only[aF]
          refine⟨hpure,some ⟨w.heap.size,0,none⟩,by rw[hlen],fun bU=>⟨w.heap.size,0,rfl,by simp[w',aA], ?_, ?_⟩⟩
          · rintro(h0|⟨n,kk,hn⟩)
            · have:=(h.n0 _ h0).1
              have:=h.below.size;omega
            · have:=(h.own n _ kk hn).2
              omega
          · have hrow':aD (aA N0 φ w') k es vs:=aD.mono (fun x v hx hr=>h.VJ hg hr) hpure hrow
            rw[KO hrow' bU]
            exact aD.mem hrow' (rangeAt_alloc (fun j v hv=>by simpa using hv)) cQ
     · simp at hr
   · simp at hr
 · simp at hr
theorem KP(h:aJ N0 w0 nt σ φ a w){d:Option Tmp}{op:Op}{t:TypeId}{p:String}{af:Array Edge}{g:Option (Nat×Bool)}{r:A}
 (hr:om P σ op=some r):Good P ⟨d,op,t,p,af,g⟩ a w N0 φ r:=by
 unfold om at hr;split at hr
 · obtain rfl:=Option.some.inj hr;exact S8 h
 · obtain rfl:=Option.some.inj hr;exact KI h
 · exact S9 h hr
 · exact Om h hr
 · exact yd h hr
 · exact Ta h hr
 · exact DK h hr
 · exact Og h hr
 · exact Tb h hr
 · exact tn h hr
 · exact DL h hr
 · split at hr
   · rename_i hc
     exact Ol h hc.1 hc.2.1 hc.2.2 hr
   · simp at hr
 · exact Af h hr
 · exact Oi h hr
 · exact Ao h hr
 · exact Oj h hr
 · exact Hm h hr
 · exact VL h hr
 · exact VN h hr
 · exact VO h hr
 · simp at hr
def oo(P:Program)(o:Oper)(a:Act)(w:World)(N0:Nat->Prop)(w0:jO)(nt:Nat)(φ:List cZ)(n:Nat)(ed:St):Prop:=
 ∃v w' eG,((Go.execOp a.eval o).run P w= .ok (.value v) w'\/((Go.execOp a.eval o).run P w= .ok .skip w'/\v=undef))/\aJ N0 w0 nt ed eG (a.put o.dst v) w'/\ ∀m,m≠n->φ[m]? =some .free->eG[m]? =some .free
theorem rD(h:aJ N0 w0 nt σ φ a w){o:Oper}(hd: ∀t,o.dst=some t->t<nt){x:A}(hg:Good P o a w N0 φ x){n:Nat}:oo P o a w N0 w0 nt φ n (σ.put o.dst x):=by obtain⟨v,w',hr,V0,cF⟩:=hg;exact⟨v,w',φ,.inl hr,(h.S7 V0).put hd cF,fun _ _ h=>h⟩
theorem o_(c:Array Value):mw c (0,0):=fun j _ h=>by simp at h
theorem F6(h:aJ N0 w0 nt σ φ a w){o:Oper}(hd: ∀t,o.dst=some t->t<nt){n:Nat}(bw:φ[n]? =some .free){x:A}{v:Value}{e:TypeId}{ed:St}(hx:aF (aA N0 φ w) x v)
 (fR:(Go.execOp a.eval o).run P w= .ok (.value (.pointer (some ⟨w.heap.size,0,none⟩))) (w.alloc (.cells v.cells e)))
 (hr:vd σ n o.dst x=some ed):oo P o a w N0 w0 nt φ n ed:=by
 unfold vd at hr;split at hr
 · rename_i hv
   obtain rfl:=Option.some.inj hr;obtain⟨r1,r2,r3⟩:=iH hx hv;have hn:n<φ.length:=(List.getElem?_eq_some_iff.1 bw).1
   have DP:=h.newObj (k:=0) (o:= .box x.cells) (w':=w.alloc (.cells v.cells e)) bw (ew.alloc w _) (Nat.le_refl w.heap.size) (by simp) (by
    simp only[aH]
    refine⟨⟨v.cells,e,(0,0),heap_alloc_new w _,o_ _⟩,np (vs:=v.cells.toList) (rangeAt_alloc fun j u hu=>by simpa using hu) ?_ r2⟩
    obtain⟨g1,g2⟩:=ba.1 r1;refine ba.2 ⟨g1,fun i y u hy hu=> ?_⟩
    have dA:=h.Hp (k:=0) bw (ew.alloc w (.cells v.cells e)) (Nat.le_refl _)
    exact aF.mono dA y u (g2 i y u hy hu) (fun _ _=>trivial))
   refine⟨_,_,_,.inl fR,DP.put hd ?_,fun m hm hf=>by rw[List.getElem?_set_ne (Ne.symm hm)];exact hf⟩
   simp only[aF]
   exact⟨w.heap.size,0,by show(φ.set n _)[n]? =_;simp[hn],rfl⟩
 · simp at hr
end
end Go.bJ
namespace Go.bJ
open Go.RowKit
section
variable{P:Program}{N0:Nat->Prop}{w0:jO}{nt:Nat}{σ:St}{φ:List cZ}{a:Act}{w:World}
theorem KQ(h:aJ N0 w0 nt σ φ a w){d:Option Tmp}{e:TypeId}{x:Operand}{t:TypeId}{p:String}{af:Array Edge}{g:Option (Nat×Bool)}(hd: ∀t,d=some t->t<nt){n:Nat}(bw:φ[n]? =some .free){ed:St}
 (hr:vd σ n d (σ.ev x)=some ed):oo P ⟨d,.box e x,t,p,af,g⟩ a w N0 w0 nt φ n ed:=
 F6 (o:=⟨d,.box e x,t,p,af,g⟩) h hd bw (h.ev x) (w7 (by simp[Instr.box,newVar,newRow];rfl)) hr
theorem KR(h:aJ N0 w0 nt σ φ a w){d:Option Tmp}{e:TypeId}{t:TypeId}{p:String}{af:Array Edge}{g:Option (Nat×Bool)}(hd: ∀t,d=some t->t<nt){n:Nat}(bw:φ[n]? =some .free){ed:St}
 (hr:ni σ n d (dt P e)=some ed):oo P ⟨d,.alloc e,t,p,af,g⟩ a w N0 w0 nt φ n ed:=by
 cases hz:dt P e with
 |none=>simp[hz,ni]at hr
 |some z=>
  rw[hz]at hr;simp only[ni]at hr;obtain⟨zv,hzr,Ar⟩:=tp (w:=w) hz;refine F6 (o:=⟨d,.alloc e,t,p,af,g⟩) (e:=e) h hd bw (Ar _) (w7 ?_) hr;simp only[Instr.alloc,Sem.run_bind,hzr,Result.andThen_ok,newVar,newRow,run_newObj,Sem.run_pure]
  rfl
theorem xj{t:TypeId}{v:Value}{b off:Nat}(kE:aX P t=some v.cells.size)(ht:w.there b off v.cells.size)(h1: ∀u∈v.cells.toList,u.oneCell'=true):
 (Instr.storeAt t (.pointer (some ⟨b,off,none⟩)) v).run P w= .ok () (w.setCells b off v.cells.toList):=by
 have:=run_storeCells_cells (P:=P) b off v.cells.toList 0 w (fun j hj=>by simpa using(ht j (by simpa using hj)).1) (fun j hj=>by simpa using(ht j (by simpa using hj)).2) h1;simp only[Nat.add_zero]at this;simp[Instr.storeAt,Instr.sureAddr,storeVar,run_sizeOf kE,this]
theorem pa{b off n:Nat}{c:Array Value}{e:TypeId}{fr:Nat×Nat}(hb:w.heap[b]? =some (.cells c e fr))(hf:mw c fr)(hl:off+n<=c.size):w.there b off n:=fun j hj=>by
 have aw:off+j<c.size:=by omega
 refine⟨by simp[World.cell?,hb,aw], ?_⟩
 simp only[World.frozen?,hb]
 have:=hf (off+j) aw;simpa using this
theorem jI{b off:Nat}{vs:List Value}(ht:w.there b off vs.length)(o:Nat):(w.setCells b off vs).cell? ⟨b,o,none⟩=if off<=o/\o<off+vs.length then vs[o-off]? else w.cell? ⟨b,o,none⟩:=by
 split
 · rename_i hc
   have:=World.cell?_setCells_in b vs off w (fun j hj=>(ht j hj).1) (o-off) (by omega)
   rw[show off+(o-off)=o by omega]at this;rw[this,List.getElem?_eq_getElem (by omega)]
 · rename_i hc
   exact World.cell?_setCells_out b vs off w ⟨b,o,none⟩ (fun _ _=>by show o<off\/off+vs.length<=o;omega)
theorem xk{E E':Env}(dA: ∀x v,aF E x v->aF E' x v){b off:Nat}{vs:List Value}{cs ys:List A}{base:Nat}(hw:E'.w=E.w.setCells b (base+off) vs)(ht:E.w.there b (base+off) vs.length)(hm:fJ E b base cs)(hL:aP E ys vs)(cQ: ∀u∈vs,u.oneCell'=true)
 (hle:off+ys.length<=cs.length):fJ E' b base (dY cs off ys):=by
 obtain⟨g1,g2⟩:=ba.1 hL;refine bc.2 fun i x hx=> ?_;rw[hw,jI ht]
 unfold dY at hx;by_cases h1:i<off
 · rw[List.append_assoc,List.getElem?_append_left (by simp;omega),List.getElem?_take,if_pos h1]at hx
   rw[if_neg (by omega)]
   obtain⟨v,hv,h2,hr⟩:=bc.1 hm i x hx;exact⟨v,hv,h2,dA x v hr⟩
 · by_cases h2:i<off+ys.length
   · rw[List.append_assoc,List.getElem?_append_right (by simp;omega),List.getElem?_append_left (by simp;omega)]at hx
     have hlen:(cs.take off).length=off:=by simp;omega
     rw[hlen]at hx;rw[if_pos (by omega)]
     have aw:i-off<vs.length:=by omega
     refine⟨vs[i-off], ?_,cQ _ (List.getElem_mem _),dA _ _ (g2 (i-off) x _ hx (List.getElem?_eq_getElem aw))⟩
     rw[show base+i-(base+off)=i-off by omega,List.getElem?_eq_getElem aw]
   · rw[List.getElem?_append_right (by simp;omega),List.getElem?_drop]at hx
     have hlen:(cs.take off++ys).length=off+ys.length:=by simp;omega
     rw[hlen,show off+ys.length+(i-(off+ys.length))=i by omega]at hx;rw[if_neg (by omega)]
     obtain⟨v,hv,h3,hr⟩:=bc.1 hm i x hx;exact⟨v,hv,h3,dA x v hr⟩
theorem Aw{E:Env}{b base:Nat}{c:Array Value}{e:TypeId}{fr:Nat×Nat}{cs:List A}(hb:E.w.heap[b]? =some (.cells c e fr))(hm:fJ E b base cs):base+cs.length<=c.size\/cs=[]:=by
 cases zw:cs with
 |nil=>exact .inr rfl
 |cons y ys=>
  left;have aw:cs.length-1<cs.length:=by rw[zw];simp
  obtain⟨v,hv,_⟩:=bc.1 hm (cs.length-1) _ (List.getElem?_eq_getElem aw)
  simp only[World.cell?,hb]at hv
  have:base+(cs.length-1)<c.size:=by
   rcases Nat.lt_or_ge (base+(cs.length-1)) c.size with h|h
   · exact h
   · simp[Array.getElem?_eq_none h]at hv
  rw[<-zw]
  omega
theorem KS(h:aJ N0 w0 nt σ φ a w){d:Option Tmp}{s:TypeId}{x y:Operand}{t:TypeId}{p:String}{af:Array Edge}{g:Option (Nat×Bool)}(hd: ∀t,d=some t->t<nt){n:Nat}{ed:St}
 (hr:nj σ d (aX P s) (σ.ev x) (σ.ev y)=some ed):oo P ⟨d,.store s x y,t,p,af,g⟩ a w N0 w0 nt φ n ed:=by
 have hx:=h.ev x;have hy:=h.ev y;cases hc:σ.ev x<;>simp only[hc,nj]at hr<;>try(simp at hr;done)
 · rename_i n off
   rw[hc]at hx;simp only[aF]at hx;obtain⟨b,k,eV,hv⟩:=hx;split at hr
   · rename_i cs ho
     split at hr
     · rename_i di
       obtain⟨c1,c2,c3⟩:=di;obtain rfl:=Option.some.inj hr;obtain⟨r1,r2,r3⟩:=iH hy c3;have eZ:=h.cN n _ _ ho eV;simp only[aH]at eZ;obtain⟨⟨c,e,fr,hb,hf⟩,hm⟩:=eZ
       have kE:cs.length<=c.size:=by
        rcases Aw hb hm with h|h
        · omega
        · subst h;simp
       have ht:w.there b off (a.eval y).cells.size:=pa hb hf (by omega)
       have ht':w.there b (0+off) (a.eval y).cells.toList.length:=by simpa using ht
       obtain⟨KN,pc,hss'⟩:=(eK (b:=b) (a.eval y).cells.toList off w).2.2.2.2.2.2 c e fr hb;have dA:=h.my off (a.eval y).cells.toList eV
       have hw:=h.write (o:= .box (dY cs off (σ.ev y).cells)) (off:=off) (vs:=(a.eval y).cells.toList) eV (by
        simp only[aH]
        exact⟨⟨KN,e,fr,pc,fun j hj=>hf j (by omega)⟩,xk (fun x v hr=>aF.mono dA x v hr (fun _ _=>trivial)) (by simp[aA]) ht' hm r1 r2 c2⟩)
       refine⟨undef,_,φ,.inr ⟨?_,rfl⟩,hw.put hd (vk _),fun _ _ h=>h⟩
       refine run_u (s:=Instr.storeAt s (a.eval x) (a.eval y)) ?_;rw[hv]
       exact xj (by rw[r3];exact c1) ht r2
     · simp at hr
   · simp at hr
 · rename_i n i off
   rw[hc]at hx;simp only[aF]at hx;obtain⟨b,k,eV,hv⟩:=hx;split at hr
   · rename_i k' es ho
     cases hi:es[i]? with
     |none=>simp[hi]at hr
     |some e=>
      simp only[hi,Option.bind_some]at hr;split at hr
      · rename_i di
        obtain⟨c1,c2,c0,c3,c4⟩:=di;obtain rfl:=Option.some.inj hr;obtain⟨r1,r2,r3⟩:=iH hy c3;have eZ:=h.cN n _ _ ho eV;simp only[aH]at eZ;obtain⟨rfl,hp,⟨c,ee,fr,hb,hf⟩,hE⟩:=eZ;obtain⟨hlen,hm⟩:=cU.1 hE i e hi;rw[Nat.zero_add]at hm
        have kE:i*k'+e.cells.length<=c.size:=by
         rcases Aw hb hm with h|h
         · exact h
         · exfalso
           have h':(σ.ev y).cells.length<=e.cells.length:=by omega
           rw[h]at h';exact c0 (by simpa using h')
        have o9:w.heap[b]? =some (.cells c ee fr):=hb;have ht:w.there b (i*k'+off) (a.eval y).cells.size:=pa o9 hf (by omega)
        have ht':w.there b (i*k'+off) (a.eval y).cells.toList.length:=by simpa using ht
        obtain⟨KN,pc,hss'⟩:=(eK (b:=b) (a.eval y).cells.toList (i*k'+off) w).2.2.2.2.2.2 c ee fr hb;have dA:=h.my (i*k'+off) (a.eval y).cells.toList eV;have r1':aP (aA N0 φ w) (σ.ev y).norm.cells (a.eval y).cells.toList:=by rw[fY];exact nv r1
        have V3:(σ.ev y).norm.cells.length=(σ.ev y).cells.length:=by rw[fY,List.length_map]
        have N1:=aI hp hi
        have Zu:(kT e off (σ.ev y)).cells=dY e.cells off (σ.ev y).norm.cells/\(kT e off (σ.ev y)).pure=true:=by
         cases e
         case agg cs=>
          simp only[kT,A.cells,true_and,A.pure]
          refine cV fun j z hz=> ?_;unfold dY at hz;have gW:=List.mem_of_getElem? hz;simp only[List.mem_append]at gW;have hpcs:A.pure.aY cs=true:=by simpa only[A.pure]using N1
          have hpy:=k_ (kF c4)
          rcases gW with(jh|jh)|jh
          · obtain⟨q,hq⟩:=List.getElem?_of_mem (List.mem_of_mem_take jh);exact aI hpcs hq
          · obtain⟨q,hq⟩:=List.getElem?_of_mem jh;exact aI hpy hq
          · obtain⟨q,hq⟩:=List.getElem?_of_mem (List.mem_of_mem_drop jh);exact aI hpcs hq
         all_goals
          refine⟨?_,kF c4⟩
          have c2':off+(σ.ev y).cells.length<=1:=c2;have e0:off=0:=by omega
          have e1:(σ.ev y).norm.cells.length=1:=by omega
          subst e0;show(σ.ev y).norm.cells=List.take 0 _++(σ.ev y).norm.cells++List.drop (0+(σ.ev y).norm.cells.length) [_]
          rw[List.drop_of_length_le (by simp;omega)]
          simp
        have hw:=h.write (o:= .row k' (cn es i (kT e off (σ.ev y)))) (off:=i*k'+off) (vs:=(a.eval y).cells.toList) eV (by
         simp only[aH]
         refine⟨trivial, ?_,⟨KN,ee,fr,pc,fun j hj=>hf j (by omega)⟩, ?_⟩
         · rw[fE]
           refine cV fun j z hz=> ?_;rw[List.getElem?_set]at hz;split at hz
           · first
              |(simp at hz;subst hz;exact Zu.2)
              |(split at hz
                · simp at hz;subst hz;exact Zu.2
                · simp at hz)
           · exact aI hp hz
         · rw[fE]
           refine cU.2 fun j z hz=> ?_;rw[List.getElem?_set]at hz;by_cases Th:i=j
           · subst Th
             have hz':z=kT e off (σ.ev y):=by have aw:=(List.getElem?_eq_some_iff.1 hi).1;simp[aw]at hz;exact hz.symm
             subst hz';rw[Zu.1,Nat.zero_add]
             refine⟨by unfold dY;simp;omega, ?_⟩
             exact xk (fun x v hr=>aF.mono dA x v hr (fun _ _=>trivial)) rfl ht' hm r1' r2 (by omega)
           · rw[if_neg Th]at hz
             obtain⟨hl,hmm⟩:=cU.1 hE j z hz;refine⟨hl,bc.2 fun q u hu=> ?_⟩
             obtain⟨v,vl,h1,Ti⟩:=bc.1 hmm q u hu;refine⟨v, ?_,h1,aF.mono dA u v Ti (fun _ _=>trivial)⟩
             show(w.setCells b (i*k'+off) (a.eval y).cells.toList).cell? _=_;have hq:q<k':=by rw[<-hl];exact(List.getElem?_eq_some_iff.1 hu).1
             have hlen':(a.eval y).cells.toList.length=(σ.ev y).cells.length:=by simpa using r3
             rw[jI ht',if_neg]
             · exact vl
             · rintro⟨q1,q2⟩
               rw[hlen']at q2;rcases Nat.lt_or_gt_of_ne Th with aw|hgt
               · have:(i+1)*k'<=j*k':=Nat.mul_le_mul_right k' aw
                 rw[Nat.add_mul,Nat.one_mul]at this;omega
               · have:(j+1)*k'<=i*k':=Nat.mul_le_mul_right k' hgt
                 rw[Nat.add_mul,Nat.one_mul]at this;omega)
        refine⟨undef,_,φ,.inr ⟨?_,rfl⟩,hw.put hd (vk _),fun _ _ h=>h⟩
        refine run_u (s:=Instr.storeAt s (a.eval x) (a.eval y)) ?_;rw[hv]
        exact xj (by rw[r3];exact c1) ht r2
      · simp at hr
   · simp at hr
end
end Go.bJ
namespace Go.bJ
open Go.RowKit
section
variable{P:Program}{N0:Nat->Prop}{w0:jO}{nt:Nat}{σ:St}{φ:List cZ}{a:Act}{w:World}
theorem mz(n:Nat): ∀(s:List (Nat×A)) (d:Nat),look (s.map fun p=>(p.1,dT n p.2)) d=dT n (look s d)
 | [],d=>by simp[look,dT,A.mem]
 |(i,v)::s,d=>by
  simp only[List.map_cons,look]
  split
  · rfl
  · exact mz n s d
theorem Ax(n:Nat)(x:A):(dT n x).mem n=false:=by
 unfold dT;split
 · rfl
 · rename_i h;simpa using h
theorem F7{E:Env}{n:Nat}{x:A}{v:Value}(h:aF E x v):aF E (dT n x) v:=by
 unfold dT;split
 · simp only[aF]
 · exact h
theorem Ay(n:Nat): ∀cs:List A,A.mem.fI n (cs.map (dT n))=false
 | []=>rfl
 |c::cs=>by simp[A.mem.fI,Ax,Ay n cs]
theorem Az(f:Obj->Obj)(H:List Obj)(n:Nat):bX (H.map f) n=(bX H n).map f:=by simp[bu,List.getElem?_map]
def Clear(σ:St)(n:Nat):Prop:=(∀d,(look σ.s d).mem n=false)/\ ∀(m:Nat) (cs:List A),bX σ.H m=some (.box cs)->A.mem.fI n cs=false
theorem aJ.fp(h:aJ N0 w0 nt σ φ a w)(n:Nat):aJ N0 w0 nt (σ.fp n) φ a w:=by
 exact{h with
  cI:=fun d=>by
   show aF _ (look (σ.s.map fun p=>(p.1,dT n p.2)) d) _;rw[mz]
   exact F7 (h.cI d)
  len:=by simp[St.fp,h.len]
  cN:=fun m o p ho hp=>by
   simp only[St.fp]at ho;rw[Az]at ho;cases hm:bX σ.H m with
   |none=>simp[hm]at ho
   |some o'=>
    simp[hm]at ho;subst ho;have eZ:=h.cN m o' p hm hp;cases o' with
    |row k es=>exact eZ
    |box cs=>
     cases p with
     |loc b k=>
      simp only[ng,aH]at eZ⊢;refine⟨eZ.1,bc.2 fun i x hx=> ?_⟩
      rw[List.getElem?_map]at hx;cases hc:cs[i]? with
      |none=>simp[hc]at hx
      |some c=>
       simp[hc]at hx;subst hx;obtain⟨v,hv,h1,hr⟩:=bc.1 eZ.2 i c hc;exact⟨v,hv,h1,F7 hr⟩
     |nil=>simp[aH]at eZ
     |free=>simp[aH]at eZ
  size:=h.size
  defers:=h.defers}
theorem xm(σ:St)(n:Nat):Clear (σ.fp n) n:=by
 refine⟨fun d=> ?_,fun m cs hm=> ?_⟩
 · show(look (σ.s.map fun p=>(p.1,dT n p.2)) d).mem n=false
   rw[mz];exact Ax n _
 · simp only[St.fp]at hm
   rw[Az]at hm;cases ho:bX σ.H m with
   |none=>simp[ho]at hm
   |some o=>
    simp[ho]at hm;cases o with
    |row k es=>simp[ng]at hm
    |box ds=>simp[ng]at hm;subst hm;exact Ay n ds
theorem aJ.rehome(h:aJ N0 w0 nt σ φ a w){n:Nat}(s8:w0.fix n=false)(jg:Clear σ n)(hn:n<φ.length){p:cZ}{o:Obj}{w':World}(g:ew w w')
 (hp: ∀b k,p=cZ.loc b k->w.heap.size<=b/\b<w'.heap.size)
 (ho: ∀dA:Ext (fun m=>m≠n) (aA N0 φ w) (aA N0 (φ.set n p) w'),aH (aA N0 (φ.set n p) w') o p):aJ N0 w0 nt (σ.cT n o) (φ.set n p) a w'/\Ext (fun m=>m≠n) (aA N0 φ w) (aA N0 (φ.set n p) w'):=by
 have fQ:=tq (φ:=φ) (n:=n) (p:=p) hn
 have dA:Ext (fun m=>m≠n) (aA N0 φ w) (aA N0 (φ.set n p) w'):={
  size:=g.size
  Kv:=fun c hc VZ=>⟨by
   rintro(h0|⟨m,k',hm⟩)
   · exact VZ (.inl h0)
   · rw[fQ]at hm
     split at hm
     · simp at hm
       have:=(hp c k' hm).1;have:c<w.heap.size:=hc;omega
     · exact VZ (.inr ⟨m,k',hm⟩),g.block c hc⟩
  refs:=fun m q hmn hm _=>by show(φ.set n p)[m]? =some q;rw[fQ,if_neg (fun e=>hmn e.symm)];exact hm
  own:=fun m c k' cc e fr _ hm hc=>⟨cc,fr,by show w'.heap[c]? =_;rw[g.block c (h.own m c k' hm).2];exact hc,rfl⟩}
 refine⟨{
  cI:=fun d=>aF.mono dA _ _ (h.cI d) (fun m hm e=>by subst e;have jh:A.mem m (look σ.s d)=true:=hm;rw[jg.1 d]at jh;cases jh)
  size:=h.size
  defers:=h.defers
  len:=by simp[St.cT,dI,h.len]
  cN:=fun m o' q hm hq=>by
   rw[fQ]at hq;simp only[St.cT]at hm;rw[dI,bu,List.getElem?_set]at hm;split at hq
   · rename_i e
     subst e;simp at hq;subst hq;rw[if_pos rfl]at hm;split at hm
     · simp at hm;subst hm;exact ho dA
     · simp at hm
   · rename_i e
     rw[if_neg e]at hm;have jh:bX σ.H m=some o':=by rw[bu];exact hm
     exact aH.mono dA (h.cN m o' q jh hq) (fun c k' hc cc ee fr hh=>by subst hc;show w'.heap[c]? =_;rw[g.block c (h.own m c k' hq).2];exact hh) (fun cs zw m' hm'' e'=>by subst zw;subst e';rw[jg.2 m cs jh]at hm'';cases hm'')
  own:=fun m c k' hm=>by
   rw[fQ]at hm;split at hm
   · simp at hm
     have:=hp c k' hm;exact⟨.inl (Nat.le_trans h.below.size this.1),this.2⟩
   · exact⟨(h.own m c k' hm).1,Nat.lt_of_lt_of_le (h.own m c k' hm).2 g.size⟩
  inj:=fun m m' c k' DF hm jh=>by
   rw[fQ]at hm jh;split at hm<;>split at jh
   · rename_i e1 e2;rw[<-e1,<-e2]
   · simp at hm
     have:=(hp c k' hm).1;have:=(h.own m' c DF jh).2;omega
   · simp at jh
     have:=(hp c DF jh).1;have:=(h.own m c k' hm).2;omega
   · exact h.inj m m' c k' DF hm jh
  n0:=h.n0
  kf:=fun m q hf hm hq=>by
   rw[fQ,if_neg (fun e=>by subst e;rw[s8]at hf;cases hf)]
   exact h.kf m q hf hm hq
  below:=g.below h.below},dA⟩
end
end Go.bJ
namespace Go.bJ
open Go.RowKit
section
variable{P:Program}{N0:Nat->Prop}{w0:jO}{nt:Nat}{σ:St}{φ:List cZ}{a:Act}{w:World}
theorem mA{E:Env}{tx e':TypeId}(hk:P.underlying tx=some (.slice e')){es:List A}{k:Nat}{q:Option Addr}{cap:Nat}
 (hr:es≠ []-> ∃b off,q=some ⟨b,off,none⟩/\eo E k b off es): ∃news,Src P k tx (.slice q es.length cap) es.length news E.w/\aD E k es news:=by
 cases An:es with
 |nil=>
  refine⟨[], ?_,by simp[aD]⟩
  cases q with
  |none=>exact Src.ofNil E.w hk cap
  |some q=>exact Src.ofSlice E.w hk q 0 cap [] (by simp) (by simp) (by simp)
 |cons y ys=>
  rw[<-An]
  obtain⟨b,off,rfl,hE⟩:=hr (by rw[An];simp)
  obtain⟨vs,h1,h2,h3⟩:=aD.Av hE;refine⟨vs,Src.ofSlice E.w hk ⟨b,off,none⟩ es.length cap vs h1.length (fun j u hu=> ?_) h3,h1⟩
  rw[Addr.add_lit]
  exact h2 j u hu
theorem vp(E:Env): ∀s:List UInt8,aD E 1 (dh s) (s.map fun b=>Value.int .u8 b.toNat)
 | []=>by simp[dh,aD]
 |c::s=>by
  simp only[dh,List.map_cons,aD]
  refine⟨rfl,by simp, ?_, ?_⟩
  · simp[gS,A.cells,aP,aF]
  · simpa[dh]using vp E s
theorem r_: ∀s:List UInt8,A.pure.aY (dh s)=true
 | []=>rfl
 |c::s=>by simp only[dh,List.map_cons,A.pure.aY,gS,A.pure,Bool.true_and];exact r_ s
theorem Tj(h:aJ N0 w0 nt σ φ a w){e tx k:Nat}{x:Operand}{src:List A}(hs:xZ P σ e tx k (σ.ev x)=some src):
 ∃news,Src P k tx (a.eval x) src.length news w/\aD (aA N0 φ w) k src news/\A.pure.aY src=true:=by
 have hx:=h.ev x
 have Q2: ∀{es:List A},j7 k es=true->es≠ []->bT es=k:=fun{es} h1 h2=>by
  unfold j7 at h1;cases es with
  |nil=>exact absurd rfl h2
  |cons y ys=>simpa using h1
 have oP: ∀{t:TypeId},(aR P t).isSome=true-> ∃e',P.underlying t=some (.slice e'):=fun{t} ht=>by
  cases hq:aR P t with
  |none=>simp[hq]at ht
  |some e'=>exact⟨e',du hq⟩
 cases hc:σ.ev x<;>simp only[hc,xZ]at hs<;>try(simp at hs;done)
 case str s=>
  split at hs
  · rename_i di
    obtain⟨_,rfl,ht⟩:=di;obtain rfl:=Option.some.inj hs;rw[hc]at hx;simp only[aF]at hx;rw[hx]
    have:=Src.ofString (P:=P) w (iV ht) ⟨s.toArray⟩
    refine⟨byteCells ⟨s.toArray⟩, ?_, ?_,r_ s⟩
    · simpa[dh,nr]using this
    · simpa[byteCells]using vp (aA N0 φ w) s
  · simp at hs
 case ad es=>
  split at hs
  · rename_i di
    obtain rfl:=Option.some.inj hs;obtain⟨e',u5⟩:=oP di.2;rw[hc]at hx;simp only[aF]at hx;obtain⟨hp,q,cap,hv,qn,hl⟩:=hx;rw[hv]
    obtain⟨news,h1,h2⟩:=mA (E:=aA N0 φ w) (k:=k) (q:=q) (cap:=cap) u5 (es:=es) (fun bU=>by obtain⟨b,off,h1,_,_,h2⟩:=hl bU;rw[Q2 di.1 bU]at h2;exact⟨b,off,h1,h2⟩)
    exact⟨news,h1,h2,hp⟩
  · simp at hs
 case clip es=>
  split at hs
  · rename_i di
    obtain rfl:=Option.some.inj hs;obtain⟨e',u5⟩:=oP di.2;rw[hc]at hx;simp only[aF]at hx;obtain⟨hp,q,hv,hl⟩:=hx;rw[hv]
    obtain⟨news,h1,h2⟩:=mA (E:=aA N0 φ w) (k:=k) (q:=q) (cap:=es.length) u5 (es:=es) (fun bU=>by obtain⟨b,off,h1,_,_,h2⟩:=hl bU;rw[Q2 di.1 bU]at h2;exact⟨b,off,h1,h2⟩)
    exact⟨news,h1,h2,hp⟩
  · simp at hs
 case bK=>
  split at hs
  · rename_i di
    obtain rfl:=Option.some.inj hs;obtain⟨e',u5⟩:=oP di;rw[hc]at hx;simp only[aF]at hx;rw[hx]
    exact⟨[],Src.ofNil w u5 0,by simp[aD],rfl⟩
  · simp at hs
 case emp c=>
  split at hs
  · rename_i di
    obtain rfl:=Option.some.inj hs;obtain⟨e',u5⟩:=oP di;rw[hc]at hx;simp only[aF]at hx;obtain⟨q,cap,hv,_⟩:=hx;rw[hv]
    obtain⟨news,h1,h2⟩:=mA (E:=aA N0 φ w) (k:=k) (q:=q) (cap:=cap) u5 (es:=[]) (fun bU=>absurd rfl bU)
    exact⟨news,h1,h2,rfl⟩
  · simp at hs
 case row n off k' len cl=>
  split at hs
  · rename_i di
    obtain⟨rfl,ht⟩:=di;obtain⟨e',u5⟩:=oP ht;unfold fN at hs;split at hs
    · rename_i es rE
      obtain rfl:=Option.some.inj hs;split at rE
      · rename_i DF fs ho
        split at rE
        · rename_i hlen
          obtain⟨rfl,hlen⟩:=hlen;simp only[Option.some.injEq,A.ad.injEq]at rE;subst rE;rw[hc]at hx;have hl:((fs.drop off).take len).length=len:=by simp;omega
          simp only[aF]at hx;rcases hx with⟨o,eV,hf,rfl,_,q,hv⟩|⟨b,cap,c',e'',fr,eV,hv,qn,_,hb,_⟩
          · rw[hv]
            obtain⟨news,h1,h2⟩:=mA (E:=aA N0 φ w) (k:=DF) (q:=q) (cap:=0) u5 (es:=[]) (fun bU=>absurd rfl bU)
            exact⟨news,by simpa[aA]using h1,by simpa using h2,by simp[A.pure.aY]⟩
          · have eZ:=h.cN n _ _ ho eV
            simp only[aH]at eZ;obtain⟨_,hp,_,hE⟩:=eZ;have Vh:=mv (n:=len) (vh (n:=off) hE)
            have rC:=k9 (n:=len) (kZ (n:=off) hp)
            rw[hv]
            obtain⟨news,h1,h2⟩:=mA (E:=aA N0 φ w) (k:=DF) (q:=some ⟨b,off*DF,none⟩) (cap:=cap) u5 (es:=(fs.drop off).take len) (fun _=>⟨b,_,rfl,by simpa using Vh⟩)
            rw[hl]at h1;exact⟨news,by rw[hl];exact h1,h2,rC⟩
        · simp at rE
      · simp at rE
    · simp at hs
  · simp at hs
theorem F8{E':Env}{B k:Nat}{e:TypeId}{vs:List Value}{zs:Array Value}{es:List A}(hB:E'.w.heap[B]? =some (.cells (vs.toArray++zs) e (0,0)))
 (hr:aD E' k es vs) (cQ: ∀u∈vs,u.oneCell'=true) (hp:A.pure.aY es=true):aH E' (.row k es) (.loc B k):=by
 simp only[aH]
 refine⟨trivial,hp,⟨_,e,(0,0),hB,o_ _⟩,aD.mem hr (fun j u hu=> ?_) cQ⟩
 have aw:=(List.getElem?_eq_some_iff.1 hu).1;simp only[World.cell?,hB,Nat.zero_add]
 have:=Array.getElem?_append_left (xs:=vs.toArray) (ys:=zs) (i:=j) (by simpa using aw)
 simp only[this]
 simpa using hu
structure Q3(P:Program)(t e:TypeId)(k:Nat)(i:TypeInfo)(z:Value):Prop where
 ty:P.underlying t=some (.slice e)
 info:P.info? e=some i
 size:i.size=k
 zero:i.zero=some z
 cells:z.cells.size=k
 pos:k≠0
 bytes:i.bytes≠0
theorem app_ty{t e:TypeId}{k:Nat}(he:aR P t=some e)(hk:aX P e=some k)(h0:k≠0)(hb:eC P e≠0)(hz:ik P e k=true): ∃i z,Q3 P t e k i z/\i.bytes=eC P e:=by
 have hty:=du he;unfold aX at hk;cases hi:P.info? e with
 |none=>simp[hi]at hk
 |some i=>
  simp[hi]at hk;unfold ik at hz;cases hzz:dt P e with
  |none=>simp[hzz]at hz
  |some zz=>
   rw[hzz]at hz;simp only[Bool.and_eq_true,beq_iff_eq]at hz;have hz0:=hzz;unfold dt at hz0;simp only[hi,Option.bind_some]at hz0;cases hiz:i.zero with
   |none=>simp[hiz]at hz0
   |some z=>
    simp[hiz]at hz0;have cF:=Hl (aA (fun _=>False) [] (default:World)) z;rw[hz0]at cF;obtain⟨_,_,h3⟩:=iH cF hz.1;have VP:i.bytes=eC P e:=by simp[eC,Program.bytesOf,hi]
    exact⟨i,z,⟨hty,hi,hk,hiz,by rw[h3];exact hz.2,h0,by rw[VP];exact hb⟩,VP⟩
theorem jP{d:Option Tmp}{b x:Operand}{t tx ty:TypeId}{p:String}{af:Array Edge}{g:Option (Nat×Bool)}{v:Value}{w':World}
 (h:(Builtin.append_ #[t,tx] ty #[a.eval b,a.eval x]).run P w= .ok v w'):
 (Go.execOp a.eval ⟨d,.call ⟨.builtin .append,⟨[b,x]⟩,⟨[t,tx]⟩⟩,ty,p,af,g⟩).run P w= .ok (.value v) w':=by
 obtain⟨cs,zw⟩:=oW (P:=P) (a:=a) (w:=w) (b:= .append) (xs:=[b,x]) (us:=⟨[t,tx]⟩) (d:=d) (t:=ty) (p:=p) (af:=af) (g:=g)
 rw[zw]
 exact w7 (s:=Builtin.append_ #[t,tx] ty #[a.eval b,a.eval x]) h
end
end Go.bJ
namespace Go.bJ
open Go.RowKit
section
variable{P:Program}{N0:Nat->Prop}{w0:jO}{nt:Nat}{σ:St}{φ:List cZ}{a:Act}{w:World}
theorem V4{k cap:Nat}{q:Option Addr}:(Builtin.firstCells k 0 (.slice q 0 cap)).run P w= .ok (#[]:Array Value) w:=by
 cases q with
 |none=>exact run_firstCells_none w k 0 0 cap
 |some q=>
  have:=run_firstCells_some (P:=P) w k 0 q 0 cap [] (by simp) (by simp)
  simpa using this
theorem KT{k len cap b off:Nat}{vs:List Value}(hl:vs.length=len*k)(hr:w.rangeAt b off vs):(Builtin.firstCells k len (.slice (some ⟨b,off,none⟩) len cap)).run P w= .ok vs.toArray w:=
 run_firstCells_some w k len ⟨b,off,none⟩ len cap vs hl (fun j v hv=>by rw[Addr.add_lit];exact hr j v hv)
theorem KU{t e k tx ty:Nat}{i:TypeInfo}{z:Value}(hT:Q3 P t e k i z){q:Option Addr}{tt yf n:Nat}{olds news:List Value}{x:Value}
 (hold:(Builtin.firstCells k tt (.slice q tt yf)).run P w.drew= .ok olds.toArray w.drew) (ya:olds.length=tt*k) (hs:Src P k tx x n news w)
 (hg:yf<tt+n) (DO:(tt+n)*i.bytes<=140737488355328):
 ∃w' c zs,(Builtin.append_ #[t,tx] ty #[.slice q tt yf,x]).run P w= .ok (.slice (some ⟨w.heap.size,0,none⟩) (tt+n) c) w'/\ew w w'/\w.heap.size<w'.heap.size/\tt+n<=c/\
  w'.heap[w.heap.size]? =some (.cells ((olds++news).toArray++zs) e (0,0))/\k*c<=((olds++news).toArray++zs).size:=by
 obtain⟨h1,h2,rfl,h4,h5,h6,h7⟩:=hT;have Vg:1<=i.bytes:=by omega
 have h63:tt+n<=140737488355328:=Nat.le_trans (Nat.le_mul_of_pos_right _ Vg) DO;have Te:=grownCap_ge w (tt+n) yf e;refine⟨_,grownCap w (tt+n) yf e,Builtin.zeroCells z.cells (grownCap w (tt+n) yf e-(tt+n)),run_append_grow_src (P:=P) w t tx ty e i z h1 h2 h4 q tt yf olds hold x n news hs hg (by omega) (growslice_fits hg DO), ?_, ?_,Te, ?_, ?_⟩
 · exact(ew.drew w).trans (ew.alloc _ _)
 · simp
 · exact heap_alloc_new w.drew _
 · have V3:=hs.newsLen
   simp only[Array.size_append,List.size_toArray,List.length_append,ya,V3,size_zeroCells,h5]
   rw[<-Nat.add_mul,<-Nat.add_mul,Nat.mul_comm]
   exact Nat.mul_le_mul_right _ (by omega)
theorem aJ.ext_nil(_h:aJ N0 w0 nt σ φ a w){n:Nat}(bw:φ[n]? =some .free):Ext (fun _=>True) (aA N0 φ w) (aA N0 (φ.set n .nil) w):=by
 have fQ:=tq (φ:=φ) (n:=n) (p:=cZ.nil) (List.getElem?_eq_some_iff.1 bw).1
 exact{
  size:=Nat.le_refl _
  Kv:=fun c hc VZ=>⟨by
   rintro(h0|⟨m,k',hm⟩)
   · exact VZ (.inl h0)
   · rw[fQ]at hm
     split at hm
     · simp at hm
     · exact VZ (.inr ⟨m,k',hm⟩),rfl⟩
  refs:=fun m p _ hm hp=>by
   show(φ.set n cZ.nil)[m]? =some p;rw[fQ]
   split
   · rename_i e;subst e
     have:φ[n]? =some p:=hm;rw[bw]at this;simp at this;exact absurd this.symm hp
   · exact hm
  own:=fun m c k' cc e fr _ hm hc=>⟨cc,fr,hc,rfl⟩}
theorem aJ.V5(h:aJ N0 w0 nt σ φ a w){n k:Nat}(bw:φ[n]? =some .free):aJ N0 w0 nt (σ.cT n (.row k [])) (φ.set n .nil) a w:=by
 have fQ:=tq (φ:=φ) (n:=n) (p:=cZ.nil) (List.getElem?_eq_some_iff.1 bw).1;have dA:=h.ext_nil bw
 exact{
  cI:=fun d=>aF.mono dA _ _ (h.cI d) (fun _ _=>trivial)
  size:=h.size
  defers:=h.defers
  len:=by simp[St.cT,dI,h.len]
  cN:=fun m o' p hm hp=>by
   rw[fQ]at hp;simp only[St.cT]at hm;rw[dI,bu,List.getElem?_set]at hm;split at hp
   · rename_i e
     subst e;simp at hp;subst hp;rw[if_pos rfl]at hm;split at hm
     · simp at hm;subst hm;simp[aH]
     · simp at hm
   · rename_i e
     rw[if_neg e]at hm;exact aH.mono dA (h.cN m o' p (by rw[bu];exact hm) hp) (fun c k' hc cc ee fr hh=>hh) (fun _ _ _ _=>trivial)
  own:=fun m c k' hm=>by
   rw[fQ]at hm;split at hm
   · simp at hm
   · exact h.own m c k' hm
  inj:=fun m m' c k' DF hm jh=>by
   rw[fQ]at hm jh;split at hm<;>split at jh
   · simp at hm
   · simp at hm
   · simp at jh
   · exact h.inj m m' c k' DF hm jh
  n0:=h.n0
  kf:=fun m q hf hm hq=>by
   have:=h.kf m q hf hm hq;rw[fQ]
   split
   · rename_i e;subst e;rw[bw]at this;exact absurd (Option.some.inj this).symm hq
   · exact this
  below:=h.below}
theorem aJ.setObj(h:aJ N0 w0 nt σ φ a w){n:Nat}{o:Obj}(ho: ∀p,φ[n]? =some p->aH (aA N0 φ w) o p):aJ N0 w0 nt (σ.cT n o) φ a w:=
 {h with
  cI:=h.cI
  len:=by simp[St.cT,dI,h.len]
  cN:=fun m o' p hm hp=>by
   simp only[St.cT]at hm;rw[dI,bu,List.getElem?_set]at hm;split at hm
   · rename_i e
     subst e;split at hm
     · simp at hm;subst hm;exact ho p hp
     · simp at hm
   · exact h.cN m o' p (by rw[bu];exact hm) hp}
theorem zA(h:aJ N0 w0 nt σ φ a w){d:Option Tmp}{b x:Operand}{t tx ty:TypeId}{p:String}{af:Array Edge}{g:Option (Nat×Bool)}(hd: ∀t,d=some t->t<nt){n:Nat}(bw:φ[n]? =some .free)
 {e k:Nat} {i:TypeInfo} {z:Value} (hT:Q3 P t e k i z) {q:Option Addr} {es src:List A} {news:List Value} (hbv:a.eval b= .slice q es.length es.length)
 (An:es≠ []-> ∃B off,q=some ⟨B,off,none⟩/\eo (aA N0 φ w) k B off es) (N1:A.pure.aY es=true) (hc:es=[]\/src≠ [])
 (hs:Src P k tx (a.eval x) src.length news w) (hn:aD (aA N0 φ w) k src news) (Tk:A.pure.aY src=true) (DO:(es.length+src.length)*i.bytes<=140737488355328):
 oo P ⟨d,.call ⟨.builtin .append,⟨[b,x]⟩,⟨[t,tx]⟩⟩,ty,p,af,g⟩ a w N0 w0 nt φ n ((σ.cT n (.row k (es++src))).put d (.row n 0 k (es.length+src.length) false)):=by
 have aw:n<φ.length:=(List.getElem?_eq_some_iff.1 bw).1;by_cases yg:src=[]
 · have hes0:es=[]:=by
    rcases hc with h|h
    · exact h
    · exact absurd yg h
   subst hes0;subst yg;have Zn:news=[]:=by simpa only[aD]using hn
   subst Zn;have fR:=run_append_nothing (P:=P) w t tx ty e i hT.ty hT.info q 0 0 (Nat.le_refl 0) (a.eval x) (by rw[hT.size];exact hs)
   refine⟨.slice q 0 0,w,φ.set n .nil,.inl ?_, ?_⟩
   · have:=hbv
     simp only[List.length_nil]at this;rw[<-this]at fR;rw[<-this]
     exact jP fR
   · refine⟨(h.V5 bw).put hd ?_,fun m hm hf=>by rw[List.getElem?_set_ne (Ne.symm hm)];exact hf⟩
     simp only[aF]
     exact .inl ⟨.nil,by show(φ.set n _)[n]? =_;simp[aw],by simp,by simp,fun _=>trivial,q,by simp⟩
 · have hold: ∃olds,(Builtin.firstCells k es.length (.slice q es.length es.length)).run P w.drew= .ok olds.toArray w.drew/\aD (aA N0 φ w) k es olds/\ ∀u∈olds,u.oneCell'=true:=by
    by_cases he:es=[]
    · subst he
      exact⟨[],V4,by simp[aD],by simp⟩
    · obtain⟨B,off,rfl,hE⟩:=An he
      obtain⟨vs,h1,h2,h3⟩:=aD.Av hE;exact⟨vs,KT h1.length (fun j v hv=>by have:=h2 j v hv;simpa[aA]using this),h1,h3⟩
   obtain⟨olds,hf,hro,hoo⟩:=hold
   have oP:0<src.length:=by
    cases src with
    |nil=>exact absurd rfl yg
    |cons=>simp
   obtain⟨w',c,zs,fR,g,kE,hle,hB,zw⟩:=KU (ty:=ty) hT hf hro.length hs (by omega) DO
   have DP:=h.newObj (k:=k) (o:= .row k (es++src)) bw g (Nat.le_refl _) kE (by
    have dA:=h.Hp (k:=k) bw g (Nat.le_refl _)
    refine F8 (E':=aA N0 (φ.set n (.loc w.heap.size k)) w') hB ?_ ?_ ?_
    · refine aD.mono (E:=aA N0 φ w) (fun x v hx hr=>aF.mono dA x v hr (fun _ _=>trivial)) ?_ (hro.append hn)
      exact cV fun j y hy=>by
       rcases List.mem_append.1 (List.mem_of_getElem? hy)with hm|hm
       · obtain⟨r,hr⟩:=List.getElem?_of_mem hm;exact aI N1 hr
       · obtain⟨r,hr⟩:=List.getElem?_of_mem hm;exact aI Tk hr
    · intro u hu
      rcases List.mem_append.1 hu with hu|hu
      · exact hoo u hu
      · exact hs.one u hu
    · exact cV fun j y hy=>by
       rcases List.mem_append.1 (List.mem_of_getElem? hy)with hm|hm
       · obtain⟨r,hr⟩:=List.getElem?_of_mem hm;exact aI N1 hr
       · obtain⟨r,hr⟩:=List.getElem?_of_mem hm;exact aI Tk hr)
   refine⟨_,w',_,.inl (jP (by rw[hbv];exact fR)),DP.put hd ?_,fun m hm hf=>by rw[List.getElem?_set_ne (Ne.symm hm)];exact hf⟩
   simp only[aF]
   exact .inr ⟨w.heap.size,c,_,e,(0,0),by show(φ.set n _)[n]? =_;simp[aw],by simp,hle,by simp,hB,by simpa using zw⟩
theorem Z1{n:Nat}(s8:w0.fix n=false)(h:aJ N0 w0 nt σ φ a w){d:Option Tmp}{b x:Operand}{t tx ty:TypeId}{p:String}{af:Array Edge}{g:Option (Nat×Bool)}(hd: ∀t,d=some t->t<nt){nm:Nat}
 {e k:Nat} {i:TypeInfo} {z:Value} (hT:Q3 P t e k i z) {len:Nat} {es src:List A} {news:List Value} (hbr:aF (aA N0 φ w) (.row n 0 k len false) (a.eval b))
 (ho:bX σ.H n=some (.row k es)) (hlen:len<=es.length)
 (hs:Src P k tx (a.eval x) src.length news w) (hn:aD (aA N0 φ w) k src news) (Tk:A.pure.aY src=true) (DO:(len+src.length)*i.bytes<=140737488355328):
 oo P ⟨d,.call ⟨.builtin .append,⟨[b,x]⟩,⟨[t,tx]⟩⟩,ty,p,af,g⟩ a w N0 w0 nt φ nm (((σ.fp n).cT n (.row k (es.take len++src))).put d (.row n 0 k (len+src.length) false)):=by
 have h':=h.fp n;have jg:=xm σ n
 have hnlen:n<φ.length:=by
  rw[h.len]
  rw[bu]at ho;exact(List.getElem?_eq_some_iff.1 ho).1
 have grow:φ[n]? ≠some .free-> ∀(q:Option Addr) (yf:Nat) (olds:List Value),a.eval b= .slice q len yf->(Builtin.firstCells k len (.slice q len yf)).run P w.drew= .ok olds.toArray w.drew->
  aD (aA N0 φ w) k (es.take len) olds->(∀u∈olds,u.oneCell'=true)->A.pure.aY (es.take len)=true->yf<len+src.length->
  oo P ⟨d,.call ⟨.builtin .append,⟨[b,x]⟩,⟨[t,tx]⟩⟩,ty,p,af,g⟩ a w N0 w0 nt φ nm (((σ.fp n).cT n (.row k (es.take len++src))).put d (.row n 0 k (len+src.length) false)):=by
  intro Kj q yf olds hbv hf hro hoo N1 hg;have ae:(es.take len).length=len:=by simp;omega
  obtain⟨w',c,zs,fR,g,kE,hle,hB,zw⟩:=KU (ty:=ty) hT hf (by rw[hro.length,ae]) hs hg DO
  have Kk:A.pure.aY (es.take len++src)=true:=cV fun j y hy=>by
   rcases List.mem_append.1 (List.mem_of_getElem? hy)with hm|hm
   · obtain⟨r,hr⟩:=List.getElem?_of_mem hm;exact aI N1 hr
   · obtain⟨r,hr⟩:=List.getElem?_of_mem hm;exact aI Tk hr
  obtain⟨DP,_⟩:=h'.rehome s8 jg hnlen (p:= .loc w.heap.size k) (o:= .row k (es.take len++src)) g (fun B K e'=>by
   simp only[cZ.loc.injEq]at e';obtain⟨rfl,rfl⟩:=e';exact⟨Nat.le_refl _,kE⟩) (fun dA=>by
   refine F8 (E':=aA N0 (φ.set n (.loc w.heap.size k)) w') hB ?_ ?_ Kk
   · exact aD.mono (E:=aA N0 φ w) (fun x v hx hr=>aF.mono dA x v hr (fun m hm=>by rw[A.lP m x hx]at hm;cases hm)) Kk (hro.append hn)
   · intro u hu
     rcases List.mem_append.1 hu with hu|hu
     · exact hoo u hu
     · exact hs.one u hu)
  refine⟨_,w',_,.inl (jP (by rw[hbv];exact fR)),DP.put hd ?_,fun m hm hf=>by rw[List.getElem?_set_ne (fun e=>Kj (by rw[e];exact hf))];exact hf⟩
  simp only[aF]
  exact .inr ⟨w.heap.size,c,_,e,(0,0),by show(φ.set n _)[n]? =_;simp[hnlen],by simp,hle,by simp,hB,by simpa using zw⟩
 simp only[aF]at hbr;rcases hbr with⟨o,eV,hf,rfl,_,q,hv⟩|⟨B,cap,c',e',fr,eV,hv,qn,_,hb,DQ⟩
 · by_cases yg:src=[]
   · subst yg
     have Zn:news=[]:=by simpa only[aD]using hn
     subst Zn;have fR:=run_append_nothing (P:=P) w t tx ty e i hT.ty hT.info q 0 0 (Nat.le_refl 0) (a.eval x) (by rw[hT.size];exact hs)
     refine⟨.slice q 0 0,w,φ,.inl (jP (by rw[hv];exact fR)), ?_⟩
     refine⟨(h'.setObj (fun p hp=> ?_)).put hd ?_,fun _ _ h=>h⟩
     · have eZ:=h.cN n _ _ ho hp
       cases p with
       |nil=>simp[aH]
       |free=>
        have Hq:φ[n]? =some o:=eV;rw[Hq]at hp;simp at hp;exact absurd hp hf
       |loc B DF=>
        simp only[aH]at eZ⊢;exact⟨eZ.1,by simp[A.pure.aY],eZ.2.2.1,by simp[eo]⟩
     · simp only[aF]
       exact .inl ⟨o,eV,hf,by simp,fun _=>trivial,q,by simp⟩
   · refine grow (fun e=>hf (by have Hq:φ[n]? =some o:=eV;rw[Hq]at e;simpa using e)) q 0 [] hv V4 (by simp[aD]) (by simp) (by simp[A.pure.aY]) ?_
     cases src with
     |nil=>exact absurd rfl yg
     |cons=>simp
 · have eZ:=h.cN n _ _ ho eV
   simp only[aH]at eZ;obtain⟨_,hp,⟨cc,ee,ffr,N2,Kl⟩,hE⟩:=eZ;have o9:w.heap[B]? =some (.cells c' e' fr):=hb;have pc:w.heap[B]? =some (.cells cc ee ffr):=N2;rw[o9]at pc;simp only[Option.some.injEq,Go.Obj.cells.injEq]at pc;obtain⟨rfl,rfl,rfl⟩:=pc;have Vh:=mv (n:=len) hE;have rC:=k9 (n:=len) hp;obtain⟨olds,h1,h2,h3⟩:=aD.Av Vh;have ae:(es.take len).length=len:=by simp;omega
   have h1l:olds.length=len*k:=by rw[h1.length,ae]
   rw[Nat.zero_mul]at hv DQ;by_cases V6:len+src.length<=cap
   · have V3:=hs.newsLen
     have hmul:len*k+src.length*k<=k*cap:=by
      rw[<-Nat.add_mul,Nat.mul_comm k cap]
      exact Nat.mul_le_mul_right _ V6
     have ht:w.there B (0+len*k) news.length:=pa o9 Kl (by omega)
     have fR:=run_append_room_src (P:=P) w t tx ty e i hT.ty hT.info B 0 len cap (a.eval x) src.length news (by rw[hT.size];exact hs) V6
      (fun j hj=>by rw[hT.size];exact(ht j hj).1) (fun j hj=>by rw[hT.size];exact(ht j hj).2)
     rw[hT.size]at fR;obtain⟨Z2,Q4,hss''⟩:=(eK (b:=B) news (0+len*k) w).2.2.2.2.2.2 c' e' fr o9;have dA:=h.my (0+len*k) news eV
     have hw:=h'.write (o:= .row k (es.take len++src)) (off:=0+len*k) (vs:=news) eV (by
      simp only[aH]
      have Kk:A.pure.aY (es.take len++src)=true:=cV fun j y hy=>by
       rcases List.mem_append.1 (List.mem_of_getElem? hy)with hm|hm
       · obtain⟨r,hr⟩:=List.getElem?_of_mem hm;exact aI rC hr
       · obtain⟨r,hr⟩:=List.getElem?_of_mem hm;exact aI Tk hr
      refine⟨trivial,Kk,⟨Z2,e',fr,Q4,fun j hj=>Kl j (by omega)⟩, ?_⟩
      refine aD.mem (vs:=olds++news) (aD.mono (E:=aA N0 φ w) (fun x v hx hr=>aF.mono dA x v hr (fun _ _=>trivial)) Kk (h1.append hn)) ?_ ?_
      · intro j u hu
        show(w.setCells B (0+len*k) news).cell? ⟨B,0+j,none⟩=some u;rw[jI ht]
        rw[List.getElem?_append]at hu;split at hu
        · rename_i hj
          rw[if_neg (by omega)]
          exact h2 j u hu
        · rename_i hj
          have:=(List.getElem?_eq_some_iff.1 hu).1;rw[if_pos (by omega),show 0+j-(0+len*k)=j-olds.length by omega]
          exact hu
      · intro u hu
        rcases List.mem_append.1 hu with hu|hu
        · exact h3 u hu
        · exact hs.one u hu)
     refine⟨_,_,φ,.inl (jP (by rw[hv];exact fR)),hw.put hd ?_,fun _ _ h=>h⟩
     simp only[aF]
     exact .inr ⟨B,cap,Z2,e',fr,eV,by simp,V6,by simp,Q4,by rw[hss''];simpa using DQ⟩
   · exact grow (fun e=>by have Hq:φ[n]? =some (.loc B k):=eV;rw[Hq]at e;simp at e) _ cap olds hv (KT h1l (fun j v hv=>by have:=h2 j v hv;simpa[aA]using this)) h1 h3 rC (by omega)
theorem Hr(h:aJ N0 w0 nt σ φ a w){d:Option Tmp}{b x:Operand}{t tx ty:TypeId}{p:String}{af:Array Edge}{g:Option (Nat×Bool)}(hd: ∀t,d=some t->t<nt){n:Nat}(bw:φ[n]? =some .free)
 {ed:St} {fx:Nat->Bool} (s8:w0.fix=fx) (hr:qo P fx σ n d t tx (σ.ev b) (σ.ev x)=some ed):oo P ⟨d,.call ⟨.builtin .append,⟨[b,x]⟩,⟨[t,tx]⟩⟩,ty,p,af,g⟩ a w N0 w0 nt φ n ed:=by
 unfold qo at hr;split at hr
 · rename_i e he
   split at hr
   · rename_i k hk
     split at hr
     · simp at hr
     · rename_i hc
       have hz:ik P e k=true:=by
        cases hzz:ik P e k with
        |true=>rfl
        |false=>exact absurd (.inr (.inr hzz)) hc
       obtain⟨i,z,hT,VP⟩:=app_ty he hk (fun e'=>hc (.inl e')) (fun e'=>hc (.inr (.inl e'))) hz;cases yg:xZ P σ e tx k (σ.ev x)with
       |none=>simp[yg]at hr
       |some src=>
        simp only[yg,Option.bind_some]at hr;obtain⟨news,hs,hn,Tk⟩:=Tj h yg;have hb:=h.ev b;rw[<-VP]at hr
        have Q2: ∀{es:List A},j7 k es=true->es≠ []->bT es=k:=fun{es} h1 h2=>by
         unfold j7 at h1;cases es with
         |nil=>exact absurd rfl h2
         |cons y ys=>simpa using h1
        cases yh:σ.ev b<;>rw[yh]at hb<;>simp only[yh,nh]at hr<;>try(simp at hr;done)
        case bK=>
         split at hr
         · rename_i DO
           obtain rfl:=Option.some.inj hr;simp only[aF]at hb;have:=zA h (p:=p) (af:=af) (g:=g) (ty:=ty) hd bw hT (q:=none) (es:=[]) (src:=src) hb (fun bU=>absurd rfl bU) rfl (.inl rfl) hs hn Tk (by simpa using DO)
           simpa using this
         · simp at hr
        case clip es=>
         split at hr
         · rename_i di
           obtain⟨bR,Hs,DO⟩:=di;obtain rfl:=Option.some.inj hr;simp only[aF]at hb;obtain⟨N1,q,hv,hl⟩:=hb;exact zA h (p:=p) (af:=af) (g:=g) (ty:=ty) hd bw hT (q:=q) (es:=es) (src:=src) hv (fun bU=>by obtain⟨B,off,e1,_,_,e2⟩:=hl bU;rw[Q2 bR bU]at e2;exact⟨B,off,e1,e2⟩) N1 Hs hs hn Tk DO
         · simp at hr
        case row m off k' len cl=>
         cases off with
         |succ off=>simp at hr
         |zero=>
          simp only at hr;split at hr
          · rename_i DF es ho
            split at hr
            · rename_i di
              obtain⟨rfl,rfl,hlen,DO⟩:=di;split at hr
              · rename_i jg
                subst jg;split at hr
                · simp at hr
                · rename_i bU
                  obtain rfl:=Option.some.inj hr;have ae:(es.take len).length=len:=by simp;omega
                  simp only[aF]at hb;rcases hb with⟨o,eV,hf,rfl,_,q,hv⟩|⟨B,cap,c',e',fr,eV,hv,qn,jg,hb,DQ⟩
                  · have:=zA h (p:=p) (af:=af) (g:=g) (ty:=ty) hd bw hT (q:=q) (es:=[]) (src:=src) hv (fun bU=>absurd rfl bU) rfl (.inl rfl) hs hn Tk (by simpa using DO)
                    simpa using this
                  · have eZ:=h.cN m _ _ ho eV
                    simp only[aH]at eZ;obtain⟨_,hp,_,hE⟩:=eZ;have hcap:=jg trivial;subst hcap;have Vh:=mv (n:=cap) hE;have rC:=k9 (n:=cap) hp;have:=zA h (p:=p) (af:=af) (g:=g) (ty:=ty) hd bw hT (q:=some ⟨B,0,none⟩) (es:=es.take cap) (src:=src) (by rw[ae,hv];simp) (fun _=>⟨B,0,rfl,Vh⟩) rC (.inr bU) hs hn Tk (by rw[ae];exact DO)
                    rw[ae]at this;exact this
              · rename_i jg
                have hcl':cl=false:=by simpa using jg
                subst hcl';split at hr
                · simp at hr
                · rename_i Kj
                  obtain rfl:=Option.some.inj hr;exact Z1 (by rw[s8];simpa using Kj) h hd hT hb ho hlen hs hn Tk DO
            · simp at hr
          · simp at hr
   · simp at hr
 · simp at hr
end
end Go.bJ
namespace Go.bJ
open Go.RowKit
section
variable{P:Program}{N0:Nat->Prop}{w0:jO}{nt:Nat}{σ:St}{φ:List cZ}{a:Act}{w:World}
theorem On(h:aJ N0 w0 nt σ φ a w){d:Option Tmp}{src dst:TypeId}{x:Operand}{t:TypeId}{p:String}{af:Array Edge}{g:Option (Nat×Bool)}(hd: ∀t,d=some t->t<nt){n:Nat}
 (bw:te P src dst=true->φ[n]? =some .free) {ed:St} (hr:w6 P σ n d src dst (σ.ev x)=some ed):oo P ⟨d,.convert src dst x,t,p,af,g⟩ a w N0 w0 nt φ n ed:=by
 unfold w6 at hr;split at hr
 · rename_i hb
   have bw:=bw hb;have hx:=h.ev x;split at hr
   · rename_i s hs
     obtain rfl:=Option.some.inj hr;rw[hs]at hx;simp only[aF]at hx;unfold te at hb;simp only[Bool.and_eq_true]at hb;obtain⟨Vg,Zp⟩:=hb;cases he:aR P dst with
     |none=>simp[he]at Zp
     |some e=>
      simp[he]at Zp;have aw:n<φ.length:=(List.getElem?_eq_some_iff.1 bw).1;have fR:=run_bytes_of_string (P:=P) w src dst e ⟨s.toArray⟩ (iV Vg) (du he) (Ae Zp)
      have Te:=grownCap_ge w (⟨s.toArray⟩:ByteArray).size 0 e;generalize hc:grownCap w (⟨s.toArray⟩:ByteArray).size 0 e=c at fR Te;rw[nr]at Te
      have kE:(bytesRow ⟨s.toArray⟩ c).size=c:=by
       simp[bytesRow,nr]
       omega
      rw[kE]at fR;have g:ew w (w.drew.alloc (.cells (bytesRow ⟨s.toArray⟩ c) e (c,c+1))):=(ew.drew w).trans (ew.alloc _ _)
      have hB:(w.drew.alloc (.cells (bytesRow ⟨s.toArray⟩ c) e (c,c+1))).heap[w.heap.size]? =some (.cells (bytesRow ⟨s.toArray⟩ c) e (c,c+1)):=heap_alloc_new w.drew _
      have DP:=h.newObj (k:=1) (o:= .row 1 (dh s)) bw g (Nat.le_refl _) (by simp) (by
       simp only[aH]
       refine⟨trivial,r_ s,⟨_,e,_,hB,fun j hj hh=>by rw[kE]at hj;omega⟩,aD.mem (vp _ s) (fun j u hu=> ?_) ?_⟩
       · show(w.drew.alloc (.cells (bytesRow ⟨s.toArray⟩ c) e (c,c+1))).cell? ⟨w.heap.size,0+j,none⟩=some u
         have zB:j<s.length:=by have:=(List.getElem?_eq_some_iff.1 hu).1;simpa using this
         have AA:=bytesRow_at ⟨s.toArray⟩ c j (by simpa using zB)
         have:u= .int .u8 (s[j].toNat:Int):=by rw[List.getElem?_map,List.getElem?_eq_getElem zB]at hu;simpa using hu.symm
         subst this;simp only[World.cell?,hB,Nat.zero_add]
         simpa using AA
       · intro u hu
         obtain⟨_,_,rfl⟩:=List.mem_map.1 hu;rfl)
      refine⟨.slice (some ⟨w.heap.size,0,none⟩) s.length c,_,_,.inl (w7 (s:=convert src dst (a.eval x)) ?_),DP.put hd ?_,fun m hm hf=>by rw[List.getElem?_set_ne (Ne.symm hm)];exact hf⟩
      · rw[hx];exact fR
      · simp only[aF]
        exact .inr ⟨w.heap.size,c,_,e,_,by show(φ.set n _)[n]? =_;simp[aw],by simp,Te,by simp,hB,by rw[kE];omega⟩
   · simp at hr
 · cases hc:mo P src dst σ.H (σ.ev x)with
   |none=>simp[hc]at hr
   |some r=>
    simp[hc]at hr;subst hr;exact rD h hd (o:=⟨d,.convert src dst x,t,p,af,g⟩) (tn h hc)
end
end Go.bJ
namespace Go.bJ
open Go.RowKit
theorem aD.drop{E:Env}{k:Nat}: ∀{n:Nat} {es:List A} {vs:List Value},aD E k es vs->aD E k (es.drop n) (vs.drop (n*k))
 |0,es,vs,h=>by simpa using h
 |n+1,[],vs,h=>by simp only[aD]at h;subst h;simp[aD]
 |n+1,e::es,vs,h=>by
  simp only[aD]at h;obtain⟨_,_,_,h4⟩:=h;rw[List.drop_succ_cons,show(n+1)*k=k+n*k by rw[Nat.add_mul,Nat.one_mul];omega,<-List.drop_drop]
  exact aD.drop h4
theorem AB{z:Array Value}{n:Nat}:(Builtin.zeroCells z n).toList=(List.replicate n z.toList).flatten:=by
 unfold Builtin.zeroCells;apply List.ext_getElem?;intro j;by_cases hz:z.size=0
 · have hz':z= #[]:=by simpa using hz
   subst hz';simp
 · have hz0:0<z.size:=by omega
   simp only[Array.toList_map,Array.toList_range]
   rw[List.getElem?_map]
   by_cases hj:j<n*z.size
   · have hq:j/z.size<n:=(Nat.div_lt_iff_lt_mul hz0).2 hj
     have hr:j % z.size<z.size:=Nat.mod_lt _ hz0;rw[List.getElem?_range hj]
     simp only[Option.map_some]
     have key: ∀(m:Nat) (j:Nat),j<m*z.size->(List.replicate m z.toList).flatten[j]? =some (z[j % z.size]!):=by
      intro m;induction m with
      |zero=>intro j hj;omega
      |succ m ih=>
       intro j hj;rw[List.replicate_succ,List.flatten_cons]
       by_cases h:j<z.size
       · rw[List.getElem?_append_left (by simpa using h),Nat.mod_eq_of_lt h,getElem!_pos z j h];simp[h]
       · rw[List.getElem?_append_right (by simpa using h),Nat.mod_eq_sub_mod (by omega),Array.length_toList]
         exact ih _ (by rw[Nat.add_mul,Nat.one_mul]at hj;omega)
     rw[key n j hj]
   · rw[List.getElem?_eq_none (by simpa using hj),List.getElem?_eq_none (by
      rw[List.length_flatten,List.map_replicate,List.sum_replicate_nat];simpa using hj)]
     rfl
section
variable{P:Program}{N0:Nat->Prop}{w0:jO}{nt:Nat}{σ:St}{φ:List cZ}{a:Act}{w:World}
theorem KV(h:aJ N0 w0 nt σ φ a w){d:Option Tmp}{x:Operand}{t ty:TypeId}{p:String}{af:Array Edge}{g:Option (Nat×Bool)}(hd: ∀t,d=some t->t<nt){nm:Nat}
 {ed:St} (hr:ve P σ d t (σ.ev x)=some ed):oo P ⟨d,.call ⟨.builtin .clear,⟨[x]⟩,⟨[t]⟩⟩,ty,p,af,g⟩ a w N0 w0 nt φ nm ed:=by
 have hx:=h.ev x;unfold ve at hr;split at hr
 · rename_i n off k len cl yh
   rw[yh]at hx;split at hr
   case h_2=>simp at hr
   rename_i e he;split at hr
   case h_2=>simp at hr
   rename_i k' es ho;split at hr
   · rename_i zz hz
     split at hr
     · rename_i hc
       obtain⟨rfl,hzl,ye,hzv,hzp,hle⟩:=hc;obtain rfl:=Option.some.inj hr;have hty:=du he;obtain⟨zv,hzr,Ar⟩:=tp (w:=w) hz;have cF:=Ar (aA N0 φ w)
       obtain⟨r1,r2,r3⟩:=iH cF hzv
       have pe: ∀{v:Value} {w':World},(Builtin.clear_ #[t] ty #[a.eval x]).run P w= .ok v w'->(Go.execOp a.eval ⟨d,.call ⟨.builtin .clear,⟨[x]⟩,⟨[t]⟩⟩,ty,p,af,g⟩).run P w= .ok (.value v) w':=fun{v w'} fR=>by
        obtain⟨cs,zw⟩:=oW (P:=P) (a:=a) (w:=w) (b:= .clear) (xs:=[x]) (us:=⟨[t]⟩) (d:=d) (t:=ty) (p:=p) (af:=af) (g:=g)
        rw[zw]
        exact w7 (s:=Builtin.clear_ #[t] ty #[a.eval x]) fR
       simp only[aF]at hx;have same:(es.take off++List.replicate 0 zz.norm++es.drop (off+0))=es:=by simp
       rcases hx with⟨o,eV,hf,rfl,_,q,hv⟩|⟨b,cap,c',e',fr,eV,hv,qn,_,hb,DQ⟩
       · refine⟨.tuple #[],w,φ,.inl (pe ?_), ?_⟩
         · rw[hv]
           cases q<;>simp[Builtin.clear_,run_underlying hty]
         · rw[same]
           refine⟨(h.setObj (fun p hp=>h.cN n _ p ho hp)).put hd ?_,fun _ _ h=>h⟩
           simp[aF,aP]
       · have eZ:=h.cN n _ _ ho eV
         simp only[aH]at eZ;obtain⟨_,hp,⟨cc,ee,ffr,N2,Kl⟩,hE⟩:=eZ;by_cases hl0:len=0
         · subst hl0
           refine⟨.tuple #[],w,φ,.inl (pe ?_), ?_⟩
           · rw[hv]
             simp[Builtin.clear_,run_underlying hty]
           · rw[same]
             refine⟨(h.setObj (fun p hp=>h.cN n _ p ho hp)).put hd ?_,fun _ _ h=>h⟩
             simp[aF,aP]
         · have pc:w.heap[b]? =some (.cells cc ee ffr):=N2
           have o9:w.heap[b]? =some (.cells c' e' fr):=hb;rw[o9]at pc;simp only[Option.some.injEq,Go.Obj.cells.injEq]at pc;obtain⟨rfl,rfl,rfl⟩:=pc;obtain⟨vs,g1,g2,g3⟩:=aD.Av hE;have hzc:zv.cells.size=k':=by rw[r3];exact hzl
           have V3:(List.replicate len zv.cells.toList).flatten.length=len*k':=by rw[List.length_flatten,List.map_replicate,List.sum_replicate_nat,Array.length_toList,hzc]
           have hmul:off*k'+len*k'<=c'.size:=by
            have h1:len*k'<=k'*cap:=by rw[Nat.mul_comm k' cap];exact Nat.mul_le_mul_right _ qn
            omega
           have ht:w.there b (off*k') (List.replicate len zv.cells.toList).flatten.length:=pa o9 Kl (by rw[V3];exact hmul)
           have cQ: ∀u∈(List.replicate len zv.cells.toList).flatten,u.oneCell'=true:=fun u hu=>by obtain⟨ys,w_,hu⟩:=List.mem_flatten.1 hu;obtain⟨_,rfl⟩:=List.mem_replicate.1 w_;exact r2 u hu
           have bR:=run_storeCells_cells (P:=P) b (off*k') (List.replicate len zv.cells.toList).flatten 0 w (fun j hj=>by rw[Nat.add_zero];exact(ht j hj).1) (fun j hj=>by rw[Nat.add_zero];exact(ht j hj).2) cQ;rw[Nat.add_zero]at bR;obtain⟨Z2,Q4,hss''⟩:=(eK (b:=b) (List.replicate len zv.cells.toList).flatten (off*k') w).2.2.2.2.2.2 c' e' fr o9;have dA:=h.my (off*k') (List.replicate len zv.cells.toList).flatten eV
           have hzn:aD (aA N0 φ w) k' (List.replicate len zz.norm) (List.replicate len zv.cells.toList).flatten:=
            aD.replicate (by rw[fY,List.length_map,hzl]) (by rw[fY];exact nv r1) len
           have hvl:=g1.length;have hpz:A.pure.aY (List.replicate len zz.norm)=true:=cV fun j y hy=>by have:=List.mem_of_getElem? hy;obtain⟨_,rfl⟩:=List.mem_replicate.1 this;exact kF hzp
           have Kk:A.pure.aY (es.take off++List.replicate len zz.norm++es.drop (off+len))=true:=cV fun j y hy=>by
            rcases List.mem_append.1 (List.mem_of_getElem? hy)with hm|hm
            · rcases List.mem_append.1 hm with hm|hm
              · obtain⟨r,hr⟩:=List.getElem?_of_mem (List.mem_of_mem_take hm);exact aI hp hr
              · obtain⟨r,hr⟩:=List.getElem?_of_mem hm;exact aI hpz hr
            · obtain⟨r,hr⟩:=List.getElem?_of_mem (List.mem_of_mem_drop hm);exact aI hp hr
           have hw:=h.write (o:= .row k' (es.take off++List.replicate len zz.norm++es.drop (off+len))) (off:=off*k') (vs:=(List.replicate len zv.cells.toList).flatten) eV (by
            simp only[aH]
            refine⟨trivial,Kk,⟨Z2,e',fr,Q4,fun j hj=>Kl j (by omega)⟩, ?_⟩
            have gq:=((g1.take (n:=off)).append hzn).append (g1.drop (n:=off+len))
            refine aD.mem (vs:=vs.take (off*k')++(List.replicate len zv.cells.toList).flatten++vs.drop ((off+len)*k')) (aD.mono (E:=aA N0 φ w) (fun x v hx hr=>aF.mono dA x v hr (fun _ _=>trivial)) Kk gq) ?_ ?_
            · intro j u hu
              show(w.setCells b (off*k') _).cell? ⟨b,0+j,none⟩=some u
              have hlen1:(vs.take (off*k')).length=off*k':=by
               rw[List.length_take,hvl]
               have:off*k'<=es.length*k':=Nat.mul_le_mul_right _ (by omega)
               omega
              rw[jI ht,Nat.zero_add]
              rw[List.append_assoc,List.getElem?_append,hlen1]at hu;split at hu
              · rename_i hj
                rw[if_neg (by omega)]
                rw[List.getElem?_take]at hu;rw[if_pos hj]at hu;have:=g2 j u hu;simpa[aA]using this
              · rename_i hj
                rw[List.getElem?_append,V3]at hu;split at hu
                · rename_i hj2
                  rw[if_pos (by rw[V3];omega)]
                  exact hu
                · rename_i hj2
                  rw[if_neg (by rw[V3];omega)]
                  rw[List.getElem?_drop]at hu;have e3:(off+len)*k'+(j-off*k'-len*k')=j:=by rw[Nat.add_mul];omega
                  rw[e3]at hu;have:=g2 j u hu;simpa[aA]using this
            · intro u hu
              rcases List.mem_append.1 hu with hu|hu
              · rcases List.mem_append.1 hu with hu|hu
                · exact g3 u (List.mem_of_mem_take hu)
                · exact cQ u hu
              · exact g3 u (List.mem_of_mem_drop hu))
           refine⟨.tuple #[],_,φ,.inl (pe ?_),hw.put hd (by simp[aF,aP]),fun _ _ h=>h⟩
           rw[hv]
           obtain⟨len',rfl⟩: ∃m,len=m+1:=⟨len-1,by omega⟩
           have e0:(#[t]:Array TypeId)[0]? =some t:=rfl;have e1:(#[Value.slice (some ⟨b,off*k',none⟩) (len'+1) cap]:Array Value)[0]? =some (Value.slice (some ⟨b,off*k',none⟩) (len'+1) cap):=rfl;simp only[Builtin.clear_,e0,e1,Sem.run_bind,run_underlying hty,Result.andThen_ok,hzr,AB,bR,Sem.run_pure]
     · simp at hr
   · simp at hr
 · simp at hr
end
end Go.bJ
