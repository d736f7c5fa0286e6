/- What the laws of this claim rest on: the abstract executor, its soundness, and what the functions compute on pure data. No condition. -/
import Derived.Orders
import Derived.WalkKit
import Derived.Test.YtihgnfmoafjakaaGreatProg
import Derived.Deep.MidRow
import Derived.Deep.AppendSrc
noncomputable section
set_option linter.unusedVariables false
set_option linter.unusedSimpArgs false
namespace Go.bJ
inductive A where
 |any
 |int (k:IntKind) (n:Int)
 |bool (b:Bool)
 |str (s:List UInt8)
 |agg (cs:List A)
 |ad (es:List A)
 |clip (es:List A)
 |dz (cs:List A)
 |bK
 |ta
 |ref (n off:Nat)
 |fT (n i off:Nat)
 |row (n off k len:Nat) (c:Bool)
 |fn (f:FuncId) (ji:List A)
 |cx (cs:List A)
 |emp (c:Bool)
instance:Inhabited A:=⟨.any⟩
inductive cZ where
 |free
 |nil
 |loc (b k:Nat)
def A.cells:A->List A
 | .agg cs=>cs
 |x=>[x]
def bT:List A->Nat
 | []=>0
 |e::_=>e.cells.length
def A.mem(n:Nat):A->Bool
 | .ref m _=>m==n
 | .fT m _ _=>m==n
 | .row m _ _ _ _=>m==n
 | .agg cs=>fI n cs
 | .fn _ cs=>fI n cs
 | .cx cs=>fI n cs
 |_=>false
where fI (n:Nat):List A->Bool
 | []=>false
 |c::cs=>c.mem n||fI n cs
def A.pure:A->Bool
 | .ref _ _=>false
 | .fT _ _ _=>false
 | .row _ _ _ _ _=>false
 | .agg cs=>aY cs
 | .fn _ cs=>aY cs
 | .cx cs=>aY cs
 |_=>true
where aY:List A->Bool
 | []=>true
 |c::cs=>c.pure&&aY cs
mutual
theorem A.lP(n:Nat): ∀x:A,x.pure=true->x.mem n=false
 | .any,_=>rfl
 | .int _ _,_=>rfl
 | .bool _,_=>rfl
 | .str _,_=>rfl
 | .ad _,_=>rfl
 | .clip _,_=>rfl
 | .dz _,_=>rfl
 | .bK,_=>rfl
 | .ta,_=>rfl
 | .emp _,_=>rfl
 | .ref _ _,h=>by simp[A.pure]at h
 | .fT _ _ _,h=>by simp[A.pure]at h
 | .row _ _ _ _ _,h=>by simp[A.pure]at h
 | .agg cs,h=>by simp only[A.mem];exact A.fc n cs (by simpa only[A.pure]using h)
 | .fn _ cs,h=>by simp only[A.mem];exact A.fc n cs (by simpa only[A.pure]using h)
 | .cx cs,h=>by simp only[A.mem];exact A.fc n cs (by simpa only[A.pure]using h)
theorem A.fc(n:Nat): ∀cs:List A,A.pure.aY cs=true->A.mem.fI n cs=false
 | [],_=>rfl
 |c::cs,h=>by simp only[A.pure.aY,Bool.and_eq_true]at h;simp only[A.mem.fI,A.lP n c h.1,A.fc n cs h.2,Bool.or_self]
end
structure Env where
 N:Nat->Prop
 φ:List cZ
 w:World
mutual
def aF(E:Env):A->Value->Prop
 | .any,_=>True
 | .int k n,v=>v= .int k n
 | .bool b,v=>v= .bool b
 | .str s,v=>v= .string ⟨s.toArray⟩
 | .agg cs,v=> ∃vs:List Value,v= .agg vs.toArray/\aP E cs vs/\ ∀u∈vs,u.oneCell'=true
 | .ad es,v=>A.pure.aY es=true/\ ∃a cap,v= .slice a es.length cap/\es.length<=cap/\
  (es≠ []-> ∃b off,a=some ⟨b,off,none⟩/\b<E.w.heap.size/\ ¬E.N b/\eo E (bT es) b off es)
 | .clip es,v=>A.pure.aY es=true/\ ∃a,v= .slice a es.length es.length/\
  (es≠ []-> ∃b off,a=some ⟨b,off,none⟩/\b<E.w.heap.size/\ ¬E.N b/\eo E (bT es) b off es)
 | .dz cs,v=>A.pure.aY cs=true/\ ∃b off,v= .pointer (some ⟨b,off,none⟩)/\b<E.w.heap.size/\ ¬E.N b/\fJ E b off cs
 | .bK,v=>v= .slice none 0 0
 | .ta,v=>v= .pointer none
 | .emp c,v=> ∃a cap,v= .slice a 0 cap/\a.isNone=c
 | .ref n off,v=> ∃b k,E.φ[n]? =some (.loc b k)/\v= .pointer (some ⟨b,off,none⟩)
 | .fT n i off,v=> ∃b k,E.φ[n]? =some (.loc b k)/\v= .pointer (some ⟨b,i*k+off,none⟩)
 | .row n off k len cl,v=>
  (∃o,E.φ[n]? =some o/\o≠ .free/\len=0/\(o= .nil->off=0)/\ ∃a,v= .slice a 0 0)\/
  (∃b cap c e fr,E.φ[n]? =some (.loc b k)/\v= .slice (some ⟨b,off*k,none⟩) len cap/\len<=cap/\(cl=true->cap=len)/\
   E.w.heap[b]? =some (.cells c e fr)/\off*k+k*cap<=c.size)
 | .fn f ji,v=> ∃vs:List Value,v= .func (.func f) #[] vs.toArray/\aP E ji vs
 | .cx cs,v=> ∃vs:List Value,v= .tuple vs.toArray/\aP E cs vs
def aP(E:Env):List A->List Value->Prop
 | [],vs=>vs=[]
 |c::cs,vs=> ∃v kc,vs=v::kc/\aF E c v/\aP E cs kc
def fJ(E:Env)(b:Nat)(off:Nat):List A->Prop
 | []=>True
 |c::cs=>(∃v,E.w.cell? ⟨b,off,none⟩=some v/\v.oneCell'=true/\aF E c v)/\fJ E b (off+1) cs
def eo(E:Env)(k:Nat)(b:Nat)(off:Nat):List A->Prop
 | []=>True
 | .agg cs::es=>(cs.length=k/\fJ E b off cs)/\eo E k b (off+k) es
 |e::es=>(k=1/\ ∃v,E.w.cell? ⟨b,off,none⟩=some v/\v.oneCell'=true/\aF E e v)/\eo E k b (off+k) es
end
theorem Ku{E:Env}{k b off:Nat}{cs es:List A}:eo E k b off (.agg cs::es)=((cs.length=k/\fJ E b off cs)/\eo E k b (off+k) es):=by simp[eo]
structure Ext(K:Nat->Prop)(E E':Env):Prop where
 size:E.w.heap.size<=E'.w.heap.size
 Kv: ∀b,b<E.w.heap.size-> ¬E.N b-> ¬E'.N b/\E'.w.heap[b]? =E.w.heap[b]?
 refs: ∀n o,K n->E.φ[n]? =some o->o≠ .free->E'.φ[n]? =some o
 own: ∀n b k c e fr,K n->E.φ[n]? =some (.loc b k)->E.w.heap[b]? =some (.cells c e fr)-> ∃c' N_,E'.w.heap[b]? =some (.cells c' e N_)/\c'.size=c.size
theorem Ext.cell{K:Nat->Prop}{E E':Env}(h:Ext K E E'){b off:Nat}(hb:b<E.w.heap.size)(hn: ¬E.N b):
 E'.w.cell? ⟨b,off,none⟩=E.w.cell? ⟨b,off,none⟩:=by
 simp only[World.cell?,(h.Kv b hb hn).2]
mutual
theorem aF.mono{K:Nat->Prop}{E E':Env}(h:Ext K E E'): ∀(x:A) (v:Value),aF E x v->(∀n,x.mem n=true->K n)->aF E' x v
 | .any,_,_,_=>by simp only[aF]
 | .int _ _,v,hr,_=>by simpa only[aF]using hr
 | .bool _,v,hr,_=>by simpa only[aF]using hr
 | .str _,v,hr,_=>by simpa only[aF]using hr
 | .bK,v,hr,_=>by simpa only[aF]using hr
 | .ta,v,hr,_=>by simpa only[aF]using hr
 | .emp _,v,hr,_=>by simpa only[aF]using hr
 | .agg cs,v,hr,hk=>by simp only[aF]at hr⊢;obtain⟨vs,hv,hl,h1⟩:=hr;exact⟨vs,hv,aP.mono h cs vs hl (fun n hn=>hk n (by simpa only[A.mem]using hn)),h1⟩
 | .fn f cs,v,hr,hk=>by simp only[aF]at hr⊢;obtain⟨vs,hv,hl⟩:=hr;exact⟨vs,hv,aP.mono h cs vs hl (fun n hn=>hk n (by simpa only[A.mem]using hn))⟩
 | .cx cs,v,hr,hk=>by simp only[aF]at hr⊢;obtain⟨vs,hv,hl⟩:=hr;exact⟨vs,hv,aP.mono h cs vs hl (fun n hn=>hk n (by simpa only[A.mem]using hn))⟩
 | .ad es,v,hr,_=>by
  simp only[aF]at hr⊢;obtain⟨hp,a,cap,hv,hc,hl⟩:=hr;refine⟨hp,a,cap,hv,hc,fun bU=> ?_⟩
  obtain⟨b,off,ha,hb,hn,he⟩:=hl bU;exact⟨b,off,ha,Nat.lt_of_lt_of_le hb h.size,(h.Kv b hb hn).1,eo.mono h (bT es) b off es hb hn he (fun n hn=>by rw[A.fc n es hp]at hn;cases hn)⟩
 | .clip es,v,hr,_=>by
  simp only[aF]at hr⊢;obtain⟨hp,a,hv,hl⟩:=hr;refine⟨hp,a,hv,fun bU=> ?_⟩
  obtain⟨b,off,ha,hb,hn,he⟩:=hl bU;exact⟨b,off,ha,Nat.lt_of_lt_of_le hb h.size,(h.Kv b hb hn).1,eo.mono h (bT es) b off es hb hn he (fun n hn=>by rw[A.fc n es hp]at hn;cases hn)⟩
 | .dz cs,v,hr,_=>by simp only[aF]at hr⊢;obtain⟨hp,b,off,hv,hb,hn,he⟩:=hr;exact⟨hp,b,off,hv,Nat.lt_of_lt_of_le hb h.size,(h.Kv b hb hn).1,fJ.mono h b off cs hb hn he (fun n hn=>by rw[A.fc n cs hp]at hn;cases hn)⟩
 | .ref n off,v,hr,hk=>by simp only[aF]at hr⊢;obtain⟨b,k,hb,hv⟩:=hr;exact⟨b,k,h.refs n _ (hk n (by simp[A.mem])) hb (by simp),hv⟩
 | .fT n i off,v,hr,hk=>by simp only[aF]at hr⊢;obtain⟨b,k,hb,hv⟩:=hr;exact⟨b,k,h.refs n _ (hk n (by simp[A.mem])) hb (by simp),hv⟩
 | .row n off k len cl,v,hr,hk=>by
  simp only[aF]at hr⊢;rcases hr with⟨o,hb,hf,r⟩|⟨b,cap,c,e,fr,hb,hv,qn,jg,hc,hs⟩
  · exact .inl ⟨o,h.refs n _ (hk n (by simp[A.mem])) hb hf,hf,r⟩
  · obtain⟨c',N_,u4,Vy⟩:=h.own n b k c e fr (hk n (by simp[A.mem])) hb hc
    exact .inr ⟨b,cap,c',e,N_,h.refs n _ (hk n (by simp[A.mem])) hb (by simp),hv,qn,jg,u4,by omega⟩
theorem aP.mono{K:Nat->Prop}{E E':Env}(h:Ext K E E'): ∀(cs:List A) (vs:List Value),aP E cs vs->(∀n,A.mem.fI n cs=true->K n)->aP E' cs vs
 | [],_,hr,_=>by simpa only[aP]using hr
 |c::cs,vs,hr,hk=>by simp only[aP]at hr⊢;obtain⟨v,kc,hv,hc,hl⟩:=hr;exact⟨v,kc,hv,aF.mono h c v hc (fun n hn=>hk n (by simp[A.mem.fI,hn])),aP.mono h cs kc hl (fun n hn=>hk n (by simp[A.mem.fI,hn]))⟩
theorem fJ.mono{K:Nat->Prop}{E E':Env}(h:Ext K E E'): ∀(b off:Nat) (cs:List A),b<E.w.heap.size-> ¬E.N b->fJ E b off cs->(∀n,A.mem.fI n cs=true->K n)->fJ E' b off cs
 |_,_,[],_,_,_,_=>by simp only[fJ]
 |b,off,c::cs,hb,hn,hr,hk=>by simp only[fJ]at hr⊢;obtain⟨⟨v,hv,h1,hc⟩,hl⟩:=hr;exact⟨⟨v,by rw[h.cell hb hn];exact hv,h1,aF.mono h c v hc (fun n hn=>hk n (by simp[A.mem.fI,hn]))⟩,fJ.mono h b (off+1) cs hb hn hl (fun n hn=>hk n (by simp[A.mem.fI,hn]))⟩
theorem eo.mono{K:Nat->Prop}{E E':Env}(h:Ext K E E'): ∀(k b off:Nat) (es:List A),b<E.w.heap.size-> ¬E.N b->eo E k b off es->(∀n,A.mem.fI n es=true->K n)->eo E' k b off es
 |_,_,_,[],_,_,_,_=>by simp only[eo]
 |k,b,off,e::es,hb,hn,hr,hk=>by
  cases e
  case agg cs=>
   rw[Ku]at hr⊢;obtain⟨⟨hlen,hm⟩,hl⟩:=hr;exact⟨⟨hlen,fJ.mono h b off cs hb hn hm (fun n hn=>hk n (by simp[A.mem.fI,A.mem,hn]))⟩,eo.mono h k b (off+k) es hb hn hl (fun n hn=>hk n (by simp[A.mem.fI,hn]))⟩
  all_goals
   simp only[eo]at hr⊢;obtain⟨⟨ke,v,hv,h1,hc⟩,hl⟩:=hr;exact⟨⟨ke,v,by rw[h.cell hb hn];exact hv,h1,aF.mono h _ v hc (fun n hn=>hk n (by simp[A.mem.fI,hn]))⟩,eo.mono h k b (off+k) es hb hn hl (fun n hn=>hk n (by simp[A.mem.fI,hn]))⟩
end
inductive Obj where
 |box (cs:List A)
 |row (k:Nat) (es:List A)
instance:Inhabited Obj:=⟨.row 0 []⟩
structure St where
 s:List (Nat×A)
 H:List Obj
def toA1:Value->A
 | .int k n=> .int k n
 | .bool b=> .bool b
 | .string s=> .str s.data.toList
 | .slice none 0 0=> .bK
 | .pointer none=> .ta
 | .func (.func f) ⟨[]⟩ ⟨[]⟩=> .fn f []
 | .tuple ⟨[]⟩=> .cx []
 |_=> .any
def toA:Value->A
 | .agg ⟨cs⟩=>if cs.all (·.oneCell')then .agg (cs.map toA1)else .any
 |v=>toA1 v
def look:List (Nat×A)->Nat->A
 | [],_=> .any
 |(d,v)::r,t=>if d=t then v else look r t
def cn:List A->Nat->A->List A
 | [],_,_=>[]
 |_::xs,0,v=>v::xs
 |x::xs,n+1,v=>x::cn xs n v
def bX:List Obj->Nat->Option Obj
 | [],_=>none
 |x::_,0=>some x
 |_::xs,n+1=>bX xs n
def jY:List Obj->Nat->Obj->List Obj
 | [],_,_=>[]
 |_::xs,0,v=>v::xs
 |x::xs,n+1,v=>x::jY xs n v
def St.ev(σ:St):Operand->A
 | .tmp t=>look σ.s t
 | .const v=>toA v
 | .func f=> .fn f []
 | .global _=> .any
def St.put(σ:St)(d:Option Tmp)(v:A):St:=
 match d with
 |some d=>{σ with s:=(d,v)::σ.s}
 |none=>σ
def St.cT(σ:St)(n:Nat)(o:Obj):St:={σ with H:=jY σ.H n o}
def bE(P:Program)(t:TypeId):Option Bool:=
 match P.underlying t with
 |some (.struct _)=>some true
 |some (.array _ _)=>some true
 |some _=>some false
 |none=>none
def aX(P:Program)(t:TypeId):Option Nat:=(P.info? t).map (·.size)
def eC(P:Program)(t:TypeId):Nat:=P.bytesOf t
def aR(P:Program)(t:TypeId):Option TypeId:=
 match P.underlying t with
 |some (.slice e)=>some e
 |_=>none
def eD(P:Program)(t:TypeId):Option (Nat×TypeId):=
 match P.underlying t with
 |some (.array n e)=>some (n,e)
 |_=>none
def fieldInfo(P:Program)(s:TypeId)(f:Nat):Option (Nat×TypeId):=
 match P.underlying s with
 |some (.struct fs)=>(fs[f]?).bind fun x=>if aX P x.type=some 0 then none else if(aX P x.type).isNone then none else some (x.offset,x.type)
 |_=>none
def dt(P:Program)(t:TypeId):Option A:=(P.info? t).bind fun i=>i.zero.map toA
def fm(P:Program)(t:TypeId):Bool:=
 match P.underlying t with
 |some .string=>true
 |_=>false
def fU(P:Program)(t:TypeId):Bool:=
 match P.underlying t with
 |some .bool=>true
 |_=>false
def jn(P:Program)(t:TypeId):Bool:=
 match P.underlying t with
 |some (.pointer _)=>true
 |_=>false
def oh(P:Program)(t:TypeId):Option IntKind:=
 match P.underlying t with
 |some (.int k)=>some k
 |_=>none
def jo(P:Program)(t:TypeId)(cs:List A):Option A:=
 match bE P t with
 |some true=>
  match aX P t with
  |some n=>if n<=cs.length then some (.agg (cs.take n))else none
  |none=>none
 |some false=>cs.head?
 |none=>none
def A.val:A->Bool
 | .any=>false
 | .cx _=>false
 |_=>true
def A.flat:A->Bool
 | .int _ _=>true
 | .bool _=>true
 | .str _=>true
 | .bK=>true
 | .ta=>true
 | .agg cs=>Kw cs
 | .cx cs=>Kw cs
 |_=>false
where Kw:List A->Bool
 | []=>true
 |c::cs=>c.flat&&Kw cs
def gS(c:UInt8):A:= .int .u8 c.toNat
def dh(s:List UInt8):List A:=s.map gS
def tb:A->Option UInt8
 | .int .u8 n=>some (UInt8.ofNat n.toNat)
 |_=>none
def fo:List A->Option (List UInt8)
 | []=>some []
 |x::xs=>(tb x).bind fun b=>(fo xs).map (b:: ·)
def SU:A->A->Option Bool
 | .int k a,.int k' b=>if k=k' then some (a==b)else none
 | .bool a,.bool b=>some (a==b)
 | .str a,.str b=>some (a==b)
 |_,_=>none
def u_:List A->List A->Option Bool
 | [],[]=>some true
 |x::xs,y::ys=>(SU x y).bind fun a=>(u_ xs ys).map (a&& ·)
 |_,_=>none
inductive CK where
 |int (k:IntKind)
 |bool
 |str
 deriving DecidableEq
def CK.has:CK->A->Bool
 | .int k,.int k' _=>k==k'
 | .bool,.bool _=>true
 | .str,.str _=>true
 |_,_=>false
def eE:List CK->List A->Bool
 | [],[]=>true
 |c::cs,x::xs=>c.has x&&eE cs xs
 |_,_=>false
def A.Kx:A->Bool
 | .ref _ _=>true
 | .fT _ _ _=>true
 | .dz _=>true
 |_=>false
def u'(op:BinOp)(k:IntKind)(a b:Int):Option A:=
 match op with
 | .add=>some (.int k (k.wrap (a+b)))
 | .sub=>some (.int k (k.wrap (a-b)))
 | .mul=>some (.int k (k.wrap (a*b)))
 | .quo=>if b=0 then none else some (.int k (k.wrap (a.tdiv b)))
 | .rem=>if b=0 then none else some (.int k (a.tmod b))
 | .and=>some (.int k (k.wrap ((BitVec.ofInt k.bits a&&&BitVec.ofInt k.bits b).toNat)))
 | .or=>some (.int k (k.wrap ((BitVec.ofInt k.bits a|||BitVec.ofInt k.bits b).toNat)))
 | .xor=>some (.int k (k.wrap ((BitVec.ofInt k.bits a^^^BitVec.ofInt k.bits b).toNat)))
 | .andNot=>some (.int k (k.wrap ((BitVec.ofInt k.bits a&&&~~~ BitVec.ofInt k.bits b).toNat)))
 | .eql=>some (.bool (a==b))
 | .neq=>some (.bool (a !=b))
 | .lss=>some (.bool (decide (a<b)))
 | .leq=>some (.bool (decide (a<=b)))
 | .gtr=>some (.bool (decide (b<a)))
 | .geq=>some (.bool (decide (b<=a)))
 |_=>none
def binS(op:BinOp)(a b:List UInt8):Option A:=
 match op with
 | .add=>if a.length+b.length<=9223372036854775807 then some (.str (a++b))else none
 | .eql=>some (.bool (a==b))
 | .neq=>some (.bool (a !=b))
 | .lss=>some (.bool (Op.bytesLess a b))
 | .leq=>some (.bool (Op.bytesLess a b||a==b))
 | .gtr=>some (.bool !(Op.bytesLess a b||a==b))
 | .geq=>some (.bool !(Op.bytesLess a b))
 |_=>none
def QX(sl:Bool)(op:BinOp)(c:Bool):Option A:=
 if sl=true then
  match op with
  | .eql=>some (.bool c)
  | .neq=>some (.bool !c)
  |_=>none
 else none
def gT(ks:Option (List CK))(bl ptr sl:Bool)(op:BinOp):A->A->Option A
 | .int k a,.int k' b=>
  match op with
  | .shl=>if b<0 then none else some (.int k (k.wrap (a*2^(min b.toNat k.bits))))
  | .shr=>if b<0 then none else some (.int k (a.fdiv (2^(min b.toNat k.bits))))
  |_=>if k=k' then u' op k a b else none
 | .bool a,.bool b=>
  if bl=true then
   match op with
   | .eql=>some (.bool (a==b))
   | .neq=>some (.bool (a !=b))
   |_=>none
  else none
 | .str a,.str b=>binS op a b
 | .agg xs,.agg ys=>
  match ks with
  |some l=>
   if eE l xs=true/\eE l ys=true then
    match op with
    | .eql=>(u_ xs ys).map .bool
    | .neq=>(u_ xs ys).map fun b=> .bool !b
    |_=>none
   else none
  |none=>none
 | .ta,y=>
  if ptr then
   match op with
   | .eql=>match y with| .ta=>some (.bool true)|_=>if y.Kx then some (.bool false)else none
   | .neq=>match y with| .ta=>some (.bool false)|_=>if y.Kx then some (.bool true)else none
   |_=>none
  else none
 |x,.ta=>
  if ptr&&x.Kx then
   match op with
   | .eql=>some (.bool false)
   | .neq=>some (.bool true)
   |_=>none
  else none
 | .emp c,.bK=>QX sl op c
 | .ad (_::_),.bK=>QX sl op false
 |_,_=>none
def unA(op:UnOp):A->Option A
 | .bool b=>match op with| .not=>some (.bool !b)|_=>none
 | .int k n=>match op with| .neg=>some (.int k (k.wrap (0-n)))|_=>none
 |_=>none
def SV(rec:TypeId->Option (List CK))(size:TypeId->Option Nat):List Field->Nat->Option (List CK)
 | [],_=>some []
 |f::fs,off=>
  if f.name= "_" \/f.offset≠off then none else
  match rec f.type,size f.type with
  |some ks,some n=>if ks.length=n then(SV rec size fs (off+n)).map (ks++ ·)else none
  |_,_=>none
def SX(P:Program):Nat->TypeId->Option (List CK)
 |0,_=>none
 |d+1,t=>
  match P.underlying t with
  |some .bool=>some [.bool]
  |some (.int k)=>some [.int k]
  |some .string=>some [.str]
  |some (.struct fs)=>if P.stoodInHeld t=true then none else SV (SX P d) (aX P) fs.toList 0
  |_=>none
def oR(P:Program)(t:TypeId):Option (List CK):=if P.eqGuardType P.depth t=true\/bE P t≠some true then none else SX P 10 t
def iD:A->A
 | .bK=> .ad []
 | .emp _=> .ad []
 | .clip es=> .ad es
 |x=>x
def A.norm:A->A
 | .agg cs=> .agg (cs.map iD)
 |x=>iD x
def fN(H:List Obj)(n off k len:Nat):Option A:=
 match bX H n with
 |some (.row k' es)=>if k'=k/\off+len<=es.length/\k≠0 then some (.ad ((es.drop off).take len))else none
 |_=>none
def jL(H:List Obj):A->Option A
 | .row n off k len _=>fN H n off k len
 | .ref _ _=>none
 | .fT _ _ _=>none
 | .agg _=>none
 | .cx _=>none
 | .fn _ _=>none
 | .bK=>some (.ad [])
 | .emp _=>some (.ad [])
 | .clip es=>some (.ad es)
 |x=>some x
def ep(H:List Obj):List A->Option (List A)
 | []=>some []
 |x::xs=>(jL H x).bind fun y=>(ep H xs).map (y:: ·)
def kO(H:List Obj):A->Option A
 | .ref n off=>
  match bX H n with
  |some (.box cs)=>(ep H (cs.drop off)).map .dz
  |_=>none
 | .fT n i off=>
  match bX H n with
  |some (.row _ es)=>(es[i]?).map fun e=> .dz (e.cells.drop off)
  |_=>none
 | .agg cs=>(ep H cs).map .agg
 |x=>jL H x
def ij(H:List Obj):List A->Option (List A)
 | []=>some []
 |x::xs=>(kO H x).bind fun y=>(ij H xs).map (y:: ·)
def view(H:List Obj):A->Option A
 | .fn f cs=>(ij H cs).map (.fn f ·)
 |x=>kO H x
def gO(H:List Obj):List A->Option (List A)
 | []=>some []
 |x::xs=>(view H x).bind fun y=>(gO H xs).map (y:: ·)
def er(i:Int)(es:List A):Option A:=if 0<=i then es[i.toNat]? else none
inductive Bd where
 |none
 |some (n:Int)
 |bad
def Vz:A->Bd
 | .int _ n=> .some n
 |_=> .bad
def St.bd(σ:St):Option Operand->Bd
 |Option.none=> .none
 |Option.some x=>Vz (σ.ev x)
def Bd.get(d:Int):Bd->Int
 | .some n=>n
 |_=>d
def Bd.ok:Bd->Bool
 | .bad=>false
 |_=>true
def Bd.ok3:Bd->Bool
 | .some _=>true
 |_=>false
def j7(k:Nat)(es:List A):Bool:=es.isEmpty||bT es==k
def Hf(s:List UInt8)(lo hi mx:Bd):Option A:=
 match mx with
 | .none=>if 0<=lo.get 0/\lo.get 0<=hi.get s.length/\hi.get s.length<=s.length then some (.str ((s.take (hi.get s.length).toNat).drop (lo.get 0).toNat))else none
 |_=>none
def va(k:Nat)(es:List A)(lo hi mx:Bd):Option A:=
 match mx with
 | .none=>if j7 k es=true/\0<=lo.get 0/\lo.get 0<=hi.get es.length/\hi.get es.length<=es.length then some (.ad ((es.take (hi.get es.length).toNat).drop (lo.get 0).toNat))else none
 | .some m=>if j7 k es=true/\0<=lo.get 0/\lo.get 0<=hi.get es.length/\hi.get es.length<=es.length/\m=hi.get es.length/\hi.ok3=true then some (.clip ((es.take (hi.get es.length).toNat).drop (lo.get 0).toNat))else none
 | .bad=>none
def Hg(n off k len:Nat)(lo hi mx:Bd):Option A:=
 match mx with
 | .none=>if 0<=lo.get 0/\lo.get 0<=hi.get len/\hi.get len<=len then some (.row n (off+(lo.get 0).toNat) k (hi.get len-lo.get 0).toNat false)else none
 | .some m=>if 0<=lo.get 0/\lo.get 0<=hi.get len/\hi.get len<=len/\m=hi.get len/\hi.ok3=true then some (.row n (off+(lo.get 0).toNat) k (hi.get len-lo.get 0).toNat true)else none
 | .bad=>none
def rU(st:Bool)(sz:Option Nat)(x:A)(lo hi mx:Bd):Option A:=
 match x with
 | .str s=>if st=true then Hf s lo hi mx else none
 | .ad es=>match sz with|some k=>va k es lo hi mx|none=>none
 | .clip es=>match sz with|some k=>va k es lo hi mx|none=>none
 | .row n off k' len _=>match sz with|some k=>if k=k' then Hg n off k len lo hi mx else none|none=>none
 |_=>none
def rV(P:Program)(t:TypeId):Option Nat:=
 match aR P t with
 |some e=>aX P e
 |none=>none
def Ky(c a b:A):Option A:=
 match c with
 | .bool t=>some (if t then a else b)
 |_=>none
def tc(size:Option Nat)(off:Nat)(x:A)(zs:List A):Option (List A):=
 match size with
 |some n=>if x.cells.length=n/\off+n<=zs.length/\x.val=true then some (zs.take off++x.cells++zs.drop (off+n))else none
 |none=>none
def jM(P:Program)(t:TypeId)(σ:St):List (Nat×Operand)->List A->Option (List A)
 | [],zs=>some zs
 |(i,x)::ps,zs=>
  match fieldInfo P t i with
  |some (o,ft)=>(tc (aX P ft) o (σ.ev x) zs).bind (jM P t σ ps)
  |none=>none
def jN(P:Program)(e:TypeId)(σ:St):List (Nat×Operand)->List A->Option (List A)
 | [],zs=>some zs
 |(i,x)::ps,zs=>
  match aX P e with
  |some n=>(tc (some n) (i*n) (σ.ev x) zs).bind (jN P e σ ps)
  |none=>none
def iE(k:Nat)(σ:St):List (Nat×Operand)->List A->Option (List A)
 | [],zs=>some zs
 |(i,x)::ps,zs=>if(σ.ev x).cells.length=k/\i<zs.length/\(σ.ev x).val=true/\(σ.ev x).pure=true then iE k σ ps (cn zs i (σ.ev x).norm)else none
def fV(P:Program)(t:TypeId):Bool:=
 match P.underlying t with
 |some (.struct fs)=>fs.toList.all fun f=>(aX P f.type).isSome
 |_=>false
def oS(P:Program)(t:TypeId)(σ:St)(parts:List (Nat×Operand)):Option A:=
 match dt P t with
 |some (.agg zs)=>
  match eD P t with
  |some (_,e)=>if(aX P e).isSome=true then(jN P e σ parts zs).map .agg else none
  |none=>if fV P t=true then(jM P t σ parts zs).map .agg else none
 |_=>none
def e9(P:Program)(t:TypeId)(len:Nat)(σ:St)(parts:List (Nat×Operand)):Option A:=
 match aR P t with
 |some e=>
  match aX P e,dt P e with
  |some k,some z=>if len*k<=16777216/\k≠0/\z.pure=true/\z.val=true/\z.cells.length=k then(iE k σ parts (List.replicate len z.norm)).map .clip else none
  |_,_=>none
 |none=>none
def rp(P:Program)(t:TypeId)(H:List Obj)(a:A):Option A:=
 match a with
 | .dz cs=>jo P t cs
 | .ref n off=>match bX H n with|some (.box cs)=>jo P t (cs.drop off)|_=>none
 | .fT n i off=>match bX H n with|some (.row _ es)=>(es[i]?).bind fun e=>jo P t (e.cells.drop off)|_=>none
 |_=>none
def vb(x:A):Option A:=
 match x with
 | .dz cs=>some (.dz cs)
 | .ref n off=>some (.ref n off)
 | .fT n i off=>some (.fT n i off)
 | .fn f cs=>some (.fn f cs)
 |_=>none
def td(P:Program)(src dst:TypeId):Bool:=(aR P src).any (fun e=>oh P e=some .u8)&&fm P dst
def kP(b:Bool)(x:Option A):Option A:=
 if b=true then
  match x with
  |some (.ad es)=>(fo es).map .str
  |_=>none
 else none
def mo(P:Program)(src dst:TypeId)(H:List Obj)(x:A):Option A:=
 match x with
 | .int _ n=>match oh P dst with|some k=>if(bE P src).isSome=true then some (.int k (k.wrap n))else none|none=>none
 | .str s=>if fm P src&&fm P dst then some (.str s)else none
 | .ad es=>kP (td P src dst) (view H (.ad es))
 | .clip es=>kP (td P src dst) (view H (.clip es))
 | .bK=>kP (td P src dst) (view H .bK)
 | .row n off k len c=>kP (td P src dst) (view H (.row n off k len c))
 |_=>none
def ju(o:Nat)(x:A):Option A:=
 match x with
 | .dz cs=>some (.dz (cs.drop o))
 | .ref n off=>some (.ref n (off+o))
 | .fT n i off=>some (.fT n i (off+o))
 |_=>none
def jv(i:Option (Nat×TypeId))(x:A):Option A:=
 match i with
 |some (o,_)=>ju o x
 |none=>none
def Oa(P:Program)(i:Option (Nat×TypeId))(x:A):Option A:=
 match i,x with
 |some (o,t),.agg cs=>jo P t (cs.drop o)
 |_,_=>none
def SY(k:Nat)(i:Int)(es:List A):Option A:=(er i es).bind fun y=>if k=y.cells.length then some (.dz y.cells)else none
def kQ(k:Nat)(i:Int)(x:A):Option A:=
 match x with
 | .ad es=>SY k i es
 | .clip es=>SY k i es
 | .row n off k' len _=>if k=k'/\0<=i/\i<len then some (.fT n (off+i.toNat) 0)else none
 |_=>none
def nc(n k:Nat)(i:Int)(x:A):Option A:=
 match x with
 | .ref m off=>if 0<=i/\i<n then some (.ref m (off+i.toNat*k))else none
 | .dz cs=>if 0<=i/\i<n then some (.dz (cs.drop (i.toNat*k)))else none
 |_=>none
def kR(P:Program)(t:TypeId)(x ix:A):Option A:=
 match ix with
 | .int _ i=>
  match aR P t with
  |some e=>match aX P e with|some k=>kQ k i x|none=>none
  |none=>
   match eD P t with
   |some (n,e)=>match aX P e with|some k=>nc n k i x|none=>none
   |none=>none
 |_=>none
def vc(P:Program)(t:TypeId)(x ix:A):Option A:=
 match ix,x with
 | .int _ i,.str s=>if fm P t=true/\0<=i then(s[i.toNat]?).map gS else none
 | .int _ i,.agg cs=>
  match eD P t with
  |some (n,e)=>match aX P e with|some k=>if 0<=i/\i<n then jo P e (cs.drop (i.toNat*k))else none|none=>none
  |none=>none
 |_,_=>none
def oT(x:A)(ix:Nat):Option A:=
 match x with
 | .cx cs=>cs[ix]?
 |_=>none
def Ob(P:Program)(t:TypeId)(x:A):Option A:=
 match x with
 | .str s=>if fm P t=true then some (.int .i64 s.length)else none
 | .ad es=>if(aR P t).isSome=true then some (.int .i64 es.length)else none
 | .clip es=>if(aR P t).isSome=true then some (.int .i64 es.length)else none
 | .row _ _ _ len _=>if(aR P t).isSome=true then some (.int .i64 len)else none
 | .bK=>if(aR P t).isSome=true then some (.int .i64 0)else none
 |_=>match eD P t with|some (n,_)=>some (.int .i64 n)|none=>none
def VA:List A->Option A
 | [.int k a,.int _ b]=>some (.int k (if b<a then b else a))
 |_=>none
def VB:List A->Option A
 | [.int k a,.int _ b]=>some (.int k (if b>a then b else a))
 |_=>none
def mq(fn:Fn)(first captured:List A):Option A:=
 match fn,first with
 | .func f,[]=>some (.fn f captured)
 |_,_=>none
def St.lJ(σ:St):List Operand->List A
 | []=>[]
 |x::xs=>σ.ev x::σ.lJ xs
def om(P:Program)(σ:St):Op->Option A
 | .move x=>some (σ.ev x)
 | .assign x=>some (σ.ev x)
 | .pick c a b=>Ky (σ.ev c) (σ.ev a) (σ.ev b)
 | .build t parts=>oS P t σ parts.toList
 | .buildSlice t len parts=>e9 P t len σ parts.toList
 | .load t a=>rp P t σ.H (σ.ev a)
 | .nilCheck x=>vb (σ.ev x)
 | .binOp op t x y _=>gT (oR P t) (fU P t) (jn P t) (aR P t).isSome op (σ.ev x) (σ.ev y)
 | .unOp op _ x=>unA op (σ.ev x)
 | .convert src dst x=>mo P src dst σ.H (σ.ev x)
 | .makeFunc fn first captured=>mq fn (σ.lJ first.toList) (σ.lJ captured.toList)
 | .slice t x lo hi mx=>if(eD P t).isNone=true/\(σ.bd lo).ok=true/\(σ.bd hi).ok=true then rU (fm P t) (rV P t) (σ.ev x) (σ.bd lo) (σ.bd hi) (σ.bd mx)else none
 | .fieldAddr s x f=>jv (fieldInfo P s f) (σ.ev x)
 | .field s x f=>Oa P (fieldInfo P s f) (σ.ev x)
 | .indexAddr t x ix=>kR P t (σ.ev x) (σ.ev ix)
 | .index t x ix=>vc P t (σ.ev x) (σ.ev ix)
 | .extract t ix=>oT (σ.ev t) ix
 | .call ⟨.builtin .len,⟨[x]⟩,⟨[t]⟩⟩=>Ob P t (σ.ev x)
 | .call ⟨.builtin .min,⟨xs⟩,_⟩=>VA (σ.lJ xs)
 | .call ⟨.builtin .max,⟨xs⟩,_⟩=>VB (σ.lJ xs)
 |_=>none
def xZ(P:Program)(σ:St)(e tx:TypeId)(k:Nat)(x:A):Option (List A):=
 match x with
 | .ad es=>if j7 k es=true/\(aR P tx).isSome=true then some es else none
 | .clip es=>if j7 k es=true/\(aR P tx).isSome=true then some es else none
 | .bK=>if(aR P tx).isSome=true then some []else none
 | .emp _=>if(aR P tx).isSome=true then some []else none
 | .row n off k' len _=>if k'=k/\(aR P tx).isSome=true then(match fN σ.H n off k len with|some (.ad es)=>some es|_=>none)else none
 | .str s=>if oh P e=some .u8/\k=1/\fm P tx=true then some (dh s)else none
 |_=>none
def dT(n:Nat)(x:A):A:=if x.mem n then .any else x
def ng(n:Nat):Obj->Obj
 | .box cs=> .box (cs.map (dT n))
 |o=>o
def St.fp(σ:St)(n:Nat):St:={s:=σ.s.map (fun p=>(p.1,dT n p.2)),H:=σ.H.map (ng n)}
def nh(fx:Nat->Bool)(σ:St)(name:Nat)(d:Option Tmp)(k bytes:Nat)(base:A)(src:List A):Option St:=
 match base with
 | .bK=>if src.length*bytes<=140737488355328 then some ((σ.cT name (.row k src)).put d (.row name 0 k src.length false))else none
 | .clip es=>if j7 k es=true/\(es=[]\/src≠ [])/\(es.length+src.length)*bytes<=140737488355328 then
  some ((σ.cT name (.row k (es++src))).put d (.row name 0 k (es.length+src.length) false))else none
 | .row n 0 k' len c=>
  match bX σ.H n with
  |some (.row DF es)=>
   if k'=k/\DF=k/\len<=es.length/\(len+src.length)*bytes<=140737488355328 then
    if c then(if src=[]then none else some ((σ.cT name (.row k (es.take len++src))).put d (.row name 0 k (len+src.length) false)))
    else(if fx n=true then none else some (((σ.fp n).cT n (.row k (es.take len++src))).put d (.row n 0 k (len+src.length) false)))
   else none
  |_=>none
 |_=>none
structure aj where
 f:FuncId->List A->Option A
 hp:FuncId->List A->List Obj->Option (A×List Obj×List Nat)
 l_:FuncId->Bool
 qU:FuncId->Bool
 SZ:Bool
 fix:Nat->Bool
 nf:Nat
 c6:Nat->List (List Nat)
def zW(Γ:aj):Operand->Bool
 | .func g=>Γ.l_ g
 | .tmp _=>Γ.SZ
 |_=>false
def te(P:Program)(src dst:TypeId):Bool:=fm P src&&(aR P dst).any (fun e=>oh P e=some .u8)
def bN(P:Program):Op->Bool
 | .alloc _=>true
 | .box _ _=>true
 | .convert src dst _=>te P src dst
 | .call ⟨.builtin .append,_,_⟩=>true
 |_=>false
def dY(cs:List A)(off:Nat)(ys:List A):List A:=cs.take off++ys++cs.drop (off+ys.length)
def vd(σ:St)(name:Nat)(d:Option Tmp)(x:A):Option St:=
 if x.val=true then some ((σ.cT name (.box x.cells)).put d (.ref name 0))else none
def ni(σ:St)(name:Nat)(d:Option Tmp)(z:Option A):Option St:=
 match z with
 |some z=>vd σ name d z
 |none=>none
def kT(e:A)(off:Nat)(v:A):A:=
 match e with
 | .agg cs=> .agg (dY cs off v.norm.cells)
 |_=>v.norm
def nj(σ:St)(d:Option Tmp)(size:Option Nat)(a v:A):Option St:=
 match a with
 | .ref n off=>
  match bX σ.H n with
  |some (.box cs)=>if size=some v.cells.length/\off+v.cells.length<=cs.length/\v.val=true then some ((σ.cT n (.box (dY cs off v.cells))).put d (.cx []))else none
  |_=>none
 | .fT n i off=>
  match bX σ.H n with
  |some (.row k es)=>(es[i]?).bind fun e=>if size=some v.cells.length/\off+v.cells.length<=e.cells.length/\v.cells.length≠0/\v.val=true/\v.pure=true then some ((σ.cT n (.row k (cn es i (kT e off v)))).put d (.cx []))else none
  |_=>none
 |_=>none
def w6(P:Program)(σ:St)(name:Nat)(d:Option Tmp)(src dst:TypeId)(x:A):Option St:=
 if te P src dst=true then
  match x with
  | .str s=>some ((σ.cT name (.row 1 (dh s))).put d (.row name 0 1 s.length false))
  |_=>none
 else(mo P src dst σ.H x).map (σ.put d ·)
def ik(P:Program)(e:TypeId)(k:Nat):Bool:=
 match dt P e with
 |some z=>z.val&&z.cells.length==k
 |none=>false
def qo(P:Program)(fx:Nat->Bool)(σ:St)(name:Nat)(d:Option Tmp)(t tx:TypeId)(b x:A):Option St:=
 match aR P t with
 |some e=>
  match aX P e with
  |some k=>if k=0\/eC P e=0\/ik P e k=false then none else(xZ P σ e tx k x).bind fun src=>nh fx σ name d k (eC P e) b src
  |none=>none
 |none=>none
def Kz(Γ:aj)(σ:St)(d:Option Tmp)(g:FuncId)(aq:List A):Option St:=
 (gO σ.H aq).bind fun bs=>(Γ.f g bs).bind fun r=>if(A.pure.aY aq||r.flat)=true then some (σ.put d r)else none
def zX(Γ:aj)(σ:St)(d:Option Tmp)(f:A)(aq:List A):Option St:=
 match f with
 | .fn g ji=>Kz Γ σ d g (aq++ji)
 |_=>none
def ve(P:Program)(σ:St)(d:Option Tmp)(t:TypeId)(x:A):Option St:=
 match x with
 | .row n off k len _=>
  match aR P t with
  |some e=>
   match bX σ.H n with
   |some (.row k' es)=>
    match dt P e with
    |some z=>if k'=k/\z.cells.length=k/\k≠0/\z.val=true/\z.pure=true/\off+len<=es.length then some ((σ.cT n (.row k (es.take off++List.replicate len z.norm++es.drop (off+len)))).put d (.cx []))else none
    |none=>none
   |_=>none
  |none=>none
 |_=>none
def A.names:A->List Nat
 | .ref n _=>[n]
 | .fT n _ _=>[n]
 | .row n _ _ _ _=>[n]
 | .agg cs=>fK cs
 | .fn _ cs=>fK cs
 | .cx cs=>fK cs
 |_=>[]
where fK:List A->List Nat
 | []=>[]
 |c::cs=>c.names++fK cs
def Obj.names:Obj->List Nat
 | .box cs=>A.names.fK cs
 | .row _ _=>[]
def rW:Option Obj->List Nat
 |some o=>o.names
 |none=>[]
def reach(H:List Obj):Nat->List Nat->List Nat->List Nat
 |0,_,acc=>acc
 |_+1,[],acc=>acc
 |fuel+1,n::todo,acc=>if acc.contains n=true then reach H fuel todo acc else reach H fuel (rW (bX H n)++todo) (acc++[n])
def idx(ρ:List Nat)(n:Nat):Option Nat:=
 match ρ with
 | []=>none
 |m::ms=>if m=n then some 0 else(idx ms n).map (· +1)
def A.iQ(ρ:List Nat):A->Option A
 | .ref n o=>(idx ρ n).map (.ref · o)
 | .fT n i o=>(idx ρ n).map (.fT · i o)
 | .row n o k l c=>(idx ρ n).map (.row · o k l c)
 | .agg cs=>(oF ρ cs).map .agg
 | .fn f cs=>(oF ρ cs).map (.fn f ·)
 | .cx cs=>(oF ρ cs).map .cx
 |x=>some x
where oF (ρ:List Nat):List A->Option (List A)
 | []=>some []
 |c::cs=>(c.iQ ρ).bind fun x=>(oF ρ cs).map (x:: ·)
def Obj.iQ(ρ:List Nat):Obj->Option Obj
 | .box cs=>(A.iQ.oF ρ cs).map .box
 | .row k es=>some (.row k es)
def VC(ρ:List Nat):Option Obj->Option Obj
 |some o=>o.iQ ρ
 |none=>none
def oG(ρ:List Nat)(H:List Obj):List Nat->Option (List Obj)
 | []=>some []
 |n::ns=>(VC ρ (bX H n)).bind fun o=>(oG ρ H ns).map (o:: ·)
def fW:List Nat->Nat->Nat->Nat
 | [],base,i=>base+i
 |n::_,_,0=>n
 |_::ns,base,i+1=>fW ns base i
def A.back(ρ:List Nat)(m:Nat):A->A
 | .ref n o=> .ref (fW ρ m n) o
 | .fT n i o=> .fT (fW ρ m n) i o
 | .row n o k l c=> .row (fW ρ m n) o k l c
 | .agg cs=> .agg (lQ ρ m cs)
 | .fn f cs=> .fn f (lQ ρ m cs)
 | .cx cs=> .cx (lQ ρ m cs)
 |x=>x
where lQ (ρ:List Nat) (m:Nat):List A->List A
 | []=>[]
 |c::cs=>c.back ρ m::lQ ρ m cs
def Obj.back(ρ:List Nat)(m:Nat):Obj->Obj
 | .box cs=> .box (A.back.lQ ρ m cs)
 | .row k es=> .row k es
def c7(ρ:List Nat)(m:Nat)(σ:St):List Nat->St
 | []=>σ
 |i::is=>c7 ρ m (σ.fp (fW ρ m i)) is
def lR(ρ:List Nat)(m:Nat):List Nat->List Obj->List Obj->List Obj
 | [],os,H=>H++os.map (Obj.back ρ m)
 |n::ns,o::os,H=>lR ρ m ns os (jY H n (o.back ρ m))
 |_::_,[],H=>H
def zY(σ:St)(d:Option Tmp)(ρ:List Nat):A×List Obj×List Nat->St
 |(r,H',S)=>St.put ⟨(c7 ρ σ.H.length σ S).s,lR ρ σ.H.length ρ H' (c7 ρ σ.H.length σ S).H⟩ d (r.back ρ σ.H.length)
def nk(Γ:aj)(ρ:List Nat)(m:Nat):List Nat->Bool
 | []=>true
 |i::is=> !Γ.fix (fW ρ m i)&&nk Γ ρ m is
def A.meets(ρ:List Nat)(x:A):Bool:=ρ.any fun n=>x.mem n
def lL(ρ:List Nat)(ch:List Obj)(x:A):A:=
 if x.meets ρ=true then(match x.iQ ρ with|some x'=>(view ch x').getD .any|none=> .any)else x
def Hh(ρ:List Nat)(ch:List Obj):Obj->Obj
 | .box cs=> .box (cs.map (lL ρ ch))
 | .row k es=> .row k es
def mr(ρ:List Nat):List Nat->List Obj->List Obj
 | [],H=>H
 |n::ns,H=>mr ρ ns (jY H n (.row 0 []))
def Hi(σ:St)(d:Option Tmp)(ρ:List Nat)(ch:List Obj)(r:A):St:=
 St.put ⟨σ.s.map (fun p=>(p.1,lL ρ ch p.2)),mr ρ ρ (σ.H.map (Hh ρ ch))⟩ d r
def rX(Γ:aj)(σ:St)(d:Option Tmp)(g:FuncId)(aq:List A)(ρ:List Nat):Option St:=
 (A.iQ.oF ρ aq).bind fun ZK=>(oG ρ σ.H ρ).bind fun ch=>
  if Γ.qU g=true then(if ρ.all (fun n=> !Γ.fix n)=true then(gO ch ZK).bind fun bs=>(Γ.f g bs).map (Hi σ d ρ ch)else none)
  else(Γ.hp g ZK ch).bind fun x=>if nk Γ ρ σ.H.length x.2.2=true then some (zY σ d ρ x)else none
def KA(Γ:aj)(σ:St)(d:Option Tmp)(g:FuncId)(aq:List A):Option St:=rX Γ σ d g aq (reach σ.H 64 (A.names.fK aq) [])
def oU(Γ:aj)(σ:St)(d:Option Tmp)(f:A)(aq:List A):Option St:=
 match f with
 | .fn g ji=>KA Γ σ d g (aq++ji)
 |_=>none
def execOp(P:Program)(Γ:aj)(name:Nat)(d:Option Tmp)(op:Op)(σ:St):Option St:=
 match op with
 | .alloc t=>ni σ name d (dt P t)
 | .box _ x=>vd σ name d (σ.ev x)
 | .store t a x=>nj σ d (aX P t) (σ.ev a) (σ.ev x)
 | .convert src dst x=>w6 P σ name d src dst (σ.ev x)
 | .call ⟨.builtin .append,⟨[b,x]⟩,⟨[t,tx]⟩⟩=>qo P Γ.fix σ name d t tx (σ.ev b) (σ.ev x)
 | .call ⟨.builtin .clear,⟨[x]⟩,⟨[t]⟩⟩=>ve P σ d t (σ.ev x)
 | .call ⟨.value f,⟨xs⟩,_⟩=>if zW Γ f=true then oU Γ σ d (σ.ev f) (σ.lJ xs)else zX Γ σ d (σ.ev f) (σ.lJ xs)
 |op=>(om P σ op).map (σ.put d ·)
def zZ:List (Option Tmp)->Nat->Option Tmp
 | [],_=>none
 |x::_,0=>x
 |_::xs,n+1=>zZ xs n
def iR(ds:List (Option Tmp))(σ:St)(g:Option (Nat×Bool)):Option Bool:=
 match g with
 |none=>some true
 |some (j,want)=>
  match zZ ds j with
  |none=>some false
  |some t=>
   match look σ.s t with
   | .bool b=>some (b==want)
   | .any=>none
   |_=>some false
def bH(P:Program)(Γ:aj)(ds:List (Option Tmp))(name:Nat)(o:Oper)(σ:St):Option St:=
 match iR ds σ o.guard with
 |none=>none
 |some b=>if b then execOp P Γ name o.dst o.op σ else some (σ.put o.dst (.cx []))
def grow(P:Program)(op:Op)(σ:St):St:=if bN P op=true then{σ with H:=σ.H++[.row 0 []]}else σ
def iS(P:Program)(op:Op)(n:Nat):Nat:=if bN P op=true then n+1 else n
def pre(P:Program):List Oper->St->St
 | [],σ=>σ
 |o::os,σ=>pre P os (grow P o.op σ)
def iT(P:Program)(Γ:aj)(ds:List (Option Tmp)):List Oper->Nat->St->Option St
 | [],_,σ=>some σ
 |o::os,n,σ=>(bH P Γ ds n o σ).bind (iT P Γ ds os (iS P o.op n))
def dstsOf:List Oper->List (Option Tmp)
 | []=>[]
 |o::os=>o.dst::dstsOf os
inductive Ex where
 |normal
 |exit (id:Nat)
 |ret
def A.under(m:Nat):A->Bool
 | .ref n _=>n<m
 | .fT n _ _=>n<m
 | .row n _ _ _ _=>n<m
 | .agg cs=>fX m cs
 | .fn _ cs=>fX m cs
 | .cx cs=>fX m cs
 |_=>true
where fX (m:Nat):List A->Bool
 | []=>true
 |c::cs=>c.under m&&fX m cs
def leS(m:Nat)(s:List (Nat×A)):List (Nat×A)->Prop
 | []=>True
 |(d,y)::r=>(look s d=y/\y.under m=true)/\leS m s r
def Ki(m:Nat):List A->List A->Prop
 | [],[]=>True
 |x::xs,y::ys=>(y= .any\/(x=y/\y.under m=true))/\Ki m xs ys
 |_,_=>False
def QY(m:Nat):Obj->Obj->Prop
 | .box xs,.box ys=>Ki m xs ys
 | .row k xs,.row k' ys=>k=k'/\xs=ys
 |_,_=>False
def rq(m:Nat):List Obj->List Obj->Prop
 | [],[]=>True
 |_::_,[]=>True
 |x::xs,y::ys=>QY m x y/\rq m xs ys
 | [],_::_=>False
def St.le(σ τ:St):Prop:=leS τ.H.length σ.s τ.s/\rq τ.H.length σ.H τ.H
def KB(ρ:List Nat)(ch:List Obj)(σ:St):St:=⟨σ.s.map (fun p=>(p.1,lL ρ ch p.2)),mr ρ ρ (σ.H.map (Hh ρ ch))⟩
def z8(ρ:List Nat)(σ:St):St:=⟨σ.s.map (fun p=>(p.1,p.2.back ρ σ.H.length)),lR ρ σ.H.length ρ σ.H σ.H⟩
inductive St.to(nf:Nat):St->St->Prop where
 |le {σ τ:St}:nf<=τ.H.length->σ.le τ->St.to nf σ τ
 |nil {σ τ:St} (d k:Nat):look σ.s d= .bK->St.to nf ⟨(d,.row σ.H.length 0 k 0 false)::σ.s,σ.H++[.row k []]⟩ τ->St.to nf σ τ
 |nilb {σ τ:St} (m i k:Nat) (cs:List A):bX σ.H m=some (.box cs)->cs[i]? =some .bK->
  St.to nf ⟨σ.s,jY σ.H m (.box (cn cs i (.row σ.H.length 0 k 0 false)))++[.row k []]⟩ τ->St.to nf σ τ
 |wk {σ τ:St} (d:Nat) (es:List A):look σ.s d= .clip es->St.to nf ⟨(d,.ad es)::σ.s,σ.H⟩ τ->St.to nf σ τ
 |wkb {σ τ:St} (m:Nat) (cs:List A):bX σ.H m=some (.box cs)->St.to nf ⟨σ.s,jY σ.H m (.box (cs.map iD))⟩ τ->St.to nf σ τ
 |perm {σ τ:St} (ρ:List Nat):σ.H.length=ρ.length->ρ.Nodup->(∀n∈ρ,n<ρ.length)->(∀n,n<ρ.length->n∈ρ)->(∀i,i<nf->fW ρ ρ.length i=i)->St.to nf (z8 ρ σ) τ->St.to nf σ τ
 |qU {σ τ:St} (ρ:List Nat) (ch:List Obj):ρ.Nodup->oG ρ σ.H ρ=some ch->(∀n∈ρ,nf<=n)->St.to nf (KB ρ ch σ) τ->St.to nf σ τ
def K? {α:Type}(o:Option α)(q:α->Prop):Prop:= ∃x,o=some x/\q x
def jZ(P:Program):Nat->List Oper->List (Nat×Oper)
 |_,[]=>[]
 |n,o::os=>(n,o)::jZ P (iS P o.op n) os
def eJ:List (Nat×Oper)->Nat->Option (Nat×Oper)
 | [],_=>none
 |x::_,0=>some x
 |_::xs,i+1=>eJ xs i
def oH(P:Program)(Γ:aj)(ds:List (Option Tmp))(B:List (Nat×Oper)):List Nat->St->Option St
 | [],σ=>some σ
 |i::is,σ=>(eJ B i).bind fun x=>(bH P Γ ds x.1 x.2 σ).bind (oH P Γ ds B is)
def rr(P:Program)(Γ:aj)(ds:List (Option Tmp))(B:List (Nat×Oper))(σ:St)(q:St->Prop):List (List Nat)->Prop
 | []=>True
 |o::os=>K? (oH P Γ ds B o σ) q/\rr P Γ ds B σ q os
def Oc(P:Program)(Γ:aj)(os:List (List Nat))(ops:Array Oper)(Q:Ex->St->Prop)(σ:St):Prop:=
 match os with
 | []=>K? (iT P Γ (dstsOf ops.toList) ops.toList σ.H.length (pre P ops.toList σ)) (Q .normal)
 |o::os=>rr P Γ (dstsOf ops.toList) (jZ P σ.H.length ops.toList) (pre P ops.toList σ) (Q .normal) (o::os)
def KC:List (List Nat)->Option (List Nat)
 |(t::ρ)::_=>if t=999999 then some ρ else none
 |_=>none
def z_:List (List Nat)->List (List Nat)
 |(t::ρ)::os=>if t=999999 then os else(t::ρ)::os
 |os=>os
def oV(m:Nat)(ρ:List Nat):List Nat:=ρ.filter fun n=>decide (n<m)
def DG(P:Program)(Γ:aj)(os:List (List Nat))(ops:Array Oper)(Q:Ex->St->Prop)(σ:St):Prop:=
 match KC os with
 |none=>Oc P Γ (z_ os) ops Q σ
 |some ρ=>K? (oG (oV σ.H.length ρ) σ.H (oV σ.H.length ρ)) fun ch=>Oc P Γ (z_ os) ops Q (KB (oV σ.H.length ρ) ch σ)
def Od(W:(Ex->St->Prop)->St->Prop)(Q:Ex->St->Prop)(e:Ex)(τ:St):Prop:=
 match e with
 | .normal=>W Q τ
 | .exit i=>Q (.exit i) τ
 | .ret=>Q .ret τ
def nn(id:Nat)(Q:Ex->St->Prop)(e:Ex)(τ:St):Prop:=
 match e with
 | .normal=>Q .normal τ
 | .exit i=>if i=id then Q .normal τ else Q (.exit i) τ
 | .ret=>Q .ret τ
def tf(N:St->Prop)(Q:Ex->St->Prop)(e:Ex)(τ:St):Prop:=
 match e with
 | .normal=>N τ
 | .exit i=>Q (.exit i) τ
 | .ret=>Q .ret τ
def j8(c:A)(p q:Prop):Prop:= ∃t,c= .bool t/\(t=true->p)/\(t=false->q)
def fP(P:Program)(Γ:aj):Code->(Ex->St->Prop)->St->Prop
 | .skip,Q,σ=>Q .normal σ
 | .label _,Q,σ=>Q .normal σ
 | .seq a b,Q,σ=>fP P Γ a (Od (fP P Γ b) Q) σ
 | .cond c a b,Q,σ=>j8 (σ.ev c) (fP P Γ a Q σ) (fP P Γ b Q σ)
 | .block id c,Q,σ=>fP P Γ c (nn id Q) σ
 | .loop c,Q,σ=> ∃(ι:Type) (inv:ι->St) (μ:ι->Nat),(∃i,St.to Γ.nf σ (inv i))/\
  ∀i,fP P Γ c (tf (fun τ=> ∃j,St.to Γ.nf τ (inv j)/\μ j<μ i) Q) (inv i)
 | .exit id,Q,σ=>Q (.exit id) σ
 | .ret,Q,σ=>Q .ret σ
 | .region id ops _,Q,σ=>DG P Γ (Γ.c6 id) ops Q σ
 |_,_,_=>False
def ZL(P:Program)(σ:St)(t:TypeId)(a:A):Option A:=
 match a with
 | .ref n off=>match bX σ.H n with|some (.box cs)=>(jo P t (cs.drop off)).bind (view σ.H)|_=>none
 |_=>none
def KD(P:Program)(σ:St):ResultVar->Option A
 | .tmp t=>view σ.H (look σ.s t)
 | .cell a t=>ZL P σ t (look σ.s a)
def vf(P:Program)(σ:St):List ResultVar->Option (List A)
 | []=>some []
 |r::rs=>(KD P σ r).bind fun x=>(vf P σ rs).map (x:: ·)
def iU:List A->A
 | [x]=>x
 |xs=> .cx xs
def VD(P:Program)(fn:Func)(oI:A->Prop)(e:Ex)(σ:St):Prop:=
 match e with
 | .exit _=>False
 |_=>K? (vf P σ fn.results.toList) (fun rs=>oI (iU rs))
def rawC(P:Program)(σ:St)(t:TypeId)(a:A):Option A:=
 match a with
 | .ref n off=>match bX σ.H n with|some (.box cs)=>jo P t (cs.drop off)|_=>none
 |_=>none
def S0(P:Program)(σ:St):ResultVar->Option A
 | .tmp t=>some (look σ.s t)
 | .cell a t=>rawC P σ t (look σ.s a)
def x_(P:Program)(σ:St):List ResultVar->Option (List A)
 | []=>some []
 |r::rs=>(S0 P σ r).bind fun x=>(x_ P σ rs).map (x:: ·)
def VE(P:Program)(fn:Func)(r:A)(H':List Obj)(e:Ex)(σ:St):Prop:=
 match e with
 | .exit _=>False
 |_=>K? (x_ P σ fn.results.toList) (fun rs=>iU rs=r/\r.under H'.length=true/\rq H'.length σ.H H')
def number:Nat->List A->List (Nat×A)
 |_,[]=>[]
 |n,x::xs=>(n,x)::number (n+1) xs
def z'(args:List A):St:={s:=number 0 args,H:=[]}
def Hj(args:List A)(H:List Obj):St:={s:=number 0 args,H:=H}
end Go.bJ
namespace Go.bJ
theorem Aa{P:Program}{Γ:aj}: ∀{c:Code} {Q Q':Ex->St->Prop} {σ:St},(∀e τ,Q e τ->Q' e τ)->fP P Γ c Q σ->fP P Γ c Q' σ:=by
 intro c;induction c with
 |skip=>intro Q Q' σ h hw;simp only[fP]at hw⊢;exact h _ _ hw
 |label l=>intro Q Q' σ h hw;simp only[fP]at hw⊢;exact h _ _ hw
 |exit id=>intro Q Q' σ h hw;simp only[fP]at hw⊢;exact h _ _ hw
 |ret=>intro Q Q' σ h hw;simp only[fP]at hw⊢;exact h _ _ hw
 |seq x y ihx ihy=>
  intro Q Q' σ h hw;simp only[fP]at hw⊢;refine ihx (fun e τ hq=> ?_) hw;cases e with
  |normal=>exact ihy h hq
  |exit i=>exact h _ _ hq
  |ret=>exact h _ _ hq
 |cond c x y ihx ihy=>
  intro Q Q' σ h hw;simp only[fP,j8]at hw⊢;obtain⟨t,ht,h1,h2⟩:=hw;exact⟨t,ht,fun e=>ihx h (h1 e),fun e=>ihy h (h2 e)⟩
 |block id x ih=>
  intro Q Q' σ h hw;simp only[fP]at hw⊢;refine ih (fun e τ hq=> ?_) hw;cases e with
  |normal=>exact h _ _ hq
  |exit i=>
   simp only[nn]at hq⊢;split at hq
   · rename_i e;rw[if_pos e];exact h _ _ hq
   · rename_i e;rw[if_neg e];exact h _ _ hq
  |ret=>exact h _ _ hq
 |loop x ih=>
  intro Q Q' σ h hw;simp only[fP]at hw⊢;obtain⟨ι,inv,μ,h0,hs⟩:=hw;refine⟨ι,inv,μ,h0,fun i=>ih (fun e τ hq=> ?_) (hs i)⟩
  cases e with
  |normal=>exact hq
  |exit i=>exact h _ _ hq
  |ret=>exact h _ _ hq
 |region id ops d=>
  intro Q Q' σ h hw;simp only[fP]at hw⊢
  have key: ∀(os:List (List Nat)) (σ:St),Oc P Γ os ops Q σ->Oc P Γ os ops Q' σ:=fun os σ=>by
   cases os with
   |nil=>
    rintro⟨τ,hr,hq⟩
    exact⟨τ,hr,h _ _ hq⟩
   |cons o os=>
    have key: ∀os:List (List Nat),rr P Γ (dstsOf ops.toList) (jZ P σ.H.length ops.toList) (pre P ops.toList σ) (Q .normal) os->rr P Γ (dstsOf ops.toList) (jZ P σ.H.length ops.toList) (pre P ops.toList σ) (Q' .normal) os:=by
     intro os;induction os with
     |nil=>exact fun h=>h
     |cons o os ih=>rintro⟨⟨τ,hr,hq⟩,h2⟩;exact⟨⟨τ,hr,h _ _ hq⟩,ih h2⟩
    exact key _
  unfold DG at hw⊢;cases hf:KC (Γ.c6 id)with
  |none=>rw[hf]at hw;exact key _ _ hw
  |some ρ=>
   rw[hf]at hw;obtain⟨ch,h1,h2⟩:=hw;exact⟨ch,h1,key _ _ h2⟩
 |_=>intro Q Q' σ _ hw;simp only[fP]at hw
section
variable{P:Program}{Γ:aj}{Q:Ex->St->Prop}{σ:St}
@[go_sem] theorem wpA_skip:fP P Γ .skip Q σ=Q .normal σ:=by simp only[fP]
@[go_sem] theorem wpA_seq{a b:Code}:fP P Γ (.seq a b) Q σ=fP P Γ a (Od (fP P Γ b) Q) σ:=by simp only[fP]
@[go_sem] theorem wpA_cond{c:Operand}{a b:Code}:fP P Γ (.cond c a b) Q σ=j8 (σ.ev c) (fP P Γ a Q σ) (fP P Γ b Q σ):=by simp only[fP]
@[go_sem] theorem wpA_block{id:Nat}{c:Code}:fP P Γ (.block id c) Q σ=fP P Γ c (nn id Q) σ:=by simp only[fP]
@[go_sem] theorem wpA_exit{id:Nat}:fP P Γ (.exit id) Q σ=Q (.exit id) σ:=by simp only[fP]
@[go_sem] theorem wpA_ret:fP P Γ .ret Q σ=Q .ret σ:=by simp only[fP]
@[go_sem] theorem wpA_region{σs:List (Nat×A)}{cH:List Obj}{i:Nat}{ops:Array Oper}{d:Bool}:fP P Γ (.region i ops d) Q (St.mk σs cH)=DG P Γ (Γ.c6 i) ops Q (St.mk σs cH):=by simp only[fP]
@[congr] theorem regW_congr{os os':List (List Nat)}{ops:Array Oper}(h:os=os'):DG P Γ os ops Q σ=DG P Γ os' ops Q σ:=by rw[h]
@[go_sem] theorem regW_nil{σs:List (Nat×A)}{cH:List Obj}{ops:Array Oper}:DG P Γ [] ops Q (St.mk σs cH)=K? (iT P Γ (dstsOf ops.toList) ops.toList cH.length (pre P ops.toList (St.mk σs cH))) (Q .normal):=rfl
@[go_sem] theorem regW_cons{σs:List (Nat×A)}{cH:List Obj}{ops:Array Oper}{t:Nat}{o:List Nat}{os:List (List Nat)}(h:t≠999999):DG P Γ ((t::o)::os) ops Q (St.mk σs cH)=rr P Γ (dstsOf ops.toList) (jZ P cH.length ops.toList) (pre P ops.toList (St.mk σs cH)) (Q .normal) ((t::o)::os):=by unfold DG KC z_;simp only[if_neg h];rfl
@[go_sem] theorem regW_frz'{σs:List (Nat×A)}{cH:List Obj}{ops:Array Oper}{t:Nat}{ρ:List Nat}{os:List (List Nat)}(h:t=999999):DG P Γ ((t::ρ)::os) ops Q (St.mk σs cH)=K? (oG (oV cH.length ρ) cH (oV cH.length ρ)) fun ch=>Oc P Γ os ops Q (KB (oV cH.length ρ) ch (St.mk σs cH)):=by subst h;rfl
@[go_sem] theorem keepN_nil{m:Nat}:oV m []=[]:=rfl
@[go_sem] theorem keepN_cons{m n:Nat}{ρ:List Nat}:oV m (n::ρ)=if n<m then n::oV m ρ else oV m ρ:=by unfold oV;rw[List.filter_cons];simp
@[go_sem] theorem regO_nil{σs:List (Nat×A)}{cH:List Obj}{ops:Array Oper}:Oc P Γ [] ops Q (St.mk σs cH)=K? (iT P Γ (dstsOf ops.toList) ops.toList cH.length (pre P ops.toList (St.mk σs cH))) (Q .normal):=rfl
@[go_sem] theorem ordsW_nil{ds:List (Option Tmp)}{B:List (Nat×Oper)}{q:St->Prop}:rr P Γ ds B σ q []=True:=rfl
@[go_sem] theorem ordsW_cons{ds:List (Option Tmp)}{B:List (Nat×Oper)}{q:St->Prop}{o:List Nat}{os:List (List Nat)}:rr P Γ ds B σ q (o::os)=(K? (oH P Γ ds B o σ) q/\rr P Γ ds B σ q os):=rfl
@[go_sem] theorem annS_nil{n:Nat}:jZ P n []=[]:=rfl
@[go_sem] theorem annS_cons{n:Nat}{o:Oper}{os:List Oper}:jZ P n (o::os)=(n,o)::jZ P (iS P o.op n) os:=rfl
@[go_sem] theorem nthA_zero{x:Nat×Oper}{xs:List (Nat×Oper)}:eJ (x::xs) 0=some x:=rfl
@[go_sem] theorem nthA_succ{x:Nat×Oper}{xs:List (Nat×Oper)}{i:Nat}:eJ (x::xs) (i+1)=eJ xs i:=rfl
@[congr] theorem runO_congr{ds:List (Option Tmp)}{B B':List (Nat×Oper)}{is:List Nat}{ed:St}(hB:B=B')(h:σ=ed):oH P Γ ds B is σ=oH P Γ ds B' is ed:=by rw[hB,h]
@[congr] theorem wpA_congr{c:Code}{ed:St}(h:σ=ed):fP P Γ c Q σ=fP P Γ c Q ed:=by rw[h]
@[go_sem] theorem seqQ_normal{W:(Ex->St->Prop)->St->Prop}:Od W Q .normal σ=W Q σ:=rfl
@[go_sem] theorem seqQ_exit{W:(Ex->St->Prop)->St->Prop}{i:Nat}:Od W Q (.exit i) σ=Q (.exit i) σ:=rfl
@[go_sem] theorem seqQ_ret{W:(Ex->St->Prop)->St->Prop}:Od W Q .ret σ=Q .ret σ:=rfl
@[go_sem] theorem Zf{id:Nat}:nn id Q .normal σ=Q .normal σ:=rfl
@[go_sem] theorem blockQ_exit{id i:Nat}:nn id Q (.exit i) σ=if i=id then Q .normal σ else Q (.exit i) σ:=rfl
@[go_sem] theorem blockQ_ret{id:Nat}:nn id Q .ret σ=Q .ret σ:=rfl
@[go_sem] theorem ZM{N:St->Prop}:tf N Q .normal σ=N σ:=rfl
@[go_sem] theorem loopQ_exit{N:St->Prop}{i:Nat}:tf N Q (.exit i) σ=Q (.exit i) σ:=rfl
@[go_sem] theorem loopQ_ret{N:St->Prop}:tf N Q .ret σ=Q .ret σ:=rfl
@[congr] theorem seqQ_congr{W:(Ex->St->Prop)->St->Prop}{e e':Ex}{ed:St}(h:e=e')(h':σ=ed):Od W Q e σ=Od W Q e' ed:=by rw[h,h']
@[congr] theorem ZN{id:Nat}{e e':Ex}{ed:St}(h:e=e')(h':σ=ed):nn id Q e σ=nn id Q e' ed:=by rw[h,h']
@[congr] theorem loopQ_congr{N:St->Prop}{e e':Ex}{ed:St}(h:e=e')(h':σ=ed):tf N Q e σ=tf N Q e' ed:=by rw[h,h']
@[go_sem high] theorem condA_true{p q:Prop}:j8 (.bool true) p q=p:=by simp[j8]
@[go_sem high] theorem condA_false{p q:Prop}:j8 (.bool false) p q=q:=by simp[j8]
@[go_sem] theorem condA_bool{b:Bool}{p q:Prop}:j8 (.bool b) p q=((b=true->p)/\(b=false->q)):=by simp[j8]
@[go_sem ↓ high] theorem condA_true'{p q:Prop}:j8 (.bool true) p q=p:=by simp[j8]
@[go_sem ↓ high] theorem ZO{p q:Prop}:j8 (.bool false) p q=q:=by simp[j8]
@[congr] theorem condA_congr{c c':A}{p q:Prop}(h:c=c'):j8 c p q=j8 c' p q:=by rw[h]
end
section
variable{α β:Type}
@[go_sem high] theorem K_some{x:α}{q:α->Prop}:K? (some x) q=q x:=by simp[K?]
@[go_sem] theorem VF{o:Option α}{f:α->Option β}{q:β->Prop}:K? (o.bind f) q=K? o (fun x=>K? (f x) q):=by cases o<;>simp[K?]
@[go_sem] theorem K_map{o:Option α}{f:α->β}{q:β->Prop}:K? (o.map f) q=K? o (fun x=>q (f x)):=by cases o<;>simp[K?]
@[go_sem high] theorem K_ite_none{c:Prop} [Decidable c]{a:Option α}{q:α->Prop}:K? (if c then a else none) q=(c/\K? a q):=by split<;>simp_all[K?]
@[go_sem ↓ high] theorem K_some'{x:α}{q:α->Prop}:K? (some x) q=q x:=by simp[K?]
@[congr] theorem K_congr{o o':Option α}{q:α->Prop}(h:o=o'):K? o q=K? o' q:=by rw[h]
@[go_sem] theorem K_getElem{l:List α}{i:Nat}{q:α->Prop}(h:i<l.length):K? l[i]? q=q l[i]:=by simp[K?,h]
end
section
variable{P:Program}{Γ:aj}{σ:St}{n:Nat}{d:Option Tmp}{ds:List (Option Tmp)}{q:St->Prop}
@[go_sem] theorem ZP{n:Nat}:K? (iT P Γ ds [] n σ) q=q σ:=by simp[iT,K?]
@[go_sem] theorem Zg{o:Oper}{os:List Oper}{n:Nat}:K? (iT P Γ ds (o::os) n σ) q=K? (bH P Γ ds n o σ) (fun τ=>K? (iT P Γ ds os (iS P o.op n) τ) q):=by simp only[iT,VF]
@[go_sem] theorem K_runO_nil{B:List (Nat×Oper)}:K? (oH P Γ ds B [] σ) q=q σ:=by simp[oH,K?]
@[go_sem] theorem K_runO_cons{B:List (Nat×Oper)}{i:Nat}{is:List Nat}:K? (oH P Γ ds B (i::is) σ) q=K? (eJ B i) (fun x=>K? (bH P Γ ds x.1 x.2 σ) (fun τ=>K? (oH P Γ ds B is τ) q)):=by simp only[oH,VF]
@[go_sem] theorem pre_nil:pre P [] σ=σ:=rfl
@[go_sem] theorem pre_cons{o:Oper}{os:List Oper}:pre P (o::os) σ=pre P os (grow P o.op σ):=rfl
@[congr] theorem pre_congr{os:List Oper}{ed:St}(h:σ=ed):pre P os σ=pre P os ed:=by rw[h]
@[congr] theorem ZQ{os:List Oper}{ed:St}{n n':Nat}(h:σ=ed)(h':n=n'):iT P Γ ds os n σ=iT P Γ ds os n' ed:=by rw[h,h']
@[congr] theorem exec1_congr{o:Oper}{n':Nat}{ed:St}(hn:n=n')(h:σ=ed):bH P Γ ds n o σ=bH P Γ ds n' o ed:=by rw[h,hn]
@[go_sem] theorem exec1_plain{op:Op}{t:TypeId}{p:String}{af:Array Edge}:bH P Γ ds n ⟨d,op,t,p,af,none⟩ σ=execOp P Γ n d op σ:=by simp[bH,iR]
def Hk(b:A)(want:Bool)(x y:Option St):Option St:=
 match b with
 | .bool b=>if(b==want)=true then x else y
 | .any=>none
 |_=>y
@[go_sem] theorem exec1_guard{σs:List (Nat×A)}{cH:List Obj}{op:Op}{t:TypeId}{p:String}{af:Array Edge}{j:Nat}{w:Bool}:
 bH P Γ ds n ⟨d,op,t,p,af,some (j,w)⟩ (St.mk σs cH)=(match zZ ds j with|some t=>Hk (look σs t) w (execOp P Γ n d op (St.mk σs cH)) (some ((St.mk σs cH).put d (.cx [])))|none=>some ((St.mk σs cH).put d (.cx []))):=by
 simp only[bH,iR]
 cases zZ ds j with
 |none=>simp
 |some t=>simp only[];cases look σs t<;>simp[Hk]
@[go_sem] theorem guardA_bool{b w:Bool}{x y:Option St}:Hk (.bool b) w x y=if(b==w)=true then x else y:=rfl
@[go_sem] theorem ZR{w:Bool}{x y:Option St}:Hk (.cx []) w x y=y:=rfl
@[go_sem] theorem nthD_zero{x:Option Tmp}{xs:List (Option Tmp)}:zZ (x::xs) 0=x:=rfl
@[go_sem] theorem nthD_succ{x:Option Tmp}{xs:List (Option Tmp)}{m:Nat}:zZ (x::xs) (m+1)=zZ xs m:=rfl
@[go_sem] theorem dstsOf_nil:dstsOf []=[]:=rfl
@[go_sem] theorem dstsOf_cons{o:Oper}{os:List Oper}:dstsOf (o::os)=o.dst::dstsOf os:=rfl
variable{x y z:Operand}{t u:TypeId}{k:Nat}
@[go_sem] theorem grow_move:grow P (.move x) σ=σ:=rfl
@[go_sem] theorem nxt_move{n:Nat}:iS P (.move x) n=n:=rfl
@[go_sem] theorem grow_assign:grow P (.assign x) σ=σ:=rfl
@[go_sem] theorem nxt_assign{n:Nat}:iS P (.assign x) n=n:=rfl
@[go_sem] theorem grow_pick:grow P (.pick x y z) σ=σ:=rfl
@[go_sem] theorem nxt_pick{n:Nat}:iS P (.pick x y z) n=n:=rfl
@[go_sem] theorem grow_build{ps:Array (Nat×Operand)}:grow P (.build t ps) σ=σ:=rfl
@[go_sem] theorem nxt_build{ps:Array (Nat×Operand)}{n:Nat}:iS P (.build t ps) n=n:=rfl
@[go_sem] theorem Ve{ps:Array (Nat×Operand)}:grow P (.buildSlice t k ps) σ=σ:=rfl
@[go_sem] theorem VG{ps:Array (Nat×Operand)}{n:Nat}:iS P (.buildSlice t k ps) n=n:=rfl
@[go_sem] theorem grow_load:grow P (.load t x) σ=σ:=rfl
@[go_sem] theorem nxt_load{n:Nat}:iS P (.load t x) n=n:=rfl
@[go_sem] theorem grow_store:grow P (.store t x y) σ=σ:=rfl
@[go_sem] theorem nxt_store{n:Nat}:iS P (.store t x y) n=n:=rfl
@[go_sem] theorem grow_binOp{o:BinOp}:grow P (.binOp o t x y u) σ=σ:=rfl
@[go_sem] theorem nxt_binOp{o:BinOp}{n:Nat}:iS P (.binOp o t x y u) n=n:=rfl
@[go_sem] theorem grow_unOp{o:UnOp}:grow P (.unOp o t x) σ=σ:=rfl
@[go_sem] theorem nxt_unOp{o:UnOp}{n:Nat}:iS P (.unOp o t x) n=n:=rfl
@[go_sem] theorem Zh{f:Fn}{xs ys:Array Operand}:grow P (.makeFunc f xs ys) σ=σ:=rfl
@[go_sem] theorem ZS{f:Fn}{xs ys:Array Operand}{n:Nat}:iS P (.makeFunc f xs ys) n=n:=rfl
@[go_sem] theorem grow_slice{l h m:Option Operand}:grow P (.slice t x l h m) σ=σ:=rfl
@[go_sem] theorem nxt_slice{l h m:Option Operand}{n:Nat}:iS P (.slice t x l h m) n=n:=rfl
@[go_sem] theorem VH:grow P (.fieldAddr t x k) σ=σ:=rfl
@[go_sem] theorem Zi{n:Nat}:iS P (.fieldAddr t x k) n=n:=rfl
@[go_sem] theorem VI:grow P (.indexAddr t x y) σ=σ:=rfl
@[go_sem] theorem Zj{n:Nat}:iS P (.indexAddr t x y) n=n:=rfl
@[go_sem] theorem grow_index:grow P (.index t x y) σ=σ:=rfl
@[go_sem] theorem nxt_index{n:Nat}:iS P (.index t x y) n=n:=rfl
@[go_sem] theorem ZT:grow P (.extract x k) σ=σ:=rfl
@[go_sem] theorem nxt_extract{n:Nat}:iS P (.extract x k) n=n:=rfl
@[go_sem] theorem grow_alloc{σs:List (Nat×A)}{cH:List Obj}:grow P (.alloc t) (St.mk σs cH)=⟨σs,cH++[.row 0 []]⟩:=rfl
@[go_sem] theorem nxt_alloc{n:Nat}:iS P (.alloc t) n=n+1:=rfl
@[go_sem] theorem grow_box{σs:List (Nat×A)}{cH:List Obj}:grow P (.box t x) (St.mk σs cH)=⟨σs,cH++[.row 0 []]⟩:=rfl
@[go_sem] theorem nxt_box{n:Nat}:iS P (.box t x) n=n+1:=rfl
@[go_sem] theorem ZU{σs:List (Nat×A)}{cH:List Obj}:grow P (.convert t u x) (St.mk σs cH)=if te P t u=true then⟨σs,cH++[.row 0 []]⟩else(St.mk σs cH):=rfl
@[go_sem] theorem nxt_convert{n:Nat}:iS P (.convert t u x) n=if te P t u=true then n+1 else n:=rfl
@[go_sem] theorem grow_len{xs:Array Operand}{ts:Array TypeId}:grow P (.call ⟨.builtin .len,xs,ts⟩) σ=σ:=rfl
@[go_sem] theorem nxt_len{xs:Array Operand}{ts:Array TypeId}{n:Nat}:iS P (.call ⟨.builtin .len,xs,ts⟩) n=n:=rfl
@[go_sem] theorem grow_min{xs:Array Operand}{ts:Array TypeId}:grow P (.call ⟨.builtin .min,xs,ts⟩) σ=σ:=rfl
@[go_sem] theorem nxt_min{xs:Array Operand}{ts:Array TypeId}{n:Nat}:iS P (.call ⟨.builtin .min,xs,ts⟩) n=n:=rfl
@[go_sem] theorem grow_max{xs:Array Operand}{ts:Array TypeId}:grow P (.call ⟨.builtin .max,xs,ts⟩) σ=σ:=rfl
@[go_sem] theorem nxt_max{xs:Array Operand}{ts:Array TypeId}{n:Nat}:iS P (.call ⟨.builtin .max,xs,ts⟩) n=n:=rfl
@[go_sem] theorem grow_append{σs:List (Nat×A)}{cH:List Obj}{xs:Array Operand}{ts:Array TypeId}:grow P (.call ⟨.builtin .append,xs,ts⟩) (St.mk σs cH)=⟨σs,cH++[.row 0 []]⟩:=rfl
@[go_sem] theorem nxt_append{xs:Array Operand}{ts:Array TypeId}{n:Nat}:iS P (.call ⟨.builtin .append,xs,ts⟩) n=n+1:=rfl
@[go_sem] theorem grow_clear{xs:Array Operand}{ts:Array TypeId}:grow P (.call ⟨.builtin .clear,xs,ts⟩) σ=σ:=rfl
@[go_sem] theorem nxt_clear{xs:Array Operand}{ts:Array TypeId}{n:Nat}:iS P (.call ⟨.builtin .clear,xs,ts⟩) n=n:=rfl
@[go_sem] theorem grow_call{xs:Array Operand}{ts:Array TypeId}:grow P (.call ⟨.value x,xs,ts⟩) σ=σ:=rfl
@[go_sem] theorem nxt_call{xs:Array Operand}{ts:Array TypeId}{n:Nat}:iS P (.call ⟨.value x,xs,ts⟩) n=n:=rfl
@[go_sem] theorem ex_move:execOp P Γ n d (.move x) σ=some (σ.put d (σ.ev x)):=rfl
@[go_sem] theorem ex_assign:execOp P Γ n d (.assign x) σ=some (σ.put d (σ.ev x)):=rfl
@[go_sem] theorem ex_pick:execOp P Γ n d (.pick x y z) σ=(Ky (σ.ev x) (σ.ev y) (σ.ev z)).map (σ.put d ·):=rfl
@[go_sem] theorem ex_build{ps:List (Nat×Operand)}:execOp P Γ n d (.build t ⟨ps⟩) σ=(oS P t σ ps).map (σ.put d ·):=rfl
@[go_sem] theorem Zk{ps:List (Nat×Operand)}:execOp P Γ n d (.buildSlice t k ⟨ps⟩) σ=(e9 P t k σ ps).map (σ.put d ·):=rfl
@[go_sem] theorem ex_load{σs:List (Nat×A)}{cH:List Obj}:execOp P Γ n d (.load t x) (St.mk σs cH)=(rp P t cH ((St.mk σs cH).ev x)).map ((St.mk σs cH).put d ·):=rfl
@[go_sem] theorem ex_binOp{o:BinOp}:execOp P Γ n d (.binOp o t x y u) σ=(gT (oR P t) (fU P t) (jn P t) (aR P t).isSome o (σ.ev x) (σ.ev y)).map (σ.put d ·):=rfl
@[go_sem] theorem ex_unOp{o:UnOp}:execOp P Γ n d (.unOp o t x) σ=(unA o (σ.ev x)).map (σ.put d ·):=rfl
@[go_sem] theorem ex_makeFunc{f:Fn}{xs ys:List Operand}:execOp P Γ n d (.makeFunc f ⟨xs⟩ ⟨ys⟩) σ=(mq f (σ.lJ xs) (σ.lJ ys)).map (σ.put d ·):=rfl
@[go_sem] theorem ex_slice{l h m:Option Operand}:execOp P Γ n d (.slice t x l h m) σ=(if(eD P t).isNone=true/\(σ.bd l).ok=true/\(σ.bd h).ok=true then rU (fm P t) (rV P t) (σ.ev x) (σ.bd l) (σ.bd h) (σ.bd m)else none).map (σ.put d ·):=rfl
@[go_sem] theorem ZV:execOp P Γ n d (.fieldAddr t x k) σ=(jv (fieldInfo P t k) (σ.ev x)).map (σ.put d ·):=rfl
@[go_sem] theorem ZW:execOp P Γ n d (.indexAddr t x y) σ=(kR P t (σ.ev x) (σ.ev y)).map (σ.put d ·):=rfl
@[go_sem] theorem ex_index:execOp P Γ n d (.index t x y) σ=(vc P t (σ.ev x) (σ.ev y)).map (σ.put d ·):=rfl
@[go_sem] theorem ex_extract:execOp P Γ n d (.extract x k) σ=(oT (σ.ev x) k).map (σ.put d ·):=rfl
@[go_sem] theorem ex_alloc:execOp P Γ n d (.alloc t) σ=ni σ n d (dt P t):=rfl
@[go_sem] theorem ex_box:execOp P Γ n d (.box t x) σ=vd σ n d (σ.ev x):=rfl
@[go_sem] theorem ex_store:execOp P Γ n d (.store t x y) σ=nj σ d (aX P t) (σ.ev x) (σ.ev y):=rfl
@[go_sem] theorem ex_convert:execOp P Γ n d (.convert t u x) σ=w6 P σ n d t u (σ.ev x):=rfl
@[go_sem] theorem ex_len:execOp P Γ n d (.call ⟨.builtin .len,⟨[x]⟩,⟨[t]⟩⟩) σ=(Ob P t (σ.ev x)).map (σ.put d ·):=rfl
@[go_sem] theorem ex_min{xs:List Operand}{ts:Array TypeId}:execOp P Γ n d (.call ⟨.builtin .min,⟨xs⟩,ts⟩) σ=(VA (σ.lJ xs)).map (σ.put d ·):=rfl
@[go_sem] theorem ex_max{xs:List Operand}{ts:Array TypeId}:execOp P Γ n d (.call ⟨.builtin .max,⟨xs⟩,ts⟩) σ=(VB (σ.lJ xs)).map (σ.put d ·):=rfl
@[go_sem] theorem ex_append:execOp P Γ n d (.call ⟨.builtin .append,⟨[x,y]⟩,⟨[t,u]⟩⟩) σ=qo P Γ.fix σ n d t u (σ.ev x) (σ.ev y):=rfl
@[go_sem] theorem ex_clear:execOp P Γ n d (.call ⟨.builtin .clear,⟨[x]⟩,⟨[t]⟩⟩) σ=ve P σ d t (σ.ev x):=rfl
@[go_sem] theorem ex_call{xs:List Operand}{ts:Array TypeId}:execOp P Γ n d (.call ⟨.value x,⟨xs⟩,ts⟩) σ=if zW Γ x=true then oU Γ σ d (σ.ev x) (σ.lJ xs)else zX Γ σ d (σ.ev x) (σ.lJ xs):=rfl
@[go_sem] theorem isEff_func{f:FuncId}:zW Γ (.func f)=Γ.l_ f:=rfl
@[go_sem] theorem isEff_tmp{i:Nat}:zW Γ (.tmp i)=Γ.SZ:=rfl
@[go_sem] theorem ev_tmp{σs:List (Nat×A)}{cH:List Obj}{i:Nat}:(St.mk σs cH).ev (.tmp i)=look σs i:=rfl
@[go_sem] theorem ev_const{v:Value}:σ.ev (.const v)=toA v:=rfl
@[go_sem] theorem ev_func{f:FuncId}:σ.ev (.func f)= .fn f []:=rfl
@[go_sem] theorem evL_nil:σ.lJ []=[]:=rfl
@[go_sem] theorem evL_cons{xs:List Operand}:σ.lJ (x::xs)=σ.ev x::σ.lJ xs:=rfl
@[go_sem] theorem put_some{σs:List (Nat×A)}{cH:List Obj}{v:A}{i:Nat}:(St.mk σs cH).put (some i) v=⟨(i,v)::σs,cH⟩:=rfl
@[go_sem] theorem put_none{v:A}:σ.put none v=σ:=rfl
@[go_sem] theorem bd_none:σ.bd none= .none:=rfl
@[go_sem] theorem bd_some:σ.bd (some x)=Vz (σ.ev x):=rfl
@[go_sem] theorem bdOf_int{i:IntKind}{m:Int}:Vz (.int i m)= .some m:=rfl
@[go_sem] theorem Bd_get_none{m:Int}:Bd.get m .none=m:=rfl
@[go_sem] theorem Bd_get_some{m r:Int}:Bd.get m (.some r)=r:=rfl
@[go_sem] theorem Bd_ok_none:Bd.ok .none=true:=rfl
@[go_sem] theorem Bd_ok_some{r:Int}:Bd.ok (.some r)=true:=rfl
@[go_sem] theorem look_cons{i j:Nat}{v:A}{r:List (Nat×A)}:look ((i,v)::r) j=if i=j then v else look r j:=rfl
@[go_sem] theorem setH_eq{σs:List (Nat×A)}{cH:List Obj}{o:Obj}:(St.mk σs cH).cT n o=⟨σs,jY cH n o⟩:=rfl
@[go_sem] theorem setO_zero{a b:Obj}{r:List Obj}:jY (a::r) 0 b=b::r:=rfl
@[go_sem] theorem setO_succ{a b:Obj}{r:List Obj}:jY (a::r) (n+1) b=a::jY r n b:=rfl
@[go_sem] theorem nthO_zero{a:Obj}{r:List Obj}:bX (a::r) 0=some a:=rfl
@[go_sem] theorem nthO_succ{a:Obj}{r:List Obj}:bX (a::r) (n+1)=bX r n:=rfl
@[go_sem] theorem setNth_zero{a b:A}{r:List A}:cn (a::r) 0 b=b::r:=rfl
@[go_sem] theorem setNth_succ{a b:A}{r:List A}:cn (a::r) (n+1) b=a::cn r n b:=rfl
end
section
variable{a b c:A}{cs ds es:List A}{k n i:Nat}{q:IntKind}{m r:Int}{s s':List UInt8}{H:List Obj}{P:Program}{t u:TypeId}{p e:Bool}{σ:St}{d:Option Tmp}{kl:List CK}{ko:Option (List CK)}{sl k0:Bool}
@[go_sem] theorem toA_int:toA (.int q m)= .int q m:=rfl
@[go_sem] theorem toA_bool:toA (.bool p)= .bool p:=rfl
@[go_sem] theorem toA_str{l:List UInt8}:toA (.string ⟨⟨l⟩⟩)= .str l:=rfl
@[go_sem] theorem toA_nils:toA (.slice none 0 0)= .bK:=rfl
@[go_sem] theorem pick_bool:Ky (.bool p) a b=some (if p then a else b):=rfl
@[go_sem] theorem load_dptr:rp P t H (.dz cs)=jo P t cs:=rfl
@[go_sem] theorem load_ref:rp P t H (.ref n i)=(match bX H n with|some (.box cs)=>jo P t (cs.drop i)|_=>none):=rfl
@[go_sem] theorem load_eref:rp P t H (.fT n i k)=(match bX H n with|some (.row _ es)=>(es[i]?).bind fun e=>jo P t (e.cells.drop k)|_=>none):=rfl
@[go_sem] theorem loadC_eq:jo P t cs=(match bE P t with|some true=>(match aX P t with|some n=>if n<=cs.length then some (.agg (cs.take n))else none|none=>none)|some false=>cs.head? |none=>none):=rfl
@[go_sem] theorem fieldI_some{f:Nat×TypeId}:jv (some f) a=ju f.1 a:=rfl
@[go_sem] theorem field_dptr:ju n (.dz cs)=some (.dz (cs.drop n)):=rfl
@[go_sem] theorem field_ref:ju n (.ref i k)=some (.ref i (k+n)):=rfl
@[go_sem] theorem field_eref{j:Nat}:ju n (.fT i j k)=some (.fT i j (k+n)):=rfl
@[go_sem] theorem index_str:vc P t (.str s) (.int q m)=(if fm P t=true/\0<=m then(s[m.toNat]?).map gS else none):=rfl
@[go_sem] theorem index_agg:vc P t (.agg cs) (.int q m)=(match eD P t with|some (n,e)=>(match aX P e with|some k=>if 0<=m/\m<n then jo P e (cs.drop (m.toNat*k))else none|none=>none)|none=>none):=rfl
@[go_sem] theorem Zl:kR P t a (.int q m)=(match aR P t with|some e=>(match aX P e with|some k=>kQ k m a|none=>none)|none=>(match eD P t with|some (n,e)=>(match aX P e with|some k=>nc n k m a|none=>none)|none=>none)):=rfl
@[go_sem] theorem indexE_slc:kQ k m (.ad es)=SY k m es:=rfl
@[go_sem] theorem indexE_row{j l:Nat}:kQ k m (.row n i j l p)=(if k=j/\0<=m/\m<l then some (.fT n (i+m.toNat) 0)else none):=rfl
@[go_sem] theorem indexR_ref{j:Nat}:nc n k m (.ref i j)=(if 0<=m/\m<n then some (.ref i (j+m.toNat*k))else none):=rfl
@[go_sem] theorem getE_eq:SY k m es=(if 0<=m then es[m.toNat]? else none).bind fun y=>if k=y.cells.length then some (.dz y.cells)else none:=rfl
@[go_sem] theorem extract_tup:oT (.cx cs) n=cs[n]? :=rfl
@[go_sem] theorem len_str:Ob P t (.str s)=if fm P t=true then some (.int .i64 s.length)else none:=rfl
@[go_sem] theorem len_slc:Ob P t (.ad es)=if(aR P t).isSome=true then some (.int .i64 es.length)else none:=rfl
@[go_sem] theorem len_row{j:Nat}:Ob P t (.row n i j k p)=if(aR P t).isSome=true then some (.int .i64 k)else none:=rfl
@[go_sem] theorem min_int{q':IntKind}:VA [.int q m,.int q' r]=some (.int q (if r<m then r else m)):=rfl
@[go_sem] theorem max_int{q':IntKind}:VB [.int q m,.int q' r]=some (.int q (if r>m then r else m)):=rfl
@[go_sem] theorem makeFunc_eq:mq (.func n) [] cs=some (.fn n cs):=rfl
@[go_sem] theorem un_not:unA .not (.bool p)=some (.bool !p):=rfl
@[go_sem] theorem bin_add:gT ko p e sl .add (.int q m) (.int q r)=some (.int q (q.wrap (m+r))):=by simp[gT,u']
@[go_sem] theorem bin_sub:gT ko p e sl .sub (.int q m) (.int q r)=some (.int q (q.wrap (m-r))):=by simp[gT,u']
@[go_sem] theorem bin_mul:gT ko p e sl .mul (.int q m) (.int q r)=some (.int q (q.wrap (m*r))):=by simp[gT,u']
@[go_sem] theorem bin_quo:gT ko p e sl .quo (.int q m) (.int q r)=if r=0 then none else some (.int q (q.wrap (m.tdiv r))):=by simp[gT,u']
@[go_sem] theorem bin_eql:gT ko p e sl .eql (.int q m) (.int q r)=some (.bool (m==r)):=by simp[gT,u']
@[go_sem] theorem bin_neq:gT ko p e sl .neq (.int q m) (.int q r)=some (.bool (m !=r)):=by simp[gT,u']
@[go_sem] theorem bin_lss:gT ko p e sl .lss (.int q m) (.int q r)=some (.bool (decide (m<r))):=by simp[gT,u']
@[go_sem] theorem bin_leq:gT ko p e sl .leq (.int q m) (.int q r)=some (.bool (decide (m<=r))):=by simp[gT,u']
@[go_sem] theorem bin_gtr:gT ko p e sl .gtr (.int q m) (.int q r)=some (.bool (decide (r<m))):=by simp[gT,u']
@[go_sem] theorem bin_geq:gT ko p e sl .geq (.int q m) (.int q r)=some (.bool (decide (r<=m))):=by simp[gT,u']
@[go_sem] theorem bin_shr{q':IntKind}:gT ko p e sl .shr (.int q m) (.int q' r)=if r<0 then none else some (.int q (m.fdiv (2^(min r.toNat q.bits)))):=rfl
@[go_sem] theorem bin_sadd:gT ko p e sl .add (.str s) (.str s')=if s.length+s'.length<=9223372036854775807 then some (.str (s++s'))else none:=rfl
@[go_sem] theorem bin_seql:gT ko p e sl .eql (.str s) (.str s')=some (.bool (s==s')):=rfl
@[go_sem] theorem bin_sneq:gT ko p e sl .neq (.str s) (.str s')=some (.bool (s !=s')):=rfl
@[go_sem] theorem bin_aeql:gT (some kl) p e sl .eql (.agg cs) (.agg ds)=if eE kl cs=true/\eE kl ds=true then(u_ cs ds).map .bool else none:=rfl
@[go_sem] theorem bin_aneq:gT (some kl) p e sl .neq (.agg cs) (.agg ds)=if eE kl cs=true/\eE kl ds=true then(u_ cs ds).map (fun b=> .bool !b)else none:=rfl
@[go_sem] theorem bin_empnil:gT ko p e true .eql (.emp k0) .bK=some (.bool k0):=rfl
@[go_sem] theorem bin_slcnil:gT ko p e true .eql (.ad (a::cs)) .bK=some (.bool false):=rfl
@[go_sem] theorem hasL_nil:eE [] []=true:=rfl
@[go_sem] theorem hasL_cons{c:CK}:eE (c::kl) (a::cs)=(c.has a&&eE kl cs):=rfl
@[go_sem] theorem has_int:CK.has (.int q) (.int q m)=true:=by simp[CK.has]
@[go_sem] theorem has_bool:CK.has .bool (.bool p)=true:=rfl
@[go_sem] theorem has_str:CK.has .str (.str s)=true:=rfl
@[go_sem] theorem eqL_nil:u_ [] []=some true:=rfl
@[go_sem] theorem eqL_cons:u_ (a::cs) (b::ds)=(SU a b).bind fun x=>(u_ cs ds).map (x&& ·):=rfl
@[go_sem] theorem eqA_int:SU (.int q m) (.int q r)=some (m==r):=by simp[SU]
@[go_sem] theorem eqA_bool{x y:Bool}:SU (.bool x) (.bool y)=some (x==y):=rfl
@[go_sem] theorem eqA_str:SU (.str s) (.str s')=some (s==s'):=rfl
@[go_sem] theorem cells_agg:A.cells (.agg cs)=cs:=rfl
@[go_sem] theorem cells_int:A.cells (.int q m)=[.int q m]:=rfl
@[go_sem] theorem cells_bool:A.cells (.bool p)=[.bool p]:=rfl
@[go_sem] theorem cells_str:A.cells (.str s)=[.str s]:=rfl
@[go_sem] theorem cells_slc:A.cells (.ad es)=[.ad es]:=rfl
@[go_sem] theorem cells_clip:A.cells (.clip es)=[.clip es]:=rfl
@[go_sem] theorem cells_nils:A.cells .bK=[.bK]:=rfl
@[go_sem] theorem cells_row{j:Nat}:A.cells (.row n i k j p)=[.row n i k j p]:=rfl
@[go_sem] theorem val_agg:A.val (.agg cs)=true:=rfl
@[go_sem] theorem val_int:A.val (.int q m)=true:=rfl
@[go_sem] theorem val_bool:A.val (.bool p)=true:=rfl
@[go_sem] theorem val_str:A.val (.str s)=true:=rfl
@[go_sem] theorem val_slc:A.val (.ad es)=true:=rfl
@[go_sem] theorem val_clip:A.val (.clip es)=true:=rfl
@[go_sem] theorem val_nils:A.val .bK=true:=rfl
@[go_sem] theorem val_row{j:Nat}:A.val (.row n i k j p)=true:=rfl
@[go_sem] theorem norm_agg:A.norm (.agg cs)= .agg (cs.map iD):=rfl
@[go_sem] theorem norm_int:A.norm (.int q m)= .int q m:=rfl
@[go_sem] theorem norm_bool:A.norm (.bool p)= .bool p:=rfl
@[go_sem] theorem norm_str:A.norm (.str s)= .str s:=rfl
@[go_sem] theorem norm_slc:A.norm (.ad es)= .ad es:=rfl
@[go_sem] theorem norm_clip:A.norm (.clip es)= .ad es:=rfl
@[go_sem] theorem norm_nils:A.norm .bK= .ad []:=rfl
@[go_sem] theorem norm0_int:iD (.int q m)= .int q m:=rfl
@[go_sem] theorem norm0_bool:iD (.bool p)= .bool p:=rfl
@[go_sem] theorem norm0_str:iD (.str s)= .str s:=rfl
@[go_sem] theorem norm0_slc:iD (.ad es)= .ad es:=rfl
@[go_sem] theorem norm0_clip:iD (.clip es)= .ad es:=rfl
@[go_sem] theorem norm0_nils:iD .bK= .ad []:=rfl
@[go_sem] theorem viewL_nil:gO H []=some []:=rfl
@[go_sem] theorem viewL_cons:gO H (a::cs)=(view H a).bind fun y=>(gO H cs).map (y:: ·):=rfl
@[go_sem] theorem view1L_nil:ij H []=some []:=rfl
@[go_sem] theorem view1L_cons:ij H (a::cs)=(kO H a).bind fun y=>(ij H cs).map (y:: ·):=rfl
@[go_sem] theorem view0L_nil:ep H []=some []:=rfl
@[go_sem] theorem view0L_cons:ep H (a::cs)=(jL H a).bind fun y=>(ep H cs).map (y:: ·):=rfl
@[go_sem] theorem view_fn:view H (.fn n cs)=(ij H cs).map (.fn n ·):=rfl
@[go_sem] theorem view_agg:view H (.agg cs)=(ep H cs).map .agg:=rfl
@[go_sem] theorem view_ref:view H (.ref n i)=(match bX H n with|some (.box cs)=>(ep H (cs.drop i)).map .dz|_=>none):=rfl
@[go_sem] theorem view_row{j:Nat}:view H (.row n i k j p)=fN H n i k j:=rfl
@[go_sem] theorem view_int:view H (.int q m)=some (.int q m):=rfl
@[go_sem] theorem view_bool:view H (.bool p)=some (.bool p):=rfl
@[go_sem] theorem view_str:view H (.str s)=some (.str s):=rfl
@[go_sem] theorem view_slc:view H (.ad es)=some (.ad es):=rfl
@[go_sem] theorem view_clip:view H (.clip es)=some (.ad es):=rfl
@[go_sem] theorem view_nils:view H .bK=some (.ad []):=rfl
@[go_sem] theorem view1_ref:kO H (.ref n i)=(match bX H n with|some (.box cs)=>(ep H (cs.drop i)).map .dz|_=>none):=rfl
@[go_sem] theorem view0_row{j:Nat}:jL H (.row n i k j p)=fN H n i k j:=rfl
@[go_sem] theorem view0_int:jL H (.int q m)=some (.int q m):=rfl
@[go_sem] theorem view0_bool:jL H (.bool p)=some (.bool p):=rfl
@[go_sem] theorem view0_str:jL H (.str s)=some (.str s):=rfl
@[go_sem] theorem view0_slc:jL H (.ad es)=some (.ad es):=rfl
@[go_sem] theorem view0_nils:jL H .bK=some (.ad []):=rfl
@[go_sem] theorem viewRow_eq{j:Nat}:fN H n i k j=(match bX H n with|some (.row k' es)=>if k'=k/\i+j<=es.length/\k≠0 then some (.ad ((es.drop i).take j))else none|_=>none):=rfl
@[go_sem] theorem pureL_nil:A.pure.aY []=true:=rfl
@[go_sem] theorem pureL_cons:A.pure.aY (a::cs)=(a.pure&&A.pure.aY cs):=rfl
@[go_sem] theorem pure_agg:A.pure (.agg cs)=A.pure.aY cs:=by simp[A.pure]
@[go_sem] theorem pure_fn:A.pure (.fn n cs)=A.pure.aY cs:=by simp[A.pure]
@[go_sem] theorem pure_int:A.pure (.int q m)=true:=by simp[A.pure]
@[go_sem] theorem pure_bool:A.pure (.bool p)=true:=by simp[A.pure]
@[go_sem] theorem pure_str:A.pure (.str s)=true:=by simp[A.pure]
@[go_sem] theorem pure_slc:A.pure (.ad es)=true:=by simp[A.pure]
@[go_sem] theorem pure_clip:A.pure (.clip es)=true:=by simp[A.pure]
@[go_sem] theorem pure_nils:A.pure .bK=true:=by simp[A.pure]
@[go_sem] theorem flat_bool:A.flat (.bool p)=true:=by simp[A.flat]
@[go_sem] theorem clear_row{σs:List (Nat×A)}{cH:List Obj}{l:Nat}:ve P (St.mk σs cH) d t (.row n i k l p)=(match aR P t with|some e=>(match bX cH n with|some (.row k' es)=>(match dt P e with|some z=>if k'=k/\z.cells.length=k/\k≠0/\z.val=true/\z.pure=true/\i+l<=es.length then some (((St.mk σs cH).cT n (.row k (es.take i++List.replicate l z.norm++es.drop (i+l)))).put d (.cx []))else none|none=>none)|_=>none)|none=>none):=rfl
@[go_sem] theorem callHV_fn{Γ:aj}:oU Γ σ d (.fn n cs) ds=KA Γ σ d n (ds++cs):=rfl
@[go_sem] theorem callH_eq{Γ:aj}{σs:List (Nat×A)}{cH:List Obj}:KA Γ (St.mk σs cH) d n ds=rX Γ (St.mk σs cH) d n ds (reach cH 64 (A.names.fK ds) []):=rfl
@[go_sem] theorem callH1_eq{Γ:aj}{σs:List (Nat×A)}{cH:List Obj}{ρ:List Nat}:rX Γ (St.mk σs cH) d n ds ρ=(A.iQ.oF ρ ds).bind fun ZK=>(oG ρ cH ρ).bind fun ch=>
 if Γ.qU n=true then(if ρ.all (fun n=> !Γ.fix n)=true then(gO ch ZK).bind fun bs=>(Γ.f n bs).map (Hi (St.mk σs cH) d ρ ch)else none)
 else(Γ.hp n ZK ch).bind fun x=>if nk Γ ρ cH.length x.2.2=true then some (zY (St.mk σs cH) d ρ x)else none:=rfl
@[congr] theorem ZX{Γ:aj}{ρ ρ':List Nat}(h:ρ=ρ'):rX Γ σ d n ds ρ=rX Γ σ d n ds ρ':=by rw[h]
@[go_sem] theorem callH2_eq{σs:List (Nat×A)}{cH:List Obj}{ρ:List Nat}{S:List Nat}:zY (St.mk σs cH) d ρ (a,H,S)=St.put ⟨(c7 ρ cH.length (St.mk σs cH) S).s,lR ρ cH.length ρ H (c7 ρ cH.length (St.mk σs cH) S).H⟩ d (a.back ρ cH.length):=rfl
@[go_sem] theorem callF2_eq{σs:List (Nat×A)}{cH:List Obj}{ρ:List Nat}:Hi (St.mk σs cH) d ρ H a=St.put ⟨σs.map (fun p=>(p.1,lL ρ H p.2)),mr ρ ρ (cH.map (Hh ρ H))⟩ d a:=rfl
@[go_sem] theorem scrubs_nil{ρ:List Nat}:c7 ρ n σ []=σ:=rfl
@[go_sem] theorem backH_nil{ρ:List Nat}{os:List Obj}:lR ρ n [] os H=H++os.map (Obj.back ρ n):=rfl
@[go_sem] theorem backH_cons{ρ ns:List Nat}{o:Obj}{os:List Obj}:lR ρ n (i::ns) (o::os) H=lR ρ n ns os (jY H i (o.back ρ n)):=rfl
@[go_sem] theorem mayMove_nil{Γ:aj}{ρ:List Nat}:nk Γ ρ n []=true:=rfl
@[go_sem] theorem reach_nil{ρ:List Nat}:reach H (n+1) [] ρ=ρ:=rfl
@[go_sem] theorem reach_cons{ρ ns:List Nat}:reach H (n+1) (i::ns) ρ=if ρ.contains i=true then reach H n ns ρ else reach H n (rW (bX H i)++ns) (ρ++[i]):=rfl
@[go_sem] theorem namesO_some{o:Obj}:rW (some o)=o.names:=rfl
@[go_sem] theorem names_box:Obj.names (.box cs)=A.names.fK cs:=rfl
@[go_sem] theorem names_rowO:Obj.names (.row k cs)=[]:=rfl
@[go_sem] theorem namesL_nil:A.names.fK []=[]:=rfl
@[go_sem] theorem namesL_cons:A.names.fK (a::cs)=a.names++A.names.fK cs:=rfl
@[go_sem] theorem names_ref:A.names (.ref n i)=[n]:=by simp[A.names]
@[go_sem] theorem names_row{j:Nat}:A.names (.row n i j k p)=[n]:=by simp[A.names]
@[go_sem] theorem names_fn:A.names (.fn n cs)=A.names.fK cs:=by simp[A.names]
@[go_sem] theorem names_int:A.names (.int q m)=[]:=by simp[A.names]
@[go_sem] theorem names_slc:A.names (.ad es)=[]:=by simp[A.names]
@[go_sem] theorem names_clip:A.names (.clip es)=[]:=by simp[A.names]
@[go_sem] theorem idx_cons{ρ:List Nat}:idx (i::ρ) n=if i=n then some 0 else(idx ρ n).map (· +1):=rfl
@[go_sem] theorem renL_nil{ρ:List Nat}:A.iQ.oF ρ []=some []:=rfl
@[go_sem] theorem renL_cons{ρ:List Nat}:A.iQ.oF ρ (a::cs)=(a.iQ ρ).bind fun x=>(A.iQ.oF ρ cs).map (x:: ·):=rfl
@[go_sem] theorem ren_ref{ρ:List Nat}:A.iQ ρ (.ref n i)=(idx ρ n).map (.ref · i):=by simp[A.iQ]
@[go_sem] theorem ren_row{ρ:List Nat}{j:Nat}:A.iQ ρ (.row n i j k p)=(idx ρ n).map (.row · i j k p):=by simp[A.iQ]
@[go_sem] theorem ren_fn{ρ:List Nat}:A.iQ ρ (.fn n cs)=(A.iQ.oF ρ cs).map (.fn n ·):=by simp[A.iQ]
@[go_sem] theorem ren_int{ρ:List Nat}:A.iQ ρ (.int q m)=some (.int q m):=by simp[A.iQ]
@[go_sem] theorem ren_slc{ρ:List Nat}:A.iQ ρ (.ad es)=some (.ad es):=by simp[A.iQ]
@[go_sem] theorem ren_clip{ρ:List Nat}:A.iQ ρ (.clip es)=some (.clip es):=by simp[A.iQ]
@[go_sem] theorem renH_nil{ρ:List Nat}:oG ρ H []=some []:=rfl
@[go_sem] theorem renH_cons{ρ ns:List Nat}:oG ρ H (i::ns)=(VC ρ (bX H i)).bind fun o=>(oG ρ H ns).map (o:: ·):=rfl
@[go_sem] theorem renO_some{ρ:List Nat}{o:Obj}:VC ρ (some o)=o.iQ ρ:=rfl
@[go_sem] theorem renO_box{ρ:List Nat}:Obj.iQ ρ (.box cs)=(A.iQ.oF ρ cs).map .box:=rfl
@[go_sem] theorem renO_row{ρ:List Nat}:Obj.iQ ρ (.row k cs)=some (.row k cs):=rfl
@[go_sem] theorem nthN_nil:fW [] n i=n+i:=rfl
@[go_sem] theorem nthN_zero{ρ:List Nat}:fW (i::ρ) n 0=i:=rfl
@[go_sem] theorem back_row{ρ:List Nat}{j l:Nat}:A.back ρ k (.row n i j l p)= .row (fW ρ k n) i j l p:=by simp[A.back]
@[go_sem] theorem back_tup{ρ:List Nat}:A.back ρ k (.cx cs)= .cx (A.back.lQ ρ k cs):=by simp[A.back]
@[go_sem] theorem back_slc{ρ:List Nat}:A.back ρ k (.ad es)= .ad es:=by simp[A.back]
@[go_sem] theorem backL_nil{ρ:List Nat}:A.back.lQ ρ k []=[]:=rfl
@[go_sem] theorem backO_row{ρ:List Nat}:Obj.back ρ k (.row n cs)= .row n cs:=rfl
@[go_sem] theorem frzA_eq{ρ:List Nat}:lL ρ H a=if a.meets ρ=true then(match a.iQ ρ with|some x'=>(view H x').getD .any|none=> .any)else a:=rfl
@[go_sem] theorem meets_eq{ρ:List Nat}:A.meets ρ a=ρ.any fun n=>a.mem n:=rfl
@[go_sem] theorem frzO_box{ρ:List Nat}:Hh ρ H (.box cs)= .box (cs.map (lL ρ H)):=rfl
@[go_sem] theorem frzO_row{ρ:List Nat}:Hh ρ H (.row k cs)= .row k cs:=rfl
@[go_sem] theorem dropO_nil{ρ:List Nat}:mr ρ [] H=H:=rfl
@[go_sem] theorem dropO_cons{ρ ns:List Nat}:mr ρ (i::ns) H=mr ρ ns (jY H i (.row 0 [])):=rfl
@[go_sem] theorem startH_eq:Hj cs H={s:=number 0 cs,H:=H}:=rfl
@[go_sem] theorem bodyH_ret{fn:Func}:VE P fn a H .ret σ=K? (x_ P σ fn.results.toList) (fun rs=>iU rs=a/\a.under H.length=true/\rq H.length σ.H H):=rfl
@[go_sem] theorem ZY{fn:Func}:VE P fn a H .normal σ=K? (x_ P σ fn.results.toList) (fun rs=>iU rs=a/\a.under H.length=true/\rq H.length σ.H H):=rfl
@[go_sem] theorem rawL_nil:x_ P σ []=some []:=rfl
@[go_sem] theorem rawL_cons{v:ResultVar}{vs:List ResultVar}:x_ P σ (v::vs)=(S0 P σ v).bind fun x=>(x_ P σ vs).map (x:: ·):=rfl
@[go_sem] theorem raw_tmp{σs:List (Nat×A)}{cH:List Obj}:S0 P (St.mk σs cH) (.tmp i)=some (look σs i):=rfl
@[go_sem] theorem resOf_nil:iU []= .cx []:=rfl
@[go_sem] theorem callV_fn{Γ:aj}:zX Γ σ d (.fn n cs) ds=Kz Γ σ d n (ds++cs):=rfl
@[go_sem] theorem callX_eq{σs:List (Nat×A)}{cH:List Obj}{Γ:aj}:Kz Γ (St.mk σs cH) d n ds=(gO cH ds).bind fun bs=>(Γ.f n bs).bind fun r=>if(A.pure.aY ds||r.flat)=true then some ((St.mk σs cH).put d r)else none:=rfl
@[go_sem] theorem box_eq{σs:List (Nat×A)}{cH:List Obj}:vd (St.mk σs cH) n d a=if a.val=true then some (((St.mk σs cH).cT n (.box a.cells)).put d (.ref n 0))else none:=rfl
@[go_sem] theorem alloc_some:ni σ n d (some a)=vd σ n d a:=rfl
@[go_sem] theorem store_ref{σs:List (Nat×A)}{cH:List Obj}{z:Option Nat}:nj (St.mk σs cH) d z (.ref n i) a=(match bX cH n with|some (.box cs)=>if z=some a.cells.length/\i+a.cells.length<=cs.length/\a.val=true then some (((St.mk σs cH).cT n (.box (dY cs i a.cells))).put d (.cx []))else none|_=>none):=rfl
@[go_sem] theorem store_eref{σs:List (Nat×A)}{cH:List Obj}{z:Option Nat}{j:Nat}:nj (St.mk σs cH) d z (.fT n j i) a=(match bX cH n with|some (.row k es)=>(es[j]?).bind fun e=>if z=some a.cells.length/\i+a.cells.length<=e.cells.length/\a.cells.length≠0/\a.val=true/\a.pure=true then some (((St.mk σs cH).cT n (.row k (cn es j (kT e i a)))).put d (.cx []))else none|_=>none):=rfl
@[go_sem] theorem storeE_agg:kT (.agg cs) i a= .agg (dY cs i a.norm.cells):=rfl
@[go_sem] theorem storeE_int:kT (.int q m) i a=a.norm:=rfl
@[go_sem] theorem storeE_str:kT (.str s) i a=a.norm:=rfl
@[go_sem] theorem splice_eq:dY cs i ds=cs.take i++ds++cs.drop (i+ds.length):=rfl
@[go_sem] theorem build_eq{ps:List (Nat×Operand)}:oS P t σ ps=(match dt P t with|some (.agg zs)=>(match eD P t with|some (_,e)=>(if(aX P e).isSome=true then(jN P e σ ps zs).map .agg else none)|none=>if fV P t=true then(jM P t σ ps zs).map .agg else none)|_=>none):=rfl
@[go_sem] theorem fillS_nil:jM P t σ [] cs=some cs:=rfl
@[go_sem] theorem fillS_cons{x:Operand}{ps:List (Nat×Operand)}:jM P t σ ((i,x)::ps) cs=(match fieldInfo P t i with|some (o,ft)=>(tc (aX P ft) o (σ.ev x) cs).bind (jM P t σ ps)|none=>none):=rfl
@[go_sem] theorem fillA_nil:jN P t σ [] cs=some cs:=rfl
@[go_sem] theorem fillA_cons{x:Operand}{ps:List (Nat×Operand)}:jN P t σ ((i,x)::ps) cs=(match aX P t with|some n=>(tc (some n) (i*n) (σ.ev x) cs).bind (jN P t σ ps)|none=>none):=rfl
@[go_sem] theorem fillC_some:tc (some n) i a cs=if a.cells.length=n/\i+n<=cs.length/\a.val=true then some (cs.take i++a.cells++cs.drop (i+n))else none:=rfl
@[go_sem] theorem Zm{ps:List (Nat×Operand)}:e9 P t n σ ps=(match aR P t with|some e=>(match aX P e,dt P e with|some k,some z=>if n*k<=16777216/\k≠0/\z.pure=true/\z.val=true/\z.cells.length=k then(iE k σ ps (List.replicate n z.norm)).map .clip else none|_,_=>none)|none=>none):=rfl
@[go_sem] theorem fillE_nil:iE k σ [] cs=some cs:=rfl
@[go_sem] theorem fillE_cons{x:Operand}{ps:List (Nat×Operand)}:iE k σ ((i,x)::ps) cs=if(σ.ev x).cells.length=k/\i<cs.length/\(σ.ev x).val=true/\(σ.ev x).pure=true then iE k σ ps (cn cs i (σ.ev x).norm)else none:=rfl
@[go_sem] theorem appendX_eq{fx:Nat->Bool}{x:A}:qo P fx σ n d t u a x=(match aR P t with|some e=>(match aX P e with|some k=>if k=0\/eC P e=0\/ik P e k=false then none else(xZ P σ e u k x).bind fun src=>nh fx σ n d k (eC P e) a src|none=>none)|none=>none):=rfl
@[go_sem] theorem src_slc:xZ P σ t u k (.ad es)=if j7 k es=true/\(aR P u).isSome=true then some es else none:=rfl
@[go_sem] theorem src_clip:xZ P σ t u k (.clip es)=if j7 k es=true/\(aR P u).isSome=true then some es else none:=rfl
@[go_sem] theorem src_emp:xZ P σ t u k (.emp p)=if(aR P u).isSome=true then some []else none:=rfl
@[go_sem] theorem strOK_eq:j7 k es=(es.isEmpty||bT es==k):=rfl
@[go_sem] theorem stride_cons:bT (a::es)=a.cells.length:=rfl
@[go_sem] theorem append_nils{fx:Nat->Bool}{σs:List (Nat×A)}{cH:List Obj}:nh fx (St.mk σs cH) n d k i .bK es=if es.length*i<=140737488355328 then some (((St.mk σs cH).cT n (.row k es)).put d (.row n 0 k es.length false))else none:=rfl
@[go_sem] theorem append_clip{fx:Nat->Bool}{σs:List (Nat×A)}{cH:List Obj}:nh fx (St.mk σs cH) n d k i (.clip cs) es=if j7 k cs=true/\(cs=[]\/es≠ [])/\(cs.length+es.length)*i<=140737488355328 then some (((St.mk σs cH).cT n (.row k (cs++es))).put d (.row n 0 k (cs.length+es.length) false))else none:=rfl
@[go_sem] theorem append_row{fx:Nat->Bool}{σs:List (Nat×A)}{cH:List Obj}{m j l:Nat}:nh fx (St.mk σs cH) n d k i (.row m 0 j l p) es=(match bX cH m with|some (.row DF xs)=>if j=k/\DF=k/\l<=xs.length/\(l+es.length)*i<=140737488355328 then(if p then(if es=[]then none else some (((St.mk σs cH).cT n (.row k (xs.take l++es))).put d (.row n 0 k (l+es.length) false)))else(if fx m=true then none else some ((((St.mk σs cH).fp m).cT m (.row k (xs.take l++es))).put d (.row m 0 k (l+es.length) false))))else none|_=>none):=rfl
@[go_sem] theorem convX_eq{σs:List (Nat×A)}{cH:List Obj}:w6 P (St.mk σs cH) n d t u a=if te P t u=true then(match a with| .str s=>some (((St.mk σs cH).cT n (.row 1 (dh s))).put d (.row n 0 1 s.length false))|_=>none)else(mo P t u cH a).map ((St.mk σs cH).put d ·):=rfl
@[go_sem] theorem conv_int:mo P t u H (.int q m)=(match oh P u with|some k=>if(bE P t).isSome=true then some (.int k (k.wrap m))else none|none=>none):=rfl
@[go_sem] theorem conv_row{j:Nat}:mo P t u H (.row n i k j p)=kP (td P t u) (fN H n i k j):=rfl
@[go_sem] theorem conv_clip:mo P t u H (.clip es)=kP (td P t u) (some (.ad es)):=rfl
@[go_sem] theorem convB_some:kP true (some (.ad es))=(fo es).map .str:=rfl
@[go_sem] theorem slice_str{l h b:Bd}{z:Option Nat}:rU true z (.str s) l h b=Hf s l h b:=rfl
@[go_sem] theorem slice_slc{l h b:Bd}:rU p (some k) (.ad es) l h b=va k es l h b:=rfl
@[go_sem] theorem slice_row{l h b:Bd}{j f:Nat}{x:Bool}:rU p (some f) (.row n i k j x) l h b=if f=k then Hg n i f j l h b else none:=rfl
@[go_sem] theorem sliceS_eq{l h:Bd}:Hf s l h .none=if 0<=l.get 0/\l.get 0<=h.get s.length/\h.get s.length<=s.length then some (.str ((s.take (h.get s.length).toNat).drop (l.get 0).toNat))else none:=rfl
@[go_sem] theorem sliceE_eq{l h:Bd}:va k es l h .none=if j7 k es=true/\0<=l.get 0/\l.get 0<=h.get es.length/\h.get es.length<=es.length then some (.ad ((es.take (h.get es.length).toNat).drop (l.get 0).toNat))else none:=rfl
@[go_sem] theorem sliceR_eq{j:Nat}{l h:Bd}:Hg n i k j l h .none=if 0<=l.get 0/\l.get 0<=h.get j/\h.get j<=j then some (.row n (i+(l.get 0).toNat) k (h.get j-l.get 0).toNat false)else none:=rfl
@[go_sem] theorem elSize_eq:rV P t=(match aR P t with|some e=>aX P e|none=>none):=rfl
@[go_sem] theorem scrub_eq{σs:List (Nat×A)}{cH:List Obj}:(St.mk σs cH).fp n={s:=σs.map (fun p=>(p.1,dT n p.2)),H:=cH.map (ng n)}:=rfl
@[go_sem] theorem scrubA_eq:dT n a=if a.mem n=true then .any else a:=rfl
@[go_sem] theorem scrubO_box:ng n (.box cs)= .box (cs.map (dT n)):=rfl
@[go_sem] theorem scrubO_row:ng n (.row k cs)= .row k cs:=rfl
@[go_sem] theorem memL_nil:A.mem.fI n []=false:=rfl
@[go_sem] theorem memL_cons:A.mem.fI n (a::cs)=(a.mem n||A.mem.fI n cs):=rfl
@[go_sem] theorem mem_agg:A.mem n (.agg cs)=A.mem.fI n cs:=by simp[A.mem]
@[go_sem] theorem mem_fn:A.mem n (.fn i cs)=A.mem.fI n cs:=by simp[A.mem]
@[go_sem] theorem mem_tup:A.mem n (.cx cs)=A.mem.fI n cs:=by simp[A.mem]
@[go_sem] theorem mem_int:A.mem n (.int q m)=false:=by simp[A.mem]
@[go_sem] theorem mem_bool:A.mem n (.bool p)=false:=by simp[A.mem]
@[go_sem] theorem mem_str:A.mem n (.str s)=false:=by simp[A.mem]
@[go_sem] theorem mem_slc:A.mem n (.ad es)=false:=by simp[A.mem]
@[go_sem] theorem mem_clip:A.mem n (.clip es)=false:=by simp[A.mem]
@[go_sem] theorem mem_dptr:A.mem n (.dz es)=false:=by simp[A.mem]
@[go_sem] theorem mem_nils:A.mem n .bK=false:=by simp[A.mem]
@[go_sem] theorem mem_any:A.mem n .any=false:=by simp[A.mem]
@[go_sem] theorem mem_ref:A.mem n (.ref i k)=(i==n):=by simp[A.mem]
@[go_sem] theorem mem_eref{j:Nat}:A.mem n (.fT i j k)=(i==n):=by simp[A.mem]
@[go_sem] theorem mem_row{j l:Nat}:A.mem n (.row i j k l p)=(i==n):=by simp[A.mem]
@[go_sem] theorem under_agg:A.under n (.agg cs)=A.under.fX n cs:=by simp[A.under]
@[go_sem] theorem under_fn:A.under n (.fn i cs)=A.under.fX n cs:=by simp[A.under]
@[go_sem] theorem under_tup:A.under n (.cx cs)=A.under.fX n cs:=by simp[A.under]
@[go_sem] theorem underL_nil:A.under.fX n []=true:=rfl
@[go_sem] theorem underL_cons:A.under.fX n (a::cs)=(a.under n&&A.under.fX n cs):=rfl
@[go_sem] theorem under_int:A.under n (.int q m)=true:=by simp[A.under]
@[go_sem] theorem under_bool:A.under n (.bool p)=true:=by simp[A.under]
@[go_sem] theorem under_str:A.under n (.str s)=true:=by simp[A.under]
@[go_sem] theorem under_slc:A.under n (.ad es)=true:=by simp[A.under]
@[go_sem] theorem under_clip:A.under n (.clip es)=true:=by simp[A.under]
@[go_sem] theorem under_nils:A.under n .bK=true:=by simp[A.under]
@[go_sem] theorem under_any:A.under n .any=true:=by simp[A.under]
@[go_sem] theorem under_ref:A.under n (.ref i k)=decide (i<n):=by simp[A.under]
@[go_sem] theorem under_row{j l:Nat}:A.under n (.row i j k l p)=decide (i<n):=by simp[A.under]
@[go_sem] theorem Ab:vf P σ []=some []:=rfl
@[go_sem] theorem resL_cons{v:ResultVar}{vs:List ResultVar}:vf P σ (v::vs)=(KD P σ v).bind fun x=>(vf P σ vs).map (x:: ·):=rfl
@[go_sem] theorem res_tmp{σs:List (Nat×A)}{cH:List Obj}:KD P (St.mk σs cH) (.tmp i)=view cH (look σs i):=rfl
@[go_sem] theorem res_cell{σs:List (Nat×A)}{cH:List Obj}:KD P (St.mk σs cH) (.cell i t)=ZL P (St.mk σs cH) t (look σs i):=rfl
@[go_sem] theorem resC_ref{σs:List (Nat×A)}{cH:List Obj}:ZL P (St.mk σs cH) t (.ref n i)=(match bX cH n with|some (.box cs)=>(jo P t (cs.drop i)).bind (view cH)|_=>none):=rfl
@[go_sem] theorem resOf_one:iU [a]=a:=rfl
@[go_sem] theorem resOf_two:iU (a::b::cs)= .cx (a::b::cs):=rfl
@[go_sem] theorem body_ret{fn:Func}{oI:A->Prop}:VD P fn oI .ret σ=K? (vf P σ fn.results.toList) (fun rs=>oI (iU rs)):=rfl
@[go_sem] theorem body_normal{fn:Func}{oI:A->Prop}:VD P fn oI .normal σ=K? (vf P σ fn.results.toList) (fun rs=>oI (iU rs)):=rfl
@[go_sem] theorem start_eq:z' cs={s:=number 0 cs,H:=[]}:=rfl
@[go_sem] theorem number_nil:number n []=[]:=rfl
@[go_sem] theorem number_cons:number n (a::cs)=(n,a)::number (n+1) cs:=rfl
end
attribute [go_sem] List.map_cons List.map_nil List.cons_append List.nil_append List.append_nil List.length_cons List.length_nil List.replicate_succ List.replicate_zero
 List.take_succ_cons List.drop_succ_cons List.take_zero List.drop_zero List.take_nil List.drop_nil List.head?_cons List.getElem?_cons_zero List.getElem?_cons_succ List.isEmpty_cons List.isEmpty_nil List.any_cons List.any_nil List.all_cons List.all_nil
 Option.map_some Option.map_none Option.bind_some Option.bind_none Option.getD_some Option.getD_none Option.isSome_some Option.isSome_none Option.isNone_some Option.isNone_none
 ite_true ite_false Bool.false_eq_true Bool.and_true Bool.true_and Bool.and_false Bool.false_and Bool.or_true Bool.true_or Bool.or_false Bool.false_or Bool.not_true Bool.not_false
 beq_self_eq_true and_true true_and and_false false_and or_true true_or or_false false_or and_self
def ry(s:List (Nat×A)):List Nat->List (Nat×A)
 | []=>[]
 |d::ds=>(d,look s d)::ry s ds
def rz:List Obj->List (Nat×Obj)->List Obj
 |s,[]=>s
 |s,(d,v)::ds=>rz (jY s d v) ds
def j0(σ:St)(ks:List Nat)(u:List (Nat×A))(h:List (Nat×Obj)):St:={s:=u++ry σ.s ks,H:=rz σ.H h}
theorem vg: ∀(hs:List (Nat×Obj)) (H:List Obj),(rz H hs).length=H.length
 | [],H=>rfl
 |(d,v)::ds,H=>by
  simp only[rz]
  rw[vg ds]
  clear ds;induction H generalizing d with
  |nil=>rfl
  |cons x xs ih=>cases d<;>simp[jY,ih]
theorem ao{P:Program}{Γ:aj}{c:Code}{Q:Ex->St->Prop}{σ:St}{ι:Type}(ks:List Nat)(u:ι->List (Nat×A))(h:ι->List (Nat×Obj))(μ:ι->Nat)(qV:ι)(hn:Γ.nf<=σ.H.length)
 (h0:σ.le (j0 σ ks (u qV) (h qV)))
 (hs: ∀i,fP P Γ c (tf (fun τ=> ∃j,τ.le (j0 σ ks (u j) (h j))/\μ j<μ i) Q) (j0 σ ks (u i) (h i))):fP P Γ (.loop c) Q σ:=by
 have hl: ∀i,Γ.nf<=(j0 σ ks (u i) (h i)).H.length:=fun i=>by show Γ.nf<=(rz σ.H (h i)).length;rw[vg];exact hn
 simp only[fP]
 refine⟨ι,fun i=>j0 σ ks (u i) (h i),μ,⟨qV,.le (hl qV) h0⟩,fun i=> ?_⟩
 refine Aa (fun e τ hq=> ?_) (hs i)
 cases e with
 |normal=>obtain⟨j,h1,h2⟩:=hq;exact⟨j,.le (hl j) h1,h2⟩
 |exit id=>exact hq
 |ret=>exact hq
theorem DH{P:Program}{Γ:aj}{c:Code}{Q:Ex->St->Prop}{σ:St}(d:Nat)(es:List A)(hd:look σ.s d= .clip es)
 (hw:fP P Γ (.loop c) Q ⟨(d,.ad es)::σ.s,σ.H⟩):fP P Γ (.loop c) Q σ:=by
 simp only[fP]at hw⊢;obtain⟨ι,inv,μ,⟨i,hi⟩,hs⟩:=hw;exact⟨ι,inv,μ,⟨i,.wk d es hd hi⟩,hs⟩
theorem S3{P:Program}{Γ:aj}{c:Code}{Q:Ex->St->Prop}{σ:St}{ι:Type}(ρ:List Nat)(rY:ρ.Nodup)(hf: ∀n∈ρ,Γ.nf<=n)(ks:List Nat)(u:ι->List (Nat×A))(h:ι->List (Nat×Obj))(μ:ι->Nat)(qV:ι)(hn:Γ.nf<=σ.H.length)
 (h0:σ.le (j0 σ ks (u qV) (h qV)))
 (hs: ∀i,fP P Γ c (tf (fun τ=> ∃j,(τ.le (j0 σ ks (u j) (h j))\/K? (oG ρ τ.H ρ) fun ch=>(KB ρ ch τ).le (j0 σ ks (u j) (h j)))/\μ j<μ i) Q) (j0 σ ks (u i) (h i))):fP P Γ (.loop c) Q σ:=by
 have hl: ∀i,Γ.nf<=(j0 σ ks (u i) (h i)).H.length:=fun i=>by show Γ.nf<=(rz σ.H (h i)).length;rw[vg];exact hn
 simp only[fP]
 refine⟨ι,fun i=>j0 σ ks (u i) (h i),μ,⟨qV,.le (hl qV) h0⟩,fun i=> ?_⟩
 refine Aa (fun e τ hq=> ?_) (hs i)
 cases e with
 |normal=>
  obtain⟨j,h1,h2⟩:=hq;rcases h1 with h1|⟨ch,hH,h1⟩
  · exact⟨j,.le (hl j) h1,h2⟩
  · exact⟨j,.qU ρ ch rY hH hf (.le (hl j) h1),h2⟩
 |exit id=>exact hq
 |ret=>exact hq
@[go_sem] theorem frzSt_eq{ρ:List Nat}{ch:List Obj}{s:List (Nat×A)}{H:List Obj}:KB ρ ch (St.mk s H)=⟨s.map (fun p=>(p.1,lL ρ ch p.2)),mr ρ ρ (H.map (Hh ρ ch))⟩:=rfl
theorem qp{P:Program}{Γ:aj}{c:Code}{Q:Ex->St->Prop}{σ:St}{ι:Type}(ks:List Nat)(u:ι->List (Nat×A))(h:ι->List Obj)(μ:ι->Nat)(qV:ι)(hn: ∀i,Γ.nf<=(h i).length)
 (h0:σ.le ⟨u qV++ry σ.s ks,h qV⟩)
 (hs: ∀i,fP P Γ c (tf (fun τ=> ∃j,τ.le ⟨u j++ry σ.s ks,h j⟩/\μ j<μ i) Q) ⟨u i++ry σ.s ks,h i⟩):fP P Γ (.loop c) Q σ:=by
 simp only[fP]
 refine⟨ι,fun i=>⟨u i++ry σ.s ks,h i⟩,μ,⟨qV,.le (hn qV) h0⟩,fun i=> ?_⟩
 refine Aa (fun e τ hq=> ?_) (hs i)
 cases e with
 |normal=>obtain⟨j,h1,h2⟩:=hq;exact⟨j,.le (hn j) h1,h2⟩
 |exit id=>exact hq
 |ret=>exact hq
theorem aU{P:Program}{Γ:aj}{c:Code}{Q:Ex->St->Prop}{σ:St}(d k:Nat)(hd:look σ.s d= .bK)
 (hw:fP P Γ (.loop c) Q ⟨(d,.row σ.H.length 0 k 0 false)::σ.s,σ.H++[.row k []]⟩):fP P Γ (.loop c) Q σ:=by
 simp only[fP]at hw⊢;obtain⟨ι,inv,μ,⟨i,hi⟩,hs⟩:=hw;exact⟨ι,inv,μ,⟨i,.nil d k hd hi⟩,hs⟩
theorem DI{P:Program}{Γ:aj}{c:Code}{Q:Ex->St->Prop}{σ:St}(m:Nat)(cs:List A)(hm:bX σ.H m=some (.box cs))
 (hw:fP P Γ (.loop c) Q ⟨σ.s,jY σ.H m (.box (cs.map iD))⟩):fP P Γ (.loop c) Q σ:=by
 simp only[fP]at hw⊢;obtain⟨ι,inv,μ,⟨j,hj⟩,hs⟩:=hw;exact⟨ι,inv,μ,⟨j,.wkb m cs hm hj⟩,hs⟩
theorem DJ{P:Program}{Γ:aj}{c:Code}{Q:Ex->St->Prop}{σ:St}(m i k:Nat)(cs:List A)(hm:bX σ.H m=some (.box cs))(hi:cs[i]? =some .bK)
 (hw:fP P Γ (.loop c) Q ⟨σ.s,jY σ.H m (.box (cn cs i (.row σ.H.length 0 k 0 false)))++[.row k []]⟩):fP P Γ (.loop c) Q σ:=by
 simp only[fP]at hw⊢;obtain⟨ι,inv,μ,⟨j,hj⟩,hs⟩:=hw;exact⟨ι,inv,μ,⟨j,.nilb m i k cs hm hi hj⟩,hs⟩
section
variable{σ τ:St}{s:List (Nat×A)}{ks:List Nat}{H G:List Obj}{d n k:Nat}{v a b:A}{o p:Obj}{cs ds:List A}
@[go_sem] theorem keepS_nil:ry s []=[]:=rfl
@[go_sem] theorem keepS_cons:ry s (d::ks)=(d,look s d)::ry s ks:=rfl
@[go_sem] theorem updsH_nil:rz H []=H:=rfl
@[go_sem] theorem updsH_cons{hs:List (Nat×Obj)}:rz H ((n,o)::hs)=rz (jY H n o) hs:=rfl
@[go_sem] theorem head_eq{σs:List (Nat×A)}{cH:List Obj}{u:List (Nat×A)}{hs:List (Nat×Obj)}:j0 (St.mk σs cH) ks u hs={s:=u++ry σs ks,H:=rz cH hs}:=rfl
@[go_sem] theorem le_eq{s r:List (Nat×A)}{H G:List Obj}:(St.mk s H).le ⟨r,G⟩=(leS G.length s r/\rq G.length H G):=rfl
@[go_sem] theorem leS_nil:leS n s []=True:=rfl
@[go_sem] theorem leS_cons{r:List (Nat×A)}:leS n s ((d,v)::r)=((look s d=v/\v.under n=true)/\leS n s r):=rfl
@[go_sem] theorem leH_nil:rq n [] []=True:=by simp[rq]
@[go_sem] theorem leH_nil':rq n (o::H) []=True:=by simp[rq]
@[go_sem] theorem leH_cons:rq n (o::H) (p::G)=(QY n o p/\rq n H G):=by simp[rq]
@[go_sem] theorem leO_box:QY n (.box cs) (.box ds)=Ki n cs ds:=by simp[QY]
@[go_sem] theorem leO_row{j:Nat}:QY n (.row k cs) (.row j ds)=(k=j/\cs=ds):=by simp[QY]
@[go_sem] theorem leL_nil:Ki n [] []=True:=by simp[Ki]
@[go_sem] theorem leL_cons:Ki n (a::cs) (b::ds)=((b= .any\/(a=b/\b.under n=true))/\Ki n cs ds):=by simp[Ki]
end
attribute [go_sem] A.int.injEq A.bool.injEq A.str.injEq A.ad.injEq A.agg.injEq A.ref.injEq A.row.injEq A.cx.injEq A.fn.injEq
end Go.bJ
namespace Go.Proofs.YtihgnfmoafjakaaGreat
open Go.bJ
theorem mixed:Tryz.prog.follows .mixedOrders=true:=by kernel_rfl
@[go_sem] theorem tyStr3:fm Tryz.prog 3=false:=by kernel_rfl
@[go_sem] theorem tyBool3:fU Tryz.prog 3=false:=by kernel_rfl
@[go_sem] theorem tyPtr3:jn Tryz.prog 3=false:=by kernel_rfl
@[go_sem] theorem tyElem3:aR Tryz.prog 3=none:=by kernel_rfl
@[go_sem] theorem tySize3:aX Tryz.prog 3=some 1:=by kernel_rfl
@[go_sem] theorem tyAgg3:bE Tryz.prog 3=some false:=by kernel_rfl
@[go_sem] theorem tyInt3:oh Tryz.prog 3=some .i64:=by kernel_rfl
@[go_sem] theorem tyBytes3:eC Tryz.prog 3=8:=by kernel_rfl
@[go_sem] theorem zeroA3:dt Tryz.prog 3=some (.int .i64 0):=by kernel_rfl
@[go_sem] theorem eqTy3:oR Tryz.prog 3=none:=by kernel_rfl
@[go_sem] theorem tySize4:aX Tryz.prog 4=some 1:=by kernel_rfl
@[go_sem] theorem tyAgg4:bE Tryz.prog 4=some false:=by kernel_rfl
@[go_sem] theorem tyStr5:fm Tryz.prog 5=false:=by kernel_rfl
@[go_sem] theorem tyBool5:fU Tryz.prog 5=false:=by kernel_rfl
@[go_sem] theorem tyPtr5:jn Tryz.prog 5=false:=by kernel_rfl
@[go_sem] theorem tyElem5:aR Tryz.prog 5=none:=by kernel_rfl
@[go_sem] theorem tySize5:aX Tryz.prog 5=some 1:=by kernel_rfl
@[go_sem] theorem tyAgg5:bE Tryz.prog 5=some false:=by kernel_rfl
@[go_sem] theorem tyInt5:oh Tryz.prog 5=some .u8:=by kernel_rfl
@[go_sem] theorem zeroA5:dt Tryz.prog 5=some (.int .u8 0):=by kernel_rfl
@[go_sem] theorem eqTy5:oR Tryz.prog 5=none:=by kernel_rfl
@[go_sem] theorem tyStr9:fm Tryz.prog 9=true:=by kernel_rfl
@[go_sem] theorem tyBool9:fU Tryz.prog 9=false:=by kernel_rfl
@[go_sem] theorem tyPtr9:jn Tryz.prog 9=false:=by kernel_rfl
@[go_sem] theorem tyElem9:aR Tryz.prog 9=none:=by kernel_rfl
@[go_sem] theorem tyArr9:eD Tryz.prog 9=none:=by kernel_rfl
@[go_sem] theorem tySize9:aX Tryz.prog 9=some 1:=by kernel_rfl
@[go_sem] theorem tyAgg9:bE Tryz.prog 9=some false:=by kernel_rfl
@[go_sem] theorem tyBytes9:eC Tryz.prog 9=16:=by kernel_rfl
@[go_sem] theorem zeroA9:dt Tryz.prog 9=some (.str []):=by kernel_rfl
@[go_sem] theorem eqTy9:oR Tryz.prog 9=none:=by kernel_rfl
@[go_sem] theorem tyBool22:fU Tryz.prog 22=false:=by kernel_rfl
@[go_sem] theorem tyPtr22:jn Tryz.prog 22=false:=by kernel_rfl
@[go_sem] theorem tyElem22:aR Tryz.prog 22=some 85:=by kernel_rfl
@[go_sem] theorem tySize22:aX Tryz.prog 22=some 1:=by kernel_rfl
@[go_sem] theorem tyAgg22:bE Tryz.prog 22=some false:=by kernel_rfl
@[go_sem] theorem tyBytes22:eC Tryz.prog 22=24:=by kernel_rfl
@[go_sem] theorem zeroA22:dt Tryz.prog 22=some .bK:=by kernel_rfl
@[go_sem] theorem eqTy22:oR Tryz.prog 22=none:=by kernel_rfl
@[go_sem] theorem tyElem23:aR Tryz.prog 23=some 50:=by kernel_rfl
@[go_sem] theorem tySize23:aX Tryz.prog 23=some 1:=by kernel_rfl
@[go_sem] theorem tyAgg23:bE Tryz.prog 23=some false:=by kernel_rfl
@[go_sem] theorem zeroA23:dt Tryz.prog 23=some .bK:=by kernel_rfl
@[go_sem] theorem tyElem24:aR Tryz.prog 24=some 98:=by kernel_rfl
@[go_sem] theorem tySize24:aX Tryz.prog 24=some 1:=by kernel_rfl
@[go_sem] theorem tyAgg24:bE Tryz.prog 24=some false:=by kernel_rfl
@[go_sem] theorem zeroA24:dt Tryz.prog 24=some .bK:=by kernel_rfl
@[go_sem] theorem tyArr26:eD Tryz.prog 26=none:=by kernel_rfl
@[go_sem] theorem tySize26:aX Tryz.prog 26=some 5:=by kernel_rfl
@[go_sem] theorem tyAgg26:bE Tryz.prog 26=some true:=by kernel_rfl
@[go_sem] theorem allSized26:fV Tryz.prog 26=true:=by kernel_rfl
@[go_sem] theorem zeroA26:dt Tryz.prog 26=some (.agg [.int .i64 0,.bK,.bK,.bK,.int .i64 0]):=by kernel_rfl
@[go_sem] theorem fi26_0:fieldInfo Tryz.prog 26 0=some (0,3):=by kernel_rfl
@[go_sem] theorem fi26_1:fieldInfo Tryz.prog 26 1=some (1,22):=by kernel_rfl
@[go_sem] theorem fi26_2:fieldInfo Tryz.prog 26 2=some (2,23):=by kernel_rfl
@[go_sem] theorem fi26_3:fieldInfo Tryz.prog 26 3=some (3,24):=by kernel_rfl
@[go_sem] theorem fi26_4:fieldInfo Tryz.prog 26 4=some (4,3):=by kernel_rfl
@[go_sem] theorem tyBool30:fU Tryz.prog 30=false:=by kernel_rfl
@[go_sem] theorem tyPtr30:jn Tryz.prog 30=false:=by kernel_rfl
@[go_sem] theorem tyElem30:aR Tryz.prog 30=none:=by kernel_rfl
@[go_sem] theorem eqTy30:oR Tryz.prog 30=none:=by kernel_rfl
@[go_sem] theorem tyBool48:fU Tryz.prog 48=false:=by kernel_rfl
@[go_sem] theorem tyPtr48:jn Tryz.prog 48=false:=by kernel_rfl
@[go_sem] theorem tyElem48:aR Tryz.prog 48=none:=by kernel_rfl
@[go_sem] theorem tyArr48:eD Tryz.prog 48=none:=by kernel_rfl
@[go_sem] theorem tySize48:aX Tryz.prog 48=some 2:=by kernel_rfl
@[go_sem] theorem tyAgg48:bE Tryz.prog 48=some true:=by kernel_rfl
@[go_sem] theorem tyBytes48:eC Tryz.prog 48=16:=by kernel_rfl
@[go_sem] theorem allSized48:fV Tryz.prog 48=true:=by kernel_rfl
@[go_sem] theorem zeroA48:dt Tryz.prog 48=some (.agg [.int .i64 0,.int .i64 0]):=by kernel_rfl
@[go_sem] theorem eqTy48:oR Tryz.prog 48=some [.int .i64,.int .i64]:=by kernel_rfl
@[go_sem] theorem fi48_0:fieldInfo Tryz.prog 48 0=some (0,3):=by kernel_rfl
@[go_sem] theorem fi48_1:fieldInfo Tryz.prog 48 1=some (1,3):=by kernel_rfl
@[go_sem] theorem tyBool50:fU Tryz.prog 50=false:=by kernel_rfl
@[go_sem] theorem tyPtr50:jn Tryz.prog 50=false:=by kernel_rfl
@[go_sem] theorem tyElem50:aR Tryz.prog 50=none:=by kernel_rfl
@[go_sem] theorem tyArr50:eD Tryz.prog 50=none:=by kernel_rfl
@[go_sem] theorem tySize50:aX Tryz.prog 50=some 7:=by kernel_rfl
@[go_sem] theorem tyAgg50:bE Tryz.prog 50=some true:=by kernel_rfl
@[go_sem] theorem tyBytes50:eC Tryz.prog 50=72:=by kernel_rfl
@[go_sem] theorem allSized50:fV Tryz.prog 50=true:=by kernel_rfl
@[go_sem] theorem zeroA50:dt Tryz.prog 50=some (.agg [.str [],.int .i64 0,.int .i64 0,.int .i64 0,.int .i64 0,.bool false,.str []]):=by kernel_rfl
@[go_sem] theorem eqTy50:oR Tryz.prog 50=some [.str,.int .i64,.int .i64,.int .i64,.int .i64,.bool,.str]:=by kernel_rfl
@[go_sem] theorem fi50_0:fieldInfo Tryz.prog 50 0=some (0,9):=by kernel_rfl
@[go_sem] theorem fi50_1:fieldInfo Tryz.prog 50 1=some (1,48):=by kernel_rfl
@[go_sem] theorem fi50_2:fieldInfo Tryz.prog 50 2=some (3,3):=by kernel_rfl
@[go_sem] theorem fi50_3:fieldInfo Tryz.prog 50 3=some (4,3):=by kernel_rfl
@[go_sem] theorem fi50_4:fieldInfo Tryz.prog 50 4=some (5,4):=by kernel_rfl
@[go_sem] theorem fi50_5:fieldInfo Tryz.prog 50 5=some (6,9):=by kernel_rfl
@[go_sem] theorem tyElem66:aR Tryz.prog 66=some 118:=by kernel_rfl
@[go_sem] theorem fi75_0:fieldInfo Tryz.prog 75 0=some (0,9):=by kernel_rfl
@[go_sem] theorem fi75_1:fieldInfo Tryz.prog 75 1=some (1,3):=by kernel_rfl
@[go_sem] theorem fi75_2:fieldInfo Tryz.prog 75 2=some (2,9):=by kernel_rfl
@[go_sem] theorem fi75_3:fieldInfo Tryz.prog 75 3=some (3,4):=by kernel_rfl
@[go_sem] theorem tyBool85:fU Tryz.prog 85=false:=by kernel_rfl
@[go_sem] theorem tyPtr85:jn Tryz.prog 85=false:=by kernel_rfl
@[go_sem] theorem tyElem85:aR Tryz.prog 85=none:=by kernel_rfl
@[go_sem] theorem tyArr85:eD Tryz.prog 85=none:=by kernel_rfl
@[go_sem] theorem tySize85:aX Tryz.prog 85=some 3:=by kernel_rfl
@[go_sem] theorem tyAgg85:bE Tryz.prog 85=some true:=by kernel_rfl
@[go_sem] theorem tyBytes85:eC Tryz.prog 85=40:=by kernel_rfl
@[go_sem] theorem allSized85:fV Tryz.prog 85=true:=by kernel_rfl
@[go_sem] theorem zeroA85:dt Tryz.prog 85=some (.agg [.str [],.str [],.bool false]):=by kernel_rfl
@[go_sem] theorem eqTy85:oR Tryz.prog 85=some [.str,.str,.bool]:=by kernel_rfl
@[go_sem] theorem fi85_0:fieldInfo Tryz.prog 85 0=some (0,9):=by kernel_rfl
@[go_sem] theorem fi85_1:fieldInfo Tryz.prog 85 1=some (1,9):=by kernel_rfl
@[go_sem] theorem fi85_2:fieldInfo Tryz.prog 85 2=some (2,4):=by kernel_rfl
@[go_sem] theorem tyElem96:aR Tryz.prog 96=some 127:=by kernel_rfl
@[go_sem] theorem tySize96:aX Tryz.prog 96=some 1:=by kernel_rfl
@[go_sem] theorem tyAgg96:bE Tryz.prog 96=some false:=by kernel_rfl
@[go_sem] theorem tyArr98:eD Tryz.prog 98=none:=by kernel_rfl
@[go_sem] theorem tySize98:aX Tryz.prog 98=some 4:=by kernel_rfl
@[go_sem] theorem tyAgg98:bE Tryz.prog 98=some true:=by kernel_rfl
@[go_sem] theorem tyBytes98:eC Tryz.prog 98=64:=by kernel_rfl
@[go_sem] theorem allSized98:fV Tryz.prog 98=true:=by kernel_rfl
@[go_sem] theorem zeroA98:dt Tryz.prog 98=some (.agg [.str [],.str [],.bool false,.bK]):=by kernel_rfl
@[go_sem] theorem fi98_0:fieldInfo Tryz.prog 98 0=some (0,85):=by kernel_rfl
@[go_sem] theorem fi98_1:fieldInfo Tryz.prog 98 1=some (3,96):=by kernel_rfl
@[go_sem] theorem tyStr107:fm Tryz.prog 107=false:=by kernel_rfl
@[go_sem] theorem tyElem107:aR Tryz.prog 107=some 48:=by kernel_rfl
@[go_sem] theorem tyArr107:eD Tryz.prog 107=none:=by kernel_rfl
@[go_sem] theorem tyBool118:fU Tryz.prog 118=false:=by kernel_rfl
@[go_sem] theorem tyPtr118:jn Tryz.prog 118=false:=by kernel_rfl
@[go_sem] theorem tyElem118:aR Tryz.prog 118=none:=by kernel_rfl
@[go_sem] theorem tyArr118:eD Tryz.prog 118=none:=by kernel_rfl
@[go_sem] theorem tySize118:aX Tryz.prog 118=some 4:=by kernel_rfl
@[go_sem] theorem tyAgg118:bE Tryz.prog 118=some true:=by kernel_rfl
@[go_sem] theorem allSized118:fV Tryz.prog 118=true:=by kernel_rfl
@[go_sem] theorem zeroA118:dt Tryz.prog 118=some (.agg [.int .i64 0,.int .i64 0,.str [],.str []]):=by kernel_rfl
@[go_sem] theorem eqTy118:oR Tryz.prog 118=some [.int .i64,.int .i64,.str,.str]:=by kernel_rfl
@[go_sem] theorem fi118_0:fieldInfo Tryz.prog 118 0=some (0,3):=by kernel_rfl
@[go_sem] theorem fi118_1:fieldInfo Tryz.prog 118 1=some (1,3):=by kernel_rfl
@[go_sem] theorem tyStr121:fm Tryz.prog 121=false:=by kernel_rfl
@[go_sem] theorem tyElem121:aR Tryz.prog 121=some 9:=by kernel_rfl
@[go_sem] theorem tyArr121:eD Tryz.prog 121=none:=by kernel_rfl
@[go_sem] theorem tyBool125:fU Tryz.prog 125=false:=by kernel_rfl
@[go_sem] theorem tyPtr125:jn Tryz.prog 125=false:=by kernel_rfl
@[go_sem] theorem tyElem125:aR Tryz.prog 125=some 130:=by kernel_rfl
@[go_sem] theorem tySize125:aX Tryz.prog 125=some 1:=by kernel_rfl
@[go_sem] theorem tyAgg125:bE Tryz.prog 125=some false:=by kernel_rfl
@[go_sem] theorem eqTy125:oR Tryz.prog 125=none:=by kernel_rfl
@[go_sem] theorem tyArr127:eD Tryz.prog 127=none:=by kernel_rfl
@[go_sem] theorem tySize127:aX Tryz.prog 127=some 2:=by kernel_rfl
@[go_sem] theorem tyAgg127:bE Tryz.prog 127=some true:=by kernel_rfl
@[go_sem] theorem tyBytes127:eC Tryz.prog 127=32:=by kernel_rfl
@[go_sem] theorem allSized127:fV Tryz.prog 127=true:=by kernel_rfl
@[go_sem] theorem zeroA127:dt Tryz.prog 127=some (.agg [.int .i64 0,.bK]):=by kernel_rfl
@[go_sem] theorem fi127_0:fieldInfo Tryz.prog 127 0=some (0,3):=by kernel_rfl
@[go_sem] theorem fi127_1:fieldInfo Tryz.prog 127 1=some (1,125):=by kernel_rfl
@[go_sem] theorem tyBool130:fU Tryz.prog 130=false:=by kernel_rfl
@[go_sem] theorem tyPtr130:jn Tryz.prog 130=false:=by kernel_rfl
@[go_sem] theorem tyElem130:aR Tryz.prog 130=none:=by kernel_rfl
@[go_sem] theorem tyArr130:eD Tryz.prog 130=none:=by kernel_rfl
@[go_sem] theorem tySize130:aX Tryz.prog 130=some 2:=by kernel_rfl
@[go_sem] theorem tyAgg130:bE Tryz.prog 130=some true:=by kernel_rfl
@[go_sem] theorem tyBytes130:eC Tryz.prog 130=16:=by kernel_rfl
@[go_sem] theorem allSized130:fV Tryz.prog 130=true:=by kernel_rfl
@[go_sem] theorem zeroA130:dt Tryz.prog 130=some (.agg [.int .i64 0,.int .i64 0]):=by kernel_rfl
@[go_sem] theorem eqTy130:oR Tryz.prog 130=some [.int .i64,.int .i64]:=by kernel_rfl
@[go_sem] theorem fi130_0:fieldInfo Tryz.prog 130 0=some (0,3):=by kernel_rfl
@[go_sem] theorem fi130_1:fieldInfo Tryz.prog 130 1=some (1,3):=by kernel_rfl
@[go_sem] theorem tyElem152:aR Tryz.prog 152=some 23:=by kernel_rfl
@[go_sem] theorem tyElem155:aR Tryz.prog 155=some 24:=by kernel_rfl
@[go_sem] theorem tyElem162:aR Tryz.prog 162=some 22:=by kernel_rfl
@[go_sem] theorem tyElem182:aR Tryz.prog 182=none:=by kernel_rfl
@[go_sem] theorem tyArr182:eD Tryz.prog 182=some (16,125):=by kernel_rfl
@[go_sem] theorem tySize182:aX Tryz.prog 182=some 16:=by kernel_rfl
@[go_sem] theorem tyAgg182:bE Tryz.prog 182=some true:=by kernel_rfl
@[go_sem] theorem zeroA182:dt Tryz.prog 182=some (.agg [.bK,.bK,.bK,.bK,.bK,.bK,.bK,.bK,.bK,.bK,.bK,.bK,.bK,.bK,.bK,.bK]):=by kernel_rfl
@[go_sem] theorem tyStr189:fm Tryz.prog 189=false:=by kernel_rfl
@[go_sem] theorem tyElem189:aR Tryz.prog 189=some 5:=by kernel_rfl
@[go_sem] theorem tyStr199:fm Tryz.prog 199=false:=by kernel_rfl
@[go_sem] theorem tyBool199:fU Tryz.prog 199=false:=by kernel_rfl
@[go_sem] theorem tyPtr199:jn Tryz.prog 199=false:=by kernel_rfl
@[go_sem] theorem tyElem199:aR Tryz.prog 199=none:=by kernel_rfl
@[go_sem] theorem tyAgg199:bE Tryz.prog 199=some false:=by kernel_rfl
@[go_sem] theorem tyInt199:oh Tryz.prog 199=some .u64:=by kernel_rfl
@[go_sem] theorem eqTy199:oR Tryz.prog 199=none:=by kernel_rfl
@[go_sem] theorem tyStr206:fm Tryz.prog 206=false:=by kernel_rfl
@[go_sem] theorem tyElem206:aR Tryz.prog 206=some 3:=by kernel_rfl
@[go_sem] theorem tyArr206:eD Tryz.prog 206=none:=by kernel_rfl
@[go_sem] theorem tyStr220:fm Tryz.prog 220=false:=by kernel_rfl
@[go_sem] theorem tyBool220:fU Tryz.prog 220=false:=by kernel_rfl
@[go_sem] theorem tyPtr220:jn Tryz.prog 220=false:=by kernel_rfl
@[go_sem] theorem tyElem220:aR Tryz.prog 220=none:=by kernel_rfl
@[go_sem] theorem tyAgg220:bE Tryz.prog 220=some false:=by kernel_rfl
@[go_sem] theorem eqTy220:oR Tryz.prog 220=none:=by kernel_rfl
@[go_sem] theorem tyArr245:eD Tryz.prog 245=some (2,22):=by kernel_rfl
@[go_sem] theorem zeroA245:dt Tryz.prog 245=some (.agg [.bK,.bK]):=by kernel_rfl
@[go_sem] theorem zeroOK3:ik Tryz.prog 3 1=true:=by kernel_rfl
@[go_sem] theorem zeroOK9:ik Tryz.prog 9 1=true:=by kernel_rfl
@[go_sem] theorem zeroOK22:ik Tryz.prog 22 1=true:=by kernel_rfl
@[go_sem] theorem zeroOK48:ik Tryz.prog 48 2=true:=by kernel_rfl
@[go_sem] theorem zeroOK50:ik Tryz.prog 50 7=true:=by kernel_rfl
@[go_sem] theorem zeroOK85:ik Tryz.prog 85 3=true:=by kernel_rfl
@[go_sem] theorem zeroOK98:ik Tryz.prog 98 4=true:=by kernel_rfl
@[go_sem] theorem zeroOK127:ik Tryz.prog 127 2=true:=by kernel_rfl
@[go_sem] theorem zeroOK130:ik Tryz.prog 130 2=true:=by kernel_rfl
end Go.Proofs.YtihgnfmoafjakaaGreat
namespace Go.bJ
open Go.RowKit
theorem ba{E:Env}: ∀{cs:List A} {vs:List Value},aP E cs vs ↔ cs.length=vs.length/\ ∀(i:Nat) (x:A) (v:Value),cs[i]? =some x->vs[i]? =some v->aF E x v
 | [],vs=>by
  simp only[aP]
  constructor
  · rintro rfl;exact⟨rfl,fun i x v h=>by simp at h⟩
  · rintro⟨h,_⟩;exact List.length_eq_zero_iff.1 h.symm
 |c::cs,vs=>by
  simp only[aP]
  constructor
  · rintro⟨v,kc,rfl,hc,hl⟩
    obtain⟨h1,h2⟩:=ba.1 hl;refine⟨by simp[h1],fun i x u hx hu=> ?_⟩
    cases i with
    |zero=>simp at hx hu;subst hx;subst hu;exact hc
    |succ i=>exact h2 i x u (by simpa using hx) (by simpa using hu)
  · rintro⟨h1,h2⟩
    cases vs with
    |nil=>simp at h1
    |cons v vs=>exact⟨v,vs,rfl,h2 0 c v rfl rfl,ba.2 ⟨by simpa using h1,fun i x u hx hu=>h2 (i+1) x u (by simpa using hx) (by simpa using hu)⟩⟩
theorem bc{E:Env}{b:Nat}: ∀{cs:List A} {off:Nat},fJ E b off cs ↔∀(i:Nat) (x:A),cs[i]? =some x-> ∃v,E.w.cell? ⟨b,off+i,none⟩=some v/\v.oneCell'=true/\aF E x v
 | [],off=>by simp[fJ]
 |c::cs,off=>by
  simp only[fJ]
  constructor
  · rintro⟨h1,h2⟩ i x hx
    cases i with
    |zero=>simp at hx;subst hx;simpa using h1
    |succ i=>
     have:=bc.1 h2 i x (by simpa using hx)
     rwa [show off+1+i=off+(i+1) by omega]at this
  · intro h
    refine⟨by simpa using h 0 c rfl,bc.2 fun i x hx=> ?_⟩
    have:=h (i+1) x (by simpa using hx)
    rwa [show off+(i+1)=off+1+i by omega]at this
theorem KE{E:Env}{b off:Nat}{x:A}:fJ E b off [x] ↔∃v,E.w.cell? ⟨b,off,none⟩=some v/\v.oneCell'=true/\aF E x v:=by simp[fJ]
theorem mu{E:Env}{k b off:Nat}{e:A}{es:List A}:eo E k b off (e::es) ↔ (e.cells.length=k/\fJ E b off e.cells)/\eo E k b (off+k) es:=by
 cases e
 case agg cs=>rw[Ku];simp[A.cells]
 all_goals
  simp only[eo,A.cells,fJ,List.length_cons,List.length_nil,Nat.zero_add,and_true]
  constructor
  · rintro⟨⟨h1,h2⟩,h3⟩;exact⟨⟨h1.symm,h2⟩,h3⟩
  · rintro⟨⟨h1,h2⟩,h3⟩;exact⟨⟨h1.symm,h2⟩,h3⟩
theorem cU{E:Env}{k b:Nat}: ∀{es:List A} {off:Nat},eo E k b off es ↔∀(i:Nat) (e:A),es[i]? =some e->e.cells.length=k/\fJ E b (off+i*k) e.cells
 | [],off=>by simp[eo]
 |e::es,off=>by
  rw[mu]
  constructor
  · rintro⟨h1,h2⟩ i x hx
    cases i with
    |zero=>simp at hx;subst hx;simpa using h1
    |succ i=>
     have:=cU.1 h2 i x (by simpa using hx)
     rwa [show off+k+i*k=off+(i+1)*k by rw[Nat.add_mul];omega]at this
  · intro h
    refine⟨by simpa using h 0 e rfl,cU.2 fun i x hx=> ?_⟩
    have:=h (i+1) x (by simpa using hx)
    rwa [show off+(i+1)*k=off+k+i*k by rw[Nat.add_mul];omega]at this
theorem iF{E:Env}{b off n:Nat}{cs:List A}(h:fJ E b off cs):fJ E b (off+n) (cs.drop n):=
 bc.2 fun i x hx=>by
  have:=bc.1 h (n+i) x (by simpa[List.getElem?_drop]using hx)
  rwa [show off+(n+i)=off+n+i by omega]at this
theorem S4{E:Env}{b off n:Nat}{cs:List A}(h:fJ E b off cs):fJ E b off (cs.take n):=
 bc.2 fun i x hx=>bc.1 h i x (by
  rw[List.getElem?_take]at hx;split at hx
  · exact hx
  · simp at hx)
theorem vh{E:Env}{k b off n:Nat}{es:List A}(h:eo E k b off es):eo E k b (off+n*k) (es.drop n):=
 cU.2 fun i x hx=>by
  have:=cU.1 h (n+i) x (by simpa[List.getElem?_drop]using hx)
  rwa [show off+(n+i)*k=off+n*k+i*k by rw[Nat.add_mul];omega]at this
theorem mv{E:Env}{k b off n:Nat}{es:List A}(h:eo E k b off es):eo E k b off (es.take n):=
 cU.2 fun i x hx=>cU.1 h i x (by
  rw[List.getElem?_take]at hx;split at hx
  · exact hx
  · simp at hx)
theorem qt{E:Env}{b:Nat}: ∀{cs:List A} {off:Nat},fJ E b off cs-> ∃vs:List Value,E.w.rangeAt b off vs/\aP E cs vs/\ ∀u∈vs,u.oneCell'=true
 | [],off,_=>⟨[],fun j v h=>by simp at h,by simp[aP],by simp⟩
 |c::cs,off,h=>by
  simp only[fJ]at h;obtain⟨⟨v,hv,h1,hc⟩,hl⟩:=h;obtain⟨vs,hr,hL,cQ⟩:=qt hl;refine⟨v::vs,fun j u hu=> ?_,by simp only[aP];exact⟨v,vs,rfl,hc,hL⟩, ?_⟩
  · cases j with
    |zero=>simp at hu;subst hu;simpa using hv
    |succ j=>
     have:=hr j u (by simpa using hu)
     rwa [show off+1+j=off+(j+1) by omega]at this
  · intro u hu
    rcases List.mem_cons.1 hu with rfl|hu
    · exact h1
    · exact cQ u hu
theorem np{E:Env}{b:Nat}: ∀{cs:List A} {off:Nat} {vs:List Value},E.w.rangeAt b off vs->aP E cs vs->(∀u∈vs,u.oneCell'=true)->fJ E b off cs:=by
 intro cs off vs hr hL h1;obtain⟨hlen,cF⟩:=ba.1 hL;refine bc.2 fun i x hx=> ?_;have hi:i<vs.length:=by rw[<-hlen];exact(List.getElem?_eq_some_iff.1 hx).1
 have hv:vs[i]? =some vs[i]:=List.getElem?_eq_getElem hi;exact⟨vs[i],hr i _ hv,h1 _ (List.getElem_mem hi),cF i x _ hx hv⟩
theorem vi{E:Env}{n:Nat}: ∀{cs:List A} {vs:List Value},aP E cs vs->aP E (cs.take n) (vs.take n):=by
 intro cs vs h;obtain⟨h1,h2⟩:=ba.1 h;refine ba.2 ⟨by simp[h1],fun i x v hx hv=> ?_⟩
 rw[List.getElem?_take]at hx hv;split at hx
 · rename_i hi;rw[if_pos hi]at hv;exact h2 i x v hx hv
 · simp at hx
theorem vj{E:Env}{n:Nat}: ∀{cs:List A} {vs:List Value},aP E cs vs->aP E (cs.drop n) (vs.drop n):=by
 intro cs vs h;obtain⟨h1,h2⟩:=ba.1 h;refine ba.2 ⟨by simp[h1],fun i x v hx hv=> ?_⟩
 rw[List.getElem?_drop]at hx hv;exact h2 _ x v hx hv
theorem iG{E:Env}: ∀{cs ds:List A} {vs us:List Value},aP E cs vs->aP E ds us->aP E (cs++ds) (vs++us)
 | [],ds,vs,us,h,h'=>by simp only[aP]at h;subst h;simpa using h'
 |c::cs,ds,vs,us,h,h'=>by
  simp only[aP]at h;obtain⟨v,kc,rfl,hc,hl⟩:=h;simp only[List.cons_append,aP]
  exact⟨v,kc++us,rfl,hc,iG hl h'⟩
theorem iH{E:Env}{x:A}{v:Value}(h:aF E x v)(hv:x.val=true):aP E x.cells v.cells.toList/\(∀u∈v.cells.toList,u.oneCell'=true)/\v.cells.size=x.cells.length:=by
 cases x
 case any=>simp[A.val]at hv
 case cx=>simp[A.val]at hv
 case agg cs=>
  simp only[aF]at h;obtain⟨vs,rfl,hl,h1⟩:=h;simp only[Value.cells,A.cells]
  exact⟨by simpa using hl,by simpa using h1,by simpa using(ba.1 hl).1.symm⟩
 case ad es=>
  have h0:=h;simp only[aF]at h;obtain⟨_,a,cap,rfl,_⟩:=h;simp only[Value.cells,A.cells,aP]
  exact⟨⟨_,[],rfl,h0,rfl⟩,by simp[Value.oneCell'],rfl⟩
 case clip es=>
  have h0:=h;simp only[aF]at h;obtain⟨_,a,rfl,_⟩:=h;simp only[Value.cells,A.cells,aP]
  exact⟨⟨_,[],rfl,h0,rfl⟩,by simp[Value.oneCell'],rfl⟩
 case dz es=>
  have h0:=h;simp only[aF]at h;obtain⟨_,a,off,rfl,_⟩:=h;simp only[Value.cells,A.cells,aP]
  exact⟨⟨_,[],rfl,h0,rfl⟩,by simp[Value.oneCell'],rfl⟩
 case emp c=>
  have h0:=h;simp only[aF]at h;obtain⟨q,cap,rfl,_⟩:=h;simp only[Value.cells,A.cells,aP]
  exact⟨⟨_,[],rfl,h0,rfl⟩,by simp[Value.oneCell'],rfl⟩
 case ref n off=>
  have h0:=h;simp only[aF]at h;obtain⟨b,k,_,rfl⟩:=h;simp only[Value.cells,A.cells,aP]
  exact⟨⟨_,[],rfl,h0,rfl⟩,by simp[Value.oneCell'],rfl⟩
 case fT n i off=>
  have h0:=h;simp only[aF]at h;obtain⟨b,k,_,rfl⟩:=h;simp only[Value.cells,A.cells,aP]
  exact⟨⟨_,[],rfl,h0,rfl⟩,by simp[Value.oneCell'],rfl⟩
 case row n off k len c=>
  have h0:=h;simp only[aF]at h;rcases h with⟨o,_,_,_,_,a,rfl⟩|⟨b,cap,c,e,fr,_,rfl,_⟩
  all_goals
   simp only[Value.cells,A.cells,aP]
   exact⟨⟨_,[],rfl,h0,rfl⟩,by simp[Value.oneCell'],rfl⟩
 case fn f cs=>
  have h0:=h;simp only[aF]at h;obtain⟨vs,rfl,_⟩:=h;simp only[Value.cells,A.cells,aP]
  exact⟨⟨_,[],rfl,h0,rfl⟩,by simp[Value.oneCell'],rfl⟩
 all_goals
  have h0:=h;simp only[aF]at h;subst h;simp only[Value.cells,A.cells,aP]
  exact⟨⟨_,[],rfl,h0,rfl⟩,by simp[Value.oneCell'],rfl⟩
def mw(c:Array Value)(fr:Nat×Nat):Prop:= ∀j,j<c.size-> ¬(fr.1<=j/\j<fr.2)
def aH(E:Env):Obj->cZ->Prop
 | .box cs,.loc b _=>(∃c e fr,E.w.heap[b]? =some (.cells c e fr)/\mw c fr)/\fJ E b 0 cs
 | .row k es,.loc b k'=>k=k'/\A.pure.aY es=true/\(∃c e fr,E.w.heap[b]? =some (.cells c e fr)/\mw c fr)/\eo E k b 0 es
 | .row _ es,.nil=>es=[]
 | .row k es,.free=>k=0/\es=[]
 | .box _,_=>False
def aA(N0:Nat->Prop)(φ:List cZ)(w:World):Env:=⟨fun b=>N0 b\/ ∃n k:Nat,φ[n]? =some (cZ.loc b k),φ,w⟩
structure jO extends World where
 M:Nat->Prop
 fix:Nat->Bool
 S5:List cZ
structure Kept(w0:jO)(w:World):Prop where
 os:w.os=w0.os
 tape:w.tape=w0.tape
 output:w.output=w0.output
 drawn:w0.drawn<=w.drawn
 size:w0.heap.size<=w.heap.size
 block: ∀b,b<w0.heap.size-> ¬w0.M b->w.heap[b]? =w0.heap[b]?
 shape: ∀(b:Nat) (c:Array Value) (e:TypeId) (fr:Nat×Nat),w0.heap[b]? =some (.cells c e fr)-> ∃c' N_,w.heap[b]? =some (.cells c' e N_)/\c'.size=c.size
structure aJ(N0:Nat->Prop)(w0:jO)(nt:Nat)(σ:St)(φ:List cZ)(a:Act)(w:World):Prop where
 cI: ∀d,aF (aA N0 φ w) (look σ.s d) (a.tmps.getD d undef)
 size:a.tmps.size=nt
 defers:a.defers=[]
 len:φ.length=σ.H.length
 cN: ∀(n:Nat) (o:Obj) (p:cZ),bX σ.H n=some o->φ[n]? =some p->aH (aA N0 φ w) o p
 own: ∀n b k:Nat,φ[n]? =some (cZ.loc b k)->(w0.heap.size<=b\/w0.M b)/\b<w.heap.size
 inj: ∀n m b k k':Nat,φ[n]? =some (cZ.loc b k)->φ[m]? =some (cZ.loc b k')->n=m
 n0: ∀b,N0 b->b<w0.heap.size/\ ¬w0.M b
 kf: ∀(n:Nat) (p:cZ),w0.fix n=true->w0.S5[n]? =some p->p≠ .free->φ[n]? =some p
 below:Kept w0 w
theorem bu: ∀(H:List Obj) (n:Nat),bX H n=H[n]?
 | [],n=>by simp[bX]
 |x::xs,0=>by simp[bX]
 |x::xs,n+1=>by simp[bX,bu xs n]
theorem dI: ∀(H:List Obj) (n:Nat) (o:Obj),jY H n o=H.set n o
 | [],n,o=>by simp[jY]
 |x::xs,0,o=>by simp[jY]
 |x::xs,n+1,o=>by simp[jY,dI xs n o]
theorem fE: ∀(H:List A) (n:Nat) (o:A),cn H n o=H.set n o
 | [],n,o=>by simp[cn]
 |x::xs,0,o=>by simp[cn]
 |x::xs,n+1,o=>by simp[cn,fE xs n o]
section
variable{N0:Nat->Prop}{w0:jO}{nt:Nat}{σ:St}{φ:List cZ}{a:Act}{w:World}
theorem aH.mono{K:Nat->Prop}{E E':Env}(h:Ext K E E'){o:Obj}{p:cZ}(hr:aH E o p)(hp: ∀b k,p=cZ.loc b k-> ∀c e fr,E.w.heap[b]? =some (.cells c e fr)->E'.w.heap[b]? =some (.cells c e fr))
 (hk: ∀cs,o= .box cs-> ∀n,A.mem.fI n cs=true->K n):aH E' o p:=by
 cases o with
 |box cs=>
  cases p with
  |loc b k=>
   simp only[aH]at hr⊢;obtain⟨⟨c,e,fr,hc,hf⟩,hm⟩:=hr;have u4:=hp b k rfl c e fr hc;refine⟨⟨c,e,fr,u4,hf⟩,bc.2 fun i x hx=> ?_⟩
   obtain⟨v,hv,h1,cF⟩:=bc.1 hm i x hx;refine⟨v,by simpa only[World.cell?,hc,u4]using hv,h1,aF.mono h x v cF fun n hn=>hk cs rfl n ?_⟩
   have gW:=List.mem_of_getElem? hx;clear hx hm hk;induction cs with
   |nil=>simp at gW
   |cons y ys ih=>
    rcases List.mem_cons.1 gW with rfl|jh
    · simp[A.mem.fI,hn]
    · simp[A.mem.fI,ih jh]
  |_=>simp[aH]at hr
 |row k es=>
  cases p with
  |loc b k'=>
   simp only[aH]at hr⊢;obtain⟨S6,rC,⟨c,e,fr,hc,hf⟩,hm⟩:=hr;have u4:=hp b k' rfl c e fr hc;refine⟨S6,rC,⟨c,e,fr,u4,hf⟩,cU.2 fun i x hx=> ?_⟩
   obtain⟨hl,hmm⟩:=cU.1 hm i x hx;refine⟨hl,bc.2 fun j y hy=> ?_⟩
   obtain⟨v,hv,h1,cF⟩:=bc.1 hmm j y hy;refine⟨v,by simpa only[World.cell?,hc,u4]using hv,h1,aF.mono h y v cF fun n hn=> ?_⟩
   exfalso
   have hpx:x.pure=true:=by
    have gW:=List.mem_of_getElem? hx;clear hx hm hk;induction es with
    |nil=>simp at gW
    |cons z zs ih=>
     simp only[A.pure.aY,Bool.and_eq_true]at rC;rcases List.mem_cons.1 gW with rfl|jh
     · exact rC.1
     · exact ih rC.2 jh
   have hpy:y.pure=true:=by
    have gW:=List.mem_of_getElem? hy;cases x
    case agg cs=>
     simp only[A.pure]at hpx;simp only[A.cells]at gW;clear hy hmm hl hx;induction cs with
     |nil=>simp at gW
     |cons z zs ih=>
      simp only[A.pure.aY,Bool.and_eq_true]at hpx;rcases List.mem_cons.1 gW with rfl|jh
      · exact hpx.1
      · exact ih hpx.2 jh
    all_goals
     simp only[A.cells,List.mem_singleton]at gW;subst gW;exact hpx
   rw[A.lP n y hpy]at hn;cases hn
  |nil=>simpa only[aH]using hr
  |free=>simpa only[aH]using hr
structure ew(w w':World):Prop where
 size:w.heap.size<=w'.heap.size
 block: ∀b,b<w.heap.size->w'.heap[b]? =w.heap[b]?
 os:w'.os=w.os
 tape:w'.tape=w.tape
 output:w'.output=w.output
 drawn:w.drawn<=w'.drawn
theorem ew.refl(w:World):ew w w:=⟨Nat.le_refl _,fun _ _=>rfl,rfl,rfl,rfl,Nat.le_refl _⟩
theorem ew.trans{w w' w'':World}(h:ew w w')(h':ew w' w''):ew w w'':=
 ⟨Nat.le_trans h.size h'.size,fun b hb=>(h'.block b (Nat.lt_of_lt_of_le hb h.size)).trans (h.block b hb),h'.os.trans h.os,h'.tape.trans h.tape,h'.output.trans h.output,Nat.le_trans h.drawn h'.drawn⟩
theorem ew.alloc(w:World)(o:Go.Obj):ew w (w.alloc o):=⟨by simp,fun b hb=>Below.heap_alloc w o b hb,rfl,rfl,rfl,Nat.le_refl _⟩
theorem ew.drew(w:World):ew w w.drew:=⟨Nat.le_refl _,fun _ _=>rfl,rfl,rfl,rfl,Nat.le_succ _⟩
theorem ew.toBelow{w w':World}(g:ew w w'):Below w.heap.size w w':=⟨g.os,g.tape,g.output,g.size,g.block⟩
theorem Kept.refl(w0:jO):Kept w0 w0.toWorld:=⟨rfl,rfl,rfl,Nat.le_refl _,Nat.le_refl _,fun _ _ _=>rfl,fun _ c _ fr h=>⟨c,fr,h,rfl⟩⟩
theorem ew.below{w0:jO}{w w':World}(h:Kept w0 w)(g:ew w w'):Kept w0 w' where
 os:=g.os.trans h.os
 tape:=g.tape.trans h.tape
 output:=g.output.trans h.output
 drawn:=Nat.le_trans h.drawn g.drawn
 size:=Nat.le_trans h.size g.size
 block:=fun b hb hM=>(g.block b (Nat.lt_of_lt_of_le hb h.size)).trans (h.block b hb hM)
 shape:=fun b c e fr hc=>by obtain⟨c',N_,h1,h2⟩:=h.shape b c e fr hc;have hb:b<w.heap.size:=(Array.getElem?_eq_some_iff.1 h1).1;exact⟨c',N_,by rw[g.block b hb];exact h1,h2⟩
theorem aJ.Ac(h:aJ N0 w0 nt σ φ a w){w':World}(g:ew w w'):Ext (fun _=>True) (aA N0 φ w) (aA N0 φ w') where
 size:=g.size
 Kv:=fun b hb hn=>⟨hn,g.block b hb⟩
 refs:=fun n o _ ho _=>ho
 own:=fun n b k c e fr _ ho hc=>⟨c,fr,by have:=(h.own n b k ho).2;show w'.heap[b]? =_;rw[g.block b this];exact hc,rfl⟩
theorem aJ.S7(h:aJ N0 w0 nt σ φ a w){w':World}(g:ew w w'):aJ N0 w0 nt σ φ a w' where
 cI:=fun d=>aF.mono (h.Ac g) _ _ (h.cI d) (fun _ _=>trivial)
 size:=h.size
 defers:=h.defers
 len:=h.len
 cN:=fun n o p ho hp=>aH.mono (h.Ac g) (h.cN n o p ho hp) (fun b k hb c e fr hc=>by subst hb;show w'.heap[b]? =_;rw[g.block b (h.own n b k hp).2];exact hc) (fun _ _ _ _=>trivial)
 own:=fun n b k hb=>⟨(h.own n b k hb).1,Nat.lt_of_lt_of_le (h.own n b k hb).2 g.size⟩
 inj:=h.inj
 n0:=h.n0
 kf:=h.kf
 below:=g.below h.below
theorem aJ.VJ(h:aJ N0 w0 nt σ φ a w){w':World}(g:ew w w'){x:A}{v:Value}(hr:aF (aA N0 φ w) x v):aF (aA N0 φ w') x v:=
 aF.mono (h.Ac g) x v hr (fun _ _=>trivial)
theorem VK{a:Act}{d:Nat}{v:Value}(hd:d<a.tmps.size)(t:Nat):(a.put (some d) v).tmps.getD t undef=if d=t then v else a.tmps.getD t undef:=by
 simp only[Act.put]
 by_cases ht:d=t
 · subst ht;simp[Array.getD,hd]
 · rw[if_neg ht]
   simp only[Array.getD_eq_getD_getElem?,Array.getElem?_setIfInBounds]
   rw[if_neg ht]
theorem aJ.put(h:aJ N0 w0 nt σ φ a w){d:Option Tmp}(hd: ∀t,d=some t->t<nt){x:A}{v:Value}(hr:aF (aA N0 φ w) x v):
 aJ N0 w0 nt (σ.put d x) φ (a.put d v) w:=by
 cases d with
 |none=>exact h
 |some d=>
  have hd':d<a.tmps.size:=by rw[h.size];exact hd d rfl
  exact{h with
   cI:=fun t=>by
    rw[VK hd' t]
    show aF _ (look ((d,x)::σ.s) t) _;simp only[look]
    split
    · exact hr
    · exact h.cI t
   size:=by simp only[Act.put,Array.size_setIfInBounds];exact h.size
   defers:=h.defers}
theorem vk(E:Env):aF E (.cx []) undef:=by simp[aF,aP,undef]
theorem KF(E:Env)(v:Value):aF E (toA1 v) v:=by
 unfold toA1
 split<;>first
  |(simp only[aF];done)
  |(simp[aF,aP];done)
  |(simp only[aF];exact⟨[],rfl,by simp[aP]⟩)
theorem Hl(E:Env)(v:Value):aF E (toA v) v:=by
 unfold toA;split
 · rename_i cs
   split
   · rename_i gZ
     simp only[aF]
     refine⟨cs,rfl,ba.2 ⟨by simp,fun i x u hx hu=> ?_⟩,fun u hu=>List.all_eq_true.1 gZ u hu⟩
     rw[List.getElem?_map,hu]at hx;simp at hx;subst hx;exact KF E u
   · simp only[aF]
 · exact KF E v
theorem aJ.ev(h:aJ N0 w0 nt σ φ a w)(x:Operand):aF (aA N0 φ w) (σ.ev x) (a.eval x):=by
 match x with
 | .tmp t=>exact h.cI t
 | .const v=>exact Hl _ v
 | .func f=>simp only[St.ev,Act.eval,aF];exact⟨[],rfl,by simp[aP]⟩
 | .global g=>simp only[St.ev,aF]
end
end Go.bJ
namespace Go.bJ
open Go.RowKit
section
variable{P:Program}{w:World}
theorem Ad{t:TypeId}(h:bE P t=some true): ∃d,P.underlying t=some d/\d.isRow=true:=by
 unfold bE at h
 split at h<;>first
  |(rename_i hu;exact⟨_,hu,rfl⟩)
  |simp at h
theorem KG{t:TypeId}(h:bE P t=some false): ∃d,P.underlying t=some d/\d.isRow=false:=by
 unfold bE at h;split at h
 · simp at h
 · simp at h
 · rename_i d h1 h2 hu
   refine⟨d,hu, ?_⟩
   cases d<;>first|rfl|(exact(h1 _ rfl).elim)|(exact(h2 _ _ rfl).elim)
 · simp at h
theorem kV{t:TypeId}(h:bE P t=some true):(isAgg t).run P w= .ok true w:=by
 obtain⟨d,hu,hd⟩:=Ad h;unfold isAgg;rw[Sem.run_bind,run_underlying hu w]
 cases d<;>simp_all
theorem ie{t:TypeId}(h:bE P t=some false):(isAgg t).run P w= .ok false w:=by
 obtain⟨d,hu,hd⟩:=KG h;unfold isAgg;rw[Sem.run_bind,run_underlying hu w]
 cases d<;>simp_all
theorem run_sizeOf{t n:Nat}(h:aX P t=some n):(sizeOf t).run P w= .ok n w:=by
 unfold aX at h;cases hq:P.info? t with
 |none=>simp[hq]at h
 |some i=>simp[hq]at h;simp[sizeOf,typeInfo,hq,h]
theorem du{t e:Nat}(h:aR P t=some e):P.underlying t=some (.slice e):=by
 unfold aR at h;split at h
 · rename_i hu;simp at h;subst h;exact hu
 · simp at h
theorem th{t n e:Nat}(h:eD P t=some (n,e)):P.underlying t=some (.array n e):=by
 unfold eD at h;split at h
 · rename_i hu;simp at h;obtain⟨rfl,rfl⟩:=h;exact hu
 · simp at h
theorem iV{t:Nat}(h:fm P t=true):P.underlying t=some .string:=by
 unfold fm at h;split at h
 · assumption
 · simp at h
theorem Ae{t:Nat}{k:IntKind}(h:oh P t=some k):P.underlying t=some (.int k):=by
 unfold oh at h;split at h
 · rename_i hu;simp at h;subst h;exact hu
 · simp at h
theorem KH{t:Nat}(h:jn P t=true): ∃e,P.underlying t=some (.pointer e):=by
 unfold jn at h;split at h
 · rename_i e hu;exact⟨e,hu⟩
 · simp at h
theorem nq{s f o t:Nat}(h:fieldInfo P s f=some (o,t)):
 ∃fs x n,P.underlying s=some (.struct fs)/\fs[f]? =some x/\x.offset=o/\x.type=t/\aX P t=some n/\n≠0:=by
 unfold fieldInfo at h;split at h
 · rename_i fs hu
   cases hx:fs[f]? with
   |none=>simp[hx]at h
   |some x=>
    simp only[hx,Option.bind_some]at h;split at h
    · simp at h
    · rename_i h0
      split at h
      · simp at h
      · rename_i h1
        simp at h;obtain⟨rfl,rfl⟩:=h;cases hs:aX P x.type with
        |none=>simp[hs]at h1
        |some n=>exact⟨fs,x,n,hu,hx,rfl,rfl,rfl,fun hn=>h0 (by rw[hs,hn])⟩
 · simp at h
theorem w7{s:Sem Value}{v:Value}{w':World}(h:s.run P w= .ok v w'):(do pure (Next.value (<-s)):Sem Next).run P w= .ok (.value v) w':=by simp[h]
theorem run_u{s:Sem Unit}{w':World}(h:s.run P w= .ok () w'):(do s;pure Next.skip:Sem Next).run P w= .ok .skip w':=by simp[h]
end
def Good(P:Program)(o:Oper)(a:Act)(w:World)(N0:Nat->Prop)(φ:List cZ)(x:A):Prop:=
 ∃v w',(Go.execOp a.eval o).run P w= .ok (.value v) w'/\ew w w'/\aF (aA N0 φ w') x v
section
variable{P:Program}{N0:Nat->Prop}{w0:jO}{nt:Nat}{σ:St}{φ:List cZ}{a:Act}{w:World}
theorem bD{o:Oper}{s:Sem Value}{x:A}{v:Value}(ho:Go.execOp a.eval o=(do pure (Next.value (<-s))))(hr:s.run P w= .ok v w)(h:aF (aA N0 φ w) x v):Good P o a w N0 φ x:=
 ⟨v,w,by rw[ho];exact w7 hr,ew.refl w,h⟩
theorem oW{b:Builtin}{xs:List Operand}{us:Array TypeId}{d:Option Tmp}{t:TypeId}{p:String}{af:Array Edge}{g:Option (Nat×Bool)}:
 ∃cs,(Go.execOp a.eval ⟨d,.call ⟨.builtin b,⟨xs⟩,us⟩,t,p,af,g⟩).run P w=(builtin b us t cs (xs.map a.eval).toArray).run P w:=by
 refine⟨xs.toArray.map fun| .const _=>true|_=>false, ?_⟩
 simp only[Go.execOp,resolve,invoke,Sem.run_bind,Sem.run_pure,Result.andThen_ok]
 rw[<-List.map_toArray]
 rfl
theorem eF{b:Builtin}{xs:List Operand}{us:Array TypeId}{d:Option Tmp}{t:TypeId}{p:String}{af:Array Edge}{g:Option (Nat×Bool)}{s:Sem Value}{x:A}{v:Value}
 (ho: ∀cs,builtin b us t cs (xs.map a.eval).toArray=(do pure (Next.value (<-s)))) (hr:s.run P w= .ok v w) (h:aF (aA N0 φ w) x v):Good P ⟨d,.call ⟨.builtin b,⟨xs⟩,us⟩,t,p,af,g⟩ a w N0 φ x:=by
 obtain⟨cs,zw⟩:=oW (P:=P) (a:=a) (w:=w) (b:=b) (xs:=xs) (us:=us) (d:=d) (t:=t) (p:=p) (af:=af) (g:=g)
 exact⟨v,w,by rw[zw,ho];exact w7 hr,ew.refl w,h⟩
theorem nr(s:List UInt8):(⟨s.toArray⟩:ByteArray).size=s.length:=rfl
theorem ig{E:Env}{k:IntKind}{n:Int}{v:Value}(h:aF E (.int k n) v):v= .int k n:=by simpa only[aF]using h
theorem ti{E:Env}{b:Bool}{v:Value}(h:aF E (.bool b) v):v= .bool b:=by simpa only[aF]using h
theorem qu{E:Env}{s:List UInt8}{v:Value}(h:aF E (.str s) v):v= .string ⟨s.toArray⟩:=by simpa only[aF]using h
theorem S8(h:aJ N0 w0 nt σ φ a w){d:Option Tmp}{x:Operand}{t:TypeId}{p:String}{af:Array Edge}{g:Option (Nat×Bool)}:Good P ⟨d,.move x,t,p,af,g⟩ a w N0 φ (σ.ev x):=
 ⟨a.eval x,w,rfl,ew.refl w,h.ev x⟩
theorem KI(h:aJ N0 w0 nt σ φ a w){d:Option Tmp}{x:Operand}{t:TypeId}{p:String}{af:Array Edge}{g:Option (Nat×Bool)}:Good P ⟨d,.assign x,t,p,af,g⟩ a w N0 φ (σ.ev x):=
 ⟨a.eval x,w,rfl,ew.refl w,h.ev x⟩
theorem S9(h:aJ N0 w0 nt σ φ a w){d:Option Tmp}{x y z:Operand}{t:TypeId}{p:String}{af:Array Edge}{g:Option (Nat×Bool)}{r:A}
 (hr:Ky (σ.ev x) (σ.ev y) (σ.ev z)=some r):Good P ⟨d,.pick x y z,t,p,af,g⟩ a w N0 φ r:=by
 cases hc:σ.ev x<;>simp only[hc,Ky]at hr<;>try(simp at hr;done)
 rename_i b;have hx:=h.ev x;rw[hc]at hx;have S_:=ti hx;refine⟨if b then a.eval y else a.eval z,w, ?_,ew.refl w, ?_⟩
 · simp[Go.execOp,S_,asBool]
 · simp at hr
   subst hr;cases b
   · simpa using h.ev z
   · simpa using h.ev y
theorem Af(h:aJ N0 w0 nt σ φ a w){d:Option Tmp}{x:Operand}{s f:Nat}{t:TypeId}{p:String}{af:Array Edge}{g:Option (Nat×Bool)}{r:A}
 (hr:jv (fieldInfo P s f) (σ.ev x)=some r):Good P ⟨d,.fieldAddr s x f,t,p,af,g⟩ a w N0 φ r:=by
 cases hf:fieldInfo P s f with
 |none=>simp[hf,jv]at hr
 |some q=>
  obtain⟨o,ft⟩:=q;rw[hf]at hr;simp only[jv]at hr;obtain⟨fs,fx,n,hu,s8,rfl,rfl,hn,Zn⟩:=nq hf;have key: ∀b off:Nat,a.eval x= .pointer (some ⟨b,off,none⟩)->(Instr.fieldAt s (a.eval x) f).run P w= .ok (.pointer (some ⟨b,off+fx.offset,none⟩)) w:=by intro b off hx;have hz:(sizeOf fx.type).run P w= .ok n w:=run_sizeOf hn;simp[Instr.fieldAt,run_underlying hu,s8,hx,Instr.sureAddr,fieldPlace,hz,Zn,Addr.add_mid]
  have hx:=h.ev x;cases hc:σ.ev x<;>simp only[hc,ju]at hr<;>try(simp at hr;done)
  · rename_i cs
    simp at hr;subst hr;rw[hc]at hx;simp only[aF]at hx;obtain⟨hp,b,off,hv,hb,Zo,hm⟩:=hx;refine bD rfl (key b off hv) ?_;simp only[aF]
    refine⟨?_,b,off+fx.offset,rfl,hb,Zo,iF hm⟩
    clear hm hc hv;generalize fx.offset=m;induction cs generalizing m with
    |nil=>simp[A.pure.aY]
    |cons y ys ih=>
     simp only[A.pure.aY,Bool.and_eq_true]at hp;cases m with
     |zero=>simp[A.pure.aY,hp]
     |succ m=>simpa using ih hp.2 m
  · rename_i n' off
    simp at hr;subst hr;rw[hc]at hx;simp only[aF]at hx;obtain⟨b,k,hb,hv⟩:=hx;refine bD rfl (key b off hv) ?_;simp only[aF]
    exact⟨b,k,hb,rfl⟩
  · rename_i n' i off
    simp at hr;subst hr;rw[hc]at hx;simp only[aF]at hx;obtain⟨b,k,hb,hv⟩:=hx;refine bD rfl (key b (i*k+off) hv) ?_;simp only[aF]
    exact⟨b,k,hb,by rw[Nat.add_assoc]⟩
theorem oZ{E:Env}{t:TypeId}{cs:List A}{x:A}{b off:Nat}(hm:fJ E b off cs)(hl:jo P t cs=some x): ∃v,(loadVar t ⟨b,off,none⟩).run P E.w= .ok v E.w/\aF E x v/\(x.val=true\/v.oneCell'=true):=by
 unfold jo at hl;split at hl
 · rename_i mn
   split at hl
   · rename_i n hn
     split at hl
     · rename_i hle
       simp at hl;subst hl;obtain⟨vs,hr,hL,h1⟩:=qt (S4 (n:=n) hm)
       obtain⟨d,hu,hd⟩:=Ad mn;have hlen:vs.length=n:=by rw[<-(ba.1 hL).1];simp;omega
       refine⟨.agg vs.toArray,run_loadVar_mid E.w b off t vs d hr hu hd (by unfold aX at hn;rw[hn,hlen]), ?_,.inl rfl⟩
       simp only[aF]
       exact⟨vs,rfl,hL,h1⟩
     · simp at hl
   · simp at hl
 · rename_i mn
   cases cs with
   |nil=>simp at hl
   |cons c cs=>
    simp at hl;subst hl;simp only[fJ]at hm;obtain⟨⟨v,hv,h1,cF⟩,_⟩:=hm;exact⟨v,by simp[loadVar,ie mn,hv],cF,.inr h1⟩
 · simp at hl
theorem aI{es:List A}(h:A.pure.aY es=true){i:Nat}{e:A}(hi:es[i]? =some e):e.pure=true:=by
 induction es generalizing i with
 |nil=>simp at hi
 |cons z zs ih=>
  simp only[A.pure.aY,Bool.and_eq_true]at h;cases i with
  |zero=>simp at hi;subst hi;exact h.1
  |succ i=>exact ih h.2 (by simpa using hi)
theorem cV{es:List A}(h: ∀(i:Nat) (e:A),es[i]? =some e->e.pure=true):A.pure.aY es=true:=by
 induction es with
 |nil=>rfl
 |cons z zs ih=>
  simp only[A.pure.aY,Bool.and_eq_true]
  exact⟨h 0 z rfl,ih fun i e he=>h (i+1) e (by simpa using he)⟩
theorem kZ{es:List A}{n:Nat}(h:A.pure.aY es=true):A.pure.aY (es.drop n)=true:=
 cV fun i e he=>aI h (i:=n+i) (by simpa[List.getElem?_drop]using he)
theorem k9{es:List A}{n:Nat}(h:A.pure.aY es=true):A.pure.aY (es.take n)=true:=
 cV fun i e he=>aI h (i:=i) (by
  rw[List.getElem?_take]at he;split at he
  · exact he
  · simp at he)
theorem k_{e:A}(h:e.pure=true):A.pure.aY e.cells=true:=by cases e<;>simp_all[A.pure,A.cells,A.pure.aY]
theorem Ta(h:aJ N0 w0 nt σ φ a w){d:Option Tmp}{x:Operand}{s:Nat}{t:TypeId}{p:String}{af:Array Edge}{g:Option (Nat×Bool)}{r:A}
 (hr:rp P s σ.H (σ.ev x)=some r):Good P ⟨d,.load s x,t,p,af,g⟩ a w N0 φ r:=by
 have hx:=h.ev x;cases hc:σ.ev x<;>simp only[hc,rp]at hr<;>try(simp at hr;done)
 · rw[hc]at hx
   simp only[aF]at hx;obtain⟨hp,b,off,hv,hb,Zo,hm⟩:=hx;obtain⟨v,vl,cF,_⟩:=oZ hm hr;replace vl:(loadVar s ⟨b,off,none⟩).run P w= .ok v w:=vl;exact bD rfl (by rw[hv];simpa[Instr.loadAt,Instr.sureAddr]using vl) cF
 · rename_i n off
   rw[hc]at hx;simp only[aF]at hx;obtain⟨b,k,hb,hv⟩:=hx;split at hr
   · rename_i cs zw
     have ho:=h.cN n _ _ zw hb;simp only[aH]at ho;have hm:=iF (n:=off) ho.2;obtain⟨v,vl,cF,_⟩:=oZ hm hr;replace vl:(loadVar s ⟨b,0+off,none⟩).run P w= .ok v w:=vl;rw[Nat.zero_add]at vl;exact bD rfl (by rw[hv];simpa[Instr.loadAt,Instr.sureAddr]using vl) cF
   · simp at hr
 · rename_i n i off
   rw[hc]at hx;simp only[aF]at hx;obtain⟨b,k,hb,hv⟩:=hx;split at hr
   · rename_i k' es zw
     have ho:=h.cN n _ _ zw hb;simp only[aH]at ho;obtain⟨rfl,hpu,hblk,he⟩:=ho;cases hi:es[i]? with
     |none=>simp[hi]at hr
     |some e=>
      simp only[hi,Option.bind_some]at hr;obtain⟨hl,hm⟩:=cU.1 he i e hi;have jh:=iF (n:=off) hm;obtain⟨v,vl,cF,_⟩:=oZ jh hr;replace vl:(loadVar s ⟨b,0+i*k'+off,none⟩).run P w= .ok v w:=vl;rw[Nat.zero_add]at vl;exact bD rfl (by rw[hv];simpa[Instr.loadAt,Instr.sureAddr]using vl) cF
   · simp at hr
theorem DK(h:aJ N0 w0 nt σ φ a w){d:Option Tmp}{x:Operand}{t:TypeId}{p:String}{af:Array Edge}{g:Option (Nat×Bool)}{r:A}
 (hr:vb (σ.ev x)=some r):Good P ⟨d,.nilCheck x,t,p,af,g⟩ a w N0 φ r:=by
 have hx:=h.ev x;cases hc:σ.ev x<;>simp only[hc,vb]at hr<;>try(simp at hr;done)
 all_goals
  simp at hr;subst hr;rw[hc]at hx;refine⟨a.eval x,w, ?_,ew.refl w,hx⟩
  simp only[aF]at hx
 · obtain⟨hp,b,off,hv,hb,Zo,hm⟩:=hx
   simp[Go.execOp,hv]
 · obtain⟨b,k,hb,hv⟩:=hx
   simp[Go.execOp,hv]
 · obtain⟨b,k,hb,hv⟩:=hx
   simp[Go.execOp,hv]
 · obtain⟨vs,hv,_⟩:=hx
   simp[Go.execOp,hv]
theorem DL(h:aJ N0 w0 nt σ φ a w){d:Option Tmp}{f:Fn}{xs ys:Array Operand}{t:TypeId}{p:String}{af:Array Edge}{g:Option (Nat×Bool)}{r:A}
 (hr:mq f (σ.lJ xs.toList) (σ.lJ ys.toList)=some r):Good P ⟨d,.makeFunc f xs ys,t,p,af,g⟩ a w N0 φ r:=by
 cases f<;>simp only[mq]at hr<;>try(simp at hr;done)
 rename_i f;cases QZ:σ.lJ xs.toList with
 |cons _ _=>simp[QZ]at hr
 |nil=>
  simp only[QZ]at hr;simp at hr;subst hr
  have hx0:xs= #[]:=by
   cases hl:xs.toList with
   |nil=>exact Array.toList_eq_nil_iff.1 hl
   |cons _ _=>simp[hl,St.lJ]at QZ
  subst hx0;refine⟨.func (.func f) #[] (ys.map a.eval),w, ?_,ew.refl w, ?_⟩
  · simp[Go.execOp,Instr.makeFunc]
  · simp only[aF]
    refine⟨(ys.map a.eval).toList,rfl, ?_⟩
    simp only[Array.toList_map]
    generalize ys.toList=l;induction l with
    |nil=>simp[St.lJ,aP]
    |cons y l ih=>simp only[St.lJ,List.map_cons,aP];exact⟨_,_,rfl,h.ev y,ih⟩
theorem Hm(h:aJ N0 w0 nt σ φ a w){d:Option Tmp}{x:Operand}{i:Nat}{t:TypeId}{p:String}{af:Array Edge}{g:Option (Nat×Bool)}{r:A}
 (hr:oT (σ.ev x) i=some r):Good P ⟨d,.extract x i,t,p,af,g⟩ a w N0 φ r:=by
 have hx:=h.ev x;cases hc:σ.ev x<;>simp only[hc,oT]at hr<;>try(simp at hr;done)
 rename_i cs;rw[hc]at hx;simp only[aF]at hx;obtain⟨vs,hv,hl⟩:=hx;obtain⟨h1,h2⟩:=ba.1 hl;have hi:i<vs.length:=by rw[<-h1];exact(List.getElem?_eq_some_iff.1 hr).1
 refine bD rfl (v:=vs[i]) (by rw[hv];simp[Instr.extract,hi]) (h2 i _ _ hr (List.getElem?_eq_getElem hi))
theorem VL(h:aJ N0 w0 nt σ φ a w){d:Option Tmp}{x:Operand}{u:TypeId}{t:TypeId}{p:String}{af:Array Edge}{g:Option (Nat×Bool)}{r:A}
 (hr:Ob P u (σ.ev x)=some r):Good P ⟨d,.call ⟨.builtin .len,⟨[x]⟩,⟨[u]⟩⟩,t,p,af,g⟩ a w N0 φ r:=by
 have hx:=h.ev x;have ho: ∀cs,builtin .len #[u] t cs ([x].map a.eval).toArray=(do pure (Next.value (<-Builtin.len_ #[u] t #[a.eval x]))):=fun cs=>rfl
 have arr: ∀n e,eD P u=some (n,e)->r= .int .i64 n->Good P ⟨d,.call ⟨.builtin .len,⟨[x]⟩,⟨[u]⟩⟩,t,p,af,g⟩ a w N0 φ r:=by
  rintro n e hn rfl;refine eF ho (v:= .int .i64 n) ?_ (by simp only[aF])
  simp[Builtin.len_,run_underlying (th hn),goInt]
 cases hc:σ.ev x<;>simp only[hc,Ob]at hr
 case str s=>
  split at hr
  · rename_i hs
    simp at hr;subst hr;rw[hc]at hx;refine eF ho (v:= .int .i64 s.length) ?_ (by simp only[aF])
    rw[qu hx]
    simp[Builtin.len_,run_underlying (iV hs),goInt,nr]
  · simp at hr
 case ad es=>
  split at hr
  · rename_i hs
    simp at hr;subst hr;rw[hc]at hx;simp only[aF]at hx;obtain⟨_,b,cap,hv,_⟩:=hx;obtain⟨e,he⟩:=Option.isSome_iff_exists.1 hs;refine eF ho (v:= .int .i64 es.length) ?_ (by simp only[aF])
    rw[hv]
    simp[Builtin.len_,run_underlying (du he),goInt]
  · simp at hr
 case clip es=>
  split at hr
  · rename_i hs
    simp at hr;subst hr;rw[hc]at hx;simp only[aF]at hx;obtain⟨_,b,hv,_⟩:=hx;obtain⟨e,he⟩:=Option.isSome_iff_exists.1 hs;refine eF ho (v:= .int .i64 es.length) ?_ (by simp only[aF])
    rw[hv]
    simp[Builtin.len_,run_underlying (du he),goInt]
  · simp at hr
 case bK=>
  split at hr
  · rename_i hs
    simp at hr;subst hr;rw[hc]at hx;simp only[aF]at hx;obtain⟨e,he⟩:=Option.isSome_iff_exists.1 hs;refine eF ho (v:= .int .i64 0) ?_ (by simp only[aF])
    rw[hx]
    simp[Builtin.len_,run_underlying (du he),goInt]
  · simp at hr
 case row n off k len c=>
  split at hr
  · rename_i hs
    simp at hr;subst hr;rw[hc]at hx;simp only[aF]at hx;obtain⟨e,he⟩:=Option.isSome_iff_exists.1 hs;refine eF ho (v:= .int .i64 len) ?_ (by simp only[aF])
    rcases hx with⟨_,_,_,rfl,_,b,hv⟩|⟨b,cap,c,e',fr,_,hv,_⟩
    all_goals
     rw[hv]
     simp[Builtin.len_,run_underlying (du he),goInt]
  · simp at hr
 all_goals
  split at hr
  · rename_i n e hn
    simp at hr;exact arr n e hn hr.symm
  · simp at hr
theorem VM(h:aJ N0 w0 nt σ φ a w){xs:List Operand}{k k':IntKind}{m n:Int}(he:σ.lJ xs=[.int k m,.int k' n]):xs.map a.eval=[.int k m,.int k' n]:=by
 match xs,he with
 | [x,y],he=>
  simp only[St.lJ,List.cons.injEq,and_true]at he;have h1:=h.ev x;have h2:=h.ev y;rw[he.1]at h1;rw[he.2]at h2;simp[ig h1,ig h2]
 | [],he=>simp[St.lJ]at he
 | [_],he=>simp[St.lJ]at he
 |_::_::_::_,he=>simp[St.lJ]at he
theorem VN(h:aJ N0 w0 nt σ φ a w){d:Option Tmp}{xs:List Operand}{us:Array TypeId}{t:TypeId}{p:String}{af:Array Edge}{g:Option (Nat×Bool)}{r:A}
 (hr:VA (σ.lJ xs)=some r):Good P ⟨d,.call ⟨.builtin .min,⟨xs⟩,us⟩,t,p,af,g⟩ a w N0 φ r:=by
 unfold VA at hr;split at hr
 · rename_i k m k' n he
   simp at hr;subst hr;have hm:=VM h he;refine eF (s:=Builtin.min_ us t (xs.map a.eval).toArray) (fun _=>rfl) (v:= .int k (if n<m then n else m)) ?_ (by simp only[aF])
   simp[Builtin.min_,hm,Builtin.min2]
 · simp at hr
theorem VO(h:aJ N0 w0 nt σ φ a w){d:Option Tmp}{xs:List Operand}{us:Array TypeId}{t:TypeId}{p:String}{af:Array Edge}{g:Option (Nat×Bool)}{r:A}
 (hr:VB (σ.lJ xs)=some r):Good P ⟨d,.call ⟨.builtin .max,⟨xs⟩,us⟩,t,p,af,g⟩ a w N0 φ r:=by
 unfold VB at hr;split at hr
 · rename_i k m k' n he
   simp at hr;subst hr;have hm:=VM h he;refine eF (s:=Builtin.max_ us t (xs.map a.eval).toArray) (fun _=>rfl) (v:= .int k (if n>m then n else m)) ?_ (by simp only[aF])
   simp[Builtin.max_,hm,Builtin.max2]
 · simp at hr
end
end Go.bJ
